/-
  Reckoning with unknowns: an answer's conditions, told one behind the other. No conditions.
-/
import Derived.Test.YtlkjnlfddadlmaaGreatDoorM5
import Derived.IntWalk
set_option linter.unusedVariables false
set_option linter.unusedSimpArgs false
namespace Go.Proofs.YtlkjnlfddadlmaaGreatDoor.V
def fT (y : TU) (K : TU → Prop) : Prop :=
 match y with
 | .int k n => K (.int k n)
 | .bool b => K (.bool b)
 | .str s => K (.str s)
 | .sl a g sz n cs => K (.sl a g sz n cs)
 | .dead a => K (.dead a)
 | .nili => K .nili
 | .ifc a => K (.ifc a)
theorem zDo (y : TU) (K : TU → Prop) : fT y K = K y := by cases y <;> rfl
def fTs : List TU → (List TU → Prop) → Prop
 | [], K => K []
 | y :: ys, K => fT y fun y => fTs ys fun ys => K (y :: ys)
theorem zRh : ∀ (ys : List TU) (K : List TU → Prop), fTs ys K = K ys
 | [], K => rfl
 | y :: ys, K => by simp only [fTs, zDo, zRh ys]
def tyK (T : Ty) (K : Nat → List CU → Nat → Prop) : Prop :=
 match T with
 | ⟨_, sz, _, zs, _, _, bytes, _, _⟩ => K sz zs bytes
theorem zL5 (T : Ty) (K : Nat → List CU → Nat → Prop) : tyK T K = K T.sz T.zs T.bytes := by cases T; rfl
def fC (x : CU) (K : CU → Prop) : Prop :=
 match x with
 | .t y => fT y fun y => K (.t y)
 | .ptr a r p off => K (.ptr a r p off)
 | .bor a r p i off sz n => K (.bor a r p i off sz n)
 | .rptr a cs => K (.rptr a cs)
 | .nilp => K .nilp
 | .fn g caps => K (.fn g caps)
 | .nilf => K .nilf
 | .lst a sz n cs => K (.lst a sz n cs)
theorem oM (x : CU) (K : CU → Prop) : fC x K = K x := by cases x <;> simp only [fC, zDo]
def fCs : List CU → (List CU → Prop) → Prop
 | [], K => K []
 | c :: cs, K => fC c fun c => fCs cs fun cs => K (c :: cs)
theorem rK : ∀ (cs : List CU) (K : List CU → Prop), fCs cs K = K cs
 | [], K => rfl
 | c :: cs, K => by simp only [fCs, oM, rK cs]
def fX1 (x : XU) (K : XU → Prop) : Prop :=
 match x with
 | .c x => fC x fun x => K (.c x)
 | .agg cs => fCs cs fun cs => K (.agg cs)
 | .box a cs => fCs cs fun cs => K (.box a cs)
 | .tup xs => K (.tup xs)
 | .undef => K .undef
theorem zWn (x : XU) (K : XU → Prop) : fX1 x K = K x := by cases x <;> simp only [fX1, oM, rK]
def fXs : List XU → (List XU → Prop) → Prop
 | [], K => K []
 | x :: xs, K => fX1 x fun x => fXs xs fun xs => K (x :: xs)
theorem zKs : ∀ (xs : List XU) (K : List XU → Prop), fXs xs K = K xs
 | [], K => rfl
 | x :: xs, K => by simp only [fXs, zWn, zKs xs]
def fX (x : XU) (K : XU → Prop) : Prop :=
 match x with
 | .tup xs => fXs xs fun xs => K (.tup xs)
 | .c x => fC x fun x => K (.c x)
 | .agg cs => fCs cs fun cs => K (.agg cs)
 | .box a cs => fCs cs fun cs => K (.box a cs)
 | .undef => K .undef
theorem fI (x : XU) (K : XU → Prop) : fX x K = K x := by cases x <;> simp only [fX, oM, rK, zKs]
def fE : List (Nat × XU) → (List (Nat × XU) → Prop) → Prop
 | [], K => K []
 | p :: l, K => match p with
  | (d, x) => fX x fun x => fE l fun l => K ((d, x) :: l)
theorem zVp : ∀ (l : List (Nat × XU)) (K : List (Nat × XU) → Prop), fE l K = K l
 | [], K => rfl
 | (d, x) :: l, K => by simp only [fE, fI, zVp l]
def fEs : List (List CU) → (List (List CU) → Prop) → Prop
 | [], K => K []
 | c :: cs, K => fCs c fun c => fEs cs fun cs => K (c :: cs)
theorem rL : ∀ (cs : List (List CU)) (K : List (List CU) → Prop), fEs cs K = K cs
 | [], K => rfl
 | c :: cs, K => by simp only [fEs, rK, rL cs]
def fA (A : StA) (K : StA → Prop) : Prop :=
 match A with
 | ⟨env, jk, e⟩ => fE env fun env => fEs e fun e => K ⟨env, jk, e⟩
theorem zVo (A : StA) (K : StA → Prop) : fA A K = K A := by cases A; simp only [fA, zVp, rL]
def zLp (z : CU) (K : TU → Prop) : Prop :=
 match z with
 | .t (.int k _) => ∃ n, K (.int k n)
 | .t (.bool _) => ∃ b, K (.bool b)
 | .t (.str _) => ∃ s, K (.str s)
 | .t (.sl _ _ sz _ _) => ∃ g n cs, K (.sl () g sz n cs)
 | _ => ∃ t, K t
theorem zP0 {z : CU} {K : TU → Prop} (h : zLp z K) : ∃ t, K t := by
 unfold zLp at h
 split at h
 ·obtain ⟨n, h⟩ := h; exact ⟨_, h⟩
 ·obtain ⟨n, h⟩ := h; exact ⟨_, h⟩
 ·obtain ⟨n, h⟩ := h; exact ⟨_, h⟩
 ·obtain ⟨g, n, cs, h⟩ := h; exact ⟨_, h⟩
 ·exact h
def zGe : List CU → (List TU → Prop) → Prop
 | [], K => K []
 | z :: zs, K => zLp z fun t => zGe zs fun ts => K (t :: ts)
theorem cX : ∀ {zs : List CU} {K : List TU → Prop}, zGe zs K → ∃ ts, K ts
 | [], K, h => ⟨_, h⟩
 | z :: zs, K, h => by
  obtain ⟨t, h⟩ := zP0 h
  obtain ⟨ts, h⟩ := cX h
  exact ⟨_, h⟩
section
variable (cx : Ctx) (f : Nat) (call : zX)
def opW (A : StA) (t : Nat) (o : Operand) (K : XU → Prop) : Prop :=
 match opv cx f (den A) t o with
 | some x => fX x K
 | none => False
variable {cx f} in
theorem x0 {A : StA} {t : Nat} {o : Operand} {K : XU → Prop} (h : opW cx f A t o K) : ∃ x, opv cx f (den A) t o = some x ∧ K x := by
 unfold opW at h
 split at h
 ·next x hx => exact ⟨x, hx, by rwa [fI] at h⟩
 ·exact h.elim
def tT (A : StA) (d : Nat) (x : XU) (K : StA → Prop) : Prop :=
 match A with
 | ⟨env, jk, e⟩ => K ⟨(d, x) :: env, jk, e⟩
theorem kS (A : StA) (d : Nat) (x : XU) (K : StA → Prop) : tT A d x K = K (A.put d x) := by cases A; rfl
def sX (A : StA) (o : Operand) (K : StA → Prop) : Prop :=
 match o with
 | .tmp d => if zB cx f d then K A else if yQ (lk A.jk A.env d) then tT A d .undef K else K A
 | _ => K A
theorem wM (A : StA) (o : Operand) (K : StA → Prop) : sX cx f A o K = K (zCy cx f A o) := by
 unfold sX zCy
 cases o with
 | tmp d =>
  simp only
  split
  ·rfl
  ·split
   ·exact kS _ _ _ _
   ·rfl
 | _ => rfl
def zNh (r : Root) (q : List Nat) : List (Nat × XU) → (List (Nat × XU) → Prop) → Prop
 | [], K => K []
 | p :: l, K => match p with
  | (d, x) => fX (z6 r q x) fun x => zNh r q l fun l => K ((d, x) :: l)
theorem zH1 (r : Root) (q : List Nat) : ∀ (l : List (Nat × XU)) (K : List (Nat × XU) → Prop), zNh r q l K = K (l.map fun p => (p.1, z6 r q p.2))
 | [], K => rfl
 | (d, x) :: l, K => by simp only [zNh, fI, zH1 r q l, List.map_cons]
def tF (r : Root) (q : List Nat) (A : StA) (K : StA → Prop) : Prop :=
 match A with
 | ⟨env, jk, e⟩ => zNh r q env fun env => fEs (e.map (yT r q)) fun e => K ⟨env, fun i => z6 r q (jk i), e⟩
theorem bO (r : Root) (q : List Nat) (A : StA) (K : StA → Prop) : tF r q A K = K (tD r q A) := by
 cases A
 simp only [tF, zH1, rL, tD]
def subW : List TU → List Nat → (List TU → Prop) → Prop
 | ds, [], K => K ds
 | ds, i :: p, K => ∃ sz n es, ds[i]? = some (.sl () 0 sz n es) ∧ subW es p K
theorem zOf : ∀ {p : List Nat} {ds : List TU} {K : List TU → Prop}, subW ds p K → ∃ es, sub ds p = some es ∧ K es
 | [], ds, K, h => ⟨ds, rfl, h⟩
 | i :: p, ds, K, h => by
  obtain ⟨sz, n, es, h1, h2⟩ := h
  obtain ⟨es', h3, h4⟩ := zOf h2
  exact ⟨es', by simp only [sub, h1]; exact h3, h4⟩
def zG4 (A : StA) (r : Root) (p : List Nat) (K : List CU → Prop) (K' : List TU → Prop) : Prop :=
 match zA (den A) r with
 | some cs => match p with
  | [] => K cs
  | j :: p => match cs[j]? with
   | some (.t (.sl _ 0 _ _ ds)) => subW ds p K'
   | _ => False
 | none => False
theorem eZ {A : StA} {r : Root} {p : List Nat} {K : List CU → Prop} {K' : List TU → Prop} (h : zG4 A r p K K') :
  (p = [] ∧ ∃ cs, zA (den A) r = some cs ∧ K cs) ∨ (∃ ds, (zA (den A) r).bind (y9 · p) = some (ds.map .t) ∧ K' ds) := by
 unfold zG4 at h
 split at h
 ·next cs hcs =>
  cases p with
  | nil => exact .inl ⟨rfl, cs, hcs, h⟩
  | cons j p =>
   simp only at h
   split at h
   ·next a sz n ds hj =>
    obtain ⟨es, h1, h2⟩ := zOf h
    exact .inr ⟨es, by simp only [hcs, Option.bind_some, y9, hj, h1, Option.map_some], h2⟩
   ·exact h.elim
 ·exact h.elim
def atW (A : StA) (r : Root) (p : List Nat) (i : Nat) (K : CU → Prop) : Prop :=
 zG4 A r p (fun cs => match cs[i]? with
  | some c => fC c K
  | none => False) fun ds => ∃ t, ds[i]? = some t ∧ K (.t t)
theorem zV8 {A : StA} {r : Root} {p : List Nat} {i : Nat} {K : CU → Prop} (h : atW A r p i K) : ∃ c, at_ (den A) r p i = some c ∧ K c := by
 rcases eZ h with ⟨rfl, cs, h1, h2⟩ | ⟨ds, h1, t, h2, h3⟩
 ·split at h2
  ·next c hc => exact ⟨c, by simp only [at_, h1, Option.bind_some, y9, hc], by rwa [oM] at h2⟩
  ·exact h2.elim
 ·exact ⟨.t t, by simp only [at_, h1, Option.bind_some]; simp [h2], h3⟩
def lB (A : StA) (r : Root) (cs : List CU) (K : StA → Prop) : Prop :=
 match r with
 | .sl d => fX (x7 (lk A.jk A.env d) cs) fun x => tT A d x K
 | .ex j => match A with
  | ⟨env, jk, e⟩ => fEs (e.set j cs) fun e => K ⟨env, jk, e⟩
theorem nP (A : StA) (r : Root) (cs : List CU) (K : StA → Prop) : lB A r cs K = K (qG A r cs) := by
 cases r with
 | sl d => simp only [lB, fI, kS, qG]
 | ex j => cases A; simp only [lB, rL, qG]
def zJk (A : StA) (r : Root) (off : Nat) (c : CU) (K : StA → Prop) : Prop :=
 match zA (den A) r with
 | some cs => if off < cs.length then lB A r (cs.set off c) K else False
 | none => False
theorem pL {A : StA} {r : Root} {off : Nat} {c : CU} {K : StA → Prop} (h : zJk A r off c K) : ∃ A', jE A r [] off c = some A' ∧ K A' := by
 unfold zJk at h
 split at h
 ·next cs hcs =>
  split at h
  ·next hl =>
   rw [nP] at h
   exact ⟨_, by simp only [jE, hcs, Option.bind_some, kU, if_pos hl, Option.map_some], h⟩
  ·exact h.elim
 ·exact h.elim
def zL0 : List TU → List Nat → Nat → (Nat → List TU → List TU → Prop) → Prop
 | ds, [], i, K => ∃ sz m es, ds[i]? = some (.sl () 0 sz m es) ∧ K sz es (ds.set i (.dead ()))
 | ds, k :: p, i, K => ∃ sz m es, ds[k]? = some (.sl () 0 sz m es) ∧ zL0 es p i fun sz' fs es' => K sz' fs (ds.set k (.sl () 0 sz m es'))
theorem zE0 : ∀ {p : List Nat} {ds : List TU} {i : Nat} {K : Nat → List TU → List TU → Prop}, zL0 ds p i K → ∃ sz m es fs ds', sub ds p = some fs ∧ fs[i]? = some (.sl () 0 sz m es) ∧ xJ ds p i (.dead ()) = some ds' ∧ K sz es ds'
 | [], ds, i, K, h => by
  obtain ⟨sz, m, es, h1, h2⟩ := h
  have hl : i < ds.length := (List.getElem?_eq_some_iff.1 h1).1
  exact ⟨sz, m, es, ds, _, rfl, h1, by simp only [xJ, if_pos hl], h2⟩
 | k :: p, ds, i, K, h => by
  obtain ⟨sz, m, es, h1, h2⟩ := h
  obtain ⟨sz', m', gs, fs, es', h3, h4, h5, h6⟩ := zE0 h2
  exact ⟨sz', m', gs, fs, _, by simp only [sub, h1, h3], h4, by simp only [xJ, h1, h5, Option.map_some], h6⟩
def aF (A : StA) (a : Unit) (r : Root) (p : List Nat) (i off sz n : Nat) (K : TU → StA → Prop) : Prop :=
 match p with
 | [] => (match at_ (den A) r [] i with
  | some (.t (.sl b 0 sz' _ ds)) => if sz = sz' ∧ 0 < sz then (off + n * sz ≤ ds.length ∧ zJk A r i (.t (.dead b)) fun A => tF r [i] A fun A => K (.sl a 0 sz n ((ds.drop off).take (n * sz))) A) else False
  | _ => False)
 | j :: p => (match zA (den A) r with
  | some cs => (match cs[j]? with
   | some (.t (.sl b 0 sz0 n0 ds)) => zL0 ds p i fun sz' es ds' => if sz = sz' ∧ 0 < sz then (off + n * sz ≤ es.length ∧ lB A r (cs.set j (.t (.sl b 0 sz0 n0 ds'))) fun A => tF r (j :: p ++ [i]) A fun A => K (.sl a 0 sz n ((es.drop off).take (n * sz))) A) else False
   | _ => False)
  | none => False)
theorem lG {A : StA} {a : Unit} {r : Root} {p : List Nat} {i off sz n : Nat} {K : TU → StA → Prop} (h : aF A a r p i off sz n K) : ∃ t A', xL (den A) a r p i off sz n = some (t, den A') ∧ K t A' := by
 rw [zAc]
 cases p with
 | nil =>
  simp only [aF] at h
  split at h
  ·next b sz' m ds h1 =>
   split at h
   ·next hsz =>
    obtain ⟨h3, h4⟩ := h
    obtain ⟨A1, h5, h6⟩ := pL h4
    rw [bO] at h6
    refine ⟨_, _, ?_, h6⟩
    simp only [aE, h1, h5, if_pos (And.intro h3 hsz), Option.map_some, dn, List.nil_append]
   ·exact h.elim
  ·exact h.elim
 | cons j p =>
  simp only [aF] at h
  split at h
  ·next cs hcs =>
   split at h
   ·next b sz0 n0 ds hj =>
    obtain ⟨sz', m, es, fs, ds', h1, h2, h3, h4⟩ := zE0 h
    split at h4
    ·next hsz =>
     obtain ⟨h5, h6⟩ := h4
     rw [nP, bO] at h6
     refine ⟨_, _, ?_, h6⟩
     have e1 : at_ (den A) r (j :: p) i = some (.t (.sl () 0 sz' m es)) := by
      simp only [at_, hcs, Option.bind_some, y9, hj, h1, Option.map_some, List.getElem?_map, h2]
     have e2 : jE A r (j :: p) i (.t (.dead ())) = some (qG A r (cs.set j (.t (.sl b 0 sz0 n0 ds')))) := by
      simp only [jE, hcs, Option.bind_some, kU, hj, h3, Option.map_some]
     simp only [aE, e1, e2, if_pos (And.intro h5 hsz), Option.map_some, dn]
    ·exact h4.elim
   ·exact h.elim
  ·exact h.elim
def eE (A : StA) (r : Root) (p : List Nat) (i off m : Nat) (K : List TU → Prop) : Prop :=
 atW A r p i fun c => match c with
  | .t (.sl _ 0 _ _ ds) => off + m ≤ ds.length ∧ K ((ds.drop off).take m)
  | _ => False
theorem rS {A : StA} {r : Root} {p : List Nat} {i off m : Nat} {K : List TU → Prop} (h : eE A r p i off m K) : ∃ ds, x6 (den A) r p i off m = some ds ∧ K ds := by
 obtain ⟨c, h1, h2⟩ := zV8 h
 split at h2
 ·obtain ⟨h3, h4⟩ := h2
  exact ⟨_, by simp only [x6, h1, if_pos h3], h4⟩
 ·exact h2.elim
mutual
def wQ : CU → StA → (TU → StA → Prop) → Prop
 | .t x, A, K => K x A
 | .bor a (.sl d) p i off sz n, A, K => aF A a (.sl d) p i off sz n K
 | .lst a sz n cs, A, K => wK cs A fun ts A => K (.sl a 0 sz n ts) A
 | _, _, _ => False
def wK : List CU → StA → (List TU → StA → Prop) → Prop
 | [], A, K => K [] A
 | c :: cs, A, K => wQ c A fun t A => wK cs A fun ts A => K (t :: ts) A
end
mutual
theorem zCh : ∀ (c : CU) {A : StA} {K : TU → StA → Prop}, wQ c A K → ∃ t A', yS c (den A) = some (t, den A') ∧ K t A'
 | .t x, A, K, h => ⟨x, A, rfl, by simpa only [wQ] using h⟩
 | .bor a (.sl d) p i off sz n, A, K, h => by
  simp only [wQ] at h
  simp only [yS]
  exact lG h
 | .lst a sz n cs, A, K, h => by
  simp only [wQ] at h
  obtain ⟨ts, A', h1, h2⟩ := kI cs h
  exact ⟨_, A', by simp only [yS, h1, Option.map_some], h2⟩
 | .bor _ (.ex _) _ _ _ _ _, A, K, h => by simp only [wQ] at h
 | .ptr _ _ _ _, A, K, h => by simp only [wQ] at h
 | .rptr _ _, A, K, h => by simp only [wQ] at h
 | .nilp, A, K, h => by simp only [wQ] at h
 | .nilf, A, K, h => by simp only [wQ] at h
 | .fn _ _, A, K, h => by simp only [wQ] at h
theorem kI : ∀ (cs : List CU) {A : StA} {K : List TU → StA → Prop}, wK cs A K → ∃ ts A', xZ cs (den A) = some (ts, den A') ∧ K ts A'
 | [], A, K, h => ⟨[], A, rfl, by simpa only [wK] using h⟩
 | c :: cs, A, K, h => by
  simp only [wK] at h
  obtain ⟨t, A1, h1, h2⟩ := zCh c h
  obtain ⟨ts, A2, h3, h4⟩ := kI cs h2
  exact ⟨_, A2, by simp only [xZ, h1, Option.bind_some, h3, Option.map_some], h4⟩
end
def zH0 (c : CU) (A : StA) (K : CU → StA → Prop) : Prop :=
 match c with
 | .lst a sz n cs => wK cs A fun ts A => K (.t (.sl a 0 sz n ts)) A
 | .bor a (.sl d) p i off sz n => if zK0 cx f d then K (.bor a (.sl d) p i off sz n) A else aF A a (.sl d) p i off sz n fun t A => K (.t t) A
 | .bor a (.ex j) p i off sz n => if cx.tke f then aF A a (.ex j) p i off sz n fun t A => K (.t t) A else K (.bor a (.ex j) p i off sz n) A
 | c => K c A
theorem vP {c : CU} {A : StA} {K : CU → StA → Prop} (h : zH0 cx f c A K) : ∃ c' A', keep cx f c (den A) = some (c', den A') ∧ K c' A' := by
 cases c with
 | lst a sz n cs =>
  obtain ⟨ts, A', h1, h2⟩ := kI cs h
  exact ⟨_, A', by simp only [keep, yS, h1, Option.map_some], h2⟩
 | bor a r p i off sz n =>
  cases r with
  | sl d =>
   simp only [zH0] at h
   split at h
   ·next hn => exact ⟨_, A, by simp only [keep, if_pos hn], h⟩
   ·next hn =>
    obtain ⟨t, A', h1, h2⟩ := lG h
    exact ⟨_, A', by simp only [keep, if_neg hn, h1, Option.map_some], h2⟩
  | ex j =>
   simp only [zH0] at h
   split at h
   ·next hn =>
    obtain ⟨t, A', h1, h2⟩ := lG h
    exact ⟨_, A', by simp only [keep, if_pos hn, h1, Option.map_some], h2⟩
   ·next hn => exact ⟨_, A, by simp only [keep, if_neg hn], h⟩
 | _ => exact ⟨_, A, rfl, h⟩
def zFo (d : Nat) (c : CU) (A : StA) (K : CU → StA → Prop) : Prop :=
 match c with
 | .bor a (.sl d') p i off sz n => if d' = d then aF A a (.sl d') p i off sz n fun t A => K (.t t) A else zH0 cx f (.bor a (.sl d') p i off sz n) A K
 | c => zH0 cx f c A K
theorem zDv {d : Nat} {c : CU} {A : StA} {K : CU → StA → Prop} (h : zFo cx f d c A K) : ∃ c' A', vF cx f d c (den A) = some (c', den A') ∧ K c' A' := by
 cases c with
 | bor a r p i off sz n =>
  cases r with
  | sl d' =>
   simp only [zFo] at h
   split at h
   ·next hn =>
    obtain ⟨t, A', h1, h2⟩ := lG h
    exact ⟨_, A', by simp only [vF, if_pos hn, h1, Option.map_some], h2⟩
   ·next hn =>
    obtain ⟨c', A', h1, h2⟩ := vP cx f h
    exact ⟨c', A', by simp only [vF, if_neg hn]; exact h1, h2⟩
  | ex j =>
   obtain ⟨c', A', h1, h2⟩ := vP cx f (c := .bor a (.ex j) p i off sz n) h
   exact ⟨c', A', by simp only [vF]; exact h1, h2⟩
 | t x => obtain ⟨c', A', h1, h2⟩ := vP cx f (c := .t x) h; exact ⟨c', A', by simp only [vF]; exact h1, h2⟩
 | ptr a r p off => obtain ⟨c', A', h1, h2⟩ := vP cx f (c := .ptr a r p off) h; exact ⟨c', A', by simp only [vF]; exact h1, h2⟩
 | rptr a cs => obtain ⟨c', A', h1, h2⟩ := vP cx f (c := .rptr a cs) h; exact ⟨c', A', by simp only [vF]; exact h1, h2⟩
 | nilp => obtain ⟨c', A', h1, h2⟩ := vP cx f (c := .nilp) h; exact ⟨c', A', by simp only [vF]; exact h1, h2⟩
 | nilf => obtain ⟨c', A', h1, h2⟩ := vP cx f (c := .nilf) h; exact ⟨c', A', by simp only [vF]; exact h1, h2⟩
 | fn g caps => obtain ⟨c', A', h1, h2⟩ := vP cx f (c := .fn g caps) h; exact ⟨c', A', by simp only [vF]; exact h1, h2⟩
 | lst a sz n cs => obtain ⟨c', A', h1, h2⟩ := vP cx f (c := .lst a sz n cs) h; exact ⟨c', A', by simp only [vF]; exact h1, h2⟩
def eD (d : Nat) : List CU → StA → (List CU → StA → Prop) → Prop
 | [], A, K => K [] A
 | c :: cs, A, K => zFo cx f d c A fun c A => eD d cs A fun cs A => K (c :: cs) A
theorem rO {d : Nat} : ∀ {cs : List CU} {A : StA} {K : List CU → StA → Prop}, eD cx f d cs A K → ∃ ds A', uF cx f d cs (den A) = some (ds, den A') ∧ K ds A'
 | [], A, K, h => ⟨[], A, rfl, h⟩
 | c :: cs, A, K, h => by
  obtain ⟨c', A1, h1, h2⟩ := zDv cx f h
  obtain ⟨cs', A2, h3, h4⟩ := rO h2
  exact ⟨_, A2, by simp only [uF, h1, Option.bind_some, h3, Option.map_some], h4⟩
def isLT : Option TU → Bool
 | some (.sl _ 0 _ _ _) => true
 | _ => false
mutual
def eQ (A : StA) : CU → Prop → Prop
 | .bor a r p i off sz n, K => (match p with
  | [] => if yL (den A) (.bor a r [] i off sz n) then K else False
  | j :: p => zG4 A r (j :: p) (fun _ => False) fun es => isLT es[i]? = true ∧ K)
 | .ptr a r p off, K => (match p with
  | [] => K
  | [j] => if yL (den A) (.ptr a r [j] off) then K else False
  | j :: j' :: q => yL (den A) (.ptr a r (j :: j' :: q) off) = true ∧ K)
 | .fn _ caps, K => sM A caps K
 | .lst _ _ _ cs, K => sM A cs K
 | .t _, K => K
 | .rptr _ _, K => K
 | .nilp, K => K
 | .nilf, K => K
def sM (A : StA) : List CU → Prop → Prop
 | [], K => K
 | c :: cs, K => eQ A c (sM A cs K)
end
theorem zUq {ds : List TU} {i : Nat} (h : isLT ds[i]? = true) : qJ ((ds.map (C.t (α := Unit)))[i]?) = true := by
 rw [List.getElem?_map]
 unfold isLT at h
 split at h
 ·next e => rw [e]; rfl
 ·cases h
mutual
theorem zMg {A : StA} : ∀ (c : CU) {K : Prop}, eQ A c K → yL (den A) c = true ∧ K
 | .bor a r p i off sz n, K, h => by
  simp only [eQ] at h
  cases p with
  | nil =>
   simp only at h
   split at h
   ·next ha => exact ⟨ha, h⟩
   ·exact h.elim
  | cons j p =>
   simp only at h
   rcases eZ h with ⟨h1, _⟩ | ⟨es, h1, h2, h3⟩
   ·cases h1
   ·refine ⟨?_, h3⟩
    simp only [yL, at_, h1, Option.bind_some]
    exact zUq h2
 | .ptr a r p off, K, h => by
  simp only [eQ] at h
  match p, h with
  | [], h => exact ⟨rfl, h⟩
  | [j], h =>
   simp only at h
   split at h
   ·next ha => exact ⟨ha, h⟩
   ·exact h.elim
  | j :: j' :: q, h => exact h
 | .fn g caps, K, h => by simp only [eQ] at h; simpa only [yL] using dY caps h
 | .lst a sz n cs, K, h => by simp only [eQ] at h; simpa only [yL] using dY cs h
 | .t _, K, h => ⟨rfl, by simpa only [eQ] using h⟩
 | .rptr _ _, K, h => ⟨rfl, by simpa only [eQ] using h⟩
 | .nilp, K, h => ⟨rfl, by simpa only [eQ] using h⟩
 | .nilf, K, h => ⟨rfl, by simpa only [eQ] using h⟩
theorem dY {A : StA} : ∀ (cs : List CU) {K : Prop}, sM A cs K → xN (den A) cs = true ∧ K
 | [], K, h => ⟨rfl, by simpa only [sM] using h⟩
 | c :: cs, K, h => by
  simp only [sM] at h
  obtain ⟨h1, h2⟩ := zMg c h
  obtain ⟨h3, h4⟩ := dY cs h2
  exact ⟨by simp only [xN, h1, h3, Bool.and_self], h4⟩
end
def zRy (d : Nat) (x : XU) (A : StA) (K : XU → StA → Prop) : Prop :=
 match x with
 | .c x => zFo cx f d x A fun c A => eQ A c (K (.c c) A)
 | .agg cs => eD cx f d cs A fun cs A => sM A cs (K (.agg cs) A)
 | .box a cs => sM A cs (K (.box a cs) A)
 | _ => False
theorem zPe {d : Nat} {x : XU} {A : StA} {K : XU → StA → Prop} (h : zRy cx f d x A K) : ∃ y A', vY cx f d x (den A) = some (y, den A') ∧ K y A' := by
 cases x with
 | c x =>
  obtain ⟨c', A1, h1, h2⟩ := zDv cx f h
  obtain ⟨ha, h3⟩ := zMg c' h2
  exact ⟨_, A1, by simp only [vY, h1, Option.bind_some, if_pos ha], h3⟩
 | agg cs =>
  obtain ⟨c', A1, h1, h2⟩ := rO cx f h
  obtain ⟨ha, h3⟩ := dY c' h2
  exact ⟨_, A1, by simp only [vY, h1, Option.bind_some, if_pos ha], h3⟩
 | box a cs =>
  obtain ⟨ha, h3⟩ := dY cs h
  exact ⟨_, A, by simp only [vY, if_pos ha], h3⟩
 | tup xs => exact h.elim
 | undef => exact h.elim
def zMo (A : StA) (t : Nat) (d : Nat) (x : Operand) (K : StA → Prop) : Prop :=
 opW cx f A t x fun y => sX cx f A x fun A => zRy cx f d y A fun y A =>
  if zB cx f d then (if (xX y).contains (.sl d) then False else tF (.sl d) [] A fun A => tT A d y K)
  else tT A d y K
theorem zKc {A : StA} {t d : Nat} {x : Operand} {K : StA → Prop} (h : zMo cx f A t d x K) : ∃ A', sN cx f (den A) t d x = some (den A') ∧ K A' := by
 obtain ⟨y, h1, h2⟩ := x0 h
 rw [wM] at h2
 obtain ⟨y', A1, h3, h4⟩ := zPe cx f h2
 simp only [sN, h1, Option.bind_some, q7, h3]
 split at h4
 ·next hv =>
  split at h4
  ·exact h4.elim
  ·next hc =>
   rw [bO, kS] at h4
   exact ⟨_, by simp only [if_pos hv, if_neg hc, fD, gU], h4⟩
 ·next hv =>
  rw [kS] at h4
  exact ⟨_, by simp only [if_neg hv, gU], h4⟩
end
end Go.Proofs.YtlkjnlfddadlmaaGreatDoor.V
namespace Go.Proofs.YtlkjnlfddadlmaaGreatDoor.V
theorem zEs : ∀ {p : List Nat} {ds es fs : List TU} {off : Nat} {x y : TU}, xJ ds p off x = some es → xJ es p off y = some fs → xJ ds p off y = some fs
 | [], ds, es, fs, off, x, y, h1, h2 => by
  simp only [xJ] at h1 h2 ⊢
  split at h1
  ·next hl =>
   simp only [Option.some.injEq] at h1
   subst h1
   simp only [List.length_set, if_pos hl, List.set_set] at h2 ⊢
   exact h2
  ·cases h1
 | i :: p, ds, es, fs, off, x, y, h1, h2 => by
  simp only [xJ] at h1 h2 ⊢
  split at h1
  ·next a sz n gs hi =>
   cases h3 : xJ gs p off x with
   | none => simp [h3] at h1
   | some gs' =>
    simp only [h3, Option.map_some, Option.some.injEq] at h1
    subst h1
    have hil : i < ds.length := by rw [List.getElem?_eq_some_iff] at hi; exact hi.1
    rw [List.getElem?_set_self hil] at h2
    simp only at h2
    cases h4 : xJ gs' p off y with
    | none => simp [h4] at h2
    | some gs'' =>
     simp only [h4, Option.map_some, Option.some.injEq, List.set_set] at h2
     have := zEs h3 h4
     simp only [this, Option.map_some, h2]
  ·cases h1
def mK : List TU → List Nat → Nat → List TU → Option (List TU)
 | ds, _, _, [] => some ds
 | ds, p, off, t :: ts => (xJ ds p off t).bind fun ds => mK ds p (off + 1) ts
def zS4 : List TU → List Nat → Nat → List TU → (List TU → Prop) → Prop
 | ds, [], off, ts, K => off + ts.length ≤ ds.length ∧ K (ds.take off ++ ts ++ ds.drop (off + ts.length))
 | ds, i :: p, off, ts, K => ∃ sz n es, ds[i]? = some (.sl () 0 sz n es) ∧ zS4 es p off ts fun es => K (ds.set i (.sl () 0 sz n es))
theorem zEt : ∀ {ts ds : List TU} {off : Nat}, off + ts.length ≤ ds.length → mK ds [] off ts = some (ds.take off ++ ts ++ ds.drop (off + ts.length))
 | [], ds, off, h => by simp [mK]
 | t :: ts, ds, off, h => by
  simp only [List.length_cons] at h
  have h1 : off < ds.length := by omega
  simp only [mK, xJ, if_pos h1, Option.bind_some]
  rw [zEt (by simp only [List.length_set]; omega)]
  have e1 : (ds.set off t).take (off + 1) = ds.take off ++ [t] := by
   rw [List.take_set, List.take_succ_eq_append_getElem h1, List.set_append_right _ _ (by simp; omega)]
   simp [Nat.min_eq_left (Nat.le_of_lt h1)]
  have e2 : (ds.set off t).drop (off + 1 + ts.length) = ds.drop (off + (ts.length + 1)) := by
   rw [List.drop_set_of_lt (by omega)]; congr 1; omega
  rw [e1, e2]
  simp
theorem zCg : ∀ {ts ds es es' : List TU} {i : Nat} {p : List Nat} {off sz n : Nat}, ds[i]? = some (.sl () 0 sz n es) → mK es p off ts = some es' → mK ds (i :: p) off ts = some (ds.set i (.sl () 0 sz n es'))
 | [], ds, es, es', i, p, off, sz, n, h1, h2 => by
  simp only [mK, Option.some.injEq] at h2 ⊢
  subst h2
  obtain ⟨hl, he⟩ := List.getElem?_eq_some_iff.1 h1
  rw [← he, List.set_getElem_self]
 | t :: ts, ds, es, es', i, p, off, sz, n, h1, h2 => by
  simp only [mK] at h2 ⊢
  cases h3 : xJ es p off t with
  | none => simp [h3] at h2
  | some es1 =>
   simp only [h3, Option.bind_some] at h2
   simp only [xJ, h1, h3, Option.map_some, Option.bind_some]
   obtain ⟨hl, he⟩ := List.getElem?_eq_some_iff.1 h1
   rw [zCg (List.getElem?_set_self hl) h2, List.set_set]
theorem zJe : ∀ {p : List Nat} {ds : List TU} {off : Nat} {ts : List TU} {K : List TU → Prop}, zS4 ds p off ts K → ∃ es, mK ds p off ts = some es ∧ K es
 | [], ds, off, ts, K, h => ⟨_, zEt h.1, h.2⟩
 | i :: p, ds, off, ts, K, h => by
  obtain ⟨sz, n, es, h1, h2⟩ := h
  obtain ⟨es', h3, h4⟩ := zJe h2
  exact ⟨_, zCg h1 h3, h4⟩
mutual
def zGc (r : Root) (n : Nat) : CU → Bool
 | .ptr _ r' p _ => decide (r ≠ r') || decide (p.length ≤ n)
 | .bor _ r' p _ _ _ _ => decide (r ≠ r') || decide (p.length + 1 ≤ n)
 | .fn _ cs => vT r n cs
 | .lst _ _ _ cs => vT r n cs
 | _ => true
def vT (r : Root) (n : Nat) : List CU → Bool
 | [] => true
 | c :: cs => zGc r n c && vT r n cs
end
theorem zF4 : ∀ {p q : List Nat}, pre p q = true → p.length ≤ q.length
 | [], q, _ => by simp
 | x :: p, y :: q, h => by
  simp only [pre, Bool.and_eq_true] at h
  simp only [List.length_cons]
  exact Nat.succ_le_succ (zF4 h.2)
 | x :: p, [], h => by simp [pre] at h
mutual
theorem cW {r : Root} {q : List Nat} {n : Nat} (hq : n < q.length) : ∀ {c : CU}, zGc r n c = true → zS r q c = c
 | .t x, h => rfl
 | .ptr a r' p off, h => by
  simp only [zGc, Bool.or_eq_true, decide_eq_true_eq] at h
  simp only [zS]
  rw [if_neg]
  rintro ⟨rfl, h2⟩
  have := zF4 h2
  rcases h with h | h
  ·exact h rfl
  ·omega
 | .bor a r' p i off sz m, h => by
  simp only [zGc, Bool.or_eq_true, decide_eq_true_eq] at h
  simp only [zS]
  rw [if_neg]
  rintro ⟨rfl, h2⟩
  have := zF4 h2
  simp only [List.length_append, List.length_cons, List.length_nil] at this
  rcases h with h | h
  ·exact h rfl
  ·omega
 | .fn g cs, h => by simp only [zGc] at h; simp only [zS, kJ hq h]
 | .lst a sz m cs, h => by simp only [zGc] at h; simp only [zS, kJ hq h]
 | .rptr a cs, h => rfl
 | .nilp, h => rfl
 | .nilf, h => rfl
theorem kJ {r : Root} {q : List Nat} {n : Nat} (hq : n < q.length) : ∀ {cs : List CU}, vT r n cs = true → yT r q cs = cs
 | [], h => rfl
 | c :: cs, h => by
  simp only [vT, Bool.and_eq_true] at h
  simp only [yT, cW hq h.1, kJ hq h.2]
end
def zGd (r : Root) (n : Nat) : XU → Bool
 | .c x => zGc r n x
 | .agg cs => vT r n cs
 | .box _ cs => vT r n cs
 | .tup _ => false
 | .undef => true
def zJp (r : Root) (n : Nat) : XU → Bool
 | .c x => zGc r n x
 | .agg cs => vT r n cs
 | .box _ cs => vT r n cs
 | .tup xs => xs.all (zGd r n)
 | .undef => true
theorem zJq {r : Root} {q : List Nat} {n : Nat} (hq : n < q.length) {x : XU} (h : zGd r n x = true) : z6 r q x = x := by
 cases x with
 | c x => simp only [z6, cW hq h]
 | agg cs => simp only [z6, kJ hq h]
 | box a cs => simp only [z6, kJ hq h]
 | tup xs => simp [zGd] at h
 | undef => rfl
theorem iI {r : Root} {q : List Nat} {n : Nat} (hq : n < q.length) : ∀ {xs : List XU}, xs.all (zGd r n) = true → xC r q xs = xs
 | [], h => rfl
 | x :: xs, h => by
  simp only [List.all_cons, Bool.and_eq_true] at h
  simp only [xC, zJq hq h.1, iI hq h.2]
theorem zLo {r : Root} {q : List Nat} {n : Nat} (hq : n < q.length) {x : XU} (h : zJp r n x = true) : z6 r q x = x := by
 cases x with
 | c x => simp only [z6, cW hq h]
 | agg cs => simp only [z6, kJ hq h]
 | box a cs => simp only [z6, kJ hq h]
 | tup xs => simp only [z6, iI hq h]
 | undef => rfl
def Lk (M : Nat → Prop) (S S' : SU) : Prop := (∀ i, M i → S.s i = S'.s i) ∧ S.e = S'.e
def w5 : XU → Bool
 | .tup _ => false
 | _ => true
section
variable {cx : Ctx} {f : Nat} {M : Nat → Prop} {r : Root}
theorem Lk.root {S S' : SU} (h : Lk M S S') (hr : ∀ d, r = .sl d → M d) : zA S r = zA S' r := by
 cases r with
 | sl d => simp only [zA, h.1 d (hr d rfl)]
 | ex j => simp only [zA, h.2]
theorem Lk.set {S S' : SU} (h : Lk M S S') (hr : ∀ d, r = .sl d → M d) (cs : List CU) : Lk M (zM S r cs) (zM S' r cs) := by
 cases r with
 | sl d =>
  refine ⟨fun i hi => ?_, h.2⟩
  simp only [zM, upd]
  split
  ·rw [h.1 d (hr d rfl)]
  ·exact h.1 i hi
 | ex j =>
  refine ⟨fun i hi => h.1 i hi, ?_⟩
  simp only [zM, h.2]
theorem zPy {x : XU} {cs ds : List CU} (hx : w5 x = true) (hl : ds.length = cs.length) : x7 (x7 x cs) ds = x7 x ds := by
 cases x with
 | c x => rcases cs with _ | ⟨c, _ | ⟨c', cs⟩⟩ <;> rcases ds with _ | ⟨d, _ | ⟨d', ds⟩⟩ <;> first | rfl | (simp at hl)
 | tup xs => simp [w5] at hx
 | _ => rfl
theorem set_set {S : SU} {cs ds : List CU} (hn : ∀ d, r = .sl d → w5 (S.s d) = true) (hl : ds.length = cs.length) : zM (zM S r cs) r ds = zM S r ds := by
 cases r with
 | sl d =>
  simp only [zM, upd, if_true, zPy (hn d rfl) hl]
  congr 1
  funext i
  simp only [upd]
  split <;> rfl
 | ex j => simp only [zM, List.set_set]
theorem zI7 {S : SU} {cs ds : List CU} (hn : ∀ d, r = .sl d → w5 (S.s d) = true) (h : zA S r = some cs) (hl : ds.length = cs.length) : zA (zM S r ds) r = some ds := by
 cases r with
 | sl d =>
  have hn := hn d rfl
  simp only [zA, zM, upd, if_true] at h ⊢
  cases hx : S.s d with
  | c x =>
   simp only [hx, Option.some.injEq] at h
   subst h
   rcases ds with _ | ⟨d, _ | ⟨d', ds⟩⟩
   ·simp at hl
   ·rfl
   ·simp at hl
  | agg cs => rfl
  | box a cs => rfl
  | tup xs => rw [hx] at hn; simp [w5] at hn
  | undef => simp [hx] at h
 | ex j =>
  simp only [zA, zM] at h ⊢
  rw [List.getElem?_set_self (List.getElem?_eq_some_iff.1 h).1]
theorem zPs {S : SU} {cs : List CU} (hn : ∀ d, r = .sl d → w5 (S.s d) = true) (h : zA S r = some cs) : zM S r cs = S := by
 cases r with
 | sl d =>
  have hn := hn d rfl
  simp only [zA] at h
  have e : x7 (S.s d) cs = S.s d := by
   cases hx : S.s d with
   | c x => simp only [hx, Option.some.injEq] at h; subst h; rfl
   | agg cs => simp only [hx, Option.some.injEq] at h; subst h; rfl
   | box a cs => simp only [hx, Option.some.injEq] at h; subst h; rfl
   | tup xs => rw [hx] at hn; simp [w5] at hn
   | undef => simp [hx] at h
  simp only [zM, e]
  cases S
  simp only [St.mk.injEq, and_true]
  funext i
  simp only [upd]
  split
  ·next hi => rw [hi]
  ·rfl
 | ex j =>
  simp only [zA] at h
  obtain ⟨hl, he⟩ := List.getElem?_eq_some_iff.1 h
  simp only [zM, ← he, List.set_getElem_self]
def bK (M : Nat → Prop) (r : Root) (n : Nat) (S : SU) : Prop := (∀ i, M i → zJp r n (S.s i) = true) ∧ ∀ cs ∈ S.e, vT r n cs = true
theorem Lk.kill {S S' : SU} {q : List Nat} {n : Nat} (h : Lk M S S') (hq : n < q.length) (hd : bK M r n S) : Lk M (V.kill r q S) S' := by
 refine ⟨fun i hi => ?_, ?_⟩
 ·simp only [V.kill, zLo hq (hd.1 i hi)]; exact h.1 i hi
 ·simp only [V.kill]
  rw [← h.2]
  have : ∀ l : List (List CU), (∀ cs ∈ l, vT r n cs = true) → l.map (yT r q) = l := by
   intro l hl
   induction l with
   | nil => rfl
   | cons c l ih => rw [List.map_cons, kJ hq (hl c List.mem_cons_self), ih fun x hx => hl x (List.mem_cons_of_mem _ hx)]
  exact this _ hd.2
theorem pN {n : Nat} : ∀ {cs : List CU} {j : Nat} {x : TU}, vT r n cs = true → vT r n (cs.set j (.t x)) = true
 | [], j, x, h => rfl
 | c :: cs, 0, x, h => by simp only [vT, Bool.and_eq_true] at h; simp only [List.set_cons_zero, vT, zGc, Bool.true_and, h.2]
 | c :: cs, j + 1, x, h => by
  simp only [vT, Bool.and_eq_true] at h
  simp only [List.set_cons_succ, vT, h.1, Bool.true_and]
  exact pN h.2
theorem bK.set {n : Nat} {S : SU} {cs : List CU} {j : Nat} {x : TU} (hr : ∀ d, r = .sl d → M d) (hn : ∀ d, r = .sl d → w5 (S.s d) = true) (h : bK M r n S) (hc : zA S r = some cs) : bK M r n (zM S r (cs.set j (.t x))) := by
 cases r with
 | sl d =>
  refine ⟨fun i hi => ?_, h.2⟩
  simp only [zM, upd]
  split
  ·have h1 := h.1 d (hr d rfl)
   have hn := hn d rfl
   simp only [zA] at hc
   cases hx : S.s d with
   | c y =>
    simp only [hx, Option.some.injEq] at hc
    subst hc
    cases j with
    | zero => rfl
    | succ j => simp only [x7, List.set_cons_succ, List.set_nil, zJp]; rw [hx] at h1; exact h1
   | agg ds => simp only [hx, Option.some.injEq] at hc; subst hc; rw [hx] at h1; exact pN h1
   | box a ds => simp only [hx, Option.some.injEq] at hc; subst hc; rw [hx] at h1; exact pN h1
   | tup xs => rw [hx] at hn; simp [w5] at hn
   | undef => simp [hx] at hc
  ·exact h.1 i hi
 | ex k =>
  refine ⟨fun i hi => h.1 i hi, fun ds hds => ?_⟩
  simp only [zM] at hds
  simp only [zA] at hc
  rcases List.mem_or_eq_of_mem_set hds with h1 | h1
  ·exact h.2 ds h1
  ·subst h1
   exact pN (h.2 cs (List.mem_of_getElem? hc))
theorem bK.lk {n : Nat} {S S' : SU} (h : bK M r n S) (hl : Lk M S S') : bK M r n S' := ⟨fun i hi => by rw [← hl.1 i hi]; exact h.1 i hi, by rw [← hl.2]; exact h.2⟩
theorem zR0 (r : Root) : ∀ (qs : List (List Nat)) (x : TU), qs.foldl (fun c q => zS r q c) (.t x : CU) = .t x
 | [], x => rfl
 | q :: qs, x => by simp only [List.foldl_cons, zS]; exact zR0 r qs x
theorem cU : ∀ {p : List Nat} {ds es : List TU} {off : Nat} {x y : TU}, xJ ds p off x = some es → ∃ es', xJ ds p off y = some es'
 | [], ds, es, off, x, y, h => by
  simp only [xJ] at h ⊢
  split at h
  ·next hl => exact ⟨_, by rw [if_pos hl]⟩
  ·cases h
 | i :: p, ds, es, off, x, y, h => by
  simp only [xJ] at h ⊢
  split at h
  ·next a sz n gs hi =>
   cases h3 : xJ gs p off x with
   | none => simp [h3] at h
   | some gs' =>
    obtain ⟨g, hg⟩ := cU (y := y) h3
    exact ⟨_, by simp only [hg, Option.map_some]; rfl⟩
  ·cases h
theorem zJj : ∀ {p : List Nat} {ds es : List TU} {off : Nat} {x : TU}, xJ ds p off x = some es → ∃ gs old, sub ds p = some gs ∧ gs[off]? = some old
 | [], ds, es, off, x, h => by
  simp only [xJ] at h
  split at h
  ·next hl => exact ⟨ds, ds[off], rfl, List.getElem?_eq_getElem hl⟩
  ·cases h
 | i :: p, ds, es, off, x, h => by
  simp only [xJ] at h
  split at h
  ·next a sz n gs hi =>
   cases h3 : xJ gs p off x with
   | none => simp [h3] at h
   | some gs' =>
    obtain ⟨hs, old, h4, h5⟩ := zJj h3
    exact ⟨hs, old, by simp only [sub, hi]; exact h4, h5⟩
  ·cases h
theorem zC4 {p : List Nat} {ds es : List TU} {off : Nat} {x : TU} (h : xJ ds p off x = some es) : ∃ y, xJ es p off x = some y := by
 induction p generalizing ds es with
 | nil =>
  simp only [xJ] at h ⊢
  split at h
  ·next hl => simp only [Option.some.injEq] at h; subst h; exact ⟨_, by rw [if_pos (by simpa using hl)]⟩
  ·cases h
 | cons i p ih =>
  simp only [xJ] at h ⊢
  split at h
  ·next a sz n gs hi =>
   cases h3 : xJ gs p off x with
   | none => simp [h3] at h
   | some gs' =>
    simp only [h3, Option.map_some, Option.some.injEq] at h
    subst h
    have hil := (List.getElem?_eq_some_iff.1 hi).1
    obtain ⟨y, hy⟩ := ih h3
    exact ⟨_, by rw [List.getElem?_set_self hil]; simp only [hy, Option.map_some]; rfl⟩
  ·cases h
theorem pX (hnst : (cx.nst f && x4 r) = false) (hr : ∀ d, r = .sl d → M d) {j : Nat} {p : List Nat} {a : Unit} {sz n : Nat} :
  ∀ {ts : List TU} {off : Nat} {qs : List (List Nat)} {S T : SU} {cs : List CU} {ds ds' : List TU}, (∀ d, r = .sl d → w5 (S.s d) = true) → Lk M T S → bK M r (j :: p).length S →
  zA S r = some cs → cs[j]? = some (.t (.sl a 0 sz n ds)) → mK ds p off ts = some ds' →
  ∃ T', qF cx f r (j :: p) off qs (toT ts) T = some T' ∧ Lk M T' (zM S r (cs.set j (.t (.sl a 0 sz n ds'))))
 | [], off, qs, S, T, cs, ds, ds', hn, hl, hd, hc, hj, hs => by
  simp only [mK, Option.some.injEq] at hs
  subst hs
  refine ⟨T, rfl, ?_⟩
  have : cs.set j (.t (.sl a 0 sz n ds)) = cs := by
   obtain ⟨h1, h2⟩ := List.getElem?_eq_some_iff.1 hj
   rw [← h2, List.set_getElem_self]
  rw [this, zPs hn hc]
  exact hl
 | t :: ts, off, qs, S, T, cs, ds, ds', hn, hl, hd, hc, hj, hs => by
  simp only [mK] at hs
  cases h1 : xJ ds p off t with
  | none => simp [h1] at hs
  | some ds1 =>
   simp only [h1, Option.bind_some] at hs
   have hjl := (List.getElem?_eq_some_iff.1 hj).1
   have hT : zA T r = some cs := by rw [hl.root hr]; exact hc
   obtain ⟨gs, old, g1, g2⟩ := zJj h1
   have hat : at_ T r (j :: p) off = some (.t old) := by
    simp only [at_, hT, Option.bind_some, y9, hj, g1, Option.map_some, List.getElem?_map, g2]
   have hput : ∀ {U : SU} {bs : List CU} {es es' : List TU} {x : TU}, zA U r = some bs → bs[j]? = some (.t (.sl a 0 sz n es)) → xJ es p off x = some es' → z7 U r (j :: p) off (.t x) = some (zM U r (bs.set j (.t (.sl a 0 sz n es')))) := by
    intro U bs es es' x k1 k2 k3
    simp only [z7, k1, Option.bind_some, kU, k2, k3, Option.map_some]
   have hset : ∀ x : CU, (cs.set j x)[j]? = some x := fun x => List.getElem?_set_self hjl
   -- the state behind this cell
   have next : ∀ {U : SU}, Lk M U (zM S r (cs.set j (.t (.sl a 0 sz n ds1)))) → ∀ qs, ∃ T', qF cx f r (j :: p) (off + 1) qs (toT ts) U = some T' ∧ Lk M T' (zM S r (cs.set j (.t (.sl a 0 sz n ds')))) := by
    intro U hU qs
    have hn1 : ∀ d, r = .sl d → w5 ((zM S r (cs.set j (.t (.sl a 0 sz n ds1)))).s d) = true := by
     rintro d rfl
     have := hn d rfl
     simp only [zM, upd, if_true]
     cases hx : S.s d with
     | c x => rcases cs.set j _ with _ | ⟨c, _ | ⟨c', cs'⟩⟩ <;> rfl
     | tup xs => rw [hx] at this; simp [w5] at this
     | _ => rfl
    obtain ⟨T', k1, k2⟩ := pX hnst hr (j := j) (p := p) (a := a) (sz := sz) (n := n) (ts := ts) (off := off + 1) (qs := qs) (S := zM S r (cs.set j (.t (.sl a 0 sz n ds1)))) (T := U) (cs := cs.set j (.t (.sl a 0 sz n ds1))) (ds := ds1) (ds' := ds') hn1 hU (hd.set hr hn hc) (zI7 hn hc (by simp)) (hset _) hs
    refine ⟨T', k1, ?_⟩
    rw [set_set hn (by simp), List.set_set] at k2
    exact k2
   simp only [toT, List.map_cons, qF, hat, Option.bind_some, zR0]
   by_cases ho : x9 (.t old : CU) = true
   ·obtain ⟨es0, hes0⟩ := cU (y := (.dead () : TU)) h1
    have hlen : ∀ x : CU, (cs.set j x).length = cs.length := fun x => by simp
    have hputd := hput hT hj hes0
    simp only [if_pos ho, hnst, Bool.false_eq_true, if_false, hputd, Option.bind_some]
    -- the emptied state, and what dies with it
    have hl0 : Lk M (zM T r (cs.set j (.t (.sl a 0 sz n es0)))) (zM S r (cs.set j (.t (.sl a 0 sz n es0)))) := hl.set hr _
    have hd0 : bK M r (j :: p).length (zM T r (cs.set j (.t (.sl a 0 sz n es0)))) := (hd.set hr hn hc).lk ⟨fun i hi => (hl0.1 i hi).symm, hl0.2.symm⟩
    have hl1 := hl0.kill (q := (j :: p) ++ [off]) (n := (j :: p).length) (by simp) hd0
    have hT1 : zA (V.kill r ((j :: p) ++ [off]) (zM T r (cs.set j (.t (.sl a 0 sz n es0))))) r = some (cs.set j (.t (.sl a 0 sz n es0))) := by
     rw [hl1.root hr, zI7 hn hc (hlen _)]
    obtain ⟨y0, hy0⟩ := zC4 hes0
    obtain ⟨es1, hes1⟩ := cU (y := t) hy0
    have e1 : es1 = ds1 := by
     have := zEs hes0 hes1
     rw [h1] at this
     exact (Option.some.inj this).symm
    subst e1
    have hput1 := hput hT1 (hset _) hes1
    simp only [List.cons_append] at hput1 ⊢
    simp only [hput1, Option.bind_some]
    refine next ?_ _
    have := hl1.set hr (cs.set j (.t (.sl a 0 sz n es1)))
    rw [set_set hn (by simp)] at this
    simpa only [List.set_set, List.cons_append] using this
   ·simp only [if_neg ho, hput hT hj h1, Option.bind_some]
    exact next (hl.set hr _) _
end
end Go.Proofs.YtlkjnlfddadlmaaGreatDoor.V
namespace Go.Proofs.YtlkjnlfddadlmaaGreatDoor.V
section
variable (cx : Ctx) (f : Nat) (call : zX)
theorem zK4 {jk jk' : Nat → XU} : ∀ {l : List (Nat × XU)} {i : Nat}, i ∈ l.map (·.1) → lk jk l i = lk jk' l i
 | [], i, h => by simp at h
 | (d, x) :: l, i, h => by
  simp only [lk]
  split
  ·rfl
  ·next hi =>
   simp only [List.map_cons, List.mem_cons] at h
   exact zK4 (h.resolve_left hi)
theorem zBe {jk : Nat → XU} : ∀ {l : List (Nat × XU)} {i : Nat}, i ∉ l.map (·.1) → lk jk l i = jk i
 | [], i, h => rfl
 | (d, x) :: l, i, h => by
  simp only [List.map_cons, List.mem_cons, not_or] at h
  simp only [lk, if_neg h.1]
  exact zBe h.2
theorem zR3 {A : StA} {P : XU → Bool} (h : (A.env.all fun q => P (lk A.jk A.env q.1)) = true) {i : Nat} (hi : i ∈ A.env.map (·.1)) : P (lk A.jk A.env i) = true := by
 obtain ⟨q, q1, rfl⟩ := List.mem_map.1 hi
 exact List.all_eq_true.1 h q q1
def cQ (A : StA) : Root → Bool
 | .sl d => (A.env.any fun q => q.1 == d) && w5 (lk A.jk A.env d)
 | .ex _ => true
def zQ6 (r : Root) (j : Nat) (p : List Nat) (off : Nat) (ts : List TU) (A : StA) (K : StA → Prop) : Prop :=
 if cx.nst f && x4 r then False else
 match zA (den A) r with
 | some cs => match cs[j]? with
  | some (.t (.sl a 0 sz n ds)) => if (A.env.all fun q => zJp r (p.length + 1) (lk A.jk A.env q.1)) && (A.e.all fun q => vT r (p.length + 1) q) && cQ A r then
    zS4 ds p off ts fun ds' => ∀ jk, fA ⟨(qG A r (cs.set j (.t (.sl a 0 sz n ds')))).env, jk, (qG A r (cs.set j (.t (.sl a 0 sz n ds')))).e⟩ K
   else False
  | _ => False
 | none => False
theorem Lk.mk_self (M : Nat → Prop) (S : SU) : Lk M S S := ⟨fun _ _ => rfl, rfl⟩
theorem zQ7 {r : Root} {j : Nat} {p : List Nat} {off : Nat} {ts : List TU} {A : StA} {K : StA → Prop} (h : zQ6 cx f r j p off ts A K) : ∃ A', qF cx f r (j :: p) off [] (toT ts) (den A) = some (den A') ∧ K A' := by
 unfold zQ6 at h
 split at h
 ·exact h.elim
 next hnst =>
 have hnst : (cx.nst f && x4 r) = false := by simpa using hnst
 split at h
 ·next cs hcs =>
  split at h
  ·next a sz n ds hj =>
   split at h
   ·next hck =>
    simp only [Bool.and_eq_true] at hck
    obtain ⟨⟨ha, he⟩, hro⟩ := hck
    obtain ⟨ds', h1, h2⟩ := zJe h
    have hr : ∀ d, r = .sl d → d ∈ A.env.map (·.1) := by
     rintro d rfl
     simp only [cQ, Bool.and_eq_true, List.any_eq_true, beq_iff_eq] at hro
     obtain ⟨⟨q, q1, q2⟩, _⟩ := hro
     exact List.mem_map.2 ⟨q, q1, q2⟩
    have hn : ∀ d, r = .sl d → w5 ((den A).s d) = true := by
     rintro d rfl
     simp only [cQ, Bool.and_eq_true] at hro
     exact hro.2
    have hd : bK (fun i => i ∈ A.env.map (·.1)) r (j :: p).length (den A) := by
     refine ⟨fun i hi => ?_, fun c hc => ?_⟩
     ·exact zR3 ha hi
     ·exact List.all_eq_true.1 he c hc
    obtain ⟨T, h3, h4⟩ := pX (cx := cx) (f := f) hnst hr (j := j) (p := p) (a := a) (sz := sz) (n := n) (ts := ts) (off := off) (qs := []) hn (Lk.mk_self _ _) hd hcs hj h1
    have h2 := h2 T.s
    rw [zVo] at h2
    refine ⟨_, ?_, h2⟩
    rw [h3]
    congr 1
    rw [dC] at h4
    obtain ⟨k1, k2⟩ := h4
    have hkeys : ∀ i, i ∈ (qG A r (cs.set j (.t (.sl a 0 sz n ds')))).env.map (·.1) → i ∈ A.env.map (·.1) := by
     intro i hi
     cases r with
     | sl d =>
      simp only [qG, StA.put, List.map_cons, List.mem_cons] at hi
      rcases hi with rfl | hi
      ·exact hr _ rfl
      ·exact hi
     | ex k => exact hi
    cases T with
    | mk s e =>
    simp only [den] at k1 k2 ⊢
    rw [← k2]
    congr 1
    funext i
    by_cases hi : i ∈ (qG A r (cs.set j (.t (.sl a 0 sz n ds')))).env.map (·.1)
    ·rw [k1 i (hkeys i hi)]
     exact zK4 hi
    ·rw [zBe hi]
   ·exact h.elim
  ·exact h.elim
 ·exact h.elim
def zEk (r : Root) : Nat → List (List Nat) → List CU → StA → (StA → Prop) → Prop
 | _, _, [], A, K => K A
 | off, qs, c :: cs, A, K => match at_ (den A) r [] off with
  | some old => if x9 old then (if cx.nst f && x4 r then False else zJk A r off (.t (.dead ())) fun A => tF r [off] A fun A => fC ((qs ++ [[off]]).foldl (fun c q => zS r q c) c) fun c => zJk A r off c fun A => zEk r (off + 1) (qs ++ [[off]]) cs A K)
    else fC (qs.foldl (fun c q => zS r q c) c) fun c => zJk A r off c fun A => zEk r (off + 1) qs cs A K
  | none => False
theorem tR {r : Root} : ∀ {cs : List CU} {off : Nat} {qs : List (List Nat)} {A : StA} {K : StA → Prop}, zEk cx f r off qs cs A K → ∃ A', gK cx f r [] off qs cs A = some A' ∧ K A'
 | [], off, qs, A, K, h => ⟨A, rfl, h⟩
 | c :: cs, off, qs, A, K, h => by
  simp only [zEk] at h
  split at h
  ·next old hold =>
   split at h
   ·next ho =>
    split at h
    ·exact h.elim
    ·next hn =>
     obtain ⟨A1, h1, h2⟩ := pL h
     rw [bO, oM] at h2
     obtain ⟨A2, h3, h4⟩ := pL h2
     obtain ⟨A3, h5, h6⟩ := tR h4
     exact ⟨A3, by simp only [gK, hold, Option.bind_some, if_pos ho, if_neg hn, h1, List.nil_append, h3, h5], h6⟩
   ·next ho =>
    rw [oM] at h
    obtain ⟨A2, h3, h4⟩ := pL h
    obtain ⟨A3, h5, h6⟩ := tR h4
    exact ⟨A3, by simp only [gK, hold, Option.bind_some, if_neg ho, h3, h5], h6⟩
  ·exact h.elim
def zTd (A : StA) (t : Nat) (a x : Operand) (K : StA → Prop) : Prop :=
 opW cx f A 0 a fun pa => match pa with
 | .c (.ptr _ r p off) => opW cx f A t x fun y => match jN y with
  | some cs => if (cx.ty t).ok = true ∧ cs.length = (cx.ty t).sz then sX cx f A x fun A => match p with
    | [] => (match r with
     | .sl d => eD cx f d cs A fun cs A => sM A cs (zEk cx f (.sl d) off [] cs A K)
     | .ex j => wK cs A fun ts A => zEk cx f (.ex j) off [] (toT ts) A K)
    | j :: p => wK cs A fun ts A => zQ6 cx f r j p off ts A K
   else False
  | none => False
 | _ => False
theorem zP5 {A : StA} {t : Nat} {a x : Operand} {K : StA → Prop} (h : zTd cx f A t a x K) : ∃ A', nT cx f (den A) t a x = some (den A') ∧ K A' := by
 obtain ⟨pa, h1, h2⟩ := x0 h
 split at h2
 ·next b r p off =>
  obtain ⟨y, h3, h4⟩ := x0 h2
  split at h4
  ·next cs hcs =>
   split at h4
   ·next hok =>
    rw [wM] at h4
    simp only [nT, h1, h3, Option.bind_some, hcs, if_pos hok, q7]
    cases p with
    | nil =>
     cases r with
     | sl d =>
      simp only at h4 ⊢
      obtain ⟨ds, A1, h5, h6⟩ := rO cx f h4
      obtain ⟨hal, h6⟩ := dY ds h6
      obtain ⟨A2, h7, h8⟩ := tR cx f h6
      exact ⟨A2, by simp only [h5, Option.bind_some, if_pos hal, uN, h7, Option.map_some], h8⟩
     | ex j =>
      simp only at h4 ⊢
      obtain ⟨ts, A1, h5, h6⟩ := kI cs h4
      obtain ⟨A2, h7, h8⟩ := tR cx f h6
      exact ⟨A2, by simp only [h5, Option.bind_some, uN, h7, Option.map_some], h8⟩
    | cons j p =>
     simp only at h4
     obtain ⟨ts, A1, h5, h6⟩ := kI cs h4
     obtain ⟨A2, h7, h8⟩ := zQ7 cx f h6
     cases r with
     | sl d => exact ⟨A2, by simp only [h5, Option.bind_some, h7], h8⟩
     | ex k => exact ⟨A2, by simp only [h5, Option.bind_some, h7], h8⟩
   ·exact h4.elim
  ·exact h4.elim
 ·exact h2.elim
def zNa (A : StA) (o : Operand) (t : Nat) (K : List TU → Nat → Nat → StA → Prop) : Prop :=
 opW cx f A t o fun x => match x with
 | .c (.t (.sl _ 0 sz n cs)) => sX cx f A o fun A => K cs sz n A
 | .c (.bor a r p i off sz n) => if cx.nst f && x4 r then False else aF A a r p i off sz n fun q A => (match q with
  | .sl _ _ _ _ cs => K cs sz n A
  | _ => False)
 | .c (.lst _ sz n cs) => sX cx f A o fun A => wK cs A fun ts A => K ts sz n A
 | _ => False
theorem zAw {A : StA} {o : Operand} {t : Nat} {K : List TU → Nat → Nat → StA → Prop} (h : zNa cx f A o t K) : ∃ cs sz n A', vX cx f (den A) o t = some (cs, sz, n, den A') ∧ K cs sz n A' := by
 obtain ⟨x, h1, h2⟩ := x0 h
 split at h2
 ·rw [wM] at h2
  exact ⟨_, _, _, _, by simp only [vX, h1, q7], h2⟩
 ·next a r p i off sz n =>
  split at h2
  ·exact h2.elim
  ·next hn =>
   obtain ⟨q, A1, h3, h4⟩ := lG h2
   split at h4
   ·exact ⟨_, _, _, _, by simp only [vX, h1, if_neg hn, h3, Option.bind_some], h4⟩
   ·exact h4.elim
 ·rw [wM] at h2
  obtain ⟨ts, A1, h3, h4⟩ := kI _ h2
  exact ⟨_, _, _, _, by simp only [vX, h1, q7, h3, Option.map_some], h4⟩
 ·exact h2.elim
def zV0 (A : StA) (o : Operand) (t : Nat) (flat : Bool) (K : List TU → Nat → Nat → StA → Prop) : Prop :=
 opW cx f A t o fun x => match x with
 | .c (.t (.sl _ (_ + 1) sz n cs)) => K cs sz n A
 | .c (.t (.str s)) => K (s.map zDc) 1 s.length A
 | .c (.bor _ r p i off sz n) => if flat then eE A r p i off (n * sz) fun cs => cs.all zRj = true ∧ K cs sz n A else zNa cx f A o t K
 | _ => zNa cx f A o t K
theorem zTn {A : StA} {o : Operand} {t : Nat} {fl : Bool} {K : List TU → Nat → Nat → StA → Prop} (h : zV0 cx f A o t fl K) : ∃ cs sz n A', wL cx f (den A) o t fl = some (cs, sz, n, den A') ∧ K cs sz n A' := by
 obtain ⟨x, h1, h2⟩ := x0 h
 split at h2
 ·exact ⟨_, _, _, A, by simp only [wL, h1], h2⟩
 ·exact ⟨_, _, _, A, by simp only [wL, h1], h2⟩
 ·next a r p i off sz n =>
  split at h2
  ·next hf =>
   obtain ⟨cs, h3, h4, h5⟩ := rS h2
   exact ⟨_, _, _, A, by simp only [wL, h1, if_pos hf, h3, Option.bind_some, h4, if_true], h5⟩
  ·next hf =>
   obtain ⟨cs, sz, n, A', h3, h4⟩ := zAw cx f h2
   exact ⟨cs, sz, n, A', by simp only [wL, h1, if_neg hf]; exact h3, h4⟩
 ·next k1 k2 k3 =>
  obtain ⟨cs, sz, n, A', h3, h4⟩ := zAw cx f h2
  refine ⟨cs, sz, n, A', ?_, h4⟩
  unfold wL
  split
  ·next h => rw [h1] at h; exact absurd (Option.some.inj h) (k1 _ _ _ _ _)
  ·next h => rw [h1] at h; exact absurd (Option.some.inj h) (k2 _)
  ·next h => rw [h1] at h; exact absurd (Option.some.inj h) (k3 _ _ _ _ _ _ _)
  ·exact h3
def zE8 (A : StA) (ts : List Nat) (s x : Operand) (K : XU → StA → Prop) : Prop :=
 match ts with
 | [t, t'] => (match (cx.ty t).el with
  | some el => zV0 cx f A x t' (cx.ty el).flat fun ys sz' m A => zNa cx f A s t fun zs sz n A =>
    if sz = (cx.ty el).sz ∧ sz' = (cx.ty el).sz ∧ 0 < sz ∧ (cx.ty el).ok = true ∧ (cx.ty t).ok = true ∧ zLx cx t' = true then
     (n + m ≤ maxLen ∧ (n + m) * (cx.ty el).bytes ≤ 140737488355328) ∧ K (.c (.t (.sl () 0 sz (n + m) (zs ++ ys)))) A
    else False
  | none => False)
 | _ => False
theorem zKb {A : StA} {ts : List Nat} {s x : Operand} {K : XU → StA → Prop} (h : zE8 cx f A ts s x K) : ∃ y A', gS cx f (den A) ts s x = some (y, den A') ∧ K y A' := by
 unfold zE8 at h
 split at h
 ·next t t' =>
  split at h
  ·next el hel =>
   obtain ⟨ys, sz', m, A1, h1, h2⟩ := zTn cx f h
   obtain ⟨zs, sz, n, A2, h3, h4⟩ := zAw cx f h2
   split at h4
   ·next hc =>
    refine ⟨_, A2, ?_, h4.2⟩
    obtain ⟨c1, c2, c3, c4, c5, c6⟩ := hc
    simp only [gS, hel, h1, h3, Option.bind_some]
    rw [if_pos ⟨c1, c2, c3, c4, c5, c6, h4.1.1, h4.1.2⟩]
   ·exact h4.elim
  ·exact h.elim
 ·exact h.elim
mutual
def gN (A : StA) : CU → (CU → Prop) → Prop
 | .t x, K => fT (retag x) fun x => K (.t x)
 | .bor _ r p i off sz n, K => if 0 < sz then eE A r p i off (n * sz) fun ds => K (.t (.sl () 1 sz n (yD ds))) else False
 | .rptr a cs, K => K (.rptr a (yD cs))
 | .nilp, K => K .nilp
 | .nilf, K => K .nilf
 | .fn g caps, K => (match caps with
  | [] => K (.fn g [])
  | _ => False)
 | .lst _ sz n cs, K => pQ A cs fun ds => match mQ ds with
  | some ts => K (.t (.sl () 1 sz n ts))
  | none => False
 | .ptr _ _ _ _, _ => False
def pQ (A : StA) : List CU → (List CU → Prop) → Prop
 | [], K => K []
 | c :: cs, K => gN A c fun c => pQ A cs fun cs => K (c :: cs)
end
mutual
theorem pP {A : StA} : ∀ (c : CU) {K : CU → Prop}, gN A c K → ∃ d, qH (den A) c = some d ∧ K d
 | .t x, K, h => ⟨_, rfl, by simpa only [gN, zDo] using h⟩
 | .bor a r p i off sz n, K, h => by
  simp only [gN] at h
  split at h
  ·next hs =>
   obtain ⟨ds, h1, h2⟩ := rS h
   exact ⟨_, by simp only [qH, if_pos hs, h1, Option.map_some], h2⟩
  ·exact h.elim
 | .rptr a cs, K, h => ⟨_, rfl, by simpa only [gN] using h⟩
 | .nilp, K, h => ⟨_, rfl, by simpa only [gN] using h⟩
 | .nilf, K, h => ⟨_, rfl, by simpa only [gN] using h⟩
 | .fn g caps, K, h => by
  simp only [gN] at h
  cases caps with
  | nil => exact ⟨_, rfl, h⟩
  | cons => exact h.elim
 | .lst a sz n cs, K, h => by
  simp only [gN] at h
  obtain ⟨ds, h1, h2⟩ := sE cs h
  split at h2
  ·next ts hts => exact ⟨_, by simp only [qH, h1, Option.bind_some, hts, Option.map_some], h2⟩
  ·exact h2.elim
 | .ptr _ _ _ _, K, h => by simp only [gN] at h
theorem sE {A : StA} : ∀ (cs : List CU) {K : List CU → Prop}, pQ A cs K → ∃ ds, jK (den A) cs = some ds ∧ K ds
 | [], K, h => ⟨[], rfl, by simpa only [pQ] using h⟩
 | c :: cs, K, h => by
  simp only [pQ] at h
  obtain ⟨d, h1, h2⟩ := pP c h
  obtain ⟨ds, h3, h4⟩ := sE cs h2
  exact ⟨_, by simp only [jK, h1, Option.bind_some, h3, Option.map_some], h4⟩
end
def zS7 (A : StA) (x : XU) (K : XU → Prop) : Prop :=
 match x with
 | .c x => gN A x fun c => K (.c c)
 | .agg cs => pQ A cs fun cs => K (.agg cs)
 | _ => False
theorem zP3 {A : StA} {x : XU} {K : XU → Prop} (h : zS7 A x K) : ∃ y, bV (den A) x = some y ∧ K y := by
 cases x with
 | c x => obtain ⟨d, h1, h2⟩ := pP _ h; exact ⟨_, by simp only [bV, h1, Option.map_some], h2⟩
 | agg cs => obtain ⟨d, h1, h2⟩ := sE _ h; exact ⟨_, by simp only [bV, h1, Option.map_some], h2⟩
 | _ => exact h.elim
def cZ (A : StA) : List Operand → List Nat → (List XU → Prop) → Prop
 | [], _, K => K []
 | o :: os, ts, K => opW cx f A (ts.head?.getD 0) o fun x => zS7 A x fun y => cZ A os ts.tail fun ys => K (y :: ys)
theorem aB {A : StA} : ∀ {os : List Operand} {ts : List Nat} {K : List XU → Prop}, cZ cx f A os ts K → ∃ ys, q5 cx f (den A) os ts = some ys ∧ K ys
 | [], ts, K, h => ⟨[], rfl, h⟩
 | o :: os, ts, K, h => by
  obtain ⟨x, h1, h2⟩ := x0 h
  obtain ⟨y, h3, h4⟩ := zP3 h2
  obtain ⟨ys, h5, h6⟩ := aB h4
  exact ⟨_, by simp only [q5, h1, Option.bind_some, h3, h5, Option.map_some], h6⟩
def Ret (g : Nat) (xs : List XU) (x : XU) : Prop := ∃ r, call g xs [] = some r ∧ kZ r.1 = some x
def zRq (A : StA) (c : Call) (K : XU → Prop) : Prop :=
 match c.callee, c.args.toList with
 | .value (.func g), [.const (.slice none 0 0), y] => (match cx.gro g with
  | some q => opW cx f A 0 y fun x => (match j8 (some x) with
   | some n => (0 ≤ n ∧ n * q.2 ≤ 140737488355328 ∧ n ≤ maxLen) ∧ K (.c (.t (.sl () 0 q.1 0 [])))
   | none => False)
  | none => False)
 | _, _ => False
theorem zRr {A : StA} {c : Call} {K : XU → Prop} (h : zRq cx f A c K) : ∃ x, pV cx f (den A) c = some x ∧ K x := by
 unfold zRq at h
 unfold pV
 split at h
 ·next g y h1 h2 =>
  split at h
  ·next q hq =>
   obtain ⟨x, h3, h4⟩ := x0 h
   split at h4
   ·next n hn =>
    refine ⟨_, ?_, h4.2⟩
    simp only [h1, h2, hq, h3, hn, if_pos h4.1]
   ·exact h4.elim
  ·exact h.elim
 ·exact h.elim
def zMt (A : StA) (t : Nat) (c : Call) (K : XU → Prop) : Prop :=
 match c.callee, c.args.toList, c.argTypes.toList with
 | .builtin .len, [x], [t'] => opW cx f A t' x fun y => (match y with
  | .c z => if zD2 cx t' z then (match rR z with
   | some n => K (.c (.t (.int .i64 n)))
   | none => False) else False
  | _ => False)
 | .builtin b, [x, y], _ => opW cx f A t x fun x => opW cx f A t y fun y => (match j8 (some x), j8 (some y) with
  | some a, some b' => (match mm b a b' with
   | some n => K (.c (.t (.int .i64 n)))
   | none => False)
  | _, _ => False)
 | .value fo, args, ts => if zFm cx c then zRq cx f A c K else (match opv cx f (den A) 0 fo with
  | some (.c (.fn g [])) => if cx.act g then False else cZ cx f A args ts fun xs => ∃ x, Ret call g xs x ∧ fX x K
  | _ => False)
 | _, _, _ => False
theorem zG2 {A : StA} {t : Nat} {c : Call} {K : XU → Prop} (h : zMt cx f call A t c K) : ∃ x, qcall cx f call (den A) t c = some (x, den A) ∧ K x := by
 unfold zMt at h
 unfold qcall
 split at h
 ·next x t' h1 h2 h3 =>
  obtain ⟨y, h4, h5⟩ := x0 h
  split at h5
  ·next z =>
   split at h5
   ·next hl =>
    split at h5
    ·next n hn => exact ⟨_, by simp only [h1, h2, h3, h4, if_pos hl, hn, Option.map_some], h5⟩
    ·exact h5.elim
   ·exact h5.elim
  ·exact h5.elim
 ·next _ b x y h1 h2 =>
  obtain ⟨a, h4, h5⟩ := x0 h
  obtain ⟨b', h6, h7⟩ := x0 h5
  split at h7
  ·next m n k1 k2 =>
   split at h7
   ·next q hq => exact ⟨_, by rw [h1, h2]; cases b <;> simp only [h4, h6, mmV, k1, k2, hq, Option.map_some], h7⟩
   ·exact h7.elim
  ·exact h7.elim
 ·next fo h1 =>
  split at h
  ·next hgr =>
   obtain ⟨x, h2, h3⟩ := zRr cx f h
   exact ⟨x, by simp only [h1, if_pos hgr, h2, Option.map_some], h3⟩
  ·next hgr =>
   split at h
   ·next g hg =>
    split at h
    ·exact h.elim
    ·next hact =>
     obtain ⟨xs, h4, x, ⟨r, h5, h6⟩, h7⟩ := aB cx f h
     rw [fI] at h7
     exact ⟨x, by simp only [h1, if_neg hgr, quietCall, hg, if_neg hact, h4, Option.bind_some, h5, h6, Option.map_some], h7⟩
   ·exact h.elim
 ·exact h.elim
def fR (r : Root) (K : Root → Prop) : Prop :=
 match r with
 | .sl d => K (.sl d)
 | .ex j => K (.ex j)
theorem fR_eq (r : Root) (K : Root → Prop) : fR r K = K r := by cases r <;> rfl
def fL : List Root → (List Root → Prop) → Prop
 | [], K => K []
 | r :: l, K => fR r fun r => fL l fun l => K (r :: l)
theorem zVr : ∀ (l : List Root) (K : List Root → Prop), fL l K = K l
 | [], K => rfl
 | r :: l, K => by simp only [fL, fR_eq, zVr l]
def eatW (A : StA) (o : Operand) (K : StA → Prop) : Prop :=
 match o with
 | .tmp d => if zB cx f d then K A else tT A d .undef K
 | _ => K A
theorem zM0 {A : StA} {o : Operand} {K : StA → Prop} (h : eatW cx f A o K) : ∃ A', eat cx f (den A) o = den A' ∧ K A' := by
 unfold eatW at h
 split at h
 ·next d =>
  split at h
  ·next hv => exact ⟨A, by simp only [eat, if_pos hv], h⟩
  ·next hv =>
   rw [kS] at h
   exact ⟨_, by simp only [eat, if_neg hv, gU], h⟩
 ·exact ⟨A, by unfold eat; split <;> first | rfl | (rename_i hh; exact absurd rfl (hh _)), h⟩
def zCc (A : StA) (r : Root) (p : List Nat) (i : Nat) (K : TU → StA → Prop) : Prop :=
 match p with
 | [] => (match at_ (den A) r [] i with
  | some (.t (.sl b 0 sz m ds)) => zJk A r i (.t (.dead b)) fun A => tF r [i] A fun A => K (.sl b 0 sz m ds) A
  | _ => False)
 | [j] => (match zA (den A) r with
  | some cs => (match cs[j]? with
   | some (.t (.sl a 0 sz n ds)) => if (A.env.all fun q => zJp r 1 (lk A.jk A.env q.1)) && (A.e.all fun q => vT r 1 q) && cQ A r then
     ∃ sz' m es, ds[i]? = some (.sl () 0 sz' m es) ∧ ∀ jk, fA ⟨(qG A r (cs.set j (.t (.sl a 0 sz n (ds.set i (.dead ())))))).env, jk, (qG A r (cs.set j (.t (.sl a 0 sz n (ds.set i (.dead ())))))).e⟩ (K (.sl () 0 sz' m es))
    else False
   | _ => False)
  | none => False)
 | _ => False
theorem zI8 {A : StA} {r : Root} {p : List Nat} {i : Nat} {K : TU → StA → Prop} (h : zCc A r p i K) : ∃ t A', q8 (den A) r p i = some (t, den A') ∧ K t A' := by
 unfold zCc at h
 split at h
 ·split at h
  ·next b sz m ds h1 =>
   obtain ⟨A1, h2, h3⟩ := pL h
   rw [bO] at h3
   refine ⟨_, _, ?_, h3⟩
   simp only [q8, h1, vD, h2, Option.map_some, List.nil_append, fD]
  ·exact h.elim
 ·next j =>
  split at h
  ·next cs hcs =>
   split at h
   ·next a sz n ds hj =>
    split at h
    ·next hck =>
     obtain ⟨sz', m, es, hi, hK⟩ := h
     simp only [Bool.and_eq_true] at hck
     obtain ⟨⟨ha, he⟩, hro⟩ := hck
     have hlt := (List.getElem?_eq_some_iff.1 hi).1
     have hr : ∀ d, r = .sl d → d ∈ A.env.map (·.1) := by
      rintro d rfl
      simp only [cQ, Bool.and_eq_true, List.any_eq_true, beq_iff_eq] at hro
      obtain ⟨⟨q, q1, q2⟩, _⟩ := hro
      exact List.mem_map.2 ⟨q, q1, q2⟩
     have hn : ∀ d, r = .sl d → w5 ((den A).s d) = true := by
      rintro d rfl
      simp only [cQ, Bool.and_eq_true] at hro
      exact hro.2
     have hd : bK (fun i => i ∈ A.env.map (·.1)) r 1 (den A) := by
      refine ⟨fun i hi => ?_, fun c hc => ?_⟩
      ·exact zR3 ha hi
      ·exact List.all_eq_true.1 he c hc
     have hd1 := hd.set (j := j) (x := .sl a 0 sz n (ds.set i (.dead ()))) hr hn hcs
     have hl := (Lk.mk_self (fun i => i ∈ A.env.map (·.1)) (zM (den A) r (cs.set j (.t (.sl a 0 sz n (ds.set i (.dead ()))))))).kill (q := [j, i]) (n := 1) (by simp) hd1
     have hK := hK (kill r [j, i] (zM (den A) r (cs.set j (.t (.sl a 0 sz n (ds.set i (.dead ()))))))).s
     rw [zVo] at hK
     refine ⟨_, _, ?_, hK⟩
     have hput : z7 (den A) r [j] i (.t (.dead ())) = some (zM (den A) r (cs.set j (.t (.sl a 0 sz n (ds.set i (.dead ())))))) := by
      simp only [z7, hcs, Option.bind_some, kU, hj, xJ, if_pos hlt, Option.map_some]
     have hat : at_ (den A) r [j] i = some (.t (.sl () 0 sz' m es)) := by
      simp only [at_, hcs, Option.bind_some, y9, hj, sub, Option.map_some, List.getElem?_map, hi]
     simp only [q8, hat, hput, Option.map_some, List.cons_append, List.nil_append, Option.some.injEq, Prod.mk.injEq, true_and]
     rw [dC] at hl ⊢
     obtain ⟨k1, k2⟩ := hl
     have hkeys : ∀ i', i' ∈ (qG A r (cs.set j (.t (.sl a 0 sz n (ds.set i (.dead ())))))).env.map (·.1) → i' ∈ A.env.map (·.1) := by
      intro i' hi'
      cases r with
      | sl d =>
       simp only [qG, StA.put, List.map_cons, List.mem_cons] at hi'
       rcases hi' with rfl | hi'
       ·exact hr _ rfl
       ·exact hi'
      | ex k => exact hi'
     revert k1 k2
     generalize kill r [j, i] (den (qG A r (cs.set j (.t (.sl a 0 sz n (ds.set i (.dead ()))))))) = T
     intro k1 k2
     cases T with
     | mk s e =>
     simp only [den] at k1 k2 ⊢
     rw [k2]
     congr 1
     funext i'
     by_cases hi' : i' ∈ (qG A r (cs.set j (.t (.sl a 0 sz n (ds.set i (.dead ())))))).env.map (·.1)
     ·rw [k1 i' (hkeys i' hi')]
      exact zK4 hi'
     ·rw [zBe hi']
    ·exact h.elim
   ·exact h.elim
  ·exact h.elim
 ·exact h.elim
def zPn : Nat → List CU → StA → (List CU → List Row → StA → Prop) → Prop
 | _, [], A, K => K [] [] A
 | k, c :: cs, A, K => match c with
  | .bor a r p i off sz n => zCc A r p i fun t A => zPn (k + 1) cs A fun ds rows A => K (.bor a (.ex k) [] 0 off sz n :: ds) (⟨t, r, p, i⟩ :: rows) A
  | .t x => if tV x then zPn k cs A fun ds rows A => K (.t x :: ds) rows A else False
  | _ => False
theorem eH : ∀ {cs : List CU} {k : Nat} {A : StA} {K : List CU → List Row → StA → Prop}, zPn k cs A K → ∃ ds rows A', xS k cs (den A) = some (ds, rows, den A') ∧ K ds rows A'
 | [], k, A, K, h => ⟨[], [], A, rfl, h⟩
 | c :: cs, k, A, K, h => by
  unfold zPn at h
  split at h
  ·next a r p i off sz n =>
   obtain ⟨t, A1, h1, h2⟩ := zI8 h
   obtain ⟨ds, rows, A2, h3, h4⟩ := eH h2
   exact ⟨_, _, A2, by simp only [xS, h1, Option.bind_some, h3, Option.map_some], h4⟩
  ·next x =>
   split at h
   ·next hs =>
    obtain ⟨ds, rows, A2, h3, h4⟩ := eH h
    exact ⟨_, _, A2, by simp only [xS, if_pos hs, h3, Option.map_some], h4⟩
   ·exact h.elim
  ·exact h.elim
def zBx (g : Nat) : Nat → Nat → List Operand → List Nat → StA → (List (Option XU) → List Row → StA → Prop) → Prop
 | _, _, [], _, A, K => K [] [] A
 | i, k, o :: os, ts, A, K =>
  if (cx.mov g).contains i then opW cx f A (ts.head?.getD 0) o fun x => (match x with
   | .c c => sX cx f A o fun A => wQ c A fun t A => zBx g (i + 1) k os ts.tail A fun ms rows A => fT (up t) fun t => K (some (.c (.t t)) :: ms) rows A
   | _ => False)
  else if (cx.plc g).contains i then opW cx f A (ts.head?.getD 0) o fun x => (match x with
   | .c c => eatW cx f A o fun A => zPn k [c] A fun ds rows A => zBx g (i + 1) (k + rows.length) os ts.tail A fun ms rows' A => K (some (.c (ds.head?.getD c)) :: ms) (rows ++ rows') A
   | .agg cs => eatW cx f A o fun A => zPn k cs A fun ds rows A => zBx g (i + 1) (k + rows.length) os ts.tail A fun ms rows' A => K (some (.agg ds) :: ms) (rows ++ rows') A
   | _ => False)
  else zBx g (i + 1) k os ts.tail A fun ms rows A => K (none :: ms) rows A
theorem nH {g : Nat} : ∀ {os : List Operand} {i k : Nat} {ts : List Nat} {A : StA} {K : List (Option XU) → List Row → StA → Prop}, zBx cx f g i k os ts A K → ∃ ms rows A', yM cx f g i k os ts (den A) = some (ms, rows, den A') ∧ K ms rows A'
 | [], i, k, ts, A, K, h => ⟨[], [], A, rfl, h⟩
 | o :: os, i, k, ts, A, K, h => by
  simp only [zBx] at h
  simp only [yM]
  split at h
  ·next hm =>
   rw [if_pos hm]
   obtain ⟨x, h1, h2⟩ := x0 h
   split at h2
   ·next c =>
    rw [wM] at h2
    obtain ⟨t, A1, h3, h4⟩ := zCh c h2
    obtain ⟨ms, rows, A2, h5, h6⟩ := nH h4
    rw [zDo] at h6
    exact ⟨_, _, A2, by simp only [h1, Option.bind_some, q7, h3, h5, Option.map_some], h6⟩
   ·exact h2.elim
  ·next hm =>
   rw [if_neg hm]
   split at h
   ·next hp =>
    rw [if_pos hp]
    obtain ⟨x, h1, h2⟩ := x0 h
    split at h2
    ·next c =>
     obtain ⟨A0, h0, h2⟩ := zM0 cx f h2
     obtain ⟨ds, rows, A1, h3, h4⟩ := eH h2
     obtain ⟨ms, rows', A2, h5, h6⟩ := nH h4
     exact ⟨_, _, A2, by simp only [h1, Option.bind_some, h0, h3, h5, Option.map_some], h6⟩
    ·next cs =>
     obtain ⟨A0, h0, h2⟩ := zM0 cx f h2
     obtain ⟨ds, rows, A1, h3, h4⟩ := eH h2
     obtain ⟨ms, rows', A2, h5, h6⟩ := nH h4
     exact ⟨_, _, A2, by simp only [h1, Option.bind_some, h0, h3, h5, Option.map_some], h6⟩
    ·exact h2.elim
   ·next hp =>
    rw [if_neg hp]
    obtain ⟨ms, rows, A2, h5, h6⟩ := nH h
    exact ⟨_, _, A2, by simp only [h5, Option.map_some], h6⟩
def zEp (A : StA) : List (Option XU) → List Operand → List Nat → (List (Option XU) → Prop) → Prop
 | m :: ms, o :: os, ts, K => (match m with
  | none => opW cx f A (ts.head?.getD 0) o fun x => zEp A ms os ts.tail fun xs => K (some x :: xs)
  | some _ => zEp A ms os ts.tail fun xs => K (none :: xs))
 | _, _, _, K => K []
theorem zB6 {A : StA} : ∀ {ms : List (Option XU)} {os : List Operand} {ts : List Nat} {K : List (Option XU) → Prop}, zEp cx f A ms os ts K → ∃ xs, xH cx f (den A) ms os ts = some xs ∧ K xs
 | [], os, ts, K, h => ⟨[], by cases os <;> rfl, by cases os <;> exact h⟩
 | m :: ms, [], ts, K, h => ⟨[], by cases m <;> rfl, h⟩
 | m :: ms, o :: os, ts, K, h => by
  cases m with
  | none =>
   simp only [zEp] at h
   obtain ⟨x, h1, h2⟩ := x0 h
   obtain ⟨xs, h3, h4⟩ := zB6 h2
   exact ⟨_, by simp only [xH, h1, Option.bind_some, h3, Option.map_some], h4⟩
  | some y =>
   simp only [zEp] at h
   obtain ⟨xs, h3, h4⟩ := zB6 h
   exact ⟨_, by simp only [xH, h3, Option.map_some], h4⟩
def zMk (A : StA) (L : List Root) (k : Nat) (c : CU) (K : CU → Prop) : Prop :=
 match c with
 | .ptr a r p off => (match yZ L r k with
  | some j => K (.ptr a (.ex j) p off)
  | none => False)
 | .fn g caps => if (zN true caps).all (L.contains ·) then fCs (wE L k caps) fun cs => K (.fn g cs) else False
 | .bor a r p i off sz n => (match yZ L r k with
  | some j => K (.bor a (.ex j) p i off sz n)
  | none => gN A (.bor a r p i off sz n) K)
 | c => if (yB true c).any (L.contains ·) then False else gN A c K
theorem zG0 {A : StA} {L : List Root} {k : Nat} {c : CU} {K : CU → Prop} (h : zMk A L k c K) : ∃ d, vW (den A) L k c = some d ∧ K d := by
 unfold zMk at h
 split at h
 ·next a r p off =>
  split at h
  ·next j hj => exact ⟨_, by simp only [vW, hj, Option.isSome_some, if_true, inC], h⟩
  ·exact h.elim
 ·next g caps =>
  split at h
  ·next hc =>
   rw [rK] at h
   exact ⟨_, by simp only [vW, if_pos hc, inC], h⟩
  ·exact h.elim
 ·next a r p i off sz n =>
  split at h
  ·next j hj => exact ⟨_, by simp only [vW, hj], h⟩
  ·next hj =>
   obtain ⟨d, h1, h2⟩ := pP _ h
   exact ⟨d, by simp only [vW, hj, h1], h2⟩
 ·next k1 k2 k3 =>
  split at h
  ·exact h.elim
  ·next hc =>
   obtain ⟨d, h1, h2⟩ := pP _ h
   refine ⟨d, ?_, h2⟩
   unfold vW
   split
   ·exact absurd rfl (k1 _ _ _ _)
   ·exact absurd rfl (k2 _ _)
   ·exact absurd rfl (k3 _ _ _ _ _ _ _)
   ·rw [if_neg hc]; exact h1
def zE9 (A : StA) (L : List Root) (k : Nat) : List CU → (List CU → Prop) → Prop
 | [], K => K []
 | c :: cs, K => zMk A L k c fun c => zE9 A L k cs fun cs => K (c :: cs)
theorem aN {A : StA} {L : List Root} {k : Nat} : ∀ {cs : List CU} {K : List CU → Prop}, zE9 A L k cs K → ∃ ds, bJ (den A) L k cs = some ds ∧ K ds
 | [], K, h => ⟨[], rfl, h⟩
 | c :: cs, K, h => by
  obtain ⟨d, h1, h2⟩ := zG0 h
  obtain ⟨ds, h3, h4⟩ := aN h2
  exact ⟨_, by simp only [bJ, h1, Option.bind_some, h3, Option.map_some], h4⟩
def zMm (A : StA) (L : List Root) (k : Nat) (x : XU) (K : XU → Prop) : Prop :=
 match x with
 | .c x => zMk A L k x fun c => K (.c c)
 | .agg cs => zE9 A L k cs fun cs => K (.agg cs)
 | _ => False
theorem zQr {A : StA} {L : List Root} {k : Nat} {x : XU} {K : XU → Prop} (h : zMm A L k x K) : ∃ y, rF (den A) L k x = some y ∧ K y := by
 cases x with
 | c x => simp only [zMm] at h; obtain ⟨d, h1, h2⟩ := zG0 h; exact ⟨_, by simp only [rF, h1, Option.map_some], h2⟩
 | agg cs => simp only [zMm] at h; obtain ⟨d, h1, h2⟩ := aN h; exact ⟨_, by simp only [rF, h1, Option.map_some], h2⟩
 | _ => exact h.elim
def dX (A : StA) (L : List Root) (k : Nat) : List (Option XU) → List (Option XU) → (List XU → Prop) → Prop
 | m :: ms, x :: xs, K => (match m with
  | some y => dX A L k ms xs fun ys => K (y :: ys)
  | none => (match x with
   | some x => zMm A L k x fun y => dX A L k ms xs fun ys => K (y :: ys)
   | none => K []))
 | _, _, K => K []
theorem mP {A : StA} {L : List Root} {k : Nat} : ∀ {ms xs : List (Option XU)} {K : List XU → Prop}, dX A L k ms xs K → ∃ ys, qC (den A) L k ms xs = some ys ∧ K ys
 | [], xs, K, h => ⟨[], by cases xs <;> rfl, by cases xs <;> exact h⟩
 | m :: ms, [], K, h => ⟨[], by cases m <;> rfl, h⟩
 | m :: ms, x :: xs, K, h => by
  cases m with
  | some y =>
   simp only [dX] at h
   obtain ⟨ys, h1, h2⟩ := mP h
   exact ⟨_, by simp only [qC, h1, Option.map_some], h2⟩
  | none =>
   cases x with
   | none => exact ⟨[], rfl, h⟩
   | some x =>
    simp only [dX] at h
    obtain ⟨y, h1, h2⟩ := zQr h
    obtain ⟨ys, h3, h4⟩ := mP h2
    exact ⟨_, by simp only [qC, h1, Option.bind_some, h3, Option.map_some], h4⟩
def zGa (A : StA) : List Root → (List (List CU) → Prop) → Prop
 | [], K => K []
 | r :: L, K => match zA (den A) r with
  | some cs => fCs cs fun cs => zGa A L fun bs => K (cs :: bs)
  | none => False
theorem zEr {A : StA} : ∀ {L : List Root} {K : List (List CU) → Prop}, zGa A L K → ∃ bs, L.mapM (zA (den A)) = some bs ∧ K bs
 | [], K, h => ⟨[], rfl, h⟩
 | r :: L, K, h => by
  simp only [zGa] at h
  split at h
  ·next cs hcs =>
   rw [rK] at h
   obtain ⟨bs, h1, h2⟩ := zEr h
   exact ⟨_, by simp only [List.mapM_cons, hcs, h1]; rfl, h2⟩
  ·exact h.elim
def zJ8 (g : Nat) (xs : List XU) (es : List (List CU)) (x : XU) (ext : List (List CU)) : Prop := ∃ r, call g xs es = some r ∧ kZ r.1 = some x ∧ r.2.mapM xQ = some ext
def zFa (L : List Root) (k : Nat) (es : List (List CU)) : List (Nat × XU) → (List (Nat × XU) → Prop) → Prop
 | [], K => K []
 | p :: l, K => match p with
  | (d, x) => fX (dZ L k es d x) fun x => zFa L k es l fun l => K ((d, x) :: l)
theorem zC9 (L : List Root) (k : Nat) (es : List (List CU)) : ∀ (l : List (Nat × XU)) (K : List (Nat × XU) → Prop), zFa L k es l K = K (l.map fun p => (p.1, dZ L k es p.1 p.2))
 | [], K => rfl
 | (d, x) :: l, K => by simp only [zFa, fI, zC9 L k es l, List.map_cons]
def zQt (L : List Root) (k : Nat) (es : List (List CU)) (A : StA) (K : StA → Prop) : Prop :=
 match A with
 | ⟨env, jk, e⟩ => zFa L k es env fun env => fEs (wO (zC8 L k es) 0 e) fun e => K ⟨env, fun d => dZ L k es d (jk d), e⟩
theorem zR4 {jk : Nat → XU} (h : Nat → XU → XU) : ∀ (l : List (Nat × XU)) (i : Nat), lk (fun i => h i (jk i)) (l.map fun p => (p.1, h p.1 p.2)) i = h i (lk jk l i)
 | [], i => rfl
 | (d, x) :: l, i => by
  simp only [List.map_cons, lk]
  split
  ·next e => rw [e]
  ·exact zR4 h l i
theorem zQu {L : List Root} {k : Nat} {es : List (List CU)} {A : StA} {K : StA → Prop} (h : zQt L k es A K) : ∃ A', kY L k es (den A) = den A' ∧ K A' := by
 cases A with
 | mk env jk e =>
  simp only [zQt, zC9, rL] at h
  refine ⟨_, ?_, h⟩
  simp only [kY, den]
  congr 1
  funext d
  exact (zR4 (dZ L k es) env d).symm
def zAl (w : Row) (e : List CU) (A : StA) (K : StA → Prop) : Prop :=
 match e with
 | [.t (.sl b 0 sz m ds)] => (match w.p with
  | [] => (match at_ (den A) w.r [] w.i with
   | some (.t (.dead _)) => zJk A w.r w.i (.t (.sl b 0 sz m ds)) K
   | _ => False)
  | [j] => (match zA (den A) w.r with
   | some cs => (match cs[j]? with
    | some (.t (.sl a 0 sz' n ds')) => ds'[w.i]? = some (.dead ()) ∧ lB A w.r (cs.set j (.t (.sl a 0 sz' n (ds'.set w.i (.sl b 0 sz m ds))))) K
    | _ => False)
   | none => False)
  | _ => False)
 | [.t (.dead _)] => K A
 | _ => False
theorem zHo {w : Row} {e : List CU} {A : StA} {K : StA → Prop} (h : zAl w e A K) : ∃ A', kM (den A) w e = some (den A') ∧ K A' := by
 unfold zAl at h
 split at h
 ·next b sz m ds =>
  split at h
  ·next hp =>
   split at h
   ·next v hat =>
    obtain ⟨A1, h1, h2⟩ := pL h
    exact ⟨A1, by simp only [kM, hp, hat, vD, h1, Option.map_some], h2⟩
   ·exact h.elim
  ·next j hp =>
   split at h
   ·next cs hcs =>
    split at h
    ·next a sz' n ds' hj =>
     obtain ⟨h1, h2⟩ := h
     rw [nP] at h2
     have hlt := (List.getElem?_eq_some_iff.1 h1).1
     refine ⟨_, ?_, h2⟩
     have hat : at_ (den A) w.r [j] w.i = some (.t (.dead ())) := by
      simp only [at_, hcs, Option.bind_some, y9, hj, sub, Option.map_some, List.getElem?_map, h1]
     simp only [kM, hp, hat, z7, hcs, Option.bind_some, kU, hj, xJ, if_pos hlt, Option.map_some, dC]
    ·exact h.elim
   ·exact h.elim
  ·exact h.elim
 ·exact ⟨A, rfl, h⟩
 ·exact h.elim
def aU : List Row → List (List CU) → StA → (StA → Prop) → Prop
 | [], _, A, K => K A
 | w :: ws, e :: es, A, K => zAl w e A fun A => aU ws es A K
 | _ :: _, [], _, _ => False
theorem s6 : ∀ {ws : List Row} {es : List (List CU)} {A : StA} {K : StA → Prop}, aU ws es A K → ∃ A', x5 ws es (den A) = some (den A') ∧ K A'
 | [], es, A, K, h => ⟨A, by cases es <;> rfl, by cases es <;> exact h⟩
 | w :: ws, [], A, K, h => h.elim
 | w :: ws, e :: es, A, K, h => by
  obtain ⟨A1, h1, h2⟩ := zHo h
  obtain ⟨A2, h3, h4⟩ := s6 h2
  exact ⟨A2, by simp only [x5, h1, Option.bind_some, h3], h4⟩
def zE5 (A : StA) (fo : Operand) (args : List Operand) (ts : List Nat) (K : XU → StA → Prop) : Prop :=
 match opv cx f (den A) 0 fo with
 | some (.c (.fn g _)) => zBx cx f g 0 0 args ts A fun ms rows A => (match opv cx f (den A) 0 fo with
  | some (.c (.fn g' caps)) => zEp cx f A ms args ts fun xs => fL (jH cx f (den A) xs caps) fun L => dX A L rows.length ms xs fun ys => zE9 A L rows.length caps fun cs => zGa A L fun bs =>
    if g' == g && zBm L && L.all (vS cx f (den A)) && apart rows && rows.all (fun w => !L.contains w.r) then
     fXs (ys ++ cs.map .c) fun zs => fEs (rows.map (fun w => [.t (up w.t)]) ++ bs.map (wE L rows.length)) fun es0 =>
      ∃ x ext, zJ8 call g zs es0 x ext ∧ (if (ext.drop rows.length).map List.length = bs.map List.length ∧ ext.length = rows.length + bs.length then
       zQt L rows.length (ext.drop rows.length) A fun A => aU rows (ext.take rows.length) A fun A => fX (kQ L rows.length x) fun x => K x A
      else False)
    else False
  | _ => False)
 | _ => False
theorem zJ9 {A : StA} {fo : Operand} {args : List Operand} {ts : List Nat} {K : XU → StA → Prop} (h : zE5 cx f call A fo args ts K) : ∃ x A', activeCall cx f call (den A) fo args ts = some (x, den A') ∧ K x A' := by
 unfold zE5 at h
 split at h
 ·next g caps0 hg0 =>
  obtain ⟨ms, rows, A1, h1, h2⟩ := nH cx f h
  split at h2
  ·next g' caps hg =>
   obtain ⟨xs, h3, h4⟩ := zB6 cx f h2
   rw [zVr] at h4
   obtain ⟨ys, h5, h6⟩ := mP h4
   obtain ⟨cs, h7, h8⟩ := aN h6
   obtain ⟨bs, h9, h10⟩ := zEr h8
   split at h10
   ·next hc =>
    simp only [Bool.and_eq_true, beq_iff_eq] at hc
    obtain ⟨⟨⟨⟨c1, c2⟩, c3⟩, c4⟩, c5⟩ := hc
    rw [zKs, rL] at h10
    obtain ⟨x, ext, ⟨r, r1, r2, r3⟩, h11⟩ := h10
    split at h11
    ·next hl =>
     obtain ⟨A2, h12, h13⟩ := zQu h11
     obtain ⟨A3, h14, h15⟩ := s6 h13
     rw [fI] at h15
     refine ⟨_, A3, ?_, h15⟩
     simp only [activeCall, hg0, h1, Option.bind_some, hg, h3, h5, h7, h9]
     rw [if_pos ⟨c1, c2, c3, c4, c5⟩]
     simp only [r1, Option.bind_some, r2, r3]
     rw [if_pos hl]
     simp only [h12, h14, Option.map_some]
    ·exact h11.elim
   ·exact h10.elim
  ·exact h2.elim
 ·exact h.elim
end
end Go.Proofs.YtlkjnlfddadlmaaGreatDoor.V
namespace Go.Proofs.YtlkjnlfddadlmaaGreatDoor.V
section
variable (cx : Ctx) (f : Nat) (call : zX)
def knO (kn : List Nat) : Operand → Bool
 | .const (.bool _) => true
 | .tmp d => kn.contains d
 | _ => false
def rdC (r : Root) (p : List Nat) : Nat → List TU → List CU
 | _, [] => []
 | off, t :: ts => rdc r p off (.t t) :: rdC r p (off + 1) ts
theorem zBf {S : SU} {r : Root} {p : List Nat} {es : List TU} (h : (zA S r).bind (y9 · p) = some (es.map .t)) : ∀ {ts : List TU} {off : Nat}, (es.drop off).take ts.length = ts → jT S r p off ts.length = some (rdC r p off ts)
 | [], off, _ => rfl
 | t :: ts, off, ht => by
  have hl : off < es.length := by
   have := congrArg List.length ht
   simp only [List.length_take, List.length_drop, List.length_cons] at this
   omega
  rw [List.drop_eq_getElem_cons hl] at ht
  simp only [List.length_cons, List.take_succ_cons, List.cons.injEq] at ht
  obtain ⟨h1, h2⟩ := ht
  have e : at_ S r p off = some (.t t) := by
   simp only [at_, h, Option.bind_some, List.getElem?_map, List.getElem?_eq_getElem hl, h1, Option.map_some]
  simp only [List.length_cons, jT, e, Option.bind_some, zBf h h2, Option.map_some, rdC]
def zNk (A : StA) (e : Nat) (x : XU) (K : XU → Prop) : Prop :=
 match x with
 | .c (.ptr _ r p off) => if (cx.ty e).ok then tyK (cx.ty e) fun sz zs _ => (match p with
   | [] => (match (jT (den A) r [] off sz).bind (mkX cx e) with
    | some x => fX x K
    | none => False)
   | j :: p => zG4 A r (j :: p) (fun _ => False) fun es => zGe zs fun ts => ((es.drop off).take sz = ts ∧ ts.length = sz) ∧
     (match mkX cx e (rdC r (j :: p) off ts) with
     | some x => fX x K
     | none => False))
  else False
 | .c (.rptr _ cs) => if (cx.ty e).ok then tyK (cx.ty e) fun sz zs _ => zGe zs fun ts => (cs.take sz = ts ∧ ts.length = sz) ∧
   (match mkX cx e (ts.map .t) with
   | some x => fX x K
   | none => False) else False
 | _ => False
def tH (S : SU) (e : Nat) : Option XU → Option XU
 | some (.c (.ptr _ r p off)) => if (cx.ty e).ok then (jT S r p off (cx.ty e).sz).bind (mkX cx e) else none
 | some (.c (.rptr _ cs)) => if (cx.ty e).ok ∧ (cx.ty e).sz ≤ cs.length then mkX cx e ((cs.take (cx.ty e).sz).map .t) else none
 | _ => none
theorem zH6 {A : StA} {e : Nat} {x : XU} {K : XU → Prop} (h : zNk cx A e x K) : ∃ y, tH cx (den A) e (some x) = some y ∧ K y := by
 unfold zNk at h
 split at h
 ·next a r p off =>
  split at h
  ·next hok =>
   rw [zL5] at h
   cases p with
   | nil =>
    simp only at h
    split at h
    ·next y hy => rw [fI] at h; exact ⟨y, by simp only [tH, if_pos hok, hy], h⟩
    ·exact h.elim
   | cons j p =>
    simp only at h
    rcases eZ h with ⟨h1, _⟩ | ⟨es, h1, h2⟩
    ·cases h1
    ·obtain ⟨ts, ⟨h3, h4⟩, h5⟩ := cX h2
     split at h5
     ·next y hy =>
      rw [fI] at h5
      rw [← h4] at h3
      have := zBf h1 h3
      rw [h4] at this
      exact ⟨y, by simp only [tH, if_pos hok, this, Option.bind_some, hy], h5⟩
     ·exact h5.elim
  ·exact h.elim
 ·next a cs =>
  split at h
  ·next hok =>
   rw [zL5] at h
   obtain ⟨ts, ⟨h3, h4⟩, h5⟩ := cX h
   split at h5
   ·next y hy =>
    rw [fI] at h5
    have hl : (cx.ty e).sz ≤ cs.length := by
     have := congrArg List.length h3
     rw [h4, List.length_take] at this
     omega
    exact ⟨y, by simp only [tH, if_pos (And.intro hok hl), h3, hy], h5⟩
   ·exact h5.elim
  ·exact h.elim
 ·exact h.elim
def gd (o : Option Int) (d : Int) (K : Int → Prop) : Prop :=
 match o with
 | some x => K x
 | none => K d
theorem zRn (o : Option Int) (d : Int) (K : Int → Prop) : gd o d K = K (o.getD d) := by cases o <;> rfl
def zLq (x : CU) (lo hi : Option Int) (K : CU → Prop) : Prop :=
 match x with
 | .t (.str s) => gd lo 0 fun l => gd hi s.length fun h => (0 ≤ l ∧ l ≤ h ∧ h ≤ s.length) ∧ K (.t (.str ((s.drop l.toNat).take (h - l).toNat)))
 | .bor a r p i off sz n => gd lo 0 fun l => gd hi n fun h => (0 ≤ l ∧ l ≤ h ∧ h ≤ n) ∧ K (.bor a r p i (off + l.toNat * sz) sz (h - l).toNat)
 | .t (.sl a (tag + 1) sz n cs) => gd lo 0 fun l => gd hi n fun h => (0 ≤ l ∧ l ≤ h ∧ h ≤ n) ∧ K (.t (.sl a (tag + 1) sz (h - l).toNat ((cs.drop (l.toNat * sz)).take ((h - l).toNat * sz))))
 | _ => False
theorem zP1 {x : CU} {lo hi : Option Int} {K : CU → Prop} (h : zLq x lo hi K) : ∃ y, vU x lo hi = some y ∧ K y := by
 unfold zLq at h
 split at h
 ·simp only [zRn] at h; exact ⟨_, by simp only [vU, if_pos h.1], h.2⟩
 ·simp only [zRn] at h; exact ⟨_, by simp only [vU, if_pos h.1], h.2⟩
 ·simp only [zRn] at h; exact ⟨_, by simp only [vU, if_pos h.1], h.2⟩
 ·exact h.elim
def zKf (kd : Nat) (kc : Bool) (op : BinOp) (a b : CU) (K : TU → Prop) : Prop :=
 match op with
 | .quo => (match a, b with
  | .t (.int k x), .t (.int k' y) => if k = k' then y ≠ 0 ∧ K (.int k (k.wrap (x.tdiv y))) else False
  | _, _ => False)
 | .rem => (match a, b with
  | .t (.int k x), .t (.int k' y) => if k = k' then y ≠ 0 ∧ K (.int k (x.tmod y)) else False
  | _, _ => False)
 | .shl => (match a, b with
  | .t (.int k x), .t (.int _ y) => 0 ≤ y ∧ K (.int k (k.wrap (x * 2 ^ (min y.toNat k.bits))))
  | _, _ => False)
 | .shr => (match a, b with
  | .t (.int k x), .t (.int _ y) => 0 ≤ y ∧ K (.int k (x.fdiv (2 ^ (min y.toNat k.bits))))
  | _, _ => False)
 | .add => (match a, b with
  | .t (.str x), .t (.str y) => x.length + y.length ≤ maxLen ∧ K (.str (x ++ y))
  | a, b => match rG kd kc .add a b with
   | some z => fT z K
   | none => False)
 | op => match rG kd kc op a b with
  | some z => fT z K
  | none => False
theorem zT2 {kd : Nat} {kc : Bool} {op : BinOp} {a b : CU} {K : TU → Prop} (h : zKf kd kc op a b K) : ∃ z, rG kd kc op a b = some z ∧ K z := by
 have gen : ∀ {op : BinOp}, (match rG kd kc op a b with
  | some z => fT z K
  | none => False) → ∃ z, rG kd kc op a b = some z ∧ K z := by
  intro op h
  split at h
  ·next z hz => rw [zDo] at h; exact ⟨z, hz, h⟩
  ·exact h.elim
 cases op with
 | quo =>
  simp only [zKf] at h
  split at h
  ·split at h
   ·next hk => subst hk; exact ⟨_, by simp only [rG, if_true, zA1, if_neg h.1], h.2⟩
   ·exact h.elim
  ·exact h.elim
 | rem =>
  simp only [zKf] at h
  split at h
  ·split at h
   ·next hk => subst hk; exact ⟨_, by simp only [rG, if_true, zA1, if_neg h.1], h.2⟩
   ·exact h.elim
  ·exact h.elim
 | shl =>
  simp only [zKf] at h
  split at h
  ·exact ⟨_, by simp only [rG, zJo, if_neg (Int.not_lt.2 h.1)], h.2⟩
  ·exact h.elim
 | shr =>
  simp only [zKf] at h
  split at h
  ·exact ⟨_, by simp only [rG, zJo, if_neg (Int.not_lt.2 h.1)], h.2⟩
  ·exact h.elim
 | add =>
  simp only [zKf] at h
  split at h
  ·exact ⟨_, by simp only [rG, zEx, if_pos h.1], h.2⟩
  ·exact gen h
 | _ => exact gen h
def zQ1 (so : Bool) (ks kd : Nat) (A : StA) (x : CU) (K : CU → Prop) : Prop :=
 match x with
 | .t (.int k n) => (match mH so ks kd (den A) (.t (.int k n)) with
  | some y => fC y K
  | none => False)
 | .t (.str s) => if so ∧ kd = 3 then K (.t (.str s)) else False
 | .t (.sl a g sz n cs) => if kd = 3 ∧ ks = 4 ∧ sz = 1 then ∃ bs, vL cs = some bs ∧ K (.t (.str bs)) else False
 | .bor a r p i off sz n => if kd = 3 ∧ ks = 4 ∧ sz = 1 then eE A r p i off (n * sz) fun cs => ∃ bs, vL cs = some bs ∧ K (.t (.str bs)) else False
 | _ => False
theorem zQ2 {so : Bool} {ks kd : Nat} {A : StA} {x : CU} {K : CU → Prop} (h : zQ1 so ks kd A x K) : ∃ y, mH so ks kd (den A) x = some y ∧ K y := by
 unfold zQ1 at h
 split at h
 ·split at h
  ·next y hy => rw [oM] at h; exact ⟨y, hy, h⟩
  ·exact h.elim
 ·split at h
  ·next hc => exact ⟨_, by simp only [mH, if_pos hc], h⟩
  ·exact h.elim
 ·split at h
  ·next hc =>
   obtain ⟨h1, h2, h3⟩ := hc
   subst h3
   obtain ⟨bs, h4, h5⟩ := h
   exact ⟨_, by simp only [mH, h1, h2, and_self, if_true, uC, Option.bind_some, h4, Option.map_some], h5⟩
  ·exact h.elim
 ·split at h
  ·next hc =>
   obtain ⟨h1, h2, h3⟩ := hc
   subst h3
   obtain ⟨cs, h6, bs, h4, h5⟩ := rS h
   exact ⟨_, by simp only [mH, h1, h2, and_self, if_true, uC, h6, Option.map_some, Option.bind_some, h4], h5⟩
  ·exact h.elim
 ·exact h.elim
def zKz (A : StA) (o : Operand) (K : Int → Prop) : Prop :=
 match opv cx f (den A) 0 o with
 | some (.c (.t (.int _ n))) => K n
 | _ => False
theorem tC {A : StA} {o : Operand} {K : Int → Prop} (h : zKz cx f A o K) : ∃ n, dE (opv cx f (den A) 0 o) = some n ∧ K n := by
 unfold zKz at h
 split at h
 ·next hx => exact ⟨_, by rw [hx]; rfl, h⟩
 ·exact h.elim
def zSf (A : StA) (o : Option Operand) (K : Option Int → Prop) : Prop :=
 match o with
 | none => K none
 | some o => zKz cx f A o fun n => K (some n)
theorem zIk {A : StA} {o : Option Operand} {K : Option Int → Prop} (h : zSf cx f A o K) : ∃ n, dN cx f (den A) o = some n ∧ K n := by
 cases o with
 | none => exact ⟨_, rfl, h⟩
 | some o =>
  obtain ⟨n, h1, h2⟩ := tC cx f h
  exact ⟨_, by simp only [dN, h1, Option.map_some], h2⟩
theorem fF {A : StA} {d : Nat} {x : XU} (h : lk A.jk A.env d = x) : den (A.put d x) = den A := by
 rw [← gU]
 have e : (den A).s d = lk A.jk A.env d := rfl
 have : upd (den A).s d x = (den A).s := by
  funext i
  simp only [upd]
  split
  ·next hi => rw [hi, e, h]
  ·rfl
 rw [this]
def zMs (kn : List Nat) (A : StA) (o : Operand) (K : Bool → StA → List Nat → Prop) : Prop :=
 match o with
 | .tmp d => (match lk A.jk A.env d with
  | .c (.t (.bool b)) => if kn.contains d then (match b with
    | true => K true A kn
    | false => K false A kn) else (b = true → tT A d (.c (.t (.bool true))) fun A => K true A (d :: kn)) ∧ (b = false → tT A d (.c (.t (.bool false))) fun A => K false A (d :: kn))
  | _ => False)
 | .const (.bool true) => K true A kn
 | .const (.bool false) => K false A kn
 | _ => False
theorem zG1 {kn : List Nat} {A : StA} {t : Nat} {o : Operand} {K : Bool → StA → List Nat → Prop} (h : zMs kn A o K) : ∃ b A' kn', v1 (opv cx f (den A) t o) = some b ∧ den A' = den A ∧ K b A' kn' := by
 unfold zMs at h
 split at h
 ·next d =>
  split at h
  ·next b hb =>
   have e : (den A).s d = lk A.jk A.env d := rfl
   have hv : v1 (opv cx f (den A) t (.tmp d)) = some b := by
    simp only [opv, e, hb, rdS]
    split <;> rfl
   split at h
   ·exact ⟨b, A, kn, hv, rfl, by cases b <;> exact h⟩
   ·cases b
    ·have h := h.2 rfl
     rw [kS] at h
     exact ⟨false, _, _, hv, fF hb, h⟩
    ·have h := h.1 rfl
     rw [kS] at h
     exact ⟨true, _, _, hv, fF hb, h⟩
  ·exact h.elim
 ·exact ⟨true, A, kn, rfl, rfl, h⟩
 ·exact ⟨false, A, kn, rfl, rfl, h⟩
 ·exact h.elim
def eT (place : Nat → Option (Nat × Nat)) : List (Nat × Operand) → List CU → StA → (List CU → StA → Prop) → Prop
 | [], cells, A, K => K cells A
 | q :: rest, cells, A, K => match q with
  | (i, o) => match place i with
   | some (off, t) => opW cx f A t o fun x => (match jN x with
    | some cs => if cs.length = (cx.ty t).sz ∧ off + cs.length ≤ cells.length then sX cx f A o fun A => fCs (zHn cells off cs) fun cells => eT place rest cells A K else False
    | none => False)
   | none => False
theorem aO {place : Nat → Option (Nat × Nat)} : ∀ {ps : List (Nat × Operand)} {cells : List CU} {A : StA} {K : List CU → StA → Prop}, eT cx f place ps cells A K → ∃ cs A', jU cx f place ps cells (den A) = some (cs, den A') ∧ K cs A'
 | [], cells, A, K, h => ⟨cells, A, rfl, h⟩
 | (i, o) :: ps, cells, A, K, h => by
  simp only [eT] at h
  split at h
  ·next off t hp =>
   obtain ⟨x, h1, h2⟩ := x0 h
   split at h2
   ·next cs hcs =>
    split at h2
    ·next hc =>
     rw [wM, rK] at h2
     obtain ⟨ds, A', h3, h4⟩ := aO h2
     exact ⟨ds, A', by simp only [jU, hp, Option.bind_some, h1, hcs, if_pos hc, q7, h3], h4⟩
    ·exact h2.elim
   ·exact h2.elim
  ·exact h.elim
def qW (A : StA) (kn : List Nat) (t : Nat) (K : XU → StA → Bool → Prop) : Op → Prop
 | .move x => opW cx f A t x fun y => sX cx f A x fun A => K y A (knO kn x)
 | .pick c a b => zMs kn A c fun v A kn => (match v with
  | true => opW cx f A t a fun y => sX cx f A a fun A => K y A (knO kn a)
  | false => opW cx f A t b fun y => sX cx f A b fun A => K y A (knO kn b))
 | .load e a => opW cx f A 0 a fun x => zNk cx A e x fun y => K y A false
 | .indexAddr e x i => (match (cx.ty e).el with
  | some el => opW cx f A e x fun y => zKz cx f A i fun k => (match y with
   | .c (.bor _ r p j off sz n) => if (cx.ty e).ok = true ∧ sz = (cx.ty el).sz ∧ (cx.ty el).ok = true then (0 ≤ k ∧ k < n) ∧ K (.c (.ptr () r (p ++ [j]) (off + k.toNat * sz))) A false else False
   | .c (.t (.sl _ (_ + 1) sz n cs)) => if (cx.ty e).ok = true ∧ sz = (cx.ty el).sz ∧ (cx.ty el).ok = true then (0 ≤ k ∧ k < n) ∧ K (.c (.rptr () (cs.drop (k.toNat * sz)))) A false else False
   | _ => False)
  | none => False)
 | .index e x i => opW cx f A 0 x fun y => zKz cx f A i fun k => (match y with
  | .c (.t (.str s)) => if jC cx e = 3 then (0 ≤ k ∧ k < s.length) ∧ K (.c (.t (zDc (s.getD k.toNat 0)))) A false else False
  | _ => False)
 | .binOp op xt x y yt => opW cx f A xt x fun a => opW cx f A yt y fun b => (match a, b with
  | .c a, .c b => zKf (jC cx xt) (wF x || wF y) op a b fun z => K (.c (.t z)) A false
  | _, _ => False)
 | .unOp op xt x => opW cx f A xt x fun a => (match a with
  | .c a => (match unV op a with
   | some z => fT z fun z => K (.c (.t z)) A (knO kn x)
   | none => False)
  | _ => False)
 | .convert src dst x => opW cx f A src x fun a => (match a with
  | .c a => zQ1 (cx.ty src).ok (jC cx src) (jC cx dst) A a fun z => K (.c z) A false
  | _ => False)
 | .slice e x lo hi none => opW cx f A e x fun y => zSf cx f A lo fun l => zSf cx f A hi fun h => (match y with
  | .c y => if aA cx e y then zLq y l h fun z => K (.c z) A false else False
  | _ => False)
 | .makeSlice e l c => (match (cx.ty e).el with
  | some el => zKz cx f A l fun n => zKz cx f A c fun m => if (cx.ty e).ok = true ∧ (cx.ty el).ok = true ∧ 0 < (cx.ty el).sz then tyK (cx.ty el) fun sz zs bytes =>
    (0 ≤ n ∧ n ≤ m ∧ m * bytes ≤ 140737488355328 ∧ m ≤ maxLen) ∧ (match mQ zs with
     | some zs => fTs zs fun zs => K (.c (.t (.sl () 0 sz n.toNat (dA n.toNat zs)))) A false
     | none => False) else False
  | none => False)
 | .call c => zMt cx f call A t c fun x => K x A false
 | .box e x => opW cx f A e x fun y => (match jN y with
  | some cs => if (cx.ty e).ok = true ∧ cs.length = (cx.ty e).sz then sX cx f A x fun A => K (.box () cs) A false else False
  | none => False)
 | .fieldAddr e x i => (match (cx.ty e).fs[i]? with
  | some (off, ft) => opW cx f A 0 x fun y => (match y with
   | .c (.ptr a r p o) => if (cx.ty e).ok ∧ (cx.ty ft).ok ∧ 0 < (cx.ty ft).sz then K (.c (.ptr a r p (o + off))) A false else False
   | .c (.rptr a cs) => if (cx.ty e).ok ∧ (cx.ty ft).ok ∧ 0 < (cx.ty ft).sz then off ≤ cs.length ∧ K (.c (.rptr a (cs.drop off))) A false else False
   | _ => False)
  | none => False)
 | .field e x i => (match (cx.ty e).fs[i]? with
  | some (off, ft) => opW cx f A 0 x fun y => (match y with
   | .agg cs => if (cx.ty e).ok ∧ (cx.ty ft).ok ∧ off + (cx.ty ft).sz ≤ cs.length then (match mkX cx ft ((cs.drop off).take (cx.ty ft).sz) with
     | some y => fX y fun y => sX cx f A x fun A => K y A false
     | none => False) else False
   | _ => False)
  | none => False)
 | .build e ps => if (cx.ty e).ok ∧ (cx.ty e).agg ∧ (cx.ty e).fs ≠ [] ∧ ((cx.ty e).fs.all fun q => (cx.ty q.2).ok) then eT cx f (fun i => (cx.ty e).fs[i]?) ps.toList (cx.ty e).zs A fun cs A => K (.agg cs) A false else False
 | .buildSlice e len ps => (match (cx.ty e).el with
  | some el => if (cx.ty el).ok ∧ (cx.ty e).ok ∧ len * (cx.ty el).sz ≤ 16777216 then eT cx f (fun i => if i < len then some (i * (cx.ty el).sz, el) else none) ps.toList (dA len (cx.ty el).zs) A fun cs A => fC (zR5 (cx.ty el).sz len cs) fun c => K (.c c) A false else False
  | none => False)
 | op => (match mI cx f call A t op with
  | some (x, _) => fX x fun x => K x A false
  | none => False)
theorem zVw {A : StA} {kn : List Nat} {t : Nat} {K : XU → StA → Bool → Prop} {op : Op} (h : qW cx f call A kn t K op) : ∃ x A' b, qval cx f call (den A) t op = some (x, den A') ∧ K x A' b := by
 have gen : (∀ r, mI cx f call A t op = some r → r.2 = A) → (match mI cx f call A t op with
  | some (x, _) => fX x fun x => K x A false
  | none => False) → ∃ x A' b, qval cx f call (den A) t op = some (x, den A') ∧ K x A' b := by
  intro hs h
  split at h
  ·next x A' hx =>
   rw [fI] at h
   have := hs _ hx
   simp only at this
   subst this
   exact ⟨x, _, false, by rw [zQ8, hx]; rfl, h⟩
  ·exact h.elim
 have same : ∀ {op : Op} r, ((qval cx f call (den A) t op).map fun r => (r.1, A)) = some r → r.2 = A := by
  intro op r h
  cases hq : qval cx f call (den A) t op with
  | none => simp [hq] at h
  | some q => simp only [hq, Option.map_some, Option.some.injEq] at h; rw [← h]
 cases op with
 | move x =>
  obtain ⟨y, h1, h2⟩ := x0 h
  rw [wM] at h2
  exact ⟨y, _, _, by simp only [qval, h1, Option.map_some, q7], h2⟩
 | pick c a b =>
  simp only [qW] at h
  obtain ⟨v, A1, kn1, h1, hd, h2⟩ := zG1 cx f (t := t) h
  cases v with
  | true =>
   obtain ⟨y, h3, h4⟩ := x0 h2
   rw [wM] at h4
   rw [hd] at h3
   exact ⟨y, _, _, by simp only [qval, h1, h3, Option.map_some]; rw [← hd, q7], h4⟩
  | false =>
   obtain ⟨y, h3, h4⟩ := x0 h2
   rw [wM] at h4
   rw [hd] at h3
   exact ⟨y, _, _, by simp only [qval, h1, h3, Option.map_some]; rw [← hd, q7], h4⟩
 | load e a =>
  obtain ⟨x, h1, h2⟩ := x0 h
  obtain ⟨y, h3, h4⟩ := zH6 cx h2
  refine ⟨y, A, _, ?_, h4⟩
  cases x with
  | c c =>
   cases c with
   | ptr b r p off =>
    simp only [tH] at h3
    split at h3
    ·next hok =>
     simp only [qval, h1, if_pos hok]
     cases hl : jT (den A) r p off (cx.ty e).sz with
     | none => simp [hl] at h3
     | some cs => simp only [hl, Option.bind_some] at h3 ⊢; simp only [h3, Option.map_some]
    ·cases h3
   | rptr b cs =>
    simp only [tH] at h3
    split at h3
    ·next hok => simp only [qval, h1, if_pos hok, h3, Option.map_some]
    ·cases h3
   | _ => simp [tH] at h3
  | _ => simp [tH] at h3
 | indexAddr e x i =>
  simp only [qW] at h
  split at h
  ·next el hel =>
   obtain ⟨y, h1, h2⟩ := x0 h
   obtain ⟨k, h3, h4⟩ := tC cx f h2
   split at h4
   ·split at h4
    ·next hc =>
     refine ⟨_, A, _, ?_, h4.2⟩
     simp only [qval, hel, h1, h3]
     rw [if_pos ⟨hc.1, h4.1.1, h4.1.2, hc.2.1, hc.2.2⟩]
    ·exact h4.elim
   ·split at h4
    ·next hc =>
     refine ⟨_, A, _, ?_, h4.2⟩
     simp only [qval, hel, h1, h3]
     rw [if_pos ⟨hc.1, h4.1.1, h4.1.2, hc.2.1, hc.2.2⟩]
    ·exact h4.elim
   ·exact h4.elim
  ·exact h.elim
 | index e x i =>
  obtain ⟨y, h1, h2⟩ := x0 h
  obtain ⟨k, h3, h4⟩ := tC cx f h2
  split at h4
  ·split at h4
   ·next hc =>
    refine ⟨_, A, _, ?_, h4.2⟩
    simp only [qval, h1, h3]
    rw [if_pos ⟨hc, h4.1⟩]
   ·exact h4.elim
  ·exact h4.elim
 | binOp op xt x y yt =>
  obtain ⟨a, h1, h2⟩ := x0 h
  obtain ⟨b, h3, h4⟩ := x0 h2
  split at h4
  ·obtain ⟨z, h5, h6⟩ := zT2 h4
   exact ⟨_, A, _, by simp only [qval, h1, h3, h5, Option.map_some], h6⟩
  ·exact h4.elim
 | unOp op xt x =>
  obtain ⟨a, h1, h2⟩ := x0 h
  split at h2
  ·split at h2
   ·next z hz => rw [zDo] at h2; exact ⟨_, A, _, by simp only [qval, h1, hz, Option.map_some], h2⟩
   ·exact h2.elim
  ·exact h2.elim
 | convert src dst x =>
  obtain ⟨a, h1, h2⟩ := x0 h
  split at h2
  ·obtain ⟨z, h3, h4⟩ := zQ2 h2
   exact ⟨_, A, _, by simp only [qval, h1, h3, Option.map_some], h4⟩
  ·exact h2.elim
 | slice e x lo hi mx =>
  cases mx with
  | some m => exact gen (fun r hr => by simp only [mI] at hr; exact same r hr) h
  | none =>
   obtain ⟨y, h1, h2⟩ := x0 h
   obtain ⟨l, h3, h4⟩ := zIk cx f h2
   obtain ⟨m, h5, h6⟩ := zIk cx f h4
   split at h6
   ·split at h6
    ·next hs =>
     obtain ⟨z, h7, h8⟩ := zP1 h6
     exact ⟨_, A, _, by simp only [qval, h1, h3, h5, if_pos hs, h7, Option.map_some], h8⟩
    ·exact h6.elim
   ·exact h6.elim
 | makeSlice e l c =>
  simp only [qW] at h
  split at h
  ·next el hel =>
   obtain ⟨n, h1, h2⟩ := tC cx f h
   obtain ⟨m, h3, h4⟩ := tC cx f h2
   split at h4
   ·next hc =>
    rw [zL5] at h4
    obtain ⟨h5, h6⟩ := h4
    split at h6
    ·next zs hz =>
     rw [zRh] at h6
     refine ⟨_, A, _, ?_, h6⟩
     simp only [qval, hel, h1, h3]
     rw [if_pos ⟨h5.1, h5.2.1, h5.2.2.1, h5.2.2.2, hc.1, hc.2.1, hc.2.2⟩, hz]
     rfl
    ·exact h6.elim
   ·exact h4.elim
  ·exact h.elim
 | call c =>
  simp only [qW] at h
  obtain ⟨x, h1, h2⟩ := zG2 cx f call h
  exact ⟨x, A, _, by simp only [qval]; exact h1, h2⟩
 | box e x =>
  simp only [qW] at h
  obtain ⟨y, h1, h2⟩ := x0 h
  split at h2
  ·next cs hcs =>
   split at h2
   ·next hc =>
    rw [wM] at h2
    exact ⟨_, _, _, by simp only [qval, h1, Option.bind_some, hcs, if_pos hc, q7], h2⟩
   ·exact h2.elim
  ·exact h2.elim
 | fieldAddr e x i =>
  simp only [qW] at h
  split at h
  ·next off ft hft =>
   obtain ⟨y, h1, h2⟩ := x0 h
   split at h2
   ·split at h2
    ·next hc => exact ⟨_, A, _, by simp only [qval, hft, h1, if_pos hc, pS, Option.map_some], h2⟩
    ·exact h2.elim
   ·split at h2
    ·next hc => exact ⟨_, A, _, by simp only [qval, hft, h1, if_pos hc, pS, if_pos h2.1, Option.map_some], h2.2⟩
    ·exact h2.elim
   ·exact h2.elim
  ·exact h.elim
 | field e x i =>
  simp only [qW] at h
  split at h
  ·next off ft hft =>
   obtain ⟨y, h1, h2⟩ := x0 h
   split at h2
   ·next cs =>
    split at h2
    ·next hc =>
     split at h2
     ·next z hz =>
      rw [fI, wM] at h2
      exact ⟨_, _, _, by simp only [qval, hft, h1, if_pos hc, hz, Option.map_some, q7], h2⟩
     ·exact h2.elim
    ·exact h2.elim
   ·exact h2.elim
  ·exact h.elim
 | build e ps =>
  simp only [qW] at h
  split at h
  ·next hc =>
   obtain ⟨cs, A', h1, h2⟩ := aO cx f h
   exact ⟨_, A', _, by simp only [qval, if_pos hc, h1, Option.map_some], h2⟩
  ·exact h.elim
 | buildSlice e len ps =>
  simp only [qW] at h
  split at h
  ·next el hel =>
   split at h
   ·next hc =>
    obtain ⟨cs, A', h1, h2⟩ := aO cx f h
    rw [oM] at h2
    exact ⟨_, A', _, by simp only [qval, hel, if_pos hc, h1, Option.map_some], h2⟩
   ·exact h.elim
  ·exact h.elim
 | _ => exact gen (fun r hr => by simp only [mI] at hr; exact same r hr) h
end
end Go.Proofs.YtlkjnlfddadlmaaGreatDoor.V
namespace Go.Proofs.YtlkjnlfddadlmaaGreatDoor.V
section
variable (cx : Ctx) (f : Nat) (call : zX)
def tS (A : StA) (dst : Option Nat) (x : XU) (K : StA → Prop) : Prop :=
 match dst with
 | some d => if zB cx f d && !uQ (lk A.jk A.env d) then False else tT A d x K
 | none => K A
theorem fZ {A : StA} {dst : Option Nat} {x : XU} {K : StA → Prop} (h : tS cx f A dst x K) : ∃ A', wJ cx f (den A) dst x = some (den A') ∧ K A' := by
 cases dst with
 | none => exact ⟨A, rfl, h⟩
 | some d =>
  simp only [tS] at h
  split at h
  ·exact h.elim
  ·next hc =>
   rw [kS] at h
   refine ⟨_, ?_, h⟩
   have e : (den A).s d = lk A.jk A.env d := rfl
   simp only [wJ, e, if_neg hc, gU]
def knP (kn : List Nat) (dst : Option Nat) (b : Bool) : List Nat :=
 match dst with
 | some d => if b then d :: kn else kn.filter fun i => !(i == d)
 | none => kn
def actW (o : Oper) (A : StA) (kn : List Nat) (K : StA → List Nat → Prop) : Prop :=
 match o.op with
 | .assign x => (match o.dst with
  | some d => zMo cx f A o.type d x fun A => K A (knP kn o.dst (knO kn x))
  | none => False)
 | .store t a x => zTd cx f A t a x fun A => tS cx f A o.dst (.tup []) fun A => K A (knP kn o.dst false)
 | .call c => if yX cx (.call c) then (match c.callee, c.args.toList with
   | .builtin .append, [s, x] => zE8 cx f A c.argTypes.toList s x fun y A => tS cx f A o.dst y fun A => K A (knP kn o.dst false)
   | .value fo, args => zE5 cx f call A fo args c.argTypes.toList fun y A => tS cx f A o.dst y fun A => K A (knP kn o.dst false)
   | _, _ => False) else zMt cx f call A o.type c fun y => tS cx f A o.dst y fun A => K A (knP kn o.dst false)
 | op => qW cx f call A kn o.type (fun y A b => tS cx f A o.dst y fun A => K A (knP kn o.dst b)) op
theorem zTz {ops : Array Oper} {o : Oper} {A : StA} {kn : List Nat} {K : StA → List Nat → Prop} (hw : y5 (den A) ops o = some true) (h : actW cx f call o A kn K) : ∃ A' kn', stepOp cx f call (den A) ops o = some (den A') ∧ K A' kn' := by
 unfold stepOp
 unfold actW at h
 rw [hw]
 simp only
 have gen : ∀ {op : Op}, qW cx f call A kn o.type (fun y A b => tS cx f A o.dst y fun A => K A (knP kn o.dst b)) op → ∃ A' kn', ((qval cx f call (den A) o.type op).bind fun r => wJ cx f r.2 o.dst r.1) = some (den A') ∧ K A' kn' := by
  intro op h
  obtain ⟨x, A1, b, h1, h2⟩ := zVw cx f call h
  obtain ⟨A2, h3, h4⟩ := fZ cx f h2
  exact ⟨A2, _, by simp only [h1, Option.bind_some, h3], h4⟩
 cases hop : o.op with
 | assign x =>
  simp only [hop] at h ⊢
  cases hd : o.dst with
  | none => simp [hd] at h
  | some d =>
   simp only [hd] at h
   obtain ⟨A1, h1, h2⟩ := zKc cx f h
   exact ⟨A1, _, h1, h2⟩
 | store t a x =>
  simp only [hop] at h ⊢
  obtain ⟨A1, h1, h2⟩ := zP5 cx f h
  obtain ⟨A2, h3, h4⟩ := fZ cx f h2
  exact ⟨A2, _, by simp only [h1, Option.bind_some, h3], h4⟩
 | call c =>
  simp only [hop] at h ⊢
  by_cases hact : yX cx (.call c) = true
  ·simp only [if_pos hact] at h ⊢
   split at h
   ·next s x h1 h2 =>
    obtain ⟨y, A1, h3, h4⟩ := zKb cx f h
    obtain ⟨A2, h5, h6⟩ := fZ cx f h4
    exact ⟨A2, _, by simp only [h1, h2, h3, Option.bind_some, h5], h6⟩
   ·next fo h1 =>
    obtain ⟨y, A1, h3, h4⟩ := zJ9 cx f call h
    obtain ⟨A2, h5, h6⟩ := fZ cx f h4
    refine ⟨A2, _, ?_, h6⟩
    simp only [h1, h3, Option.bind_some, h5]
   ·exact h.elim
  ·simp only [if_neg hact] at h ⊢
   obtain ⟨x, h1, h2⟩ := zG2 cx f call h
   obtain ⟨A2, h5, h6⟩ := fZ cx f h2
   exact ⟨A2, _, by simp only [h1, Option.bind_some, h5], h6⟩
 | _ => simp only [hop] at h ⊢; exact gen h
def drc (dr : Option Nat) (k : Nat) (ops : Array Oper) (o : Oper) (S : SU) : Bool :=
 match dr with
 | none => true
 | some id => if m3 cx f id k then !(decide (k + 2 = ops.size) && !oD S ops) else (cx.ord f id k || vI cx f ops S o) && (cx.shr f id k).all (fun t => zB cx f t || !yQ (S.s t))
def zRt : List Nat → StA → (StA → Prop) → Prop
 | [], A, K => K A
 | d :: Z, A, K => zRt Z A fun A => tT A d .undef K
theorem zHw : ∀ {Z : List Nat} {A : StA} {K : StA → Prop}, zRt Z A K → ∃ H, den H = hide Z (den A) ∧ K H
 | [], A, K, h => ⟨A, (s9 _).symm, h⟩
 | d :: Z, A, K, h => by
  obtain ⟨H, h1, h2⟩ := zHw (Z := Z) h
  rw [kS] at h2
  refine ⟨_, ?_, h2⟩
  rw [← gU, h1]
  simp only [hide]
  congr 1
  funext t
  simp only [upd, List.mem_cons]
  by_cases h1 : t = d
  ·simp [h1]
  ·simp [h1]
def zN6 (id : Nat) (ops : Array Oper) : List Nat → StA → Prop → Prop
 | [], _, K => K
 | y :: Y, A, K => match ops[y]? with
  | some o => (match o.guard, o.dst with
   | none, some d => if j4 o.op && !zB cx f d && !cx.ord f id y && (cx.shr f id y).all (fun t => zB cx f t || !yQ ((den A).s t)) && Y.all (fun z => decide (y < z)) && !(qI ops Y).contains d then
     zRt (qI ops (y :: Y)) A fun H => qW cx f lX H [] o.type (fun x H' _ => (den H' = den H ∧ x = lk A.jk A.env d) ∧ zN6 id ops Y A K) o.op
    else False
   | _, _ => False)
  | none => False
theorem zI2 {id : Nat} {ops : Array Oper} {A : StA} {K : Prop} : ∀ {Y : List Nat}, zN6 cx f id ops Y A K → zEl cx f id ops (den A) Y ∧ K
 | [], h => ⟨trivial, h⟩
 | y :: Y, h => by
  simp only [zN6] at h
  split at h
  ·next o ho =>
   split at h
   ·next d hg hdo =>
    split at h
    ·next hc =>
     simp only [Bool.and_eq_true, Bool.not_eq_true', List.all_eq_true, decide_eq_true_eq] at hc
     obtain ⟨⟨⟨⟨⟨c1, c2⟩, c3⟩, c4⟩, c5⟩, c6⟩ := hc
     have c4 : ∀ t ∈ cx.shr f id y, zB cx f t = true ∨ yQ ((den A).s t) = false := fun t ht => by
      have := c4 t ht
      simpa using this
     have c6 : d ∉ qI ops Y := by simpa using c6
     obtain ⟨H, h1, h2⟩ := zHw h
     obtain ⟨x, A1, b, h3, ⟨h4, h5⟩, h6⟩ := zVw cx f lX h2
     obtain ⟨h7, h8⟩ := zI2 h6
     refine ⟨⟨⟨c5, o, d, ho, hdo, c1, c2, c3, c4, ?_⟩, h7⟩, h8⟩
     rw [h1] at h3
     rw [kV (kN c1) (by simp only [y5, hg]), h3]
     simp only [Option.bind_some, wJ, hdo, c2, Bool.false_and, Bool.false_eq_true, if_false]
     rw [h4, h1, h5]
     have e : qI ops (y :: Y) = d :: qI ops Y := by simp only [qI, List.filterMap_cons, ho, Option.bind_some, hdo]
     rw [e]
     simp only [hide]
     congr 1
     congr 1
     funext t
     simp only [upd, List.mem_cons]
     by_cases ht : t = d
     ·subst ht
      simp only [if_true, if_neg c6]
      rfl
     ·simp [ht]
    ·exact h.elim
   ·exact h.elim
  ·exact h.elim
def zI1 (dr : Option Nat) (k : Nat) (ops : Array Oper) (A : StA) (K : Prop) : Prop :=
 match dr with
 | none => K
 | some id => match zEh cx f id k with
  | [] => K
  | y :: Y => zN6 cx f id ops (y :: Y) A K
theorem zSs {dr : Option Nat} {k : Nat} {ops : Array Oper} {A : StA} {K : Prop} (h : zI1 cx f dr k ops A K) : (∀ id, dr = some id → zKi cx f id ops k (den A) = some (den A)) ∧ K := by
 unfold zI1 at h
 split at h
 ·exact ⟨fun id hd => by simp at hd, h⟩
 ·next id =>
  split at h
  ·next he => exact ⟨fun id' hd => by simp only [Option.some.injEq] at hd; subst hd; simp only [zKi, he], h⟩
  ·next y Y he =>
   obtain ⟨h1, h2⟩ := zI2 cx f h
   exact ⟨fun id' hd => by simp only [Option.some.injEq] at hd; subst hd; simp only [zKi, he, if_pos h1], h2⟩
def goW (dr : Option Nat) (k : Nat) (ops : Array Oper) (o : Oper) (w : Bool) (A : StA) (kn : List Nat) (K : StA → List Nat → Prop) : Prop :=
 if drc cx f dr k ops o (den A) then (match w with
  | true => actW cx f call o A kn fun A kn => zI1 cx f dr k ops A (K A kn)
  | false => tS cx f A o.dst (.tup []) fun A => zI1 cx f dr k ops A (K A (knP kn o.dst false))) else False
def zTa (dr : Option Nat) (k : Nat) (ops : Array Oper) (o : Oper) (A : StA) (kn : List Nat) (K : StA → List Nat → Prop) : Prop :=
 match o.guard with
 | none => goW cx f call dr k ops o true A kn K
 | some (j, want) => match (ops[j]?).bind (·.dst) with
  | none => False
  | some d => match lk A.jk A.env d with
   | .c (.t (.bool b)) => if kn.contains d then (match b with
     | true => goW cx f call dr k ops o want A kn K
     | false => goW cx f call dr k ops o (!want) A kn K)
    else (b = true → tT A d (.c (.t (.bool true))) fun A => goW cx f call dr k ops o want A (d :: kn) K) ∧
     (b = false → tT A d (.c (.t (.bool false))) fun A => goW cx f call dr k ops o (!want) A (d :: kn) K)
   | .tup [] => goW cx f call dr k ops o false A kn K
   | _ => False
noncomputable def zEw (dr : Option Nat) (k : Nat) (ops : Array Oper) (o : Oper) (S : SU) : Option SU :=
 match dr with
 | none => stepOp cx f call S ops o
 | some id => aC cx f call id ops k S o
theorem aV {dr : Option Nat} {k : Nat} {ops : Array Oper} {o : Oper} {w : Bool} {A : StA} {kn : List Nat} {K : StA → List Nat → Prop} (hw : y5 (den A) ops o = some w) (h : goW cx f call dr k ops o w A kn K) : ∃ A' kn', zEw cx f call dr k ops o (den A) = some (den A') ∧ K A' kn' := by
 unfold goW at h
 split at h
 ·next hd =>
  have key : ∃ A' kn', stepOp cx f call (den A) ops o = some (den A') ∧ zI1 cx f dr k ops A' (K A' kn') := by
   cases w with
   | true => exact zTz cx f call hw h
   | false =>
    obtain ⟨A2, h5, h6⟩ := fZ cx f h
    exact ⟨A2, _, by unfold stepOp; simp only [hw, h5], h6⟩
  obtain ⟨A', kn', h1, h2⟩ := key
  obtain ⟨h3, h4⟩ := zSs cx f h2
  refine ⟨A', kn', ?_, h4⟩
  cases dr with
  | none => exact h1
  | some id =>
   simp only [drc] at hd
   simp only [zEw, aC]
   cases hin : m3 cx f id k with
   | true =>
    rw [hin, if_pos rfl] at hd
    rw [if_pos rfl, if_neg (by simp only [Bool.not_eq_true'] at hd; rw [hd]; simp)]; exact h1
   | false =>
    rw [hin, if_neg (by simp)] at hd
    rw [if_neg (by simp)]
    simp only [bW, hd, if_true, h1, Option.bind_some, h3 id rfl]
 ·exact h.elim
theorem zTb {dr : Option Nat} {k : Nat} {ops : Array Oper} {o : Oper} {A : StA} {kn : List Nat} {K : StA → List Nat → Prop} (h : zTa cx f call dr k ops o A kn K) : ∃ A' kn', zEw cx f call dr k ops o (den A) = some (den A') ∧ K A' kn' := by
 unfold zTa at h
 split at h
 ·next hg => exact aV cx f call (by simp only [y5, hg]) h
 ·next j want hg =>
  split at h
  ·exact h.elim
  ·next d hd =>
   have e : (den A).s d = lk A.jk A.env d := rfl
   have wt : ∀ {b : Bool}, lk A.jk A.env d = .c (.t (.bool b)) → y5 (den A) ops o = some (b == want) := by
    intro b hb
    simp only [y5, hg, hd, e, hb]
   split at h
   ·next b hb =>
    split at h
    ·cases b with
     | true => exact aV cx f call (by rw [wt hb]; cases want <;> rfl) h
     | false => exact aV cx f call (by rw [wt hb]; cases want <;> rfl) h
    ·cases b with
     | true =>
      have h := h.1 rfl
      rw [kS] at h
      rw [← fF hb]
      exact aV cx f call (by rw [fF hb, wt hb]; cases want <;> rfl) h
     | false =>
      have h := h.2 rfl
      rw [kS] at h
      rw [← fF hb]
      exact aV cx f call (by rw [fF hb, wt hb]; cases want <;> rfl) h
   ·next hb => exact aV cx f call (by simp only [y5, hg, hd, e, hb]) h
   ·exact h.elim
def fK : List Nat → (List Nat → Prop) → Prop
 | [], K => K []
 | d :: l, K => fK l fun l => K (d :: l)
theorem zVq : ∀ (l : List Nat) (K : List Nat → Prop), fK l K = K l
 | [], K => rfl
 | d :: l, K => by simp only [fK, zVq l]
def zGg (dr : Option Nat) (ops : Array Oper) : Nat → List Oper → StA → List Nat → (StA → List Nat → Prop) → Prop
 | _, [], A, kn, K => K A kn
 | k, o :: os, A, kn, K => zTa cx f call dr k ops o A kn fun A kn => fK kn fun kn => zGg dr ops (k + 1) os A kn K
noncomputable def sF (dr : Option Nat) (ops : Array Oper) : Nat → List Oper → SU → Option SU
 | _, [], S => some S
 | k, o :: os, S => (zEw cx f call dr k ops o S).bind fun S => sF dr ops (k + 1) os S
theorem iN (ops : Array Oper) : ∀ (l : List Oper) (k : Nat) (S : SU), sF cx f call none ops k l S = stepOps cx f call ops l S
 | [], k, S => rfl
 | o :: l, k, S => by
  simp only [sF, zEw, stepOps]
  congr 1
  funext S'
  exact iN ops l (k + 1) S'
theorem iO (id : Nat) (ops : Array Oper) : ∀ (l : List Oper) (k : Nat) (S : SU), sF cx f call (some id) ops k l S = stepsD cx f call id ops k l S
 | [], k, S => rfl
 | o :: l, k, S => by
  simp only [sF, zEw, stepsD]
  congr 1
  funext S'
  exact iO id ops l (k + 1) S'
theorem oB {dr : Option Nat} {ops : Array Oper} : ∀ {l : List Oper} {k : Nat} {A : StA} {kn : List Nat} {K : StA → List Nat → Prop}, zGg cx f call dr ops k l A kn K → ∃ A' kn', sF cx f call dr ops k l (den A) = some (den A') ∧ K A' kn'
 | [], k, A, kn, K, h => ⟨A, kn, rfl, h⟩
 | o :: l, k, A, kn, K, h => by
  obtain ⟨A1, kn1, h1, h2⟩ := zTb cx f call h
  rw [zVq] at h2
  obtain ⟨A2, kn2, h3, h4⟩ := oB h2
  exact ⟨A2, kn2, by simp only [sF, h1, Option.bind_some, h3], h4⟩
def zEj : List Oper → StA → (StA → Prop) → Prop
 | [], A, K => K A
 | o :: os, A, K => match o.dst with
  | some d => if zRw o.op && zB cx f d then tF (.sl d) [] A fun A => tT A d .undef fun A => zEj os A K else zEj os A K
  | none => zEj os A K
theorem tP : ∀ {l : List Oper} {A : StA} {K : StA → Prop}, zEj cx f l A K = K (zBz cx f A l)
 | [], A, K => rfl
 | o :: l, A, K => by
  simp only [zEj, zBz]
  cases o.dst with
  | none => exact tP
  | some d =>
   simp only
   split
   ·rw [bO, kS]; exact tP
   ·exact tP
def sem (c : Code) (A : StA) (K : Ex → StA → Prop) : Prop := ∃ lf ex A', y8 cx f call lf c (den A) = some (ex, den A') ∧ K ex A'
def zVk (kn : List Nat) (A : StA) (o : Operand) (p q : StA → List Nat → Prop) : Prop :=
 zMs kn A o fun b A kn => match b with
 | true => p A kn
 | false => q A kn
def seqK (vb : StA → List Nat → (Ex → StA → List Nat → Prop) → Prop) (K : Ex → StA → List Nat → Prop) (ex : Ex) (A : StA) (kn : List Nat) : Prop :=
 match ex with
 | .nrm => vb A kn K
 | .exit i => K (.exit i) A kn
 | .ret => K .ret A kn
def blkK (id : Nat) (K : Ex → StA → List Nat → Prop) (ex : Ex) (A : StA) (kn : List Nat) : Prop :=
 match ex with
 | .nrm => K .nrm A kn
 | .exit i => if i = id then K .nrm A kn else K (.exit i) A kn
 | .ret => K .ret A kn
def vc : Code → StA → List Nat → (Ex → StA → List Nat → Prop) → Prop
 | .skip, A, kn, K => K .nrm A kn
 | .region id ops draw, A, kn, K => zEj cx f ops.toList A fun A => (match draw with
  | true => zGg cx f call (some id) (xW (cx.prm f id) ops) 0 (xW (cx.prm f id) ops).toList A kn (K .nrm)
  | false => zGg cx f call none ops 0 ops.toList A kn (K .nrm))
 | .seq a b, A, kn, K => vc a A kn (seqK (vc b) K)
 | .cond c x y, A, kn, K => zVk kn A c (fun A kn => vc x A kn K) (fun A kn => vc y A kn K)
 | .block id c, A, kn, K => vc c A kn (blkK id K)
 | .loop c, A, _, K => sem cx f call (.loop c) A fun ex A => K ex A []
 | .exit id, A, kn, K => K (.exit id) A kn
 | .ret, A, kn, K => K .ret A kn
 | _, _, _, _ => False
theorem fH {lf lf' : Nat} {c : Code} {S : SU} {r : Ex × SU} (hl : lf ≤ lf') (h : y8 cx f call lf c S = some r) : y8 cx f call lf' c S = some r := by
 obtain ⟨q, q1, q2⟩ := aT (cx := cx) (f := f) (call := call) (lf := lf) c S r h
 exact q2 call lf' hl q1
theorem zV2 : ∀ {c : Code} {A : StA} {kn : List Nat} {K : Ex → StA → List Nat → Prop}, vc cx f call c A kn K → sem cx f call c A fun ex A => ∃ kn, K ex A kn := by
 intro c
 induction c with
 | skip => intro A kn K h; exact ⟨0, _, A, rfl, kn, h⟩
 | region id ops draw =>
  intro A kn K h
  simp only [vc, tP] at h
  cases draw with
  | true =>
   obtain ⟨A', kn', h1, h2⟩ := oB cx f call h
   refine ⟨0, .nrm, A', ?_, kn', h2⟩
   rw [iO] at h1
   simp only [y8, if_true, mU, h1, Option.map_some]
  | false =>
   obtain ⟨A', kn', h1, h2⟩ := oB cx f call h
   refine ⟨0, .nrm, A', ?_, kn', h2⟩
   rw [iN] at h1
   simp only [y8, Bool.false_eq_true, if_false, mU, h1, Option.map_some]
 | seq a b iha ihb =>
  intro A kn K h
  simp only [vc] at h
  obtain ⟨lf, ex, A1, h1, kn1, h2⟩ := iha h
  cases ex with
  | nrm =>
   obtain ⟨lf', ex', A2, h3, kn2, h4⟩ := ihb h2
   refine ⟨max lf lf', ex', A2, ?_, kn2, h4⟩
   simp only [y8, fH cx f call (Nat.le_max_left lf lf') h1, fH cx f call (Nat.le_max_right lf lf') h3]
  | exit i => exact ⟨lf, _, A1, by simp only [y8, h1], kn1, h2⟩
  | ret => exact ⟨lf, _, A1, by simp only [y8, h1], kn1, h2⟩
 | cond c x y ihx ihy =>
  intro A kn K h
  simp only [vc] at h
  unfold zVk at h
  obtain ⟨b, A1, kn1, h1, hd, h2⟩ := zG1 cx f (t := 0) h
  cases b with
  | true =>
   obtain ⟨lf, ex, A1, h4, h5⟩ := ihx h2
   rw [hd] at h4
   exact ⟨lf, ex, A1, by simp only [y8, h1, h4], h5⟩
  | false =>
   obtain ⟨lf, ex, A1, h4, h5⟩ := ihy h2
   rw [hd] at h4
   exact ⟨lf, ex, A1, by simp only [y8, h1, h4], h5⟩
 | block id a iha =>
  intro A kn K h
  simp only [vc] at h
  obtain ⟨lf, ex, A1, h1, kn1, h2⟩ := iha h
  cases ex with
  | nrm => exact ⟨lf, _, A1, by simp only [y8, h1], kn1, h2⟩
  | exit i =>
   simp only [blkK] at h2
   split at h2
   ·next hi => exact ⟨lf, _, A1, by simp only [y8, h1, if_pos hi], kn1, h2⟩
   ·next hi => exact ⟨lf, _, A1, by simp only [y8, h1, if_neg hi], kn1, h2⟩
  | ret => exact ⟨lf, _, A1, by simp only [y8, h1], kn1, h2⟩
 | loop a iha =>
  intro A kn K h
  simp only [vc] at h
  obtain ⟨lf, ex, A1, h1, h2⟩ := h
  exact ⟨lf, ex, A1, h1, [], h2⟩
 | exit id => intro A kn K h; exact ⟨0, _, A, rfl, kn, h⟩
 | ret => intro A kn K h; exact ⟨0, _, A, rfl, kn, h⟩
 | _ => intro A kn K h; exact h.elim
def relE (jk : Nat → XU) (env : List (Nat × XU)) : List Nat → (List (Nat × XU) → Prop) → Prop
 | [], K => K []
 | d :: L, K => fX (lk jk env d) fun x => relE jk env L fun l => K ((d, x) :: l)
def relW (L : List Nat) (A : StA) (K : StA → Prop) : Prop := relE A.jk A.env L fun env => fEs A.e fun e => ∀ jk, K ⟨env, jk, e⟩
theorem zN7 {jk : Nat → XU} {env : List (Nat × XU)} : ∀ {L : List Nat} {K : List (Nat × XU) → Prop}, relE jk env L K → ∃ l, (∀ i, lk (lk jk env) l i = lk jk env i) ∧ K l
 | [], K, h => ⟨[], fun i => rfl, h⟩
 | d :: L, K, h => by
  simp only [relE, fI] at h
  obtain ⟨l, h1, h2⟩ := zN7 h
  refine ⟨_, fun i => ?_, h2⟩
  simp only [lk]
  split
  ·next hi => rw [hi]
  ·exact h1 i
theorem zN8 {L : List Nat} {A : StA} {K : StA → Prop} (h : relW L A K) : ∃ A', den A' = den A ∧ K A' := by
 obtain ⟨l, h1, h2⟩ := zN7 h
 rw [rL] at h2
 exact ⟨⟨l, lk A.jk A.env, A.e⟩, by simp only [den]; congr 1; funext i; exact h1 i, h2 _⟩
theorem zVb {c : Code} {A A' : StA} {K : Ex → StA → Prop} (h : den A' = den A) : sem cx f call c A' K → sem cx f call c A K := by
 rintro ⟨lf, ex, A1, h1, h2⟩
 exact ⟨lf, ex, A1, by rw [← h]; exact h1, h2⟩
theorem zS0 {c : Code} {A : StA} {K : Ex → StA → Prop} (h : sem cx f call c A fun ex A => match ex with
  | .nrm => sem cx f call (.loop c) A K
  | .exit i => K (.exit i) A
  | .ret => K .ret A) : sem cx f call (.loop c) A K := by
 obtain ⟨lf, ex, A1, h1, h2⟩ := h
 cases ex with
 | nrm =>
  obtain ⟨lf', ex', A2, h3, h4⟩ := h2
  refine ⟨max lf lf' + 1, ex', A2, ?_, h4⟩
  simp only [y8] at h3 ⊢
  simp only [iter, fH cx f call (show lf ≤ max lf lf' + 1 by omega) h1]
  obtain ⟨q, q1, q2⟩ := zA3 (call := call) (lf := lf') (g := fun k l => y8 cx f k l c) (fun S => aT c S) h3
  exact q2 call (max lf lf' + 1) (max lf lf') (by omega) (by omega) q1
 | exit i => exact ⟨lf + 1, _, A1, by simp only [y8, iter, fH cx f call (show lf ≤ lf + 1 by omega) h1], h2⟩
 | ret => exact ⟨lf + 1, _, A1, by simp only [y8, iter, fH cx f call (show lf ≤ lf + 1 by omega) h1], h2⟩
theorem yU (L : List Nat) {c : Code} {A : StA} {K : Ex → StA → Prop} (h : relW L A fun A => sem cx f call c A K) : sem cx f call c A K := by
 obtain ⟨A2, h3, h4⟩ := zN8 h
 exact zVb cx f call h3 h4
def lpE (c : Code) (K : Ex → StA → Prop) (ex : Ex) (A : StA) : Prop :=
 match ex with
 | .nrm => sem cx f call (.loop c) A K
 | .exit i => K (.exit i) A
 | .ret => K .ret A
def lpK (L : List Nat) (c : Code) (K : Ex → StA → Prop) (ex : Ex) (A : StA) (_ : List Nat) : Prop := relW L A (lpE cx f call c K ex)
theorem zO (L : List Nat) {c : Code} {A : StA} {K : Ex → StA → Prop} (h : vc cx f call c A [] (lpK cx f call L c K)) : sem cx f call (.loop c) A K := by
 refine zS0 cx f call ?_
 obtain ⟨lf, ex, A1, h1, kn, h2⟩ := zV2 cx f call h
 obtain ⟨A2, h3, h4⟩ := zN8 h2
 exact ⟨lf, ex, A2, by rw [h3]; exact h1, by cases ex <;> exact h4⟩
def zHp (c : CU) (A : StA) (K : CU → StA → Prop) : Prop :=
 match c with
 | .bor a (.sl d) p i off sz n => aF A a (.sl d) p i off sz n fun t A => K (.t t) A
 | .lst a sz n cs => wK cs A fun ts A => K (.t (.sl a 0 sz n ts)) A
 | .ptr _ (.sl _) _ _ => K (.t (.dead ())) A
 | .fn g caps => if (zN true caps).all x4 then K (.fn g caps) A else False
 | c => K c A
theorem zHq {c : CU} {A : StA} {K : CU → StA → Prop} (h : zHp c A K) : ∃ d A', fJ c (den A) = some (d, den A') ∧ K d A' := by
 cases c with
 | bor a r p i off sz n =>
  cases r with
  | sl d =>
   simp only [zHp] at h
   obtain ⟨t, A1, h1, h2⟩ := lG h
   exact ⟨_, A1, by simp only [fJ, h1, Option.map_some], h2⟩
  | ex j => exact ⟨_, A, rfl, h⟩
 | lst a sz n cs =>
  obtain ⟨ts, A1, h1, h2⟩ := kI cs h
  exact ⟨_, A1, by simp only [fJ, yS, h1, Option.map_some], h2⟩
 | ptr a r p off => cases r <;> exact ⟨_, A, rfl, h⟩
 | fn g caps =>
  simp only [zHp] at h
  split at h
  ·next hc => exact ⟨_, A, by simp only [fJ, if_pos hc], h⟩
  ·exact h.elim
 | _ => exact ⟨_, A, rfl, h⟩
def zAm : List CU → StA → (List CU → StA → Prop) → Prop
 | [], A, K => K [] A
 | c :: cs, A, K => zHp c A fun c A => zAm cs A fun cs A => K (c :: cs) A
theorem n9 : ∀ {cs : List CU} {A : StA} {K : List CU → StA → Prop}, zAm cs A K → ∃ ds A', dD cs (den A) = some (ds, den A') ∧ K ds A'
 | [], A, K, h => ⟨[], A, rfl, h⟩
 | c :: cs, A, K, h => by
  obtain ⟨d, A1, h1, h2⟩ := zHq h
  obtain ⟨ds, A2, h3, h4⟩ := n9 h2
  exact ⟨_, A2, by simp only [dD, h1, Option.bind_some, h3, Option.map_some], h4⟩
def zM7 (x : XU) (A : StA) (K : XU → StA → Prop) : Prop :=
 match x with
 | .c (.ptr a (.sl d) [] 0) => tF (.sl d) [] A fun A => (match lk A.jk A.env d with
  | .box a cs => tT A d .undef fun A => zAm cs A fun cs A => K (.box a cs) A
  | _ => False)
 | .c x => zHp x A fun c A => K (.c c) A
 | .agg cs => zAm cs A fun cs A => K (.agg cs) A
 | .box a cs => zAm cs A fun cs A => K (.box a cs) A
 | _ => False
theorem zHr {x : XU} {A : StA} {K : XU → StA → Prop} (h : zM7 x A K) : ∃ y A', s7 x (den A) = some (y, den A') ∧ K y A' := by
 unfold zM7 at h
 split at h
 ·next a d =>
  rw [bO] at h
  split at h
  ·next b cs hb =>
   rw [kS] at h
   obtain ⟨ds, A2, h3, h4⟩ := n9 h
   refine ⟨_, A2, ?_, h4⟩
   have e : (den (tD (.sl d) [] A)).s d = .box b cs := hb
   simp only [s7]
   rw [fD, e]
   simp only [gU, h3, Option.map_some]
  ·exact h.elim
 ·next c hne =>
  obtain ⟨d, A1, h1, h2⟩ := zHq h
  refine ⟨_, A1, ?_, h2⟩
  unfold s7
  split
  ·next hx => exact absurd hx (by intro hh; cases hh; exact hne _ _ rfl)
  ·next hx => cases hx; simp only [h1, Option.map_some]
  ·next hx => cases hx
  ·next hx => cases hx
  ·next k1 k2 k3 k4 => exact absurd rfl (k2 _)
 ·obtain ⟨ds, A2, h3, h4⟩ := n9 h
  exact ⟨_, A2, by simp only [s7, h3, Option.map_some], h4⟩
 ·obtain ⟨ds, A2, h3, h4⟩ := n9 h
  exact ⟨_, A2, by simp only [s7, h3, Option.map_some], h4⟩
 ·exact h.elim
def resW (A : StA) (r : ResultVar) (K : XU → StA → Prop) : Prop :=
 match r with
 | .tmp t => opW cx f A 0 (.tmp t) fun x => sX cx f A (.tmp t) fun A => zM7 x A K
 | .cell a t => opW cx f A 0 (.tmp a) fun x => (match x with
  | .c (.ptr b r p off) => zNk cx A t (.c (.ptr b r p off)) fun y => zM7 y A K
  | _ => False)
theorem zU7 {A : StA} {r : ResultVar} {K : XU → StA → Prop} (h : resW cx f A r K) : ∃ y A', ((zF8 cx f (den A) r).bind fun x => s7 x.1 x.2) = some (y, den A') ∧ K y A' := by
 cases r with
 | tmp t =>
  obtain ⟨x, h1, h2⟩ := x0 h
  rw [wM] at h2
  obtain ⟨y, A1, h3, h4⟩ := zHr h2
  exact ⟨y, A1, by simp only [zF8, h1, Option.map_some, Option.bind_some, q7, h3], h4⟩
 | cell a t =>
  obtain ⟨x, h1, h2⟩ := x0 h
  split at h2
  ·next b r p off =>
   obtain ⟨y, h3, h4⟩ := zH6 cx h2
   obtain ⟨z, A1, h5, h6⟩ := zHr h4
   refine ⟨z, A1, ?_, h6⟩
   simp only [tH] at h3
   split at h3
   ·next hok =>
    simp only [zF8, h1, if_pos hok]
    cases hl : jT (den A) r p off (cx.ty t).sz with
    | none => simp [hl] at h3
    | some cs => simp only [hl, Option.bind_some] at h3 ⊢; simp only [h3, Option.map_some, Option.bind_some, h5]
   ·cases h3
  ·exact h2.elim
def zLk : List ResultVar → StA → (List XU → StA → Prop) → Prop
 | [], A, K => K [] A
 | r :: rs, A, K => resW cx f A r fun x A => zLk rs A fun xs A => K (x :: xs) A
theorem zEo : ∀ {rs : List ResultVar} {A : StA} {K : List XU → StA → Prop}, zLk cx f rs A K → ∃ xs A', nL cx f (den A) rs = some (xs, den A') ∧ K xs A'
 | [], A, K, h => ⟨[], A, rfl, h⟩
 | r :: rs, A, K, h => by
  obtain ⟨y, A1, h1, h2⟩ := zU7 cx f h
  obtain ⟨xs, A2, h3, h4⟩ := zEo h2
  refine ⟨_, A2, ?_, h4⟩
  cases hx : zF8 cx f (den A) r with
  | none => simp [hx] at h1
  | some x =>
   simp only [hx, Option.bind_some] at h1
   simp only [nL, hx, Option.bind_some, h1, h3, Option.map_some]
def endW (fn : Func) (K : XU → List (List CU) → Prop) (A : StA) : Prop :=
 zLk cx f fn.results.toList A fun xs A => if xs.all (lL (den A)) && A.e.all (fun cs => (zN true cs).all x4) then K (o6 xs) A.e else False
def fnK (fn : Func) (K : XU → List (List CU) → Prop) (ex : Ex) (A : StA) (_ : List Nat) : Prop :=
 match ex with
 | .exit _ => False
 | .nrm => endW cx f fn K A
 | .ret => endW cx f fn K A
def fnW (fn : Func) (args : List XU) (ext : List (List CU)) (K : XU → List (List CU) → Prop) : Prop :=
 if args.length ≤ fn.ntmps then vc cx f call (fn.body.getD .skip) ⟨zDn 0 args, fun _ => .undef, ext⟩ [] (fnK cx f fn K) else False
theorem zWo {fn : Func} {args : List XU} {ext : List (List CU)} {K : XU → List (List CU) → Prop} (h : fnW cx f call fn args ext K) : ∃ lf x e, uX cx f call lf fn (fn.body.getD .skip) args ext = some (x, e) ∧ K x e := by
 unfold fnW at h
 split at h
 ·next hl =>
  obtain ⟨lf, ex, A, h1, kn, h2⟩ := zV2 cx f call h
  have e : (⟨y6 args, ext⟩ : SU) = den ⟨zDn 0 args, fun _ => .undef, ext⟩ := by
   simp only [den]
   congr 1
   funext i
   rw [zH5]; simp [y6]
  have fin : ∀ A, endW cx f fn K A → ∃ x e, ((nL cx f (den A) fn.results.toList).bind fun r => if r.1.all (lL r.2) && r.2.e.all (fun cs => (zN true cs).all x4) then some (o6 r.1, r.2.e) else none) = some (x, e) ∧ K x e := by
   intro A h
   obtain ⟨xs, A1, h3, h4⟩ := zEo cx f h
   split at h4
   ·next hc =>
    refine ⟨_, _, ?_, h4⟩
    simp only [h3, Option.bind_some]
    have : (den A1).e = A1.e := rfl
    rw [this, if_pos hc]
   ·exact h4.elim
  cases ex with
  | nrm =>
   obtain ⟨x, e', h3, h4⟩ := fin A h2
   exact ⟨lf, x, e', by simp only [uX, if_pos hl, e, h1]; exact h3, h4⟩
  | exit i => exact h2.elim
  | ret =>
   obtain ⟨x, e', h3, h4⟩ := fin A h2
   exact ⟨lf, x, e', by simp only [uX, if_pos hl, e, h1]; exact h3, h4⟩
 ·exact h.elim
end
theorem zRl {Pr : Program} {cx : Ctx} {g : Nat} {fn : Func} {a : List XU} {e : List (List CU)} {K : XU → List (List CU) → Prop} (ho : cx.orc g = none) (hf : Pr.funcs[g]? = some fn) (hb : fn.body = some (fn.body.getD .skip)) (hg : cx.good g = true)
  (h : fnW cx g (RR Pr cx) fn a e K) : ∃ x e', RR Pr cx g a e = some (x, e') ∧ K x e' := by
 obtain ⟨lf, x, e', h1, h2⟩ := zWo cx g (RR Pr cx) h
 exact ⟨x, e', zTy Pr cx lf ho hf hb hg h1, h2⟩
end Go.Proofs.YtlkjnlfddadlmaaGreatDoor.V
namespace Go.Proofs.YtlkjnlfddadlmaaGreatDoor.V
open Go.RowKit
section
variable {w w' : World} {E : Nat → Prop} {P : Nat → Nat → Prop} {R : Nat → Prop} {ea : List EA} {argsG : List XV}
theorem fY (hin : In w E P R ea argsG []) (hg : Grow w w') {y : TV} (hok : okT w' P R y) (hb : zU y = []) : Out w E P R ea w' (.c (.t y)) [] := by
 have hb0 : ∀ r : Root, zL (⟨upd (fun _ => .undef) 0 (.c (.t y)), []⟩ : SV) ea r = zL (⟨y6 argsG, []⟩ : SV) ea r ∨ zL (⟨upd (fun _ => .undef) 0 (.c (.t y)), []⟩ : SV) ea r = [] := by
  intro r
  cases r with
  | sl d =>
   right
   by_cases e : d = 0
   ·subst e; simp [zL, upd, zE, zP, hb]
   ·simp [zL, upd, e, zE]
  | ex j => exact .inl rfl
 have hmem : ∀ r b, b ∈ zL (⟨upd (fun _ => .undef) 0 (.c (.t y)), []⟩ : SV) ea r → b ∈ zL (⟨y6 argsG, []⟩ : SV) ea r := by
  intro r b hb'
  rcases hb0 r with e | e
  ·rwa [e] at hb'
  ·rw [e] at hb'; simp at hb'
 constructor
 case val =>
  intro d hd
  have : d = 0 := by simpa using hd
  subst this
  right; simp [upd]
 case hi =>
  intro d hd
  have : d ≠ 0 := by simp at hd; omega
  simp [upd, this]
 case okS =>
  intro d
  by_cases e : d = 0
  ·subst e; simp only [upd, if_true, okX, okC]; exact hok
  ·simp [upd, e, okX]
 case okE => intro j cs hj; simp at hj
 case eaL => exact hin.eaL
 case row => intro j vs cs _ hj; simp at hj
 case refS =>
  intro d d' hd
  by_cases e : d = 0
  ·subst e; simp [upd, zD, zF] at hd
  ·simp [upd, e, zD] at hd
 case refE => intro j cs d' hj; simp at hj
 case dis => exact fun r r' b h1 h2 => hin.dis r r' b (hmem r b h1) (hmem r' b h2)
 case nd =>
  intro r
  rcases hb0 r with e | e
  ·rw [e]; exact hin.nd r
  ·rw [e]; exact List.nodup_nil
 case lt => exact fun r b h => Nat.lt_of_lt_of_le (hin.lt r b (hmem r b h)) hg.size
 case own => exact fun r b h => hin.own r b (hmem r b h)
 case notR => exact fun r b h => hin.notR r b (hmem r b h)
 case PR => exact hin.PR
 case ltR => exact fun b h => Nat.lt_of_lt_of_le (hin.ltR b h) hg.size
 case frm => exact hg.frm (Frm.refl E w)
theorem uP {x : XV} {s : List UInt8} (h : erX x = .c (.t (.str s))) : x = .c (.t (.str s)) := by
 obtain ⟨c, rfl, hc⟩ := aR h
 obtain ⟨t, rfl, ht⟩ := k9 hc
 rw [aS ht]
theorem zM4 {x : XV} {k : IntKind} {n : Int} (h : erX x = .c (.t (.int k n))) : x = .c (.t (.int k n)) := by
 obtain ⟨c, rfl, hc⟩ := aR h
 obtain ⟨t, rfl, ht⟩ := k9 hc
 rw [mY ht]
end
def mM (Pr : Program) (T : World → Prop) (g : Nat) (h : List XU → Option XU) : Prop := ∀ args x, h args = some x → bF Pr g ∧
  ∀ (w : World) (E : Nat → Prop) (P : Nat → Nat → Prop) (R : Nat → Prop) (ea : List EA) (argsG : List XV), TabOk T w E → argsG.map erX = args → In w E P R ea argsG [] →
   Calls Pr g (argsG.map zQ).toArray w (fun
    | .returned v, w' => ∃ resG, erX resG = x ∧ v = zQ resG ∧ Out w E P R ea w' resG []
    | _, _ => False)
def zSg (F : List UInt8 → Int → Int) : List XU → Option XU
 | [.c (.t (.str s)), .c (.t (.int .u8 c))] => some (.c (.t (.int .i64 (F s c))))
 | _ => none
def zNx (D : Int → Prop) [DecidablePred D] (F : Int → List UInt8) : List XU → Option XU
 | [.c (.t (.int .i64 n))] => if D n then some (.c (.t (.str (F n)))) else none
 | _ => none
theorem rB {Pr : Program} {cx : Ctx} {g : Nat} {h : List XU → Option XU} {args : List XU} {x : XU} (ho : cx.orc g = some h) (hx : h args = some x) : RR Pr cx g args [] = some (x, []) := by
 refine (zE4 Pr cx).2 ⟨1, ?_⟩
 simp only [run, ho, hx, Option.map_some]
theorem zW4 {Pr : Program} {T : World → Prop} {g : Nat} {F : List UInt8 → Int → Int} (he : bF Pr g) (hC : ∀ (s : ByteArray) (c : Int) (w : World), T w → Calls Pr g #[.string s, .int .u8 c] w fun e w' => e = .returned (.int .i64 (F s.data.toList c)) ∧ w' = w) :
  mM Pr T g (zSg F) := by
 intro args x hx
 refine ⟨he, fun w E P R ea argsG hT ha hin => ?_⟩
 unfold zSg at hx
 split at hx
 ·next s c =>
  simp only [Option.some.injEq] at hx
  subst hx
  rcases argsG with _ | ⟨a, _ | ⟨b, _ | ⟨d, l⟩⟩⟩
  ·simp at ha
  ·simp at ha
  ·simp only [List.map_cons, List.map_nil, List.cons.injEq, and_true] at ha
   obtain ⟨h1, h2⟩ := ha
   have e1 := uP h1
   have e2 := zM4 h2
   subst e1 e2
   refine (hC ⟨s.toArray⟩ c w (hT w (Frm.refl _ w))).mono fun e w' ⟨h3, h4⟩ => ?_
   subst h3 h4
   exact ⟨.c (.t (.int .i64 (F s c))), rfl, by simp [zQ, zJ, zV], fY hin (Grow.refl _) (by simp [okT]) (by simp [zU])⟩
  ·simp at ha
 ·cases hx
theorem zW3 {Pr : Program} {T : World → Prop} {g : Nat} {F : Int → List UInt8} {D : Int → Prop} [DecidablePred D] (he : bF Pr g) (hC : ∀ (n : Int) (w : World), T w → D n → Calls Pr g #[.int .i64 n] w fun e w' => e = .returned (.string ⟨(F n).toArray⟩) ∧ Grow w w') :
  mM Pr T g (zNx D F) := by
 intro args x hx
 refine ⟨he, fun w E P R ea argsG hT ha hin => ?_⟩
 unfold zNx at hx
 split at hx
 ·next n =>
  split at hx
  ·next hd =>
   simp only [Option.some.injEq] at hx
   subst hx
   rcases argsG with _ | ⟨a, _ | ⟨b, l⟩⟩
   ·simp at ha
   ·simp only [List.map_cons, List.map_nil, List.cons.injEq, and_true] at ha
    have e1 := zM4 ha
    subst e1
    refine (hC n w (hT w (Frm.refl _ w)) hd).mono fun e w' ⟨h3, h4⟩ => ?_
    subst h3
    exact ⟨.c (.t (.str (F n))), rfl, by simp [zQ, zJ, zV], fY hin h4 (by simp [okT]) (by simp [zU])⟩
   ·simp at ha
  ·cases hx
 ·cases hx
theorem jS {Pr : Program} {g : Nat} {fn : Func} (hf : Pr.funcs[g]? = some fn) (hb : fn.body.isSome = true) (hn : (fn.name == "runtime.NumGoroutine") = false) : bF Pr g := by
 obtain ⟨c, hc⟩ := Option.isSome_iff_exists.1 hb
 exact enters_of hf hc hn
end Go.Proofs.YtlkjnlfddadlmaaGreatDoor.V
namespace Go.Proofs.YtlkjnlfddadlmaaGreatDoor.V
inductive Co where
 | mk (op n : Int) (s t : List UInt8) (ks : List Co)
abbrev ii (n : Int) : TU := .int .i64 n
abbrev xi (n : Int) : XU := .c (.t (ii n))
abbrev xb (b : Bool) : XU := .c (.t (.bool b))
abbrev xs (s : List UInt8) : XU := .c (.t (.str s))
abbrev xc (us : List TU) : XU := .agg (us.map .t)
abbrev qA (op n : Int) (s t : List UInt8) (g k : Nat) (cs : List TU) : List TU := [.int .i64 op, .int .i64 n, .str s, .str t, .sl () g 5 k cs]
abbrev xl (g sz k : Nat) (cs : List TU) : XU := .c (.t (.sl () g sz k cs))
mutual
def Rd : Co → List TU → Prop
 | .mk op n s t ks, us => ∃ g cs, us = qA op n s t (g + 1) ks.length cs ∧ Rds ks cs
def Rds : List Co → List TU → Prop
 | [], cs => cs = []
 | c :: l, cs => ∃ us vs, cs = us ++ vs ∧ Rd c us ∧ Rds l vs
end
mutual
def enc : Co → List TU
 | .mk op n s t ks => qA op n s t 0 ks.length (xO ks)
def xO : List Co → List TU
 | [] => []
 | c :: l => enc c ++ xO l
end
mutual
def szC : Co → Nat
 | .mk _ _ s t ks => s.length + t.length + x8 ks
def x8 : List Co → Nat
 | [] => 0
 | c :: l => 1 + szC c + x8 l
end
mutual
def Wf : Co → Prop
 | .mk op n s t ks => (-9223372036854775808 ≤ op ∧ op < 9223372036854775808) ∧ (-9223372036854775808 ≤ n ∧ n < 9223372036854775808) ∧ s.length ≤ maxLen ∧ t.length ≤ maxLen ∧ ks.length ≤ maxLen ∧ Wfs ks
def Wfs : List Co → Prop
 | [] => True
 | c :: l => Wf c ∧ Wfs l
end
theorem nV : ∀ {l : List Co}, Wfs l ↔ ∀ c ∈ l, Wf c
 | [] => by simp [Wfs]
 | c :: l => by simp [Wfs, nV (l := l)]
theorem Co.ind {P : Co → Prop} (h : ∀ op n s t ks, (∀ c ∈ ks, P c) → P (.mk op n s t ks)) (c : Co) : P c :=
 Co.rec (motive_1 := P) (motive_2 := fun l => ∀ c ∈ l, P c) (fun op n s t ks ih => h op n s t ks ih) (by simp) (fun c l h1 h2 x hx => by
  rcases List.mem_cons.1 hx with rfl | hx
  ·exact h1
  ·exact h2 x hx) c
theorem dQ : ∀ (a b : List TU), yD (a ++ b) = yD a ++ yD b
 | [], b => rfl
 | x :: a, b => by simp only [List.cons_append, yD, dQ a b]
mutual
theorem Rd.retag : ∀ {c : Co} {us : List TU}, Rd c us → Rd c (yD us)
 | .mk op n s t ks, us, h => by
  simp only [Rd] at h ⊢
  obtain ⟨g, cs, rfl, h⟩ := h
  exact ⟨g + 1, yD cs, rfl, Rds.retag h⟩
theorem Rds.retag : ∀ {l : List Co} {cs : List TU}, Rds l cs → Rds l (yD cs)
 | [], cs, h => by simp only [Rds] at h ⊢; subst h; rfl
 | c :: l, cs, h => by
  simp only [Rds] at h ⊢
  obtain ⟨us, vs, rfl, h1, h2⟩ := h
  exact ⟨_, _, dQ us vs, Rd.retag h1, Rds.retag h2⟩
end
mutual
theorem zDm : ∀ (c : Co), Rd c (yD (enc c))
 | .mk op n s t ks => by
  simp only [Rd, enc]
  exact ⟨0, yD (xO ks), rfl, zAj ks⟩
theorem zAj : ∀ (l : List Co), Rds l (yD (xO l))
 | [] => by simp only [Rds, xO, yD]
 | c :: l => by
  simp only [Rds, xO]
  exact ⟨_, _, dQ _ _, zDm c, zAj l⟩
end
mutual
theorem zAi : ∀ (c : Co), qL (enc c) = some (enc c)
 | .mk op n s t ks => by simp only [enc, qL, down, n7 ks, Option.bind_some, Option.map_some]; rfl
theorem n7 : ∀ (l : List Co), qL (xO l) = some (xO l)
 | [] => by simp only [xO, qL]
 | c :: l => by
  have : ∀ (a b a' b' : List TU), qL a = some a' → qL b = some b' → qL (a ++ b) = some (a' ++ b') := by
   intro a
   induction a with
   | nil => intro b a' b' h1 h2; simp only [qL, Option.some.injEq] at h1; subst h1; exact h2
   | cons x a ih =>
    intro b a' b' h1 h2
    simp only [qL] at h1
    cases hx : down x with
    | none => simp [hx] at h1
    | some y =>
     simp only [hx, Option.bind_some] at h1
     cases ha : qL a with
     | none => simp [ha] at h1
     | some a1 =>
      simp only [ha, Option.map_some, Option.some.injEq] at h1
      subst h1
      simp only [List.cons_append, qL, hx, Option.bind_some, ih b a1 b' ha h2, Option.map_some]
  exact this _ _ _ _ (zAi c) (n7 l)
end
theorem zQg {c : Co} {us : List TU} (h : Rd c us) : us.length = 5 := by
 cases c
 simp only [Rd] at h
 obtain ⟨g, cs, rfl, _⟩ := h
 rfl
theorem zUh (c : Co) : (enc c).length = 5 := by cases c; simp only [enc, qA]; rfl
theorem bL : ∀ (l : List Co), (xO l).length = l.length * 5
 | [] => rfl
 | c :: l => by simp only [xO, List.length_append, zUh, bL l, List.length_cons]; omega
theorem xK (l : List Co) : ((xO l).drop 0).take (l.length * 5) = xO l := by rw [List.drop_zero, ← bL, List.take_length]
theorem mW : ∀ (l m : List Co), xO (l ++ m) = xO l ++ xO m
 | [], m => rfl
 | c :: l, m => by simp only [List.cons_append, xO, mW l m, List.append_assoc]
theorem zQh : ∀ {l : List Co} {cs : List TU} {i : Nat} {c : Co}, Rds l cs → l[i]? = some c → Rd c ((cs.drop (i * 5)).take 5)
 | [], cs, i, c, h, hi => by simp at hi
 | x :: l, cs, 0, c, h, hi => by
  simp only [Rds] at h
  obtain ⟨us, vs, rfl, h1, h2⟩ := h
  simp only [List.getElem?_cons_zero, Option.some.injEq] at hi
  subst hi
  have := zQg h1
  simpa [← this] using h1
 | x :: l, cs, i + 1, c, h, hi => by
  simp only [Rds] at h
  obtain ⟨us, vs, rfl, h1, h2⟩ := h
  simp only [List.getElem?_cons_succ] at hi
  have e : (i + 1) * 5 = us.length + i * 5 := by rw [zQg h1]; omega
  rw [e, List.drop_length_add_append]
  exact zQh h2 hi
theorem vK {l : List Co} {cs : List TU} {i : Nat} {op n : Int} {s t : List UInt8} {ks : List Co} (h : Rds l cs) (hi : l[i]? = some (.mk op n s t ks)) :
  ∃ g cs', (cs.drop (i * 5)).take 5 = qA op n s t (g + 1) ks.length cs' ∧ Rds ks cs' := by
 have := zQh h hi
 simp only [Rd] at this
 exact this
theorem wrap64 {n : Int} (h1 : -9223372036854775808 ≤ n) (h2 : n < 9223372036854775808) : IntKind.wrap .i64 n = n := Go.IntWalk.i64_in n ⟨h1, by omega⟩
theorem kK {i n : Nat} (h : i < n) (hn : n ≤ maxLen) : IntKind.wrap .i64 ((i : Int) + 1) = ((i + 1 : Nat) : Int) := by
 rw [wrap64 (by omega) (by simp only [maxLen] at hn; omega)]; omega
theorem qE {α : Type} {ks : List α} {P : Nat → List α → Prop} (h0 : P ks.length []) (h1 : ∀ i c l, ks[i]? = some c → i < ks.length → P (i + 1) l → P i (c :: l)) : ∀ (l : List α) (i : Nat), ks.drop i = l → i ≤ ks.length → P i l
 | [], i, h, hi => by
  have : i = ks.length := by have := congrArg List.length h; simp only [List.length_drop, List.length_nil] at this; omega
  subst this; exact h0
 | c :: l, i, h, hi => by
  have h2 : ks[i]? = some c := by have := congrArg (·[0]?) h; simpa using this
  have h3 : i < ks.length := (List.getElem?_eq_some_iff.1 h2).1
  exact h1 i c l h2 h3 (qE h0 h1 l (i + 1) (by rw [← List.drop_drop, h]; rfl) h3)
def zBi : Code → List Code
 | .seq a b => zBi a ++ zBi b
 | .cond _ a b => zBi a ++ zBi b
 | .block _ a => zBi a
 | .loop a => a :: zBi a
 | _ => []
def lp (fn : Func) (n : Nat) : Code := (zBi (fn.body.getD .skip)).getD n .skip
theorem g7 {a b : Int} (h : decide (a < b) = true) (h2 : b ≤ a) : False := by simp at h; omega
theorem jO {a b : Int} (h : decide (a < b) = false) (h2 : a < b) : False := by simp at h; omega
end Go.Proofs.YtlkjnlfddadlmaaGreatDoor.V
