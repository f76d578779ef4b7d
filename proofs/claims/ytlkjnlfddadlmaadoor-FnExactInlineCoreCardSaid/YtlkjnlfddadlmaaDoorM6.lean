/-
  Reckoning with unknowns: an answer's conditions, told one behind the other. No conditions.
-/
import Derived.Test.YtlkjnlfddadlmaaDoorM5
import Derived.IntWalk
set_option linter.unusedVariables false
set_option linter.unusedSimpArgs false
namespace Go.Proofs.YtlkjnlfddadlmaaDoor.V

def fT (y : TU) (K : TU → Prop) : Prop :=
  match y with
  | .int k n => K (.int k n)
  | .bool b => K (.bool b)
  | .str s => K (.str s)
  | .sl a g sz n cs => K (.sl a g sz n cs)
  | .dead a => K (.dead a)
  | .nili => K .nili
  | .ifc a => K (.ifc a)

theorem fT_eq (y : TU) (K : TU → Prop) : fT y K = K y := by cases y <;> rfl

def fTs : List TU → (List TU → Prop) → Prop
  | [], K => K []
  | y :: ys, K => fT y fun y => fTs ys fun ys => K (y :: ys)

theorem fTs_eq : ∀ (ys : List TU) (K : List TU → Prop), fTs ys K = K ys
  | [], K => rfl
  | y :: ys, K => by simp only [fTs, fT_eq, fTs_eq ys]

def tyK (T : Ty) (K : Nat → List CU → Nat → Prop) : Prop :=
  match T with
  | ⟨_, sz, _, zs, _, _, bytes, _, _⟩ => K sz zs bytes

theorem tyK_eq (T : Ty) (K : Nat → List CU → Nat → Prop) : tyK T K = K T.sz T.zs T.bytes := by cases T; rfl

def fC (x : CU) (K : CU → Prop) : Prop :=
  match x with
  | .t y => fT y fun y => K (.t y)
  | .ptr a r p off => K (.ptr a r p off)
  | .bor a r p i off sz n => K (.bor a r p i off sz n)
  | .rptr a cs => K (.rptr a cs)
  | .nilp => K .nilp
  | .fn g caps => K (.fn g caps)
  | .nilf => K .nilf
  | .lst a sz n cs => K (.lst a sz n cs)

theorem fC_eq (x : CU) (K : CU → Prop) : fC x K = K x := by cases x <;> simp only [fC, fT_eq]

def fCs : List CU → (List CU → Prop) → Prop
  | [], K => K []
  | c :: cs, K => fC c fun c => fCs cs fun cs => K (c :: cs)

theorem fCs_eq : ∀ (cs : List CU) (K : List CU → Prop), fCs cs K = K cs
  | [], K => rfl
  | c :: cs, K => by simp only [fCs, fC_eq, fCs_eq cs]

def fX1 (x : XU) (K : XU → Prop) : Prop :=
  match x with
  | .c x => fC x fun x => K (.c x)
  | .agg cs => fCs cs fun cs => K (.agg cs)
  | .box a cs => fCs cs fun cs => K (.box a cs)
  | .tup xs => K (.tup xs)
  | .undef => K .undef

theorem fX1_eq (x : XU) (K : XU → Prop) : fX1 x K = K x := by cases x <;> simp only [fX1, fC_eq, fCs_eq]

def fXs : List XU → (List XU → Prop) → Prop
  | [], K => K []
  | x :: xs, K => fX1 x fun x => fXs xs fun xs => K (x :: xs)

theorem fXs_eq : ∀ (xs : List XU) (K : List XU → Prop), fXs xs K = K xs
  | [], K => rfl
  | x :: xs, K => by simp only [fXs, fX1_eq, fXs_eq xs]

def fX (x : XU) (K : XU → Prop) : Prop :=
  match x with
  | .tup xs => fXs xs fun xs => K (.tup xs)
  | .c x => fC x fun x => K (.c x)
  | .agg cs => fCs cs fun cs => K (.agg cs)
  | .box a cs => fCs cs fun cs => K (.box a cs)
  | .undef => K .undef

theorem fX_eq (x : XU) (K : XU → Prop) : fX x K = K x := by cases x <;> simp only [fX, fC_eq, fCs_eq, fXs_eq]

def fE : List (Nat × XU) → (List (Nat × XU) → Prop) → Prop
  | [], K => K []
  | p :: l, K => match p with
    | (d, x) => fX x fun x => fE l fun l => K ((d, x) :: l)

theorem fE_eq : ∀ (l : List (Nat × XU)) (K : List (Nat × XU) → Prop), fE l K = K l
  | [], K => rfl
  | (d, x) :: l, K => by simp only [fE, fX_eq, fE_eq l]

def fEs : List (List CU) → (List (List CU) → Prop) → Prop
  | [], K => K []
  | c :: cs, K => fCs c fun c => fEs cs fun cs => K (c :: cs)

theorem fEs_eq : ∀ (cs : List (List CU)) (K : List (List CU) → Prop), fEs cs K = K cs
  | [], K => rfl
  | c :: cs, K => by simp only [fEs, fCs_eq, fEs_eq cs]

def fA (A : StA) (K : StA → Prop) : Prop :=
  match A with
  | ⟨env, jk, e⟩ => fE env fun env => fEs e fun e => K ⟨env, jk, e⟩

theorem fA_eq (A : StA) (K : StA → Prop) : fA A K = K A := by cases A; simp only [fA, fE_eq, fEs_eq]

def shape1 (z : CU) (K : TU → Prop) : Prop :=
  match z with
  | .t (.int k _) => ∃ n, K (.int k n)
  | .t (.bool _) => ∃ b, K (.bool b)
  | .t (.str _) => ∃ s, K (.str s)
  | .t (.sl _ _ sz _ _) => ∃ g n cs, K (.sl () g sz n cs)
  | _ => ∃ t, K t

theorem shape1_ok {z : CU} {K : TU → Prop} (h : shape1 z K) : ∃ t, K t := by
  unfold shape1 at h
  split at h
  · obtain ⟨n, h⟩ := h; exact ⟨_, h⟩
  · obtain ⟨n, h⟩ := h; exact ⟨_, h⟩
  · obtain ⟨n, h⟩ := h; exact ⟨_, h⟩
  · obtain ⟨g, n, cs, h⟩ := h; exact ⟨_, h⟩
  · exact h

def shapes : List CU → (List TU → Prop) → Prop
  | [], K => K []
  | z :: zs, K => shape1 z fun t => shapes zs fun ts => K (t :: ts)

theorem shapes_ok : ∀ {zs : List CU} {K : List TU → Prop}, shapes zs K → ∃ ts, K ts
  | [], K, h => ⟨_, h⟩
  | z :: zs, K, h => by
    obtain ⟨t, h⟩ := shape1_ok h
    obtain ⟨ts, h⟩ := shapes_ok h
    exact ⟨_, h⟩

section
variable (cx : Ctx) (f : Nat) (call : Callee)

def opW (A : StA) (t : Nat) (o : Operand) (K : XU → Prop) : Prop :=
  match opv cx f (den A) t o with
  | some x => fX x K
  | none => False

variable {cx f} in
theorem opW_ok {A : StA} {t : Nat} {o : Operand} {K : XU → Prop} (h : opW cx f A t o K) : ∃ x, opv cx f (den A) t o = some x ∧ K x := by
  unfold opW at h
  split at h
  · next x hx => exact ⟨x, hx, by rwa [fX_eq] at h⟩
  · exact h.elim

def putW (A : StA) (d : Nat) (x : XU) (K : StA → Prop) : Prop :=
  match A with
  | ⟨env, jk, e⟩ => K ⟨(d, x) :: env, jk, e⟩

theorem putW_eq (A : StA) (d : Nat) (x : XU) (K : StA → Prop) : putW A d x K = K (A.put d x) := by cases A; rfl

def clrW (A : StA) (o : Operand) (K : StA → Prop) : Prop :=
  match o with
  | .tmp d => if isVar cx f d then K A else if hasOwn (lk A.jk A.env d) then putW A d .undef K else K A
  | _ => K A

theorem clrW_eq (A : StA) (o : Operand) (K : StA → Prop) : clrW cx f A o K = K (clrA cx f A o) := by
  unfold clrW clrA
  cases o with
  | tmp d =>
    simp only
    split
    · rfl
    · split
      · exact putW_eq _ _ _ _
      · rfl
  | _ => rfl

def killE (r : Root) (q : List Nat) : List (Nat × XU) → (List (Nat × XU) → Prop) → Prop
  | [], K => K []
  | p :: l, K => match p with
    | (d, x) => fX (killX r q x) fun x => killE r q l fun l => K ((d, x) :: l)

theorem killE_eq (r : Root) (q : List Nat) : ∀ (l : List (Nat × XU)) (K : List (Nat × XU) → Prop), killE r q l K = K (l.map fun p => (p.1, killX r q p.2))
  | [], K => rfl
  | (d, x) :: l, K => by simp only [killE, fX_eq, killE_eq r q l, List.map_cons]

def killW (r : Root) (q : List Nat) (A : StA) (K : StA → Prop) : Prop :=
  match A with
  | ⟨env, jk, e⟩ => killE r q env fun env => fEs (e.map (killCs r q)) fun e => K ⟨env, fun i => killX r q (jk i), e⟩

theorem killW_eq (r : Root) (q : List Nat) (A : StA) (K : StA → Prop) : killW r q A K = K (killA r q A) := by
  cases A
  simp only [killW, killE_eq, fEs_eq, killA]

def subW : List TU → List Nat → (List TU → Prop) → Prop
  | ds, [], K => K ds
  | ds, i :: p, K => ∃ sz n es, ds[i]? = some (.sl () 0 sz n es) ∧ subW es p K

theorem subW_ok : ∀ {p : List Nat} {ds : List TU} {K : List TU → Prop}, subW ds p K → ∃ es, sub ds p = some es ∧ K es
  | [], ds, K, h => ⟨ds, rfl, h⟩
  | i :: p, ds, K, h => by
    obtain ⟨sz, n, es, h1, h2⟩ := h
    obtain ⟨es', h3, h4⟩ := subW_ok h2
    exact ⟨es', by simp only [sub, h1]; exact h3, h4⟩

def contW (A : StA) (r : Root) (p : List Nat) (K : List CU → Prop) (K' : List TU → Prop) : Prop :=
  match rootCells (den A) r with
  | some cs => match p with
    | [] => K cs
    | j :: p => match cs[j]? with
      | some (.t (.sl _ 0 _ _ ds)) => subW ds p K'
      | _ => False
  | none => False

theorem contW_ok {A : StA} {r : Root} {p : List Nat} {K : List CU → Prop} {K' : List TU → Prop} (h : contW A r p K K') :
    (p = [] ∧ ∃ cs, rootCells (den A) r = some cs ∧ K cs) ∨ (∃ ds, (rootCells (den A) r).bind (subC · p) = some (ds.map .t) ∧ K' ds) := by
  unfold contW at h
  split at h
  · next cs hcs =>
    cases p with
    | nil => exact .inl ⟨rfl, cs, hcs, h⟩
    | cons j p =>
      simp only at h
      split at h
      · next a sz n ds hj =>
        obtain ⟨es, h1, h2⟩ := subW_ok h
        exact .inr ⟨es, by simp only [hcs, Option.bind_some, subC, hj, h1, Option.map_some], h2⟩
      · exact h.elim
  · exact h.elim

def atW (A : StA) (r : Root) (p : List Nat) (i : Nat) (K : CU → Prop) : Prop :=
  contW A r p (fun cs => match cs[i]? with
    | some c => fC c K
    | none => False) fun ds => ∃ t, ds[i]? = some t ∧ K (.t t)

theorem atW_ok {A : StA} {r : Root} {p : List Nat} {i : Nat} {K : CU → Prop} (h : atW A r p i K) : ∃ c, at_ (den A) r p i = some c ∧ K c := by
  rcases contW_ok h with ⟨rfl, cs, h1, h2⟩ | ⟨ds, h1, t, h2, h3⟩
  · split at h2
    · next c hc => exact ⟨c, by simp only [at_, h1, Option.bind_some, subC, hc], by rwa [fC_eq] at h2⟩
    · exact h2.elim
  · exact ⟨.t t, by simp only [at_, h1, Option.bind_some]; simp [h2], h3⟩

def setRootW (A : StA) (r : Root) (cs : List CU) (K : StA → Prop) : Prop :=
  match r with
  | .sl d => fX (setX (lk A.jk A.env d) cs) fun x => putW A d x K
  | .ex j => match A with
    | ⟨env, jk, e⟩ => fEs (e.set j cs) fun e => K ⟨env, jk, e⟩

theorem setRootW_eq (A : StA) (r : Root) (cs : List CU) (K : StA → Prop) : setRootW A r cs K = K (setRootA A r cs) := by
  cases r with
  | sl d => simp only [setRootW, fX_eq, putW_eq, setRootA]
  | ex j => cases A; simp only [setRootW, fEs_eq, setRootA]

def setW (A : StA) (r : Root) (off : Nat) (c : CU) (K : StA → Prop) : Prop :=
  match rootCells (den A) r with
  | some cs => if off < cs.length then setRootW A r (cs.set off c) K else False
  | none => False

theorem setW_ok {A : StA} {r : Root} {off : Nat} {c : CU} {K : StA → Prop} (h : setW A r off c K) : ∃ A', putCellA A r [] off c = some A' ∧ K A' := by
  unfold setW at h
  split at h
  · next cs hcs =>
    split at h
    · next hl =>
      rw [setRootW_eq] at h
      exact ⟨_, by simp only [putCellA, hcs, Option.bind_some, setC, if_pos hl, Option.map_some], h⟩
    · exact h.elim
  · exact h.elim

def takeDW : List TU → List Nat → Nat → (Nat → List TU → List TU → Prop) → Prop
  | ds, [], i, K => ∃ sz m es, ds[i]? = some (.sl () 0 sz m es) ∧ K sz es (ds.set i (.dead ()))
  | ds, k :: p, i, K => ∃ sz m es, ds[k]? = some (.sl () 0 sz m es) ∧ takeDW es p i fun sz' fs es' => K sz' fs (ds.set k (.sl () 0 sz m es'))

theorem takeDW_ok : ∀ {p : List Nat} {ds : List TU} {i : Nat} {K : Nat → List TU → List TU → Prop}, takeDW ds p i K → ∃ sz m es fs ds', sub ds p = some fs ∧ fs[i]? = some (.sl () 0 sz m es) ∧ setT ds p i (.dead ()) = some ds' ∧ K sz es ds'
  | [], ds, i, K, h => by
    obtain ⟨sz, m, es, h1, h2⟩ := h
    have hl : i < ds.length := (List.getElem?_eq_some_iff.1 h1).1
    exact ⟨sz, m, es, ds, _, rfl, h1, by simp only [setT, if_pos hl], h2⟩
  | k :: p, ds, i, K, h => by
    obtain ⟨sz, m, es, h1, h2⟩ := h
    obtain ⟨sz', m', gs, fs, es', h3, h4, h5, h6⟩ := takeDW_ok h2
    exact ⟨sz', m', gs, fs, _, by simp only [sub, h1, h3], h4, by simp only [setT, h1, h5, Option.map_some], h6⟩

def takeW (A : StA) (a : Unit) (r : Root) (p : List Nat) (i off sz n : Nat) (K : TU → StA → Prop) : Prop :=
  match p with
  | [] => (match at_ (den A) r [] i with
    | some (.t (.sl b 0 sz' _ ds)) => if sz = sz' ∧ 0 < sz then (off + n * sz ≤ ds.length ∧ setW A r i (.t (.dead b)) fun A => killW r [i] A fun A => K (.sl a 0 sz n ((ds.drop off).take (n * sz))) A) else False
    | _ => False)
  | j :: p => (match rootCells (den A) r with
    | some cs => (match cs[j]? with
      | some (.t (.sl b 0 sz0 n0 ds)) => takeDW ds p i fun sz' es ds' => if sz = sz' ∧ 0 < sz then (off + n * sz ≤ es.length ∧ setRootW A r (cs.set j (.t (.sl b 0 sz0 n0 ds'))) fun A => killW r (j :: p ++ [i]) A fun A => K (.sl a 0 sz n ((es.drop off).take (n * sz))) A) else False
      | _ => False)
    | none => False)

theorem takeW_ok {A : StA} {a : Unit} {r : Root} {p : List Nat} {i off sz n : Nat} {K : TU → StA → Prop} (h : takeW A a r p i off sz n K) : ∃ t A', takeAt (den A) a r p i off sz n = some (t, den A') ∧ K t A' := by
  rw [den_takeAt]
  cases p with
  | nil =>
    simp only [takeW] at h
    split at h
    · next b sz' m ds h1 =>
      split at h
      · next hsz =>
        obtain ⟨h3, h4⟩ := h
        obtain ⟨A1, h5, h6⟩ := setW_ok h4
        rw [killW_eq] at h6
        refine ⟨_, _, ?_, h6⟩
        simp only [takeAtA, h1, h5, if_pos (And.intro h3 hsz), Option.map_some, dn, List.nil_append]
      · exact h.elim
    · exact h.elim
  | cons j p =>
    simp only [takeW] at h
    split at h
    · next cs hcs =>
      split at h
      · next b sz0 n0 ds hj =>
        obtain ⟨sz', m, es, fs, ds', h1, h2, h3, h4⟩ := takeDW_ok h
        split at h4
        · next hsz =>
          obtain ⟨h5, h6⟩ := h4
          rw [setRootW_eq, killW_eq] at h6
          refine ⟨_, _, ?_, h6⟩
          have e1 : at_ (den A) r (j :: p) i = some (.t (.sl () 0 sz' m es)) := by
            simp only [at_, hcs, Option.bind_some, subC, hj, h1, Option.map_some, List.getElem?_map, h2]
          have e2 : putCellA A r (j :: p) i (.t (.dead ())) = some (setRootA A r (cs.set j (.t (.sl b 0 sz0 n0 ds')))) := by
            simp only [putCellA, hcs, Option.bind_some, setC, hj, h3, Option.map_some]
          simp only [takeAtA, e1, e2, if_pos (And.intro h5 hsz), Option.map_some, dn]
        · exact h4.elim
      · exact h.elim
    · exact h.elim

def listAtW (A : StA) (r : Root) (p : List Nat) (i off m : Nat) (K : List TU → Prop) : Prop :=
  atW A r p i fun c => match c with
    | .t (.sl _ 0 _ _ ds) => off + m ≤ ds.length ∧ K ((ds.drop off).take m)
    | _ => False

theorem listAtW_ok {A : StA} {r : Root} {p : List Nat} {i off m : Nat} {K : List TU → Prop} (h : listAtW A r p i off m K) : ∃ ds, listAt (den A) r p i off m = some ds ∧ K ds := by
  obtain ⟨c, h1, h2⟩ := atW_ok h
  split at h2
  · obtain ⟨h3, h4⟩ := h2
    exact ⟨_, by simp only [listAt, h1, if_pos h3], h4⟩
  · exact h2.elim

mutual
def settleW : CU → StA → (TU → StA → Prop) → Prop
  | .t x, A, K => K x A
  | .bor a (.sl d) p i off sz n, A, K => takeW A a (.sl d) p i off sz n K
  | .lst a sz n cs, A, K => settlesW cs A fun ts A => K (.sl a 0 sz n ts) A
  | _, _, _ => False
def settlesW : List CU → StA → (List TU → StA → Prop) → Prop
  | [], A, K => K [] A
  | c :: cs, A, K => settleW c A fun t A => settlesW cs A fun ts A => K (t :: ts) A
end

mutual
theorem settleW_ok : ∀ (c : CU) {A : StA} {K : TU → StA → Prop}, settleW c A K → ∃ t A', settle c (den A) = some (t, den A') ∧ K t A'
  | .t x, A, K, h => ⟨x, A, rfl, by simpa only [settleW] using h⟩
  | .bor a (.sl d) p i off sz n, A, K, h => by
    simp only [settleW] at h
    simp only [settle]
    exact takeW_ok h
  | .lst a sz n cs, A, K, h => by
    simp only [settleW] at h
    obtain ⟨ts, A', h1, h2⟩ := settlesW_ok cs h
    exact ⟨_, A', by simp only [settle, h1, Option.map_some], h2⟩
  | .bor _ (.ex _) _ _ _ _ _, A, K, h => by simp only [settleW] at h
  | .ptr _ _ _ _, A, K, h => by simp only [settleW] at h
  | .rptr _ _, A, K, h => by simp only [settleW] at h
  | .nilp, A, K, h => by simp only [settleW] at h
  | .nilf, A, K, h => by simp only [settleW] at h
  | .fn _ _, A, K, h => by simp only [settleW] at h
theorem settlesW_ok : ∀ (cs : List CU) {A : StA} {K : List TU → StA → Prop}, settlesW cs A K → ∃ ts A', settles cs (den A) = some (ts, den A') ∧ K ts A'
  | [], A, K, h => ⟨[], A, rfl, by simpa only [settlesW] using h⟩
  | c :: cs, A, K, h => by
    simp only [settlesW] at h
    obtain ⟨t, A1, h1, h2⟩ := settleW_ok c h
    obtain ⟨ts, A2, h3, h4⟩ := settlesW_ok cs h2
    exact ⟨_, A2, by simp only [settles, h1, Option.bind_some, h3, Option.map_some], h4⟩
end

def keepW (c : CU) (A : StA) (K : CU → StA → Prop) : Prop :=
  match c with
  | .lst a sz n cs => settlesW cs A fun ts A => K (.t (.sl a 0 sz n ts)) A
  | .bor a (.sl d) p i off sz n => if isName cx f d then K (.bor a (.sl d) p i off sz n) A else takeW A a (.sl d) p i off sz n fun t A => K (.t t) A
  | .bor a (.ex j) p i off sz n => if cx.tke f then takeW A a (.ex j) p i off sz n fun t A => K (.t t) A else K (.bor a (.ex j) p i off sz n) A
  | c => K c A

theorem keepW_ok {c : CU} {A : StA} {K : CU → StA → Prop} (h : keepW cx f c A K) : ∃ c' A', keep cx f c (den A) = some (c', den A') ∧ K c' A' := by
  cases c with
  | lst a sz n cs =>
    obtain ⟨ts, A', h1, h2⟩ := settlesW_ok cs h
    exact ⟨_, A', by simp only [keep, settle, h1, Option.map_some], h2⟩
  | bor a r p i off sz n =>
    cases r with
    | sl d =>
      simp only [keepW] at h
      split at h
      · next hn => exact ⟨_, A, by simp only [keep, if_pos hn], h⟩
      · next hn =>
        obtain ⟨t, A', h1, h2⟩ := takeW_ok h
        exact ⟨_, A', by simp only [keep, if_neg hn, h1, Option.map_some], h2⟩
    | ex j =>
      simp only [keepW] at h
      split at h
      · next hn =>
        obtain ⟨t, A', h1, h2⟩ := takeW_ok h
        exact ⟨_, A', by simp only [keep, if_pos hn, h1, Option.map_some], h2⟩
      · next hn => exact ⟨_, A, by simp only [keep, if_neg hn], h⟩
  | _ => exact ⟨_, A, rfl, h⟩

def keepDW (d : Nat) (c : CU) (A : StA) (K : CU → StA → Prop) : Prop :=
  match c with
  | .bor a (.sl d') p i off sz n => if d' = d then takeW A a (.sl d') p i off sz n fun t A => K (.t t) A else keepW cx f (.bor a (.sl d') p i off sz n) A K
  | c => keepW cx f c A K

theorem keepDW_ok {d : Nat} {c : CU} {A : StA} {K : CU → StA → Prop} (h : keepDW cx f d c A K) : ∃ c' A', keepD cx f d c (den A) = some (c', den A') ∧ K c' A' := by
  cases c with
  | bor a r p i off sz n =>
    cases r with
    | sl d' =>
      simp only [keepDW] at h
      split at h
      · next hn =>
        obtain ⟨t, A', h1, h2⟩ := takeW_ok h
        exact ⟨_, A', by simp only [keepD, if_pos hn, h1, Option.map_some], h2⟩
      · next hn =>
        obtain ⟨c', A', h1, h2⟩ := keepW_ok cx f h
        exact ⟨c', A', by simp only [keepD, if_neg hn]; exact h1, h2⟩
    | ex j =>
      obtain ⟨c', A', h1, h2⟩ := keepW_ok cx f (c := .bor a (.ex j) p i off sz n) h
      exact ⟨c', A', by simp only [keepD]; exact h1, h2⟩
  | t x => obtain ⟨c', A', h1, h2⟩ := keepW_ok cx f (c := .t x) h; exact ⟨c', A', by simp only [keepD]; exact h1, h2⟩
  | ptr a r p off => obtain ⟨c', A', h1, h2⟩ := keepW_ok cx f (c := .ptr a r p off) h; exact ⟨c', A', by simp only [keepD]; exact h1, h2⟩
  | rptr a cs => obtain ⟨c', A', h1, h2⟩ := keepW_ok cx f (c := .rptr a cs) h; exact ⟨c', A', by simp only [keepD]; exact h1, h2⟩
  | nilp => obtain ⟨c', A', h1, h2⟩ := keepW_ok cx f (c := .nilp) h; exact ⟨c', A', by simp only [keepD]; exact h1, h2⟩
  | nilf => obtain ⟨c', A', h1, h2⟩ := keepW_ok cx f (c := .nilf) h; exact ⟨c', A', by simp only [keepD]; exact h1, h2⟩
  | fn g caps => obtain ⟨c', A', h1, h2⟩ := keepW_ok cx f (c := .fn g caps) h; exact ⟨c', A', by simp only [keepD]; exact h1, h2⟩
  | lst a sz n cs => obtain ⟨c', A', h1, h2⟩ := keepW_ok cx f (c := .lst a sz n cs) h; exact ⟨c', A', by simp only [keepD]; exact h1, h2⟩

def keepDsW (d : Nat) : List CU → StA → (List CU → StA → Prop) → Prop
  | [], A, K => K [] A
  | c :: cs, A, K => keepDW cx f d c A fun c A => keepDsW d cs A fun cs A => K (c :: cs) A

theorem keepDsW_ok {d : Nat} : ∀ {cs : List CU} {A : StA} {K : List CU → StA → Prop}, keepDsW cx f d cs A K → ∃ ds A', keepDs cx f d cs (den A) = some (ds, den A') ∧ K ds A'
  | [], A, K, h => ⟨[], A, rfl, h⟩
  | c :: cs, A, K, h => by
    obtain ⟨c', A1, h1, h2⟩ := keepDW_ok cx f h
    obtain ⟨cs', A2, h3, h4⟩ := keepDsW_ok h2
    exact ⟨_, A2, by simp only [keepDs, h1, Option.bind_some, h3, Option.map_some], h4⟩

def isLT : Option TU → Bool
  | some (.sl _ 0 _ _ _) => true
  | _ => false

mutual
def alvW (A : StA) : CU → Prop → Prop
  | .bor a r p i off sz n, K => (match p with
    | [] => if alive (den A) (.bor a r [] i off sz n) then K else False
    | j :: p => contW A r (j :: p) (fun _ => False) fun es => isLT es[i]? = true ∧ K)
  | .ptr a r p off, K => (match p with
    | [] => K
    | [j] => if alive (den A) (.ptr a r [j] off) then K else False
    | j :: j' :: q => alive (den A) (.ptr a r (j :: j' :: q) off) = true ∧ K)
  | .fn _ caps, K => alvsW A caps K
  | .lst _ _ _ cs, K => alvsW A cs K
  | .t _, K => K
  | .rptr _ _, K => K
  | .nilp, K => K
  | .nilf, K => K
def alvsW (A : StA) : List CU → Prop → Prop
  | [], K => K
  | c :: cs, K => alvW A c (alvsW A cs K)
end

theorem isLT_ok {ds : List TU} {i : Nat} (h : isLT ds[i]? = true) : isList ((ds.map (C.t (α := Unit)))[i]?) = true := by
  rw [List.getElem?_map]
  unfold isLT at h
  split at h
  · next e => rw [e]; rfl
  · cases h

mutual
theorem alvW_ok {A : StA} : ∀ (c : CU) {K : Prop}, alvW A c K → alive (den A) c = true ∧ K
  | .bor a r p i off sz n, K, h => by
    simp only [alvW] at h
    cases p with
    | nil =>
      simp only at h
      split at h
      · next ha => exact ⟨ha, h⟩
      · exact h.elim
    | cons j p =>
      simp only at h
      rcases contW_ok h with ⟨h1, _⟩ | ⟨es, h1, h2, h3⟩
      · cases h1
      · refine ⟨?_, h3⟩
        simp only [alive, at_, h1, Option.bind_some]
        exact isLT_ok h2
  | .ptr a r p off, K, h => by
    simp only [alvW] at h
    match p, h with
    | [], h => exact ⟨rfl, h⟩
    | [j], h =>
      simp only at h
      split at h
      · next ha => exact ⟨ha, h⟩
      · exact h.elim
    | j :: j' :: q, h => exact h
  | .fn g caps, K, h => by simp only [alvW] at h; simpa only [alive] using alvsW_ok caps h
  | .lst a sz n cs, K, h => by simp only [alvW] at h; simpa only [alive] using alvsW_ok cs h
  | .t _, K, h => ⟨rfl, by simpa only [alvW] using h⟩
  | .rptr _ _, K, h => ⟨rfl, by simpa only [alvW] using h⟩
  | .nilp, K, h => ⟨rfl, by simpa only [alvW] using h⟩
  | .nilf, K, h => ⟨rfl, by simpa only [alvW] using h⟩
theorem alvsW_ok {A : StA} : ∀ (cs : List CU) {K : Prop}, alvsW A cs K → alives (den A) cs = true ∧ K
  | [], K, h => ⟨rfl, by simpa only [alvsW] using h⟩
  | c :: cs, K, h => by
    simp only [alvsW] at h
    obtain ⟨h1, h2⟩ := alvW_ok c h
    obtain ⟨h3, h4⟩ := alvsW_ok cs h2
    exact ⟨by simp only [alives, h1, h3, Bool.and_self], h4⟩
end

def keepXW (d : Nat) (x : XU) (A : StA) (K : XU → StA → Prop) : Prop :=
  match x with
  | .c x => keepDW cx f d x A fun c A => alvW A c (K (.c c) A)
  | .agg cs => keepDsW cx f d cs A fun cs A => alvsW A cs (K (.agg cs) A)
  | .box a cs => alvsW A cs (K (.box a cs) A)
  | _ => False

theorem keepXW_ok {d : Nat} {x : XU} {A : StA} {K : XU → StA → Prop} (h : keepXW cx f d x A K) : ∃ y A', keepX cx f d x (den A) = some (y, den A') ∧ K y A' := by
  cases x with
  | c x =>
    obtain ⟨c', A1, h1, h2⟩ := keepDW_ok cx f h
    obtain ⟨ha, h3⟩ := alvW_ok c' h2
    exact ⟨_, A1, by simp only [keepX, h1, Option.bind_some, if_pos ha], h3⟩
  | agg cs =>
    obtain ⟨c', A1, h1, h2⟩ := keepDsW_ok cx f h
    obtain ⟨ha, h3⟩ := alvsW_ok c' h2
    exact ⟨_, A1, by simp only [keepX, h1, Option.bind_some, if_pos ha], h3⟩
  | box a cs =>
    obtain ⟨ha, h3⟩ := alvsW_ok cs h
    exact ⟨_, A, by simp only [keepX, if_pos ha], h3⟩
  | tup xs => exact h.elim
  | undef => exact h.elim

def assignW (A : StA) (t : Nat) (d : Nat) (x : Operand) (K : StA → Prop) : Prop :=
  opW cx f A t x fun y => clrW cx f A x fun A => keepXW cx f d y A fun y A =>
    if isVar cx f d then (if (refsOf y).contains (.sl d) then False else killW (.sl d) [] A fun A => putW A d y K)
    else putW A d y K

theorem assignW_ok {A : StA} {t d : Nat} {x : Operand} {K : StA → Prop} (h : assignW cx f A t d x K) : ∃ A', assignV cx f (den A) t d x = some (den A') ∧ K A' := by
  obtain ⟨y, h1, h2⟩ := opW_ok h
  rw [clrW_eq] at h2
  obtain ⟨y', A1, h3, h4⟩ := keepXW_ok cx f h2
  simp only [assignV, h1, Option.bind_some, den_clr, h3]
  split at h4
  · next hv =>
    split at h4
    · exact h4.elim
    · next hc =>
      rw [killW_eq, putW_eq] at h4
      exact ⟨_, by simp only [if_pos hv, if_neg hc, den_kill, den_put], h4⟩
  · next hv =>
    rw [putW_eq] at h4
    exact ⟨_, by simp only [if_neg hv, den_put], h4⟩

end
end Go.Proofs.YtlkjnlfddadlmaaDoor.V

namespace Go.Proofs.YtlkjnlfddadlmaaDoor.V

theorem setT_setT : ∀ {p : List Nat} {ds es fs : List TU} {off : Nat} {x y : TU}, setT ds p off x = some es → setT es p off y = some fs → setT ds p off y = some fs
  | [], ds, es, fs, off, x, y, h1, h2 => by
    simp only [setT] at h1 h2 ⊢
    split at h1
    · next hl =>
      simp only [Option.some.injEq] at h1
      subst h1
      simp only [List.length_set, if_pos hl, List.set_set] at h2 ⊢
      exact h2
    · cases h1
  | i :: p, ds, es, fs, off, x, y, h1, h2 => by
    simp only [setT] at h1 h2 ⊢
    split at h1
    · next a sz n gs hi =>
      cases h3 : setT gs p off x with
      | none => simp [h3] at h1
      | some gs' =>
        simp only [h3, Option.map_some, Option.some.injEq] at h1
        subst h1
        have hil : i < ds.length := by rw [List.getElem?_eq_some_iff] at hi; exact hi.1
        rw [List.getElem?_set_self hil] at h2
        simp only at h2
        cases h4 : setT gs' p off y with
        | none => simp [h4] at h2
        | some gs'' =>
          simp only [h4, Option.map_some, Option.some.injEq, List.set_set] at h2
          have := setT_setT h3 h4
          simp only [this, Option.map_some, h2]
    · cases h1

def setTs : List TU → List Nat → Nat → List TU → Option (List TU)
  | ds, _, _, [] => some ds
  | ds, p, off, t :: ts => (setT ds p off t).bind fun ds => setTs ds p (off + 1) ts

def setDW : List TU → List Nat → Nat → List TU → (List TU → Prop) → Prop
  | ds, [], off, ts, K => off + ts.length ≤ ds.length ∧ K (ds.take off ++ ts ++ ds.drop (off + ts.length))
  | ds, i :: p, off, ts, K => ∃ sz n es, ds[i]? = some (.sl () 0 sz n es) ∧ setDW es p off ts fun es => K (ds.set i (.sl () 0 sz n es))

theorem setTs_nil : ∀ {ts ds : List TU} {off : Nat}, off + ts.length ≤ ds.length → setTs ds [] off ts = some (ds.take off ++ ts ++ ds.drop (off + ts.length))
  | [], ds, off, h => by simp [setTs]
  | t :: ts, ds, off, h => by
    simp only [List.length_cons] at h
    have h1 : off < ds.length := by omega
    simp only [setTs, setT, if_pos h1, Option.bind_some]
    rw [setTs_nil (by simp only [List.length_set]; omega)]
    have e1 : (ds.set off t).take (off + 1) = ds.take off ++ [t] := by
      rw [List.take_set, List.take_succ_eq_append_getElem h1, List.set_append_right _ _ (by simp; omega)]
      simp [Nat.min_eq_left (Nat.le_of_lt h1)]
    have e2 : (ds.set off t).drop (off + 1 + ts.length) = ds.drop (off + (ts.length + 1)) := by
      rw [List.drop_set_of_lt (by omega)]; congr 1; omega
    rw [e1, e2]
    simp

theorem setTs_cons : ∀ {ts ds es es' : List TU} {i : Nat} {p : List Nat} {off sz n : Nat}, ds[i]? = some (.sl () 0 sz n es) → setTs es p off ts = some es' → setTs ds (i :: p) off ts = some (ds.set i (.sl () 0 sz n es'))
  | [], ds, es, es', i, p, off, sz, n, h1, h2 => by
    simp only [setTs, Option.some.injEq] at h2 ⊢
    subst h2
    obtain ⟨hl, he⟩ := List.getElem?_eq_some_iff.1 h1
    rw [← he, List.set_getElem_self]
  | t :: ts, ds, es, es', i, p, off, sz, n, h1, h2 => by
    simp only [setTs] at h2 ⊢
    cases h3 : setT es p off t with
    | none => simp [h3] at h2
    | some es1 =>
      simp only [h3, Option.bind_some] at h2
      simp only [setT, h1, h3, Option.map_some, Option.bind_some]
      obtain ⟨hl, he⟩ := List.getElem?_eq_some_iff.1 h1
      rw [setTs_cons (List.getElem?_set_self hl) h2, List.set_set]

theorem setDW_ok : ∀ {p : List Nat} {ds : List TU} {off : Nat} {ts : List TU} {K : List TU → Prop}, setDW ds p off ts K → ∃ es, setTs ds p off ts = some es ∧ K es
  | [], ds, off, ts, K, h => ⟨_, setTs_nil h.1, h.2⟩
  | i :: p, ds, off, ts, K, h => by
    obtain ⟨sz, n, es, h1, h2⟩ := h
    obtain ⟨es', h3, h4⟩ := setDW_ok h2
    exact ⟨_, setTs_cons h1 h3, h4⟩

mutual
def shal (r : Root) (n : Nat) : CU → Bool
  | .ptr _ r' p _ => decide (r ≠ r') || decide (p.length ≤ n)
  | .bor _ r' p _ _ _ _ => decide (r ≠ r') || decide (p.length + 1 ≤ n)
  | .fn _ cs => shals r n cs
  | .lst _ _ _ cs => shals r n cs
  | _ => true
def shals (r : Root) (n : Nat) : List CU → Bool
  | [] => true
  | c :: cs => shal r n c && shals r n cs
end

theorem pre_len : ∀ {p q : List Nat}, pre p q = true → p.length ≤ q.length
  | [], q, _ => by simp
  | x :: p, y :: q, h => by
    simp only [pre, Bool.and_eq_true] at h
    simp only [List.length_cons]
    exact Nat.succ_le_succ (pre_len h.2)
  | x :: p, [], h => by simp [pre] at h

mutual
theorem shal_kill {r : Root} {q : List Nat} {n : Nat} (hq : n < q.length) : ∀ {c : CU}, shal r n c = true → killC r q c = c
  | .t x, h => rfl
  | .ptr a r' p off, h => by
    simp only [shal, Bool.or_eq_true, decide_eq_true_eq] at h
    simp only [killC]
    rw [if_neg]
    rintro ⟨rfl, h2⟩
    have := pre_len h2
    rcases h with h | h
    · exact h rfl
    · omega
  | .bor a r' p i off sz m, h => by
    simp only [shal, Bool.or_eq_true, decide_eq_true_eq] at h
    simp only [killC]
    rw [if_neg]
    rintro ⟨rfl, h2⟩
    have := pre_len h2
    simp only [List.length_append, List.length_cons, List.length_nil] at this
    rcases h with h | h
    · exact h rfl
    · omega
  | .fn g cs, h => by simp only [shal] at h; simp only [killC, shals_kill hq h]
  | .lst a sz m cs, h => by simp only [shal] at h; simp only [killC, shals_kill hq h]
  | .rptr a cs, h => rfl
  | .nilp, h => rfl
  | .nilf, h => rfl
theorem shals_kill {r : Root} {q : List Nat} {n : Nat} (hq : n < q.length) : ∀ {cs : List CU}, shals r n cs = true → killCs r q cs = cs
  | [], h => rfl
  | c :: cs, h => by
    simp only [shals, Bool.and_eq_true] at h
    simp only [killCs, shal_kill hq h.1, shals_kill hq h.2]
end

def shalX1 (r : Root) (n : Nat) : XU → Bool
  | .c x => shal r n x
  | .agg cs => shals r n cs
  | .box _ cs => shals r n cs
  | .tup _ => false
  | .undef => true

def shalX (r : Root) (n : Nat) : XU → Bool
  | .c x => shal r n x
  | .agg cs => shals r n cs
  | .box _ cs => shals r n cs
  | .tup xs => xs.all (shalX1 r n)
  | .undef => true

theorem shalX1_kill {r : Root} {q : List Nat} {n : Nat} (hq : n < q.length) {x : XU} (h : shalX1 r n x = true) : killX r q x = x := by
  cases x with
  | c x => simp only [killX, shal_kill hq h]
  | agg cs => simp only [killX, shals_kill hq h]
  | box a cs => simp only [killX, shals_kill hq h]
  | tup xs => simp [shalX1] at h
  | undef => rfl

theorem shalXs_kill {r : Root} {q : List Nat} {n : Nat} (hq : n < q.length) : ∀ {xs : List XU}, xs.all (shalX1 r n) = true → killXs r q xs = xs
  | [], h => rfl
  | x :: xs, h => by
    simp only [List.all_cons, Bool.and_eq_true] at h
    simp only [killXs, shalX1_kill hq h.1, shalXs_kill hq h.2]

theorem shalX_kill {r : Root} {q : List Nat} {n : Nat} (hq : n < q.length) {x : XU} (h : shalX r n x = true) : killX r q x = x := by
  cases x with
  | c x => simp only [killX, shal_kill hq h]
  | agg cs => simp only [killX, shals_kill hq h]
  | box a cs => simp only [killX, shals_kill hq h]
  | tup xs => simp only [killX, shalXs_kill hq h]
  | undef => rfl

def Lk (M : Nat → Prop) (S S' : SU) : Prop := (∀ i, M i → S.s i = S'.s i) ∧ S.e = S'.e

def notTup : XU → Bool
  | .tup _ => false
  | _ => true

section
variable {cx : Ctx} {f : Nat} {M : Nat → Prop} {r : Root}

theorem Lk.root {S S' : SU} (h : Lk M S S') (hr : ∀ d, r = .sl d → M d) : rootCells S r = rootCells S' r := by
  cases r with
  | sl d => simp only [rootCells, h.1 d (hr d rfl)]
  | ex j => simp only [rootCells, h.2]

theorem Lk.set {S S' : SU} (h : Lk M S S') (hr : ∀ d, r = .sl d → M d) (cs : List CU) : Lk M (setRoot S r cs) (setRoot S' r cs) := by
  cases r with
  | sl d =>
    refine ⟨fun i hi => ?_, h.2⟩
    simp only [setRoot, upd]
    split
    · rw [h.1 d (hr d rfl)]
    · exact h.1 i hi
  | ex j =>
    refine ⟨fun i hi => h.1 i hi, ?_⟩
    simp only [setRoot, h.2]

theorem setX_setX {x : XU} {cs ds : List CU} (hx : notTup x = true) (hl : ds.length = cs.length) : setX (setX x cs) ds = setX x ds := by
  cases x with
  | c x => rcases cs with _ | ⟨c, _ | ⟨c', cs⟩⟩ <;> rcases ds with _ | ⟨d, _ | ⟨d', ds⟩⟩ <;> first | rfl | (simp at hl)
  | tup xs => simp [notTup] at hx
  | _ => rfl

theorem set_set {S : SU} {cs ds : List CU} (hn : ∀ d, r = .sl d → notTup (S.s d) = true) (hl : ds.length = cs.length) : setRoot (setRoot S r cs) r ds = setRoot S r ds := by
  cases r with
  | sl d =>
    simp only [setRoot, upd, if_true, setX_setX (hn d rfl) hl]
    congr 1
    funext i
    simp only [upd]
    split <;> rfl
  | ex j => simp only [setRoot, List.set_set]

theorem root_set {S : SU} {cs ds : List CU} (hn : ∀ d, r = .sl d → notTup (S.s d) = true) (h : rootCells S r = some cs) (hl : ds.length = cs.length) : rootCells (setRoot S r ds) r = some ds := by
  cases r with
  | sl d =>
    have hn := hn d rfl
    simp only [rootCells, setRoot, upd, if_true] at h ⊢
    cases hx : S.s d with
    | c x =>
      simp only [hx, Option.some.injEq] at h
      subst h
      rcases ds with _ | ⟨d, _ | ⟨d', ds⟩⟩
      · simp at hl
      · rfl
      · simp at hl
    | agg cs => rfl
    | box a cs => rfl
    | tup xs => rw [hx] at hn; simp [notTup] at hn
    | undef => simp [hx] at h
  | ex j =>
    simp only [rootCells, setRoot] at h ⊢
    rw [List.getElem?_set_self (List.getElem?_eq_some_iff.1 h).1]

theorem root_self {S : SU} {cs : List CU} (hn : ∀ d, r = .sl d → notTup (S.s d) = true) (h : rootCells S r = some cs) : setRoot S r cs = S := by
  cases r with
  | sl d =>
    have hn := hn d rfl
    simp only [rootCells] at h
    have e : setX (S.s d) cs = S.s d := by
      cases hx : S.s d with
      | c x => simp only [hx, Option.some.injEq] at h; subst h; rfl
      | agg cs => simp only [hx, Option.some.injEq] at h; subst h; rfl
      | box a cs => simp only [hx, Option.some.injEq] at h; subst h; rfl
      | tup xs => rw [hx] at hn; simp [notTup] at hn
      | undef => simp [hx] at h
    simp only [setRoot, e]
    cases S
    simp only [St.mk.injEq, and_true]
    funext i
    simp only [upd]
    split
    · next hi => rw [hi]
    · rfl
  | ex j =>
    simp only [rootCells] at h
    obtain ⟨hl, he⟩ := List.getElem?_eq_some_iff.1 h
    simp only [setRoot, ← he, List.set_getElem_self]

def deepOk (M : Nat → Prop) (r : Root) (n : Nat) (S : SU) : Prop := (∀ i, M i → shalX r n (S.s i) = true) ∧ ∀ cs ∈ S.e, shals r n cs = true

theorem Lk.kill {S S' : SU} {q : List Nat} {n : Nat} (h : Lk M S S') (hq : n < q.length) (hd : deepOk M r n S) : Lk M (V.kill r q S) S' := by
  refine ⟨fun i hi => ?_, ?_⟩
  · simp only [V.kill, shalX_kill hq (hd.1 i hi)]; exact h.1 i hi
  · simp only [V.kill]
    rw [← h.2]
    have : ∀ l : List (List CU), (∀ cs ∈ l, shals r n cs = true) → l.map (killCs r q) = l := by
      intro l hl
      induction l with
      | nil => rfl
      | cons c l ih => rw [List.map_cons, shals_kill hq (hl c List.mem_cons_self), ih fun x hx => hl x (List.mem_cons_of_mem _ hx)]
    exact this _ hd.2

theorem shals_set {n : Nat} : ∀ {cs : List CU} {j : Nat} {x : TU}, shals r n cs = true → shals r n (cs.set j (.t x)) = true
  | [], j, x, h => rfl
  | c :: cs, 0, x, h => by simp only [shals, Bool.and_eq_true] at h; simp only [List.set_cons_zero, shals, shal, Bool.true_and, h.2]
  | c :: cs, j + 1, x, h => by
    simp only [shals, Bool.and_eq_true] at h
    simp only [List.set_cons_succ, shals, h.1, Bool.true_and]
    exact shals_set h.2

theorem deepOk.set {n : Nat} {S : SU} {cs : List CU} {j : Nat} {x : TU} (hr : ∀ d, r = .sl d → M d) (hn : ∀ d, r = .sl d → notTup (S.s d) = true) (h : deepOk M r n S) (hc : rootCells S r = some cs) : deepOk M r n (setRoot S r (cs.set j (.t x))) := by
  cases r with
  | sl d =>
    refine ⟨fun i hi => ?_, h.2⟩
    simp only [setRoot, upd]
    split
    · have h1 := h.1 d (hr d rfl)
      have hn := hn d rfl
      simp only [rootCells] at hc
      cases hx : S.s d with
      | c y =>
        simp only [hx, Option.some.injEq] at hc
        subst hc
        cases j with
        | zero => rfl
        | succ j => simp only [setX, List.set_cons_succ, List.set_nil, shalX]; rw [hx] at h1; exact h1
      | agg ds => simp only [hx, Option.some.injEq] at hc; subst hc; rw [hx] at h1; exact shals_set h1
      | box a ds => simp only [hx, Option.some.injEq] at hc; subst hc; rw [hx] at h1; exact shals_set h1
      | tup xs => rw [hx] at hn; simp [notTup] at hn
      | undef => simp [hx] at hc
    · exact h.1 i hi
  | ex k =>
    refine ⟨fun i hi => h.1 i hi, fun ds hds => ?_⟩
    simp only [setRoot] at hds
    simp only [rootCells] at hc
    rcases List.mem_or_eq_of_mem_set hds with h1 | h1
    · exact h.2 ds h1
    · subst h1
      exact shals_set (h.2 cs (List.mem_of_getElem? hc))

theorem deepOk.lk {n : Nat} {S S' : SU} (h : deepOk M r n S) (hl : Lk M S S') : deepOk M r n S' := ⟨fun i hi => by rw [← hl.1 i hi]; exact h.1 i hi, by rw [← hl.2]; exact h.2⟩

theorem kill_t (r : Root) : ∀ (qs : List (List Nat)) (x : TU), qs.foldl (fun c q => killC r q c) (.t x : CU) = .t x
  | [], x => rfl
  | q :: qs, x => by simp only [List.foldl_cons, killC]; exact kill_t r qs x

theorem setT_some : ∀ {p : List Nat} {ds es : List TU} {off : Nat} {x y : TU}, setT ds p off x = some es → ∃ es', setT ds p off y = some es'
  | [], ds, es, off, x, y, h => by
    simp only [setT] at h ⊢
    split at h
    · next hl => exact ⟨_, by rw [if_pos hl]⟩
    · cases h
  | i :: p, ds, es, off, x, y, h => by
    simp only [setT] at h ⊢
    split at h
    · next a sz n gs hi =>
      cases h3 : setT gs p off x with
      | none => simp [h3] at h
      | some gs' =>
        obtain ⟨g, hg⟩ := setT_some (y := y) h3
        exact ⟨_, by simp only [hg, Option.map_some]; rfl⟩
    · cases h

theorem setT_sub : ∀ {p : List Nat} {ds es : List TU} {off : Nat} {x : TU}, setT ds p off x = some es → ∃ gs old, sub ds p = some gs ∧ gs[off]? = some old
  | [], ds, es, off, x, h => by
    simp only [setT] at h
    split at h
    · next hl => exact ⟨ds, ds[off], rfl, List.getElem?_eq_getElem hl⟩
    · cases h
  | i :: p, ds, es, off, x, h => by
    simp only [setT] at h
    split at h
    · next a sz n gs hi =>
      cases h3 : setT gs p off x with
      | none => simp [h3] at h
      | some gs' =>
        obtain ⟨hs, old, h4, h5⟩ := setT_sub h3
        exact ⟨hs, old, by simp only [sub, hi]; exact h4, h5⟩
    · cases h

theorem setT_get_some {p : List Nat} {ds es : List TU} {off : Nat} {x : TU} (h : setT ds p off x = some es) : ∃ y, setT es p off x = some y := by
  induction p generalizing ds es with
  | nil =>
    simp only [setT] at h ⊢
    split at h
    · next hl => simp only [Option.some.injEq] at h; subst h; exact ⟨_, by rw [if_pos (by simpa using hl)]⟩
    · cases h
  | cons i p ih =>
    simp only [setT] at h ⊢
    split at h
    · next a sz n gs hi =>
      cases h3 : setT gs p off x with
      | none => simp [h3] at h
      | some gs' =>
        simp only [h3, Option.map_some, Option.some.injEq] at h
        subst h
        have hil := (List.getElem?_eq_some_iff.1 hi).1
        obtain ⟨y, hy⟩ := ih h3
        exact ⟨_, by rw [List.getElem?_set_self hil]; simp only [hy, Option.map_some]; rfl⟩
    · cases h

theorem putCells_deep (hnst : (cx.nst f && isEx r) = false) (hr : ∀ d, r = .sl d → M d) {j : Nat} {p : List Nat} {a : Unit} {sz n : Nat} :
    ∀ {ts : List TU} {off : Nat} {qs : List (List Nat)} {S T : SU} {cs : List CU} {ds ds' : List TU}, (∀ d, r = .sl d → notTup (S.s d) = true) → Lk M T S → deepOk M r (j :: p).length S →
    rootCells S r = some cs → cs[j]? = some (.t (.sl a 0 sz n ds)) → setTs ds p off ts = some ds' →
    ∃ T', putCells cx f r (j :: p) off qs (toT ts) T = some T' ∧ Lk M T' (setRoot S r (cs.set j (.t (.sl a 0 sz n ds'))))
  | [], off, qs, S, T, cs, ds, ds', hn, hl, hd, hc, hj, hs => by
    simp only [setTs, Option.some.injEq] at hs
    subst hs
    refine ⟨T, rfl, ?_⟩
    have : cs.set j (.t (.sl a 0 sz n ds)) = cs := by
      obtain ⟨h1, h2⟩ := List.getElem?_eq_some_iff.1 hj
      rw [← h2, List.set_getElem_self]
    rw [this, root_self hn hc]
    exact hl
  | t :: ts, off, qs, S, T, cs, ds, ds', hn, hl, hd, hc, hj, hs => by
    simp only [setTs] at hs
    cases h1 : setT ds p off t with
    | none => simp [h1] at hs
    | some ds1 =>
      simp only [h1, Option.bind_some] at hs
      have hjl := (List.getElem?_eq_some_iff.1 hj).1
      have hT : rootCells T r = some cs := by rw [hl.root hr]; exact hc
      obtain ⟨gs, old, g1, g2⟩ := setT_sub h1
      have hat : at_ T r (j :: p) off = some (.t old) := by
        simp only [at_, hT, Option.bind_some, subC, hj, g1, Option.map_some, List.getElem?_map, g2]
      have hput : ∀ {U : SU} {bs : List CU} {es es' : List TU} {x : TU}, rootCells U r = some bs → bs[j]? = some (.t (.sl a 0 sz n es)) → setT es p off x = some es' → putCell U r (j :: p) off (.t x) = some (setRoot U r (bs.set j (.t (.sl a 0 sz n es')))) := by
        intro U bs es es' x k1 k2 k3
        simp only [putCell, k1, Option.bind_some, setC, k2, k3, Option.map_some]
      have hset : ∀ x : CU, (cs.set j x)[j]? = some x := fun x => List.getElem?_set_self hjl
      -- the state behind this cell
      have next : ∀ {U : SU}, Lk M U (setRoot S r (cs.set j (.t (.sl a 0 sz n ds1)))) → ∀ qs, ∃ T', putCells cx f r (j :: p) (off + 1) qs (toT ts) U = some T' ∧ Lk M T' (setRoot S r (cs.set j (.t (.sl a 0 sz n ds')))) := by
        intro U hU qs
        have hn1 : ∀ d, r = .sl d → notTup ((setRoot S r (cs.set j (.t (.sl a 0 sz n ds1)))).s d) = true := by
          rintro d rfl
          have := hn d rfl
          simp only [setRoot, upd, if_true]
          cases hx : S.s d with
          | c x => rcases cs.set j _ with _ | ⟨c, _ | ⟨c', cs'⟩⟩ <;> rfl
          | tup xs => rw [hx] at this; simp [notTup] at this
          | _ => rfl
        obtain ⟨T', k1, k2⟩ := putCells_deep hnst hr (j := j) (p := p) (a := a) (sz := sz) (n := n) (ts := ts) (off := off + 1) (qs := qs) (S := setRoot S r (cs.set j (.t (.sl a 0 sz n ds1)))) (T := U) (cs := cs.set j (.t (.sl a 0 sz n ds1))) (ds := ds1) (ds' := ds') hn1 hU (hd.set hr hn hc) (root_set hn hc (by simp)) (hset _) hs
        refine ⟨T', k1, ?_⟩
        rw [set_set hn (by simp), List.set_set] at k2
        exact k2
      simp only [toT, List.map_cons, putCells, hat, Option.bind_some, kill_t]
      by_cases ho : isOwn (.t old : CU) = true
      · obtain ⟨es0, hes0⟩ := setT_some (y := (.dead () : TU)) h1
        have hlen : ∀ x : CU, (cs.set j x).length = cs.length := fun x => by simp
        have hputd := hput hT hj hes0
        simp only [if_pos ho, hnst, Bool.false_eq_true, if_false, hputd, Option.bind_some]
        -- the emptied state, and what dies with it
        have hl0 : Lk M (setRoot T r (cs.set j (.t (.sl a 0 sz n es0)))) (setRoot S r (cs.set j (.t (.sl a 0 sz n es0)))) := hl.set hr _
        have hd0 : deepOk M r (j :: p).length (setRoot T r (cs.set j (.t (.sl a 0 sz n es0)))) := (hd.set hr hn hc).lk ⟨fun i hi => (hl0.1 i hi).symm, hl0.2.symm⟩
        have hl1 := hl0.kill (q := (j :: p) ++ [off]) (n := (j :: p).length) (by simp) hd0
        have hT1 : rootCells (V.kill r ((j :: p) ++ [off]) (setRoot T r (cs.set j (.t (.sl a 0 sz n es0))))) r = some (cs.set j (.t (.sl a 0 sz n es0))) := by
          rw [hl1.root hr, root_set hn hc (hlen _)]
        obtain ⟨y0, hy0⟩ := setT_get_some hes0
        obtain ⟨es1, hes1⟩ := setT_some (y := t) hy0
        have e1 : es1 = ds1 := by
          have := setT_setT hes0 hes1
          rw [h1] at this
          exact (Option.some.inj this).symm
        subst e1
        have hput1 := hput hT1 (hset _) hes1
        simp only [List.cons_append] at hput1 ⊢
        simp only [hput1, Option.bind_some]
        refine next ?_ _
        have := hl1.set hr (cs.set j (.t (.sl a 0 sz n es1)))
        rw [set_set hn (by simp)] at this
        simpa only [List.set_set, List.cons_append] using this
      · simp only [if_neg ho, hput hT hj h1, Option.bind_some]
        exact next (hl.set hr _) _
end
end Go.Proofs.YtlkjnlfddadlmaaDoor.V

namespace Go.Proofs.YtlkjnlfddadlmaaDoor.V

section
variable (cx : Ctx) (f : Nat) (call : Callee)

theorem lk_key {jk jk' : Nat → XU} : ∀ {l : List (Nat × XU)} {i : Nat}, i ∈ l.map (·.1) → lk jk l i = lk jk' l i
  | [], i, h => by simp at h
  | (d, x) :: l, i, h => by
    simp only [lk]
    split
    · rfl
    · next hi =>
      simp only [List.map_cons, List.mem_cons] at h
      exact lk_key (h.resolve_left hi)

theorem lk_nokey {jk : Nat → XU} : ∀ {l : List (Nat × XU)} {i : Nat}, i ∉ l.map (·.1) → lk jk l i = jk i
  | [], i, h => rfl
  | (d, x) :: l, i, h => by
    simp only [List.map_cons, List.mem_cons, not_or] at h
    simp only [lk, if_neg h.1]
    exact lk_nokey h.2

theorem lk_all {A : StA} {P : XU → Bool} (h : (A.env.all fun q => P (lk A.jk A.env q.1)) = true) {i : Nat} (hi : i ∈ A.env.map (·.1)) : P (lk A.jk A.env i) = true := by
  obtain ⟨q, q1, rfl⟩ := List.mem_map.1 hi
  exact List.all_eq_true.1 h q q1

def rootOk (A : StA) : Root → Bool
  | .sl d => (A.env.any fun q => q.1 == d) && notTup (lk A.jk A.env d)
  | .ex _ => true

def deepW (r : Root) (j : Nat) (p : List Nat) (off : Nat) (ts : List TU) (A : StA) (K : StA → Prop) : Prop :=
  if cx.nst f && isEx r then False else
  match rootCells (den A) r with
  | some cs => match cs[j]? with
    | some (.t (.sl a 0 sz n ds)) => if (A.env.all fun q => shalX r (p.length + 1) (lk A.jk A.env q.1)) && (A.e.all fun q => shals r (p.length + 1) q) && rootOk A r then
        setDW ds p off ts fun ds' => ∀ jk, fA ⟨(setRootA A r (cs.set j (.t (.sl a 0 sz n ds')))).env, jk, (setRootA A r (cs.set j (.t (.sl a 0 sz n ds')))).e⟩ K
      else False
    | _ => False
  | none => False

theorem Lk.mk_self (M : Nat → Prop) (S : SU) : Lk M S S := ⟨fun _ _ => rfl, rfl⟩

theorem deepW_ok {r : Root} {j : Nat} {p : List Nat} {off : Nat} {ts : List TU} {A : StA} {K : StA → Prop} (h : deepW cx f r j p off ts A K) : ∃ A', putCells cx f r (j :: p) off [] (toT ts) (den A) = some (den A') ∧ K A' := by
  unfold deepW at h
  split at h
  · exact h.elim
  next hnst =>
  have hnst : (cx.nst f && isEx r) = false := by simpa using hnst
  split at h
  · next cs hcs =>
    split at h
    · next a sz n ds hj =>
      split at h
      · next hck =>
        simp only [Bool.and_eq_true] at hck
        obtain ⟨⟨ha, he⟩, hro⟩ := hck
        obtain ⟨ds', h1, h2⟩ := setDW_ok h
        have hr : ∀ d, r = .sl d → d ∈ A.env.map (·.1) := by
          rintro d rfl
          simp only [rootOk, Bool.and_eq_true, List.any_eq_true, beq_iff_eq] at hro
          obtain ⟨⟨q, q1, q2⟩, _⟩ := hro
          exact List.mem_map.2 ⟨q, q1, q2⟩
        have hn : ∀ d, r = .sl d → notTup ((den A).s d) = true := by
          rintro d rfl
          simp only [rootOk, Bool.and_eq_true] at hro
          exact hro.2
        have hd : deepOk (fun i => i ∈ A.env.map (·.1)) r (j :: p).length (den A) := by
          refine ⟨fun i hi => ?_, fun c hc => ?_⟩
          · exact lk_all ha hi
          · exact List.all_eq_true.1 he c hc
        obtain ⟨T, h3, h4⟩ := putCells_deep (cx := cx) (f := f) hnst hr (j := j) (p := p) (a := a) (sz := sz) (n := n) (ts := ts) (off := off) (qs := []) hn (Lk.mk_self _ _) hd hcs hj h1
        have h2 := h2 T.s
        rw [fA_eq] at h2
        refine ⟨_, ?_, h2⟩
        rw [h3]
        congr 1
        rw [den_setRoot] at h4
        obtain ⟨k1, k2⟩ := h4
        have hkeys : ∀ i, i ∈ (setRootA A r (cs.set j (.t (.sl a 0 sz n ds')))).env.map (·.1) → i ∈ A.env.map (·.1) := by
          intro i hi
          cases r with
          | sl d =>
            simp only [setRootA, StA.put, List.map_cons, List.mem_cons] at hi
            rcases hi with rfl | hi
            · exact hr _ rfl
            · exact hi
          | ex k => exact hi
        cases T with
        | mk s e =>
        simp only [den] at k1 k2 ⊢
        rw [← k2]
        congr 1
        funext i
        by_cases hi : i ∈ (setRootA A r (cs.set j (.t (.sl a 0 sz n ds')))).env.map (·.1)
        · rw [k1 i (hkeys i hi)]
          exact lk_key hi
        · rw [lk_nokey hi]
      · exact h.elim
    · exact h.elim
  · exact h.elim

def putCW (r : Root) : Nat → List (List Nat) → List CU → StA → (StA → Prop) → Prop
  | _, _, [], A, K => K A
  | off, qs, c :: cs, A, K => match at_ (den A) r [] off with
    | some old => if isOwn old then (if cx.nst f && isEx r then False else setW A r off (.t (.dead ())) fun A => killW r [off] A fun A => fC ((qs ++ [[off]]).foldl (fun c q => killC r q c) c) fun c => setW A r off c fun A => putCW r (off + 1) (qs ++ [[off]]) cs A K)
        else fC (qs.foldl (fun c q => killC r q c) c) fun c => setW A r off c fun A => putCW r (off + 1) qs cs A K
    | none => False

theorem putCW_ok {r : Root} : ∀ {cs : List CU} {off : Nat} {qs : List (List Nat)} {A : StA} {K : StA → Prop}, putCW cx f r off qs cs A K → ∃ A', putCellsA cx f r [] off qs cs A = some A' ∧ K A'
  | [], off, qs, A, K, h => ⟨A, rfl, h⟩
  | c :: cs, off, qs, A, K, h => by
    simp only [putCW] at h
    split at h
    · next old hold =>
      split at h
      · next ho =>
        split at h
        · exact h.elim
        · next hn =>
          obtain ⟨A1, h1, h2⟩ := setW_ok h
          rw [killW_eq, fC_eq] at h2
          obtain ⟨A2, h3, h4⟩ := setW_ok h2
          obtain ⟨A3, h5, h6⟩ := putCW_ok h4
          exact ⟨A3, by simp only [putCellsA, hold, Option.bind_some, if_pos ho, if_neg hn, h1, List.nil_append, h3, h5], h6⟩
      · next ho =>
        rw [fC_eq] at h
        obtain ⟨A2, h3, h4⟩ := setW_ok h
        obtain ⟨A3, h5, h6⟩ := putCW_ok h4
        exact ⟨A3, by simp only [putCellsA, hold, Option.bind_some, if_neg ho, h3, h5], h6⟩
    · exact h.elim

def storeW (A : StA) (t : Nat) (a x : Operand) (K : StA → Prop) : Prop :=
  opW cx f A 0 a fun pa => match pa with
  | .c (.ptr _ r p off) => opW cx f A t x fun y => match cellsX y with
    | some cs => if (cx.ty t).ok = true ∧ cs.length = (cx.ty t).sz then clrW cx f A x fun A => match p with
        | [] => (match r with
          | .sl d => keepDsW cx f d cs A fun cs A => alvsW A cs (putCW cx f (.sl d) off [] cs A K)
          | .ex j => settlesW cs A fun ts A => putCW cx f (.ex j) off [] (toT ts) A K)
        | j :: p => settlesW cs A fun ts A => deepW cx f r j p off ts A K
      else False
    | none => False
  | _ => False

theorem storeW_ok {A : StA} {t : Nat} {a x : Operand} {K : StA → Prop} (h : storeW cx f A t a x K) : ∃ A', storeV cx f (den A) t a x = some (den A') ∧ K A' := by
  obtain ⟨pa, h1, h2⟩ := opW_ok h
  split at h2
  · next b r p off =>
    obtain ⟨y, h3, h4⟩ := opW_ok h2
    split at h4
    · next cs hcs =>
      split at h4
      · next hok =>
        rw [clrW_eq] at h4
        simp only [storeV, h1, h3, Option.bind_some, hcs, if_pos hok, den_clr]
        cases p with
        | nil =>
          cases r with
          | sl d =>
            simp only at h4 ⊢
            obtain ⟨ds, A1, h5, h6⟩ := keepDsW_ok cx f h4
            obtain ⟨hal, h6⟩ := alvsW_ok ds h6
            obtain ⟨A2, h7, h8⟩ := putCW_ok cx f h6
            exact ⟨A2, by simp only [h5, Option.bind_some, if_pos hal, den_putCells, h7, Option.map_some], h8⟩
          | ex j =>
            simp only at h4 ⊢
            obtain ⟨ts, A1, h5, h6⟩ := settlesW_ok cs h4
            obtain ⟨A2, h7, h8⟩ := putCW_ok cx f h6
            exact ⟨A2, by simp only [h5, Option.bind_some, den_putCells, h7, Option.map_some], h8⟩
        | cons j p =>
          simp only at h4
          obtain ⟨ts, A1, h5, h6⟩ := settlesW_ok cs h4
          obtain ⟨A2, h7, h8⟩ := deepW_ok cx f h6
          cases r with
          | sl d => exact ⟨A2, by simp only [h5, Option.bind_some, h7], h8⟩
          | ex k => exact ⟨A2, by simp only [h5, Option.bind_some, h7], h8⟩
      · exact h4.elim
    · exact h4.elim
  · exact h2.elim

def headW (A : StA) (o : Operand) (t : Nat) (K : List TU → Nat → Nat → StA → Prop) : Prop :=
  opW cx f A t o fun x => match x with
  | .c (.t (.sl _ 0 sz n cs)) => clrW cx f A o fun A => K cs sz n A
  | .c (.bor a r p i off sz n) => if cx.nst f && isEx r then False else takeW A a r p i off sz n fun q A => (match q with
    | .sl _ _ _ _ cs => K cs sz n A
    | _ => False)
  | .c (.lst _ sz n cs) => clrW cx f A o fun A => settlesW cs A fun ts A => K ts sz n A
  | _ => False

theorem headW_ok {A : StA} {o : Operand} {t : Nat} {K : List TU → Nat → Nat → StA → Prop} (h : headW cx f A o t K) : ∃ cs sz n A', headV cx f (den A) o t = some (cs, sz, n, den A') ∧ K cs sz n A' := by
  obtain ⟨x, h1, h2⟩ := opW_ok h
  split at h2
  · rw [clrW_eq] at h2
    exact ⟨_, _, _, _, by simp only [headV, h1, den_clr], h2⟩
  · next a r p i off sz n =>
    split at h2
    · exact h2.elim
    · next hn =>
      obtain ⟨q, A1, h3, h4⟩ := takeW_ok h2
      split at h4
      · exact ⟨_, _, _, _, by simp only [headV, h1, if_neg hn, h3, Option.bind_some], h4⟩
      · exact h4.elim
  · rw [clrW_eq] at h2
    obtain ⟨ts, A1, h3, h4⟩ := settlesW_ok _ h2
    exact ⟨_, _, _, _, by simp only [headV, h1, den_clr, h3, Option.map_some], h4⟩
  · exact h2.elim

def tailW (A : StA) (o : Operand) (t : Nat) (flat : Bool) (K : List TU → Nat → Nat → StA → Prop) : Prop :=
  opW cx f A t o fun x => match x with
  | .c (.t (.sl _ (_ + 1) sz n cs)) => K cs sz n A
  | .c (.t (.str s)) => K (s.map byteT) 1 s.length A
  | .c (.bor _ r p i off sz n) => if flat then listAtW A r p i off (n * sz) fun cs => cs.all flatT = true ∧ K cs sz n A else headW cx f A o t K
  | _ => headW cx f A o t K

theorem tailW_ok {A : StA} {o : Operand} {t : Nat} {fl : Bool} {K : List TU → Nat → Nat → StA → Prop} (h : tailW cx f A o t fl K) : ∃ cs sz n A', tailV cx f (den A) o t fl = some (cs, sz, n, den A') ∧ K cs sz n A' := by
  obtain ⟨x, h1, h2⟩ := opW_ok h
  split at h2
  · exact ⟨_, _, _, A, by simp only [tailV, h1], h2⟩
  · exact ⟨_, _, _, A, by simp only [tailV, h1], h2⟩
  · next a r p i off sz n =>
    split at h2
    · next hf =>
      obtain ⟨cs, h3, h4, h5⟩ := listAtW_ok h2
      exact ⟨_, _, _, A, by simp only [tailV, h1, if_pos hf, h3, Option.bind_some, h4, if_true], h5⟩
    · next hf =>
      obtain ⟨cs, sz, n, A', h3, h4⟩ := headW_ok cx f h2
      exact ⟨cs, sz, n, A', by simp only [tailV, h1, if_neg hf]; exact h3, h4⟩
  · next k1 k2 k3 =>
    obtain ⟨cs, sz, n, A', h3, h4⟩ := headW_ok cx f h2
    refine ⟨cs, sz, n, A', ?_, h4⟩
    unfold tailV
    split
    · next h => rw [h1] at h; exact absurd (Option.some.inj h) (k1 _ _ _ _ _)
    · next h => rw [h1] at h; exact absurd (Option.some.inj h) (k2 _)
    · next h => rw [h1] at h; exact absurd (Option.some.inj h) (k3 _ _ _ _ _ _ _)
    · exact h3

def appendW (A : StA) (ts : List Nat) (s x : Operand) (K : XU → StA → Prop) : Prop :=
  match ts with
  | [t, t'] => (match (cx.ty t).el with
    | some el => tailW cx f A x t' (cx.ty el).flat fun ys sz' m A => headW cx f A s t fun zs sz n A =>
        if sz = (cx.ty el).sz ∧ sz' = (cx.ty el).sz ∧ 0 < sz ∧ (cx.ty el).ok = true ∧ (cx.ty t).ok = true ∧ tailTy cx t' = true then
          (n + m ≤ maxLen ∧ (n + m) * (cx.ty el).bytes ≤ 140737488355328) ∧ K (.c (.t (.sl () 0 sz (n + m) (zs ++ ys)))) A
        else False
    | none => False)
  | _ => False

theorem appendW_ok {A : StA} {ts : List Nat} {s x : Operand} {K : XU → StA → Prop} (h : appendW cx f A ts s x K) : ∃ y A', appendV cx f (den A) ts s x = some (y, den A') ∧ K y A' := by
  unfold appendW at h
  split at h
  · next t t' =>
    split at h
    · next el hel =>
      obtain ⟨ys, sz', m, A1, h1, h2⟩ := tailW_ok cx f h
      obtain ⟨zs, sz, n, A2, h3, h4⟩ := headW_ok cx f h2
      split at h4
      · next hc =>
        refine ⟨_, A2, ?_, h4.2⟩
        obtain ⟨c1, c2, c3, c4, c5, c6⟩ := hc
        simp only [appendV, hel, h1, h3, Option.bind_some]
        rw [if_pos ⟨c1, c2, c3, c4, c5, c6, h4.1.1, h4.1.2⟩]
      · exact h4.elim
    · exact h.elim
  · exact h.elim

mutual
def snapCW (A : StA) : CU → (CU → Prop) → Prop
  | .t x, K => fT (retag x) fun x => K (.t x)
  | .bor _ r p i off sz n, K => if 0 < sz then listAtW A r p i off (n * sz) fun ds => K (.t (.sl () 1 sz n (retags ds))) else False
  | .rptr a cs, K => K (.rptr a (retags cs))
  | .nilp, K => K .nilp
  | .nilf, K => K .nilf
  | .fn g caps, K => (match caps with
    | [] => K (.fn g [])
    | _ => False)
  | .lst _ sz n cs, K => snapCsW A cs fun ds => match allT ds with
    | some ts => K (.t (.sl () 1 sz n ts))
    | none => False
  | .ptr _ _ _ _, _ => False
def snapCsW (A : StA) : List CU → (List CU → Prop) → Prop
  | [], K => K []
  | c :: cs, K => snapCW A c fun c => snapCsW A cs fun cs => K (c :: cs)
end

mutual
theorem snapCW_ok {A : StA} : ∀ (c : CU) {K : CU → Prop}, snapCW A c K → ∃ d, snapC (den A) c = some d ∧ K d
  | .t x, K, h => ⟨_, rfl, by simpa only [snapCW, fT_eq] using h⟩
  | .bor a r p i off sz n, K, h => by
    simp only [snapCW] at h
    split at h
    · next hs =>
      obtain ⟨ds, h1, h2⟩ := listAtW_ok h
      exact ⟨_, by simp only [snapC, if_pos hs, h1, Option.map_some], h2⟩
    · exact h.elim
  | .rptr a cs, K, h => ⟨_, rfl, by simpa only [snapCW] using h⟩
  | .nilp, K, h => ⟨_, rfl, by simpa only [snapCW] using h⟩
  | .nilf, K, h => ⟨_, rfl, by simpa only [snapCW] using h⟩
  | .fn g caps, K, h => by
    simp only [snapCW] at h
    cases caps with
    | nil => exact ⟨_, rfl, h⟩
    | cons => exact h.elim
  | .lst a sz n cs, K, h => by
    simp only [snapCW] at h
    obtain ⟨ds, h1, h2⟩ := snapCsW_ok cs h
    split at h2
    · next ts hts => exact ⟨_, by simp only [snapC, h1, Option.bind_some, hts, Option.map_some], h2⟩
    · exact h2.elim
  | .ptr _ _ _ _, K, h => by simp only [snapCW] at h
theorem snapCsW_ok {A : StA} : ∀ (cs : List CU) {K : List CU → Prop}, snapCsW A cs K → ∃ ds, snapCs (den A) cs = some ds ∧ K ds
  | [], K, h => ⟨[], rfl, by simpa only [snapCsW] using h⟩
  | c :: cs, K, h => by
    simp only [snapCsW] at h
    obtain ⟨d, h1, h2⟩ := snapCW_ok c h
    obtain ⟨ds, h3, h4⟩ := snapCsW_ok cs h2
    exact ⟨_, by simp only [snapCs, h1, Option.bind_some, h3, Option.map_some], h4⟩
end

def snapXW (A : StA) (x : XU) (K : XU → Prop) : Prop :=
  match x with
  | .c x => snapCW A x fun c => K (.c c)
  | .agg cs => snapCsW A cs fun cs => K (.agg cs)
  | _ => False

theorem snapXW_ok {A : StA} {x : XU} {K : XU → Prop} (h : snapXW A x K) : ∃ y, snapX (den A) x = some y ∧ K y := by
  cases x with
  | c x => obtain ⟨d, h1, h2⟩ := snapCW_ok _ h; exact ⟨_, by simp only [snapX, h1, Option.map_some], h2⟩
  | agg cs => obtain ⟨d, h1, h2⟩ := snapCsW_ok _ h; exact ⟨_, by simp only [snapX, h1, Option.map_some], h2⟩
  | _ => exact h.elim

def snapArgsW (A : StA) : List Operand → List Nat → (List XU → Prop) → Prop
  | [], _, K => K []
  | o :: os, ts, K => opW cx f A (ts.head?.getD 0) o fun x => snapXW A x fun y => snapArgsW A os ts.tail fun ys => K (y :: ys)

theorem snapArgsW_ok {A : StA} : ∀ {os : List Operand} {ts : List Nat} {K : List XU → Prop}, snapArgsW cx f A os ts K → ∃ ys, snapArgs cx f (den A) os ts = some ys ∧ K ys
  | [], ts, K, h => ⟨[], rfl, h⟩
  | o :: os, ts, K, h => by
    obtain ⟨x, h1, h2⟩ := opW_ok h
    obtain ⟨y, h3, h4⟩ := snapXW_ok h2
    obtain ⟨ys, h5, h6⟩ := snapArgsW_ok h4
    exact ⟨_, by simp only [snapArgs, h1, Option.bind_some, h3, h5, Option.map_some], h6⟩

def Ret (g : Nat) (xs : List XU) (x : XU) : Prop := ∃ r, call g xs [] = some r ∧ downX r.1 = some x

def growW (A : StA) (c : Call) (K : XU → Prop) : Prop :=
  match c.callee, c.args.toList with
  | .value (.func g), [.const (.slice none 0 0), y] => (match cx.gro g with
    | some q => opW cx f A 0 y fun x => (match int64Of (some x) with
      | some n => (0 ≤ n ∧ n * q.2 ≤ 140737488355328 ∧ n ≤ maxLen) ∧ K (.c (.t (.sl () 0 q.1 0 [])))
      | none => False)
    | none => False)
  | _, _ => False

theorem growW_ok {A : StA} {c : Call} {K : XU → Prop} (h : growW cx f A c K) : ∃ x, growV cx f (den A) c = some x ∧ K x := by
  unfold growW at h
  unfold growV
  split at h
  · next g y h1 h2 =>
    split at h
    · next q hq =>
      obtain ⟨x, h3, h4⟩ := opW_ok h
      split at h4
      · next n hn =>
        refine ⟨_, ?_, h4.2⟩
        simp only [h1, h2, hq, h3, hn, if_pos h4.1]
      · exact h4.elim
    · exact h.elim
  · exact h.elim

def callW (A : StA) (t : Nat) (c : Call) (K : XU → Prop) : Prop :=
  match c.callee, c.args.toList, c.argTypes.toList with
  | .builtin .len, [x], [t'] => opW cx f A t' x fun y => (match y with
    | .c z => if lenOk cx t' z then (match lenV z with
      | some n => K (.c (.t (.int .i64 n)))
      | none => False) else False
    | _ => False)
  | .builtin b, [x, y], _ => opW cx f A t x fun x => opW cx f A t y fun y => (match int64Of (some x), int64Of (some y) with
    | some a, some b' => (match mm b a b' with
      | some n => K (.c (.t (.int .i64 n)))
      | none => False)
    | _, _ => False)
  | .value fo, args, ts => if isGrow cx c then growW cx f A c K else (match opv cx f (den A) 0 fo with
    | some (.c (.fn g [])) => if cx.act g then False else snapArgsW cx f A args ts fun xs => ∃ x, Ret call g xs x ∧ fX x K
    | _ => False)
  | _, _, _ => False

theorem callW_ok {A : StA} {t : Nat} {c : Call} {K : XU → Prop} (h : callW cx f call A t c K) : ∃ x, qcall cx f call (den A) t c = some (x, den A) ∧ K x := by
  unfold callW at h
  unfold qcall
  split at h
  · next x t' h1 h2 h3 =>
    obtain ⟨y, h4, h5⟩ := opW_ok h
    split at h5
    · next z =>
      split at h5
      · next hl =>
        split at h5
        · next n hn => exact ⟨_, by simp only [h1, h2, h3, h4, if_pos hl, hn, Option.map_some], h5⟩
        · exact h5.elim
      · exact h5.elim
    · exact h5.elim
  · next _ b x y h1 h2 =>
    obtain ⟨a, h4, h5⟩ := opW_ok h
    obtain ⟨b', h6, h7⟩ := opW_ok h5
    split at h7
    · next m n k1 k2 =>
      split at h7
      · next q hq => exact ⟨_, by rw [h1, h2]; cases b <;> simp only [h4, h6, mmV, k1, k2, hq, Option.map_some], h7⟩
      · exact h7.elim
    · exact h7.elim
  · next fo h1 =>
    split at h
    · next hgr =>
      obtain ⟨x, h2, h3⟩ := growW_ok cx f h
      exact ⟨x, by simp only [h1, if_pos hgr, h2, Option.map_some], h3⟩
    · next hgr =>
      split at h
      · next g hg =>
        split at h
        · exact h.elim
        · next hact =>
          obtain ⟨xs, h4, x, ⟨r, h5, h6⟩, h7⟩ := snapArgsW_ok cx f h
          rw [fX_eq] at h7
          exact ⟨x, by simp only [h1, if_neg hgr, quietCall, hg, if_neg hact, h4, Option.bind_some, h5, h6, Option.map_some], h7⟩
      · exact h.elim
  · exact h.elim


def fR (r : Root) (K : Root → Prop) : Prop :=
  match r with
  | .sl d => K (.sl d)
  | .ex j => K (.ex j)

theorem fR_eq (r : Root) (K : Root → Prop) : fR r K = K r := by cases r <;> rfl

def fL : List Root → (List Root → Prop) → Prop
  | [], K => K []
  | r :: l, K => fR r fun r => fL l fun l => K (r :: l)

theorem fL_eq : ∀ (l : List Root) (K : List Root → Prop), fL l K = K l
  | [], K => rfl
  | r :: l, K => by simp only [fL, fR_eq, fL_eq l]

def eatW (A : StA) (o : Operand) (K : StA → Prop) : Prop :=
  match o with
  | .tmp d => if isVar cx f d then K A else putW A d .undef K
  | _ => K A

theorem eatW_ok {A : StA} {o : Operand} {K : StA → Prop} (h : eatW cx f A o K) : ∃ A', eat cx f (den A) o = den A' ∧ K A' := by
  unfold eatW at h
  split at h
  · next d =>
    split at h
    · next hv => exact ⟨A, by simp only [eat, if_pos hv], h⟩
    · next hv =>
      rw [putW_eq] at h
      exact ⟨_, by simp only [eat, if_neg hv, den_put], h⟩
  · exact ⟨A, by unfold eat; split <;> first | rfl | (rename_i hh; exact absurd rfl (hh _)), h⟩

def rowTakeW (A : StA) (r : Root) (p : List Nat) (i : Nat) (K : TU → StA → Prop) : Prop :=
  match p with
  | [] => (match at_ (den A) r [] i with
    | some (.t (.sl b 0 sz m ds)) => setW A r i (.t (.dead b)) fun A => killW r [i] A fun A => K (.sl b 0 sz m ds) A
    | _ => False)
  | [j] => (match rootCells (den A) r with
    | some cs => (match cs[j]? with
      | some (.t (.sl a 0 sz n ds)) => if (A.env.all fun q => shalX r 1 (lk A.jk A.env q.1)) && (A.e.all fun q => shals r 1 q) && rootOk A r then
          ∃ sz' m es, ds[i]? = some (.sl () 0 sz' m es) ∧ ∀ jk, fA ⟨(setRootA A r (cs.set j (.t (.sl a 0 sz n (ds.set i (.dead ())))))).env, jk, (setRootA A r (cs.set j (.t (.sl a 0 sz n (ds.set i (.dead ())))))).e⟩ (K (.sl () 0 sz' m es))
        else False
      | _ => False)
    | none => False)
  | _ => False

theorem rowTakeW_ok {A : StA} {r : Root} {p : List Nat} {i : Nat} {K : TU → StA → Prop} (h : rowTakeW A r p i K) : ∃ t A', takeRow (den A) r p i = some (t, den A') ∧ K t A' := by
  unfold rowTakeW at h
  split at h
  · split at h
    · next b sz m ds h1 =>
      obtain ⟨A1, h2, h3⟩ := setW_ok h
      rw [killW_eq] at h3
      refine ⟨_, _, ?_, h3⟩
      simp only [takeRow, h1, den_putCell, h2, Option.map_some, List.nil_append, den_kill]
    · exact h.elim
  · next j =>
    split at h
    · next cs hcs =>
      split at h
      · next a sz n ds hj =>
        split at h
        · next hck =>
          obtain ⟨sz', m, es, hi, hK⟩ := h
          simp only [Bool.and_eq_true] at hck
          obtain ⟨⟨ha, he⟩, hro⟩ := hck
          have hlt := (List.getElem?_eq_some_iff.1 hi).1
          have hr : ∀ d, r = .sl d → d ∈ A.env.map (·.1) := by
            rintro d rfl
            simp only [rootOk, Bool.and_eq_true, List.any_eq_true, beq_iff_eq] at hro
            obtain ⟨⟨q, q1, q2⟩, _⟩ := hro
            exact List.mem_map.2 ⟨q, q1, q2⟩
          have hn : ∀ d, r = .sl d → notTup ((den A).s d) = true := by
            rintro d rfl
            simp only [rootOk, Bool.and_eq_true] at hro
            exact hro.2
          have hd : deepOk (fun i => i ∈ A.env.map (·.1)) r 1 (den A) := by
            refine ⟨fun i hi => ?_, fun c hc => ?_⟩
            · exact lk_all ha hi
            · exact List.all_eq_true.1 he c hc
          have hd1 := hd.set (j := j) (x := .sl a 0 sz n (ds.set i (.dead ()))) hr hn hcs
          have hl := (Lk.mk_self (fun i => i ∈ A.env.map (·.1)) (setRoot (den A) r (cs.set j (.t (.sl a 0 sz n (ds.set i (.dead ()))))))).kill (q := [j, i]) (n := 1) (by simp) hd1
          have hK := hK (kill r [j, i] (setRoot (den A) r (cs.set j (.t (.sl a 0 sz n (ds.set i (.dead ()))))))).s
          rw [fA_eq] at hK
          refine ⟨_, _, ?_, hK⟩
          have hput : putCell (den A) r [j] i (.t (.dead ())) = some (setRoot (den A) r (cs.set j (.t (.sl a 0 sz n (ds.set i (.dead ())))))) := by
            simp only [putCell, hcs, Option.bind_some, setC, hj, setT, if_pos hlt, Option.map_some]
          have hat : at_ (den A) r [j] i = some (.t (.sl () 0 sz' m es)) := by
            simp only [at_, hcs, Option.bind_some, subC, hj, sub, Option.map_some, List.getElem?_map, hi]
          simp only [takeRow, hat, hput, Option.map_some, List.cons_append, List.nil_append, Option.some.injEq, Prod.mk.injEq, true_and]
          rw [den_setRoot] at hl ⊢
          obtain ⟨k1, k2⟩ := hl
          have hkeys : ∀ i', i' ∈ (setRootA A r (cs.set j (.t (.sl a 0 sz n (ds.set i (.dead ())))))).env.map (·.1) → i' ∈ A.env.map (·.1) := by
            intro i' hi'
            cases r with
            | sl d =>
              simp only [setRootA, StA.put, List.map_cons, List.mem_cons] at hi'
              rcases hi' with rfl | hi'
              · exact hr _ rfl
              · exact hi'
            | ex k => exact hi'
          revert k1 k2
          generalize kill r [j, i] (den (setRootA A r (cs.set j (.t (.sl a 0 sz n (ds.set i (.dead ()))))))) = T
          intro k1 k2
          cases T with
          | mk s e =>
          simp only [den] at k1 k2 ⊢
          rw [k2]
          congr 1
          funext i'
          by_cases hi' : i' ∈ (setRootA A r (cs.set j (.t (.sl a 0 sz n (ds.set i (.dead ())))))).env.map (·.1)
          · rw [k1 i' (hkeys i' hi')]
            exact lk_key hi'
          · rw [lk_nokey hi']
        · exact h.elim
      · exact h.elim
    · exact h.elim
  · exact h.elim

def plcW : Nat → List CU → StA → (List CU → List Row → StA → Prop) → Prop
  | _, [], A, K => K [] [] A
  | k, c :: cs, A, K => match c with
    | .bor a r p i off sz n => rowTakeW A r p i fun t A => plcW (k + 1) cs A fun ds rows A => K (.bor a (.ex k) [] 0 off sz n :: ds) (⟨t, r, p, i⟩ :: rows) A
    | .t x => if scalarT x then plcW k cs A fun ds rows A => K (.t x :: ds) rows A else False
    | _ => False

theorem plcW_ok : ∀ {cs : List CU} {k : Nat} {A : StA} {K : List CU → List Row → StA → Prop}, plcW k cs A K → ∃ ds rows A', plcCs k cs (den A) = some (ds, rows, den A') ∧ K ds rows A'
  | [], k, A, K, h => ⟨[], [], A, rfl, h⟩
  | c :: cs, k, A, K, h => by
    unfold plcW at h
    split at h
    · next a r p i off sz n =>
      obtain ⟨t, A1, h1, h2⟩ := rowTakeW_ok h
      obtain ⟨ds, rows, A2, h3, h4⟩ := plcW_ok h2
      exact ⟨_, _, A2, by simp only [plcCs, h1, Option.bind_some, h3, Option.map_some], h4⟩
    · next x =>
      split at h
      · next hs =>
        obtain ⟨ds, rows, A2, h3, h4⟩ := plcW_ok h
        exact ⟨_, _, A2, by simp only [plcCs, if_pos hs, h3, Option.map_some], h4⟩
      · exact h.elim
    · exact h.elim

def pargW (g : Nat) : Nat → Nat → List Operand → List Nat → StA → (List (Option XU) → List Row → StA → Prop) → Prop
  | _, _, [], _, A, K => K [] [] A
  | i, k, o :: os, ts, A, K =>
    if (cx.mov g).contains i then opW cx f A (ts.head?.getD 0) o fun x => (match x with
      | .c c => clrW cx f A o fun A => settleW c A fun t A => pargW g (i + 1) k os ts.tail A fun ms rows A => fT (up t) fun t => K (some (.c (.t t)) :: ms) rows A
      | _ => False)
    else if (cx.plc g).contains i then opW cx f A (ts.head?.getD 0) o fun x => (match x with
      | .c c => eatW cx f A o fun A => plcW k [c] A fun ds rows A => pargW g (i + 1) (k + rows.length) os ts.tail A fun ms rows' A => K (some (.c (ds.head?.getD c)) :: ms) (rows ++ rows') A
      | .agg cs => eatW cx f A o fun A => plcW k cs A fun ds rows A => pargW g (i + 1) (k + rows.length) os ts.tail A fun ms rows' A => K (some (.agg ds) :: ms) (rows ++ rows') A
      | _ => False)
    else pargW g (i + 1) k os ts.tail A fun ms rows A => K (none :: ms) rows A

theorem pargW_ok {g : Nat} : ∀ {os : List Operand} {i k : Nat} {ts : List Nat} {A : StA} {K : List (Option XU) → List Row → StA → Prop}, pargW cx f g i k os ts A K → ∃ ms rows A', prepArgs cx f g i k os ts (den A) = some (ms, rows, den A') ∧ K ms rows A'
  | [], i, k, ts, A, K, h => ⟨[], [], A, rfl, h⟩
  | o :: os, i, k, ts, A, K, h => by
    simp only [pargW] at h
    simp only [prepArgs]
    split at h
    · next hm =>
      rw [if_pos hm]
      obtain ⟨x, h1, h2⟩ := opW_ok h
      split at h2
      · next c =>
        rw [clrW_eq] at h2
        obtain ⟨t, A1, h3, h4⟩ := settleW_ok c h2
        obtain ⟨ms, rows, A2, h5, h6⟩ := pargW_ok h4
        rw [fT_eq] at h6
        exact ⟨_, _, A2, by simp only [h1, Option.bind_some, den_clr, h3, h5, Option.map_some], h6⟩
      · exact h2.elim
    · next hm =>
      rw [if_neg hm]
      split at h
      · next hp =>
        rw [if_pos hp]
        obtain ⟨x, h1, h2⟩ := opW_ok h
        split at h2
        · next c =>
          obtain ⟨A0, h0, h2⟩ := eatW_ok cx f h2
          obtain ⟨ds, rows, A1, h3, h4⟩ := plcW_ok h2
          obtain ⟨ms, rows', A2, h5, h6⟩ := pargW_ok h4
          exact ⟨_, _, A2, by simp only [h1, Option.bind_some, h0, h3, h5, Option.map_some], h6⟩
        · next cs =>
          obtain ⟨A0, h0, h2⟩ := eatW_ok cx f h2
          obtain ⟨ds, rows, A1, h3, h4⟩ := plcW_ok h2
          obtain ⟨ms, rows', A2, h5, h6⟩ := pargW_ok h4
          exact ⟨_, _, A2, by simp only [h1, Option.bind_some, h0, h3, h5, Option.map_some], h6⟩
        · exact h2.elim
      · next hp =>
        rw [if_neg hp]
        obtain ⟨ms, rows, A2, h5, h6⟩ := pargW_ok h
        exact ⟨_, _, A2, by simp only [h5, Option.map_some], h6⟩

def restW (A : StA) : List (Option XU) → List Operand → List Nat → (List (Option XU) → Prop) → Prop
  | m :: ms, o :: os, ts, K => (match m with
    | none => opW cx f A (ts.head?.getD 0) o fun x => restW A ms os ts.tail fun xs => K (some x :: xs)
    | some _ => restW A ms os ts.tail fun xs => K (none :: xs))
  | _, _, _, K => K []

theorem restW_ok {A : StA} : ∀ {ms : List (Option XU)} {os : List Operand} {ts : List Nat} {K : List (Option XU) → Prop}, restW cx f A ms os ts K → ∃ xs, restArgs cx f (den A) ms os ts = some xs ∧ K xs
  | [], os, ts, K, h => ⟨[], by cases os <;> rfl, by cases os <;> exact h⟩
  | m :: ms, [], ts, K, h => ⟨[], by cases m <;> rfl, h⟩
  | m :: ms, o :: os, ts, K, h => by
    cases m with
    | none =>
      simp only [restW] at h
      obtain ⟨x, h1, h2⟩ := opW_ok h
      obtain ⟨xs, h3, h4⟩ := restW_ok h2
      exact ⟨_, by simp only [restArgs, h1, Option.bind_some, h3, Option.map_some], h4⟩
    | some y =>
      simp only [restW] at h
      obtain ⟨xs, h3, h4⟩ := restW_ok h
      exact ⟨_, by simp only [restArgs, h3, Option.map_some], h4⟩

def argCW (A : StA) (L : List Root) (k : Nat) (c : CU) (K : CU → Prop) : Prop :=
  match c with
  | .ptr a r p off => (match placeOf L r k with
    | some j => K (.ptr a (.ex j) p off)
    | none => False)
  | .fn g caps => if (rootsCs true caps).all (L.contains ·) then fCs (inCs L k caps) fun cs => K (.fn g cs) else False
  | .bor a r p i off sz n => (match placeOf L r k with
    | some j => K (.bor a (.ex j) p i off sz n)
    | none => snapCW A (.bor a r p i off sz n) K)
  | c => if (rootsC true c).any (L.contains ·) then False else snapCW A c K

theorem argCW_ok {A : StA} {L : List Root} {k : Nat} {c : CU} {K : CU → Prop} (h : argCW A L k c K) : ∃ d, argC (den A) L k c = some d ∧ K d := by
  unfold argCW at h
  split at h
  · next a r p off =>
    split at h
    · next j hj => exact ⟨_, by simp only [argC, hj, Option.isSome_some, if_true, inC], h⟩
    · exact h.elim
  · next g caps =>
    split at h
    · next hc =>
      rw [fCs_eq] at h
      exact ⟨_, by simp only [argC, if_pos hc, inC], h⟩
    · exact h.elim
  · next a r p i off sz n =>
    split at h
    · next j hj => exact ⟨_, by simp only [argC, hj], h⟩
    · next hj =>
      obtain ⟨d, h1, h2⟩ := snapCW_ok _ h
      exact ⟨d, by simp only [argC, hj, h1], h2⟩
  · next k1 k2 k3 =>
    split at h
    · exact h.elim
    · next hc =>
      obtain ⟨d, h1, h2⟩ := snapCW_ok _ h
      refine ⟨d, ?_, h2⟩
      unfold argC
      split
      · exact absurd rfl (k1 _ _ _ _)
      · exact absurd rfl (k2 _ _)
      · exact absurd rfl (k3 _ _ _ _ _ _ _)
      · rw [if_neg hc]; exact h1

def argCsW (A : StA) (L : List Root) (k : Nat) : List CU → (List CU → Prop) → Prop
  | [], K => K []
  | c :: cs, K => argCW A L k c fun c => argCsW A L k cs fun cs => K (c :: cs)

theorem argCsW_ok {A : StA} {L : List Root} {k : Nat} : ∀ {cs : List CU} {K : List CU → Prop}, argCsW A L k cs K → ∃ ds, argCs (den A) L k cs = some ds ∧ K ds
  | [], K, h => ⟨[], rfl, h⟩
  | c :: cs, K, h => by
    obtain ⟨d, h1, h2⟩ := argCW_ok h
    obtain ⟨ds, h3, h4⟩ := argCsW_ok h2
    exact ⟨_, by simp only [argCs, h1, Option.bind_some, h3, Option.map_some], h4⟩

def argXW (A : StA) (L : List Root) (k : Nat) (x : XU) (K : XU → Prop) : Prop :=
  match x with
  | .c x => argCW A L k x fun c => K (.c c)
  | .agg cs => argCsW A L k cs fun cs => K (.agg cs)
  | _ => False

theorem argXW_ok {A : StA} {L : List Root} {k : Nat} {x : XU} {K : XU → Prop} (h : argXW A L k x K) : ∃ y, argX (den A) L k x = some y ∧ K y := by
  cases x with
  | c x => simp only [argXW] at h; obtain ⟨d, h1, h2⟩ := argCW_ok h; exact ⟨_, by simp only [argX, h1, Option.map_some], h2⟩
  | agg cs => simp only [argXW] at h; obtain ⟨d, h1, h2⟩ := argCsW_ok h; exact ⟨_, by simp only [argX, h1, Option.map_some], h2⟩
  | _ => exact h.elim

def allArgsW (A : StA) (L : List Root) (k : Nat) : List (Option XU) → List (Option XU) → (List XU → Prop) → Prop
  | m :: ms, x :: xs, K => (match m with
    | some y => allArgsW A L k ms xs fun ys => K (y :: ys)
    | none => (match x with
      | some x => argXW A L k x fun y => allArgsW A L k ms xs fun ys => K (y :: ys)
      | none => K []))
  | _, _, K => K []

theorem allArgsW_ok {A : StA} {L : List Root} {k : Nat} : ∀ {ms xs : List (Option XU)} {K : List XU → Prop}, allArgsW A L k ms xs K → ∃ ys, allArgs (den A) L k ms xs = some ys ∧ K ys
  | [], xs, K, h => ⟨[], by cases xs <;> rfl, by cases xs <;> exact h⟩
  | m :: ms, [], K, h => ⟨[], by cases m <;> rfl, h⟩
  | m :: ms, x :: xs, K, h => by
    cases m with
    | some y =>
      simp only [allArgsW] at h
      obtain ⟨ys, h1, h2⟩ := allArgsW_ok h
      exact ⟨_, by simp only [allArgs, h1, Option.map_some], h2⟩
    | none =>
      cases x with
      | none => exact ⟨[], rfl, h⟩
      | some x =>
        simp only [allArgsW] at h
        obtain ⟨y, h1, h2⟩ := argXW_ok h
        obtain ⟨ys, h3, h4⟩ := allArgsW_ok h2
        exact ⟨_, by simp only [allArgs, h1, Option.bind_some, h3, Option.map_some], h4⟩

def rootsW (A : StA) : List Root → (List (List CU) → Prop) → Prop
  | [], K => K []
  | r :: L, K => match rootCells (den A) r with
    | some cs => fCs cs fun cs => rootsW A L fun bs => K (cs :: bs)
    | none => False

theorem rootsW_ok {A : StA} : ∀ {L : List Root} {K : List (List CU) → Prop}, rootsW A L K → ∃ bs, L.mapM (rootCells (den A)) = some bs ∧ K bs
  | [], K, h => ⟨[], rfl, h⟩
  | r :: L, K, h => by
    simp only [rootsW] at h
    split at h
    · next cs hcs =>
      rw [fCs_eq] at h
      obtain ⟨bs, h1, h2⟩ := rootsW_ok h
      exact ⟨_, by simp only [List.mapM_cons, hcs, h1]; rfl, h2⟩
    · exact h.elim

def RetE (g : Nat) (xs : List XU) (es : List (List CU)) (x : XU) (ext : List (List CU)) : Prop := ∃ r, call g xs es = some r ∧ downX r.1 = some x ∧ r.2.mapM downCs = some ext

def backEW (L : List Root) (k : Nat) (es : List (List CU)) : List (Nat × XU) → (List (Nat × XU) → Prop) → Prop
  | [], K => K []
  | p :: l, K => match p with
    | (d, x) => fX (backX L k es d x) fun x => backEW L k es l fun l => K ((d, x) :: l)

theorem backEW_eq (L : List Root) (k : Nat) (es : List (List CU)) : ∀ (l : List (Nat × XU)) (K : List (Nat × XU) → Prop), backEW L k es l K = K (l.map fun p => (p.1, backX L k es p.1 p.2))
  | [], K => rfl
  | (d, x) :: l, K => by simp only [backEW, fX_eq, backEW_eq L k es l, List.map_cons]

def backW (L : List Root) (k : Nat) (es : List (List CU)) (A : StA) (K : StA → Prop) : Prop :=
  match A with
  | ⟨env, jk, e⟩ => backEW L k es env fun env => fEs (mapFrom (backE L k es) 0 e) fun e => K ⟨env, fun d => backX L k es d (jk d), e⟩

theorem lk_map {jk : Nat → XU} (h : Nat → XU → XU) : ∀ (l : List (Nat × XU)) (i : Nat), lk (fun i => h i (jk i)) (l.map fun p => (p.1, h p.1 p.2)) i = h i (lk jk l i)
  | [], i => rfl
  | (d, x) :: l, i => by
    simp only [List.map_cons, lk]
    split
    · next e => rw [e]
    · exact lk_map h l i

theorem backW_ok {L : List Root} {k : Nat} {es : List (List CU)} {A : StA} {K : StA → Prop} (h : backW L k es A K) : ∃ A', backS L k es (den A) = den A' ∧ K A' := by
  cases A with
  | mk env jk e =>
    simp only [backW, backEW_eq, fEs_eq] at h
    refine ⟨_, ?_, h⟩
    simp only [backS, den]
    congr 1
    funext d
    exact (lk_map (backX L k es) env d).symm

def fillRowW (w : Row) (e : List CU) (A : StA) (K : StA → Prop) : Prop :=
  match e with
  | [.t (.sl b 0 sz m ds)] => (match w.p with
    | [] => (match at_ (den A) w.r [] w.i with
      | some (.t (.dead _)) => setW A w.r w.i (.t (.sl b 0 sz m ds)) K
      | _ => False)
    | [j] => (match rootCells (den A) w.r with
      | some cs => (match cs[j]? with
        | some (.t (.sl a 0 sz' n ds')) => ds'[w.i]? = some (.dead ()) ∧ setRootW A w.r (cs.set j (.t (.sl a 0 sz' n (ds'.set w.i (.sl b 0 sz m ds))))) K
        | _ => False)
      | none => False)
    | _ => False)
  | [.t (.dead _)] => K A
  | _ => False

theorem fillRowW_ok {w : Row} {e : List CU} {A : StA} {K : StA → Prop} (h : fillRowW w e A K) : ∃ A', fillRow (den A) w e = some (den A') ∧ K A' := by
  unfold fillRowW at h
  split at h
  · next b sz m ds =>
    split at h
    · next hp =>
      split at h
      · next v hat =>
        obtain ⟨A1, h1, h2⟩ := setW_ok h
        exact ⟨A1, by simp only [fillRow, hp, hat, den_putCell, h1, Option.map_some], h2⟩
      · exact h.elim
    · next j hp =>
      split at h
      · next cs hcs =>
        split at h
        · next a sz' n ds' hj =>
          obtain ⟨h1, h2⟩ := h
          rw [setRootW_eq] at h2
          have hlt := (List.getElem?_eq_some_iff.1 h1).1
          refine ⟨_, ?_, h2⟩
          have hat : at_ (den A) w.r [j] w.i = some (.t (.dead ())) := by
            simp only [at_, hcs, Option.bind_some, subC, hj, sub, Option.map_some, List.getElem?_map, h1]
          simp only [fillRow, hp, hat, putCell, hcs, Option.bind_some, setC, hj, setT, if_pos hlt, Option.map_some, den_setRoot]
        · exact h.elim
      · exact h.elim
    · exact h.elim
  · exact ⟨A, rfl, h⟩
  · exact h.elim

def fillRowsW : List Row → List (List CU) → StA → (StA → Prop) → Prop
  | [], _, A, K => K A
  | w :: ws, e :: es, A, K => fillRowW w e A fun A => fillRowsW ws es A K
  | _ :: _, [], _, _ => False

theorem fillRowsW_ok : ∀ {ws : List Row} {es : List (List CU)} {A : StA} {K : StA → Prop}, fillRowsW ws es A K → ∃ A', fillRows ws es (den A) = some (den A') ∧ K A'
  | [], es, A, K, h => ⟨A, by cases es <;> rfl, by cases es <;> exact h⟩
  | w :: ws, [], A, K, h => h.elim
  | w :: ws, e :: es, A, K, h => by
    obtain ⟨A1, h1, h2⟩ := fillRowW_ok h
    obtain ⟨A2, h3, h4⟩ := fillRowsW_ok h2
    exact ⟨A2, by simp only [fillRows, h1, Option.bind_some, h3], h4⟩

def activeW (A : StA) (fo : Operand) (args : List Operand) (ts : List Nat) (K : XU → StA → Prop) : Prop :=
  match opv cx f (den A) 0 fo with
  | some (.c (.fn g _)) => pargW cx f g 0 0 args ts A fun ms rows A => (match opv cx f (den A) 0 fo with
    | some (.c (.fn g' caps)) => restW cx f A ms args ts fun xs => fL (handed cx f (den A) xs caps) fun L => allArgsW A L rows.length ms xs fun ys => argCsW A L rows.length caps fun cs => rootsW A L fun bs =>
        if g' == g && nodupR L && L.all (rootGood cx f (den A)) && apart rows && rows.all (fun w => !L.contains w.r) then
          fXs (ys ++ cs.map .c) fun zs => fEs (rows.map (fun w => [.t (up w.t)]) ++ bs.map (inCs L rows.length)) fun es0 =>
            ∃ x ext, RetE call g zs es0 x ext ∧ (if (ext.drop rows.length).map List.length = bs.map List.length ∧ ext.length = rows.length + bs.length then
              backW L rows.length (ext.drop rows.length) A fun A => fillRowsW rows (ext.take rows.length) A fun A => fX (outX L rows.length x) fun x => K x A
            else False)
        else False
    | _ => False)
  | _ => False

theorem activeW_ok {A : StA} {fo : Operand} {args : List Operand} {ts : List Nat} {K : XU → StA → Prop} (h : activeW cx f call A fo args ts K) : ∃ x A', activeCall cx f call (den A) fo args ts = some (x, den A') ∧ K x A' := by
  unfold activeW at h
  split at h
  · next g caps0 hg0 =>
    obtain ⟨ms, rows, A1, h1, h2⟩ := pargW_ok cx f h
    split at h2
    · next g' caps hg =>
      obtain ⟨xs, h3, h4⟩ := restW_ok cx f h2
      rw [fL_eq] at h4
      obtain ⟨ys, h5, h6⟩ := allArgsW_ok h4
      obtain ⟨cs, h7, h8⟩ := argCsW_ok h6
      obtain ⟨bs, h9, h10⟩ := rootsW_ok h8
      split at h10
      · next hc =>
        simp only [Bool.and_eq_true, beq_iff_eq] at hc
        obtain ⟨⟨⟨⟨c1, c2⟩, c3⟩, c4⟩, c5⟩ := hc
        rw [fXs_eq, fEs_eq] at h10
        obtain ⟨x, ext, ⟨r, r1, r2, r3⟩, h11⟩ := h10
        split at h11
        · next hl =>
          obtain ⟨A2, h12, h13⟩ := backW_ok h11
          obtain ⟨A3, h14, h15⟩ := fillRowsW_ok h13
          rw [fX_eq] at h15
          refine ⟨_, A3, ?_, h15⟩
          simp only [activeCall, hg0, h1, Option.bind_some, hg, h3, h5, h7, h9]
          rw [if_pos ⟨c1, c2, c3, c4, c5⟩]
          simp only [r1, Option.bind_some, r2, r3]
          rw [if_pos hl]
          simp only [h12, h14, Option.map_some]
        · exact h11.elim
      · exact h10.elim
    · exact h2.elim
  · exact h.elim
end
end Go.Proofs.YtlkjnlfddadlmaaDoor.V

namespace Go.Proofs.YtlkjnlfddadlmaaDoor.V

section
variable (cx : Ctx) (f : Nat) (call : Callee)

def knO (kn : List Nat) : Operand → Bool
  | .const (.bool _) => true
  | .tmp d => kn.contains d
  | _ => false

def rdC (r : Root) (p : List Nat) : Nat → List TU → List CU
  | _, [] => []
  | off, t :: ts => rdc r p off (.t t) :: rdC r p (off + 1) ts

theorem loadN_deep {S : SU} {r : Root} {p : List Nat} {es : List TU} (h : (rootCells S r).bind (subC · p) = some (es.map .t)) : ∀ {ts : List TU} {off : Nat}, (es.drop off).take ts.length = ts → loadN S r p off ts.length = some (rdC r p off ts)
  | [], off, _ => rfl
  | t :: ts, off, ht => by
    have hl : off < es.length := by
      have := congrArg List.length ht
      simp only [List.length_take, List.length_drop, List.length_cons] at this
      omega
    rw [List.drop_eq_getElem_cons hl] at ht
    simp only [List.length_cons, List.take_succ_cons, List.cons.injEq] at ht
    obtain ⟨h1, h2⟩ := ht
    have e : at_ S r p off = some (.t t) := by
      simp only [at_, h, Option.bind_some, List.getElem?_map, List.getElem?_eq_getElem hl, h1, Option.map_some]
    simp only [List.length_cons, loadN, e, Option.bind_some, loadN_deep h h2, Option.map_some, rdC]

def loadW (A : StA) (e : Nat) (x : XU) (K : XU → Prop) : Prop :=
  match x with
  | .c (.ptr _ r p off) => if (cx.ty e).ok then tyK (cx.ty e) fun sz zs _ => (match p with
      | [] => (match (loadN (den A) r [] off sz).bind (mkX cx e) with
        | some x => fX x K
        | none => False)
      | j :: p => contW A r (j :: p) (fun _ => False) fun es => shapes zs fun ts => ((es.drop off).take sz = ts ∧ ts.length = sz) ∧
          (match mkX cx e (rdC r (j :: p) off ts) with
          | some x => fX x K
          | none => False))
    else False
  | .c (.rptr _ cs) => if (cx.ty e).ok then tyK (cx.ty e) fun sz zs _ => shapes zs fun ts => (cs.take sz = ts ∧ ts.length = sz) ∧
      (match mkX cx e (ts.map .t) with
      | some x => fX x K
      | none => False) else False
  | _ => False

def loadV (S : SU) (e : Nat) : Option XU → Option XU
  | some (.c (.ptr _ r p off)) => if (cx.ty e).ok then (loadN S r p off (cx.ty e).sz).bind (mkX cx e) else none
  | some (.c (.rptr _ cs)) => if (cx.ty e).ok ∧ (cx.ty e).sz ≤ cs.length then mkX cx e ((cs.take (cx.ty e).sz).map .t) else none
  | _ => none

theorem loadW_ok {A : StA} {e : Nat} {x : XU} {K : XU → Prop} (h : loadW cx A e x K) : ∃ y, loadV cx (den A) e (some x) = some y ∧ K y := by
  unfold loadW at h
  split at h
  · next a r p off =>
    split at h
    · next hok =>
      rw [tyK_eq] at h
      cases p with
      | nil =>
        simp only at h
        split at h
        · next y hy => rw [fX_eq] at h; exact ⟨y, by simp only [loadV, if_pos hok, hy], h⟩
        · exact h.elim
      | cons j p =>
        simp only at h
        rcases contW_ok h with ⟨h1, _⟩ | ⟨es, h1, h2⟩
        · cases h1
        · obtain ⟨ts, ⟨h3, h4⟩, h5⟩ := shapes_ok h2
          split at h5
          · next y hy =>
            rw [fX_eq] at h5
            rw [← h4] at h3
            have := loadN_deep h1 h3
            rw [h4] at this
            exact ⟨y, by simp only [loadV, if_pos hok, this, Option.bind_some, hy], h5⟩
          · exact h5.elim
    · exact h.elim
  · next a cs =>
    split at h
    · next hok =>
      rw [tyK_eq] at h
      obtain ⟨ts, ⟨h3, h4⟩, h5⟩ := shapes_ok h
      split at h5
      · next y hy =>
        rw [fX_eq] at h5
        have hl : (cx.ty e).sz ≤ cs.length := by
          have := congrArg List.length h3
          rw [h4, List.length_take] at this
          omega
        exact ⟨y, by simp only [loadV, if_pos (And.intro hok hl), h3, hy], h5⟩
      · exact h5.elim
    · exact h.elim
  · exact h.elim

def gd (o : Option Int) (d : Int) (K : Int → Prop) : Prop :=
  match o with
  | some x => K x
  | none => K d

theorem gd_eq (o : Option Int) (d : Int) (K : Int → Prop) : gd o d K = K (o.getD d) := by cases o <;> rfl

def sliceW (x : CU) (lo hi : Option Int) (K : CU → Prop) : Prop :=
  match x with
  | .t (.str s) => gd lo 0 fun l => gd hi s.length fun h => (0 ≤ l ∧ l ≤ h ∧ h ≤ s.length) ∧ K (.t (.str ((s.drop l.toNat).take (h - l).toNat)))
  | .bor a r p i off sz n => gd lo 0 fun l => gd hi n fun h => (0 ≤ l ∧ l ≤ h ∧ h ≤ n) ∧ K (.bor a r p i (off + l.toNat * sz) sz (h - l).toNat)
  | .t (.sl a (tag + 1) sz n cs) => gd lo 0 fun l => gd hi n fun h => (0 ≤ l ∧ l ≤ h ∧ h ≤ n) ∧ K (.t (.sl a (tag + 1) sz (h - l).toNat ((cs.drop (l.toNat * sz)).take ((h - l).toNat * sz))))
  | _ => False

theorem sliceW_ok {x : CU} {lo hi : Option Int} {K : CU → Prop} (h : sliceW x lo hi K) : ∃ y, sliceV x lo hi = some y ∧ K y := by
  unfold sliceW at h
  split at h
  · simp only [gd_eq] at h; exact ⟨_, by simp only [sliceV, if_pos h.1], h.2⟩
  · simp only [gd_eq] at h; exact ⟨_, by simp only [sliceV, if_pos h.1], h.2⟩
  · simp only [gd_eq] at h; exact ⟨_, by simp only [sliceV, if_pos h.1], h.2⟩
  · exact h.elim

def binW (kd : Nat) (kc : Bool) (op : BinOp) (a b : CU) (K : TU → Prop) : Prop :=
  match op with
  | .quo => (match a, b with
    | .t (.int k x), .t (.int k' y) => if k = k' then y ≠ 0 ∧ K (.int k (k.wrap (x.tdiv y))) else False
    | _, _ => False)
  | .rem => (match a, b with
    | .t (.int k x), .t (.int k' y) => if k = k' then y ≠ 0 ∧ K (.int k (x.tmod y)) else False
    | _, _ => False)
  | .shl => (match a, b with
    | .t (.int k x), .t (.int _ y) => 0 ≤ y ∧ K (.int k (k.wrap (x * 2 ^ (min y.toNat k.bits))))
    | _, _ => False)
  | .shr => (match a, b with
    | .t (.int k x), .t (.int _ y) => 0 ≤ y ∧ K (.int k (x.fdiv (2 ^ (min y.toNat k.bits))))
    | _, _ => False)
  | .add => (match a, b with
    | .t (.str x), .t (.str y) => x.length + y.length ≤ maxLen ∧ K (.str (x ++ y))
    | a, b => match binV kd kc .add a b with
      | some z => fT z K
      | none => False)
  | op => match binV kd kc op a b with
    | some z => fT z K
    | none => False

theorem binW_ok {kd : Nat} {kc : Bool} {op : BinOp} {a b : CU} {K : TU → Prop} (h : binW kd kc op a b K) : ∃ z, binV kd kc op a b = some z ∧ K z := by
  have gen : ∀ {op : BinOp}, (match binV kd kc op a b with
    | some z => fT z K
    | none => False) → ∃ z, binV kd kc op a b = some z ∧ K z := by
    intro op h
    split at h
    · next z hz => rw [fT_eq] at h; exact ⟨z, hz, h⟩
    · exact h.elim
  cases op with
  | quo =>
    simp only [binW] at h
    split at h
    · split at h
      · next hk => subst hk; exact ⟨_, by simp only [binV, if_true, intOp, if_neg h.1], h.2⟩
      · exact h.elim
    · exact h.elim
  | rem =>
    simp only [binW] at h
    split at h
    · split at h
      · next hk => subst hk; exact ⟨_, by simp only [binV, if_true, intOp, if_neg h.1], h.2⟩
      · exact h.elim
    · exact h.elim
  | shl =>
    simp only [binW] at h
    split at h
    · exact ⟨_, by simp only [binV, shOp, if_neg (Int.not_lt.2 h.1)], h.2⟩
    · exact h.elim
  | shr =>
    simp only [binW] at h
    split at h
    · exact ⟨_, by simp only [binV, shOp, if_neg (Int.not_lt.2 h.1)], h.2⟩
    · exact h.elim
  | add =>
    simp only [binW] at h
    split at h
    · exact ⟨_, by simp only [binV, strOp, if_pos h.1], h.2⟩
    · exact gen h
  | _ => exact gen h

def convW (so : Bool) (ks kd : Nat) (A : StA) (x : CU) (K : CU → Prop) : Prop :=
  match x with
  | .t (.int k n) => (match convV so ks kd (den A) (.t (.int k n)) with
    | some y => fC y K
    | none => False)
  | .t (.str s) => if so ∧ kd = 3 then K (.t (.str s)) else False
  | .t (.sl a g sz n cs) => if kd = 3 ∧ ks = 4 ∧ sz = 1 then ∃ bs, bytesOf cs = some bs ∧ K (.t (.str bs)) else False
  | .bor a r p i off sz n => if kd = 3 ∧ ks = 4 ∧ sz = 1 then listAtW A r p i off (n * sz) fun cs => ∃ bs, bytesOf cs = some bs ∧ K (.t (.str bs)) else False
  | _ => False

theorem convW_ok {so : Bool} {ks kd : Nat} {A : StA} {x : CU} {K : CU → Prop} (h : convW so ks kd A x K) : ∃ y, convV so ks kd (den A) x = some y ∧ K y := by
  unfold convW at h
  split at h
  · split at h
    · next y hy => rw [fC_eq] at h; exact ⟨y, hy, h⟩
    · exact h.elim
  · split at h
    · next hc => exact ⟨_, by simp only [convV, if_pos hc], h⟩
    · exact h.elim
  · split at h
    · next hc =>
      obtain ⟨h1, h2, h3⟩ := hc
      subst h3
      obtain ⟨bs, h4, h5⟩ := h
      exact ⟨_, by simp only [convV, h1, h2, and_self, if_true, readL, Option.bind_some, h4, Option.map_some], h5⟩
    · exact h.elim
  · split at h
    · next hc =>
      obtain ⟨h1, h2, h3⟩ := hc
      subst h3
      obtain ⟨cs, h6, bs, h4, h5⟩ := listAtW_ok h
      exact ⟨_, by simp only [convV, h1, h2, and_self, if_true, readL, h6, Option.map_some, Option.bind_some, h4], h5⟩
    · exact h.elim
  · exact h.elim

def intW (A : StA) (o : Operand) (K : Int → Prop) : Prop :=
  match opv cx f (den A) 0 o with
  | some (.c (.t (.int _ n))) => K n
  | _ => False

theorem intW_ok {A : StA} {o : Operand} {K : Int → Prop} (h : intW cx f A o K) : ∃ n, intOf (opv cx f (den A) 0 o) = some n ∧ K n := by
  unfold intW at h
  split at h
  · next hx => exact ⟨_, by rw [hx]; rfl, h⟩
  · exact h.elim

def optIW (A : StA) (o : Option Operand) (K : Option Int → Prop) : Prop :=
  match o with
  | none => K none
  | some o => intW cx f A o fun n => K (some n)

theorem optIW_ok {A : StA} {o : Option Operand} {K : Option Int → Prop} (h : optIW cx f A o K) : ∃ n, optInt cx f (den A) o = some n ∧ K n := by
  cases o with
  | none => exact ⟨_, rfl, h⟩
  | some o =>
    obtain ⟨n, h1, h2⟩ := intW_ok cx f h
    exact ⟨_, by simp only [optInt, h1, Option.map_some], h2⟩

theorem den_same {A : StA} {d : Nat} {x : XU} (h : lk A.jk A.env d = x) : den (A.put d x) = den A := by
  rw [← den_put]
  have e : (den A).s d = lk A.jk A.env d := rfl
  have : upd (den A).s d x = (den A).s := by
    funext i
    simp only [upd]
    split
    · next hi => rw [hi, e, h]
    · rfl
  rw [this]

def boolW (kn : List Nat) (A : StA) (o : Operand) (K : Bool → StA → List Nat → Prop) : Prop :=
  match o with
  | .tmp d => (match lk A.jk A.env d with
    | .c (.t (.bool b)) => if kn.contains d then (match b with
        | true => K true A kn
        | false => K false A kn) else (b = true → putW A d (.c (.t (.bool true))) fun A => K true A (d :: kn)) ∧ (b = false → putW A d (.c (.t (.bool false))) fun A => K false A (d :: kn))
    | _ => False)
  | .const (.bool true) => K true A kn
  | .const (.bool false) => K false A kn
  | _ => False

theorem boolW_ok {kn : List Nat} {A : StA} {t : Nat} {o : Operand} {K : Bool → StA → List Nat → Prop} (h : boolW kn A o K) : ∃ b A' kn', boolOf (opv cx f (den A) t o) = some b ∧ den A' = den A ∧ K b A' kn' := by
  unfold boolW at h
  split at h
  · next d =>
    split at h
    · next b hb =>
      have e : (den A).s d = lk A.jk A.env d := rfl
      have hv : boolOf (opv cx f (den A) t (.tmp d)) = some b := by
        simp only [opv, e, hb, rdS]
        split <;> rfl
      split at h
      · exact ⟨b, A, kn, hv, rfl, by cases b <;> exact h⟩
      · cases b
        · have h := h.2 rfl
          rw [putW_eq] at h
          exact ⟨false, _, _, hv, den_same hb, h⟩
        · have h := h.1 rfl
          rw [putW_eq] at h
          exact ⟨true, _, _, hv, den_same hb, h⟩
    · exact h.elim
  · exact ⟨true, A, kn, rfl, rfl, h⟩
  · exact ⟨false, A, kn, rfl, rfl, h⟩
  · exact h.elim

def buildW (place : Nat → Option (Nat × Nat)) : List (Nat × Operand) → List CU → StA → (List CU → StA → Prop) → Prop
  | [], cells, A, K => K cells A
  | q :: rest, cells, A, K => match q with
    | (i, o) => match place i with
      | some (off, t) => opW cx f A t o fun x => (match cellsX x with
        | some cs => if cs.length = (cx.ty t).sz ∧ off + cs.length ≤ cells.length then clrW cx f A o fun A => fCs (fillC cells off cs) fun cells => buildW place rest cells A K else False
        | none => False)
      | none => False

theorem buildW_ok {place : Nat → Option (Nat × Nat)} : ∀ {ps : List (Nat × Operand)} {cells : List CU} {A : StA} {K : List CU → StA → Prop}, buildW cx f place ps cells A K → ∃ cs A', buildV cx f place ps cells (den A) = some (cs, den A') ∧ K cs A'
  | [], cells, A, K, h => ⟨cells, A, rfl, h⟩
  | (i, o) :: ps, cells, A, K, h => by
    simp only [buildW] at h
    split at h
    · next off t hp =>
      obtain ⟨x, h1, h2⟩ := opW_ok h
      split at h2
      · next cs hcs =>
        split at h2
        · next hc =>
          rw [clrW_eq, fCs_eq] at h2
          obtain ⟨ds, A', h3, h4⟩ := buildW_ok h2
          exact ⟨ds, A', by simp only [buildV, hp, Option.bind_some, h1, hcs, if_pos hc, den_clr, h3], h4⟩
        · exact h2.elim
      · exact h2.elim
    · exact h.elim

def qW (A : StA) (kn : List Nat) (t : Nat) (K : XU → StA → Bool → Prop) : Op → Prop
  | .move x => opW cx f A t x fun y => clrW cx f A x fun A => K y A (knO kn x)
  | .pick c a b => boolW kn A c fun v A kn => (match v with
    | true => opW cx f A t a fun y => clrW cx f A a fun A => K y A (knO kn a)
    | false => opW cx f A t b fun y => clrW cx f A b fun A => K y A (knO kn b))
  | .load e a => opW cx f A 0 a fun x => loadW cx A e x fun y => K y A false
  | .indexAddr e x i => (match (cx.ty e).el with
    | some el => opW cx f A e x fun y => intW cx f A i fun k => (match y with
      | .c (.bor _ r p j off sz n) => if (cx.ty e).ok = true ∧ sz = (cx.ty el).sz ∧ (cx.ty el).ok = true then (0 ≤ k ∧ k < n) ∧ K (.c (.ptr () r (p ++ [j]) (off + k.toNat * sz))) A false else False
      | .c (.t (.sl _ (_ + 1) sz n cs)) => if (cx.ty e).ok = true ∧ sz = (cx.ty el).sz ∧ (cx.ty el).ok = true then (0 ≤ k ∧ k < n) ∧ K (.c (.rptr () (cs.drop (k.toNat * sz)))) A false else False
      | _ => False)
    | none => False)
  | .index e x i => opW cx f A 0 x fun y => intW cx f A i fun k => (match y with
    | .c (.t (.str s)) => if kindOf cx e = 3 then (0 ≤ k ∧ k < s.length) ∧ K (.c (.t (byteT (s.getD k.toNat 0)))) A false else False
    | _ => False)
  | .binOp op xt x y yt => opW cx f A xt x fun a => opW cx f A yt y fun b => (match a, b with
    | .c a, .c b => binW (kindOf cx xt) (isConstO x || isConstO y) op a b fun z => K (.c (.t z)) A false
    | _, _ => False)
  | .unOp op xt x => opW cx f A xt x fun a => (match a with
    | .c a => (match unV op a with
      | some z => fT z fun z => K (.c (.t z)) A (knO kn x)
      | none => False)
    | _ => False)
  | .convert src dst x => opW cx f A src x fun a => (match a with
    | .c a => convW (cx.ty src).ok (kindOf cx src) (kindOf cx dst) A a fun z => K (.c z) A false
    | _ => False)
  | .slice e x lo hi none => opW cx f A e x fun y => optIW cx f A lo fun l => optIW cx f A hi fun h => (match y with
    | .c y => if sliceOk cx e y then sliceW y l h fun z => K (.c z) A false else False
    | _ => False)
  | .makeSlice e l c => (match (cx.ty e).el with
    | some el => intW cx f A l fun n => intW cx f A c fun m => if (cx.ty e).ok = true ∧ (cx.ty el).ok = true ∧ 0 < (cx.ty el).sz then tyK (cx.ty el) fun sz zs bytes =>
        (0 ≤ n ∧ n ≤ m ∧ m * bytes ≤ 140737488355328 ∧ m ≤ maxLen) ∧ (match allT zs with
          | some zs => fTs zs fun zs => K (.c (.t (.sl () 0 sz n.toNat (repl n.toNat zs)))) A false
          | none => False) else False
    | none => False)
  | .call c => callW cx f call A t c fun x => K x A false
  | .box e x => opW cx f A e x fun y => (match cellsX y with
    | some cs => if (cx.ty e).ok = true ∧ cs.length = (cx.ty e).sz then clrW cx f A x fun A => K (.box () cs) A false else False
    | none => False)
  | .fieldAddr e x i => (match (cx.ty e).fs[i]? with
    | some (off, ft) => opW cx f A 0 x fun y => (match y with
      | .c (.ptr a r p o) => if (cx.ty e).ok ∧ (cx.ty ft).ok ∧ 0 < (cx.ty ft).sz then K (.c (.ptr a r p (o + off))) A false else False
      | .c (.rptr a cs) => if (cx.ty e).ok ∧ (cx.ty ft).ok ∧ 0 < (cx.ty ft).sz then off ≤ cs.length ∧ K (.c (.rptr a (cs.drop off))) A false else False
      | _ => False)
    | none => False)
  | .field e x i => (match (cx.ty e).fs[i]? with
    | some (off, ft) => opW cx f A 0 x fun y => (match y with
      | .agg cs => if (cx.ty e).ok ∧ (cx.ty ft).ok ∧ off + (cx.ty ft).sz ≤ cs.length then (match mkX cx ft ((cs.drop off).take (cx.ty ft).sz) with
          | some y => fX y fun y => clrW cx f A x fun A => K y A false
          | none => False) else False
      | _ => False)
    | none => False)
  | .build e ps => if (cx.ty e).ok ∧ (cx.ty e).agg ∧ (cx.ty e).fs ≠ [] ∧ ((cx.ty e).fs.all fun q => (cx.ty q.2).ok) then buildW cx f (fun i => (cx.ty e).fs[i]?) ps.toList (cx.ty e).zs A fun cs A => K (.agg cs) A false else False
  | .buildSlice e len ps => (match (cx.ty e).el with
    | some el => if (cx.ty el).ok ∧ (cx.ty e).ok ∧ len * (cx.ty el).sz ≤ 16777216 then buildW cx f (fun i => if i < len then some (i * (cx.ty el).sz, el) else none) ps.toList (repl len (cx.ty el).zs) A fun cs A => fC (lstV (cx.ty el).sz len cs) fun c => K (.c c) A false else False
    | none => False)
  | op => (match qvalA cx f call A t op with
    | some (x, _) => fX x fun x => K x A false
    | none => False)

theorem qW_ok {A : StA} {kn : List Nat} {t : Nat} {K : XU → StA → Bool → Prop} {op : Op} (h : qW cx f call A kn t K op) : ∃ x A' b, qval cx f call (den A) t op = some (x, den A') ∧ K x A' b := by
  have gen : (∀ r, qvalA cx f call A t op = some r → r.2 = A) → (match qvalA cx f call A t op with
    | some (x, _) => fX x fun x => K x A false
    | none => False) → ∃ x A' b, qval cx f call (den A) t op = some (x, den A') ∧ K x A' b := by
    intro hs h
    split at h
    · next x A' hx =>
      rw [fX_eq] at h
      have := hs _ hx
      simp only at this
      subst this
      exact ⟨x, _, false, by rw [den_qval, hx]; rfl, h⟩
    · exact h.elim
  have same : ∀ {op : Op} r, ((qval cx f call (den A) t op).map fun r => (r.1, A)) = some r → r.2 = A := by
    intro op r h
    cases hq : qval cx f call (den A) t op with
    | none => simp [hq] at h
    | some q => simp only [hq, Option.map_some, Option.some.injEq] at h; rw [← h]
  cases op with
  | move x =>
    obtain ⟨y, h1, h2⟩ := opW_ok h
    rw [clrW_eq] at h2
    exact ⟨y, _, _, by simp only [qval, h1, Option.map_some, den_clr], h2⟩
  | pick c a b =>
    simp only [qW] at h
    obtain ⟨v, A1, kn1, h1, hd, h2⟩ := boolW_ok cx f (t := t) h
    cases v with
    | true =>
      obtain ⟨y, h3, h4⟩ := opW_ok h2
      rw [clrW_eq] at h4
      rw [hd] at h3
      exact ⟨y, _, _, by simp only [qval, h1, h3, Option.map_some]; rw [← hd, den_clr], h4⟩
    | false =>
      obtain ⟨y, h3, h4⟩ := opW_ok h2
      rw [clrW_eq] at h4
      rw [hd] at h3
      exact ⟨y, _, _, by simp only [qval, h1, h3, Option.map_some]; rw [← hd, den_clr], h4⟩
  | load e a =>
    obtain ⟨x, h1, h2⟩ := opW_ok h
    obtain ⟨y, h3, h4⟩ := loadW_ok cx h2
    refine ⟨y, A, _, ?_, h4⟩
    cases x with
    | c c =>
      cases c with
      | ptr b r p off =>
        simp only [loadV] at h3
        split at h3
        · next hok =>
          simp only [qval, h1, if_pos hok]
          cases hl : loadN (den A) r p off (cx.ty e).sz with
          | none => simp [hl] at h3
          | some cs => simp only [hl, Option.bind_some] at h3 ⊢; simp only [h3, Option.map_some]
        · cases h3
      | rptr b cs =>
        simp only [loadV] at h3
        split at h3
        · next hok => simp only [qval, h1, if_pos hok, h3, Option.map_some]
        · cases h3
      | _ => simp [loadV] at h3
    | _ => simp [loadV] at h3
  | indexAddr e x i =>
    simp only [qW] at h
    split at h
    · next el hel =>
      obtain ⟨y, h1, h2⟩ := opW_ok h
      obtain ⟨k, h3, h4⟩ := intW_ok cx f h2
      split at h4
      · split at h4
        · next hc =>
          refine ⟨_, A, _, ?_, h4.2⟩
          simp only [qval, hel, h1, h3]
          rw [if_pos ⟨hc.1, h4.1.1, h4.1.2, hc.2.1, hc.2.2⟩]
        · exact h4.elim
      · split at h4
        · next hc =>
          refine ⟨_, A, _, ?_, h4.2⟩
          simp only [qval, hel, h1, h3]
          rw [if_pos ⟨hc.1, h4.1.1, h4.1.2, hc.2.1, hc.2.2⟩]
        · exact h4.elim
      · exact h4.elim
    · exact h.elim
  | index e x i =>
    obtain ⟨y, h1, h2⟩ := opW_ok h
    obtain ⟨k, h3, h4⟩ := intW_ok cx f h2
    split at h4
    · split at h4
      · next hc =>
        refine ⟨_, A, _, ?_, h4.2⟩
        simp only [qval, h1, h3]
        rw [if_pos ⟨hc, h4.1⟩]
      · exact h4.elim
    · exact h4.elim
  | binOp op xt x y yt =>
    obtain ⟨a, h1, h2⟩ := opW_ok h
    obtain ⟨b, h3, h4⟩ := opW_ok h2
    split at h4
    · obtain ⟨z, h5, h6⟩ := binW_ok h4
      exact ⟨_, A, _, by simp only [qval, h1, h3, h5, Option.map_some], h6⟩
    · exact h4.elim
  | unOp op xt x =>
    obtain ⟨a, h1, h2⟩ := opW_ok h
    split at h2
    · split at h2
      · next z hz => rw [fT_eq] at h2; exact ⟨_, A, _, by simp only [qval, h1, hz, Option.map_some], h2⟩
      · exact h2.elim
    · exact h2.elim
  | convert src dst x =>
    obtain ⟨a, h1, h2⟩ := opW_ok h
    split at h2
    · obtain ⟨z, h3, h4⟩ := convW_ok h2
      exact ⟨_, A, _, by simp only [qval, h1, h3, Option.map_some], h4⟩
    · exact h2.elim
  | slice e x lo hi mx =>
    cases mx with
    | some m => exact gen (fun r hr => by simp only [qvalA] at hr; exact same r hr) h
    | none =>
      obtain ⟨y, h1, h2⟩ := opW_ok h
      obtain ⟨l, h3, h4⟩ := optIW_ok cx f h2
      obtain ⟨m, h5, h6⟩ := optIW_ok cx f h4
      split at h6
      · split at h6
        · next hs =>
          obtain ⟨z, h7, h8⟩ := sliceW_ok h6
          exact ⟨_, A, _, by simp only [qval, h1, h3, h5, if_pos hs, h7, Option.map_some], h8⟩
        · exact h6.elim
      · exact h6.elim
  | makeSlice e l c =>
    simp only [qW] at h
    split at h
    · next el hel =>
      obtain ⟨n, h1, h2⟩ := intW_ok cx f h
      obtain ⟨m, h3, h4⟩ := intW_ok cx f h2
      split at h4
      · next hc =>
        rw [tyK_eq] at h4
        obtain ⟨h5, h6⟩ := h4
        split at h6
        · next zs hz =>
          rw [fTs_eq] at h6
          refine ⟨_, A, _, ?_, h6⟩
          simp only [qval, hel, h1, h3]
          rw [if_pos ⟨h5.1, h5.2.1, h5.2.2.1, h5.2.2.2, hc.1, hc.2.1, hc.2.2⟩, hz]
          rfl
        · exact h6.elim
      · exact h4.elim
    · exact h.elim
  | call c =>
    simp only [qW] at h
    obtain ⟨x, h1, h2⟩ := callW_ok cx f call h
    exact ⟨x, A, _, by simp only [qval]; exact h1, h2⟩
  | box e x =>
    simp only [qW] at h
    obtain ⟨y, h1, h2⟩ := opW_ok h
    split at h2
    · next cs hcs =>
      split at h2
      · next hc =>
        rw [clrW_eq] at h2
        exact ⟨_, _, _, by simp only [qval, h1, Option.bind_some, hcs, if_pos hc, den_clr], h2⟩
      · exact h2.elim
    · exact h2.elim
  | fieldAddr e x i =>
    simp only [qW] at h
    split at h
    · next off ft hft =>
      obtain ⟨y, h1, h2⟩ := opW_ok h
      split at h2
      · split at h2
        · next hc => exact ⟨_, A, _, by simp only [qval, hft, h1, if_pos hc, addrV, Option.map_some], h2⟩
        · exact h2.elim
      · split at h2
        · next hc => exact ⟨_, A, _, by simp only [qval, hft, h1, if_pos hc, addrV, if_pos h2.1, Option.map_some], h2.2⟩
        · exact h2.elim
      · exact h2.elim
    · exact h.elim
  | field e x i =>
    simp only [qW] at h
    split at h
    · next off ft hft =>
      obtain ⟨y, h1, h2⟩ := opW_ok h
      split at h2
      · next cs =>
        split at h2
        · next hc =>
          split at h2
          · next z hz =>
            rw [fX_eq, clrW_eq] at h2
            exact ⟨_, _, _, by simp only [qval, hft, h1, if_pos hc, hz, Option.map_some, den_clr], h2⟩
          · exact h2.elim
        · exact h2.elim
      · exact h2.elim
    · exact h.elim
  | build e ps =>
    simp only [qW] at h
    split at h
    · next hc =>
      obtain ⟨cs, A', h1, h2⟩ := buildW_ok cx f h
      exact ⟨_, A', _, by simp only [qval, if_pos hc, h1, Option.map_some], h2⟩
    · exact h.elim
  | buildSlice e len ps =>
    simp only [qW] at h
    split at h
    · next el hel =>
      split at h
      · next hc =>
        obtain ⟨cs, A', h1, h2⟩ := buildW_ok cx f h
        rw [fC_eq] at h2
        exact ⟨_, A', _, by simp only [qval, hel, if_pos hc, h1, Option.map_some], h2⟩
      · exact h.elim
    · exact h.elim
  | _ => exact gen (fun r hr => by simp only [qvalA] at hr; exact same r hr) h

end
end Go.Proofs.YtlkjnlfddadlmaaDoor.V

namespace Go.Proofs.YtlkjnlfddadlmaaDoor.V

section
variable (cx : Ctx) (f : Nat) (call : Callee)

def putQW (A : StA) (dst : Option Nat) (x : XU) (K : StA → Prop) : Prop :=
  match dst with
  | some d => if isVar cx f d && !isUndef (lk A.jk A.env d) then False else putW A d x K
  | none => K A

theorem putQW_ok {A : StA} {dst : Option Nat} {x : XU} {K : StA → Prop} (h : putQW cx f A dst x K) : ∃ A', putQ cx f (den A) dst x = some (den A') ∧ K A' := by
  cases dst with
  | none => exact ⟨A, rfl, h⟩
  | some d =>
    simp only [putQW] at h
    split at h
    · exact h.elim
    · next hc =>
      rw [putW_eq] at h
      refine ⟨_, ?_, h⟩
      have e : (den A).s d = lk A.jk A.env d := rfl
      simp only [putQ, e, if_neg hc, den_put]

def knP (kn : List Nat) (dst : Option Nat) (b : Bool) : List Nat :=
  match dst with
  | some d => if b then d :: kn else kn.filter fun i => !(i == d)
  | none => kn

def actW (o : Oper) (A : StA) (kn : List Nat) (K : StA → List Nat → Prop) : Prop :=
  match o.op with
  | .assign x => (match o.dst with
    | some d => assignW cx f A o.type d x fun A => K A (knP kn o.dst (knO kn x))
    | none => False)
  | .store t a x => storeW cx f A t a x fun A => putQW cx f A o.dst (.tup []) fun A => K A (knP kn o.dst false)
  | .call c => if isActive cx (.call c) then (match c.callee, c.args.toList with
      | .builtin .append, [s, x] => appendW cx f A c.argTypes.toList s x fun y A => putQW cx f A o.dst y fun A => K A (knP kn o.dst false)
      | .value fo, args => activeW cx f call A fo args c.argTypes.toList fun y A => putQW cx f A o.dst y fun A => K A (knP kn o.dst false)
      | _, _ => False) else callW cx f call A o.type c fun y => putQW cx f A o.dst y fun A => K A (knP kn o.dst false)
  | op => qW cx f call A kn o.type (fun y A b => putQW cx f A o.dst y fun A => K A (knP kn o.dst b)) op

theorem actW_ok {ops : Array Oper} {o : Oper} {A : StA} {kn : List Nat} {K : StA → List Nat → Prop} (hw : wantedV (den A) ops o = some true) (h : actW cx f call o A kn K) : ∃ A' kn', stepOp cx f call (den A) ops o = some (den A') ∧ K A' kn' := by
  unfold stepOp
  unfold actW at h
  rw [hw]
  simp only
  have gen : ∀ {op : Op}, qW cx f call A kn o.type (fun y A b => putQW cx f A o.dst y fun A => K A (knP kn o.dst b)) op → ∃ A' kn', ((qval cx f call (den A) o.type op).bind fun r => putQ cx f r.2 o.dst r.1) = some (den A') ∧ K A' kn' := by
    intro op h
    obtain ⟨x, A1, b, h1, h2⟩ := qW_ok cx f call h
    obtain ⟨A2, h3, h4⟩ := putQW_ok cx f h2
    exact ⟨A2, _, by simp only [h1, Option.bind_some, h3], h4⟩
  cases hop : o.op with
  | assign x =>
    simp only [hop] at h ⊢
    cases hd : o.dst with
    | none => simp [hd] at h
    | some d =>
      simp only [hd] at h
      obtain ⟨A1, h1, h2⟩ := assignW_ok cx f h
      exact ⟨A1, _, h1, h2⟩
  | store t a x =>
    simp only [hop] at h ⊢
    obtain ⟨A1, h1, h2⟩ := storeW_ok cx f h
    obtain ⟨A2, h3, h4⟩ := putQW_ok cx f h2
    exact ⟨A2, _, by simp only [h1, Option.bind_some, h3], h4⟩
  | call c =>
    simp only [hop] at h ⊢
    by_cases hact : isActive cx (.call c) = true
    · simp only [if_pos hact] at h ⊢
      split at h
      · next s x h1 h2 =>
        obtain ⟨y, A1, h3, h4⟩ := appendW_ok cx f h
        obtain ⟨A2, h5, h6⟩ := putQW_ok cx f h4
        exact ⟨A2, _, by simp only [h1, h2, h3, Option.bind_some, h5], h6⟩
      · next fo h1 =>
        obtain ⟨y, A1, h3, h4⟩ := activeW_ok cx f call h
        obtain ⟨A2, h5, h6⟩ := putQW_ok cx f h4
        refine ⟨A2, _, ?_, h6⟩
        simp only [h1, h3, Option.bind_some, h5]
      · exact h.elim
    · simp only [if_neg hact] at h ⊢
      obtain ⟨x, h1, h2⟩ := callW_ok cx f call h
      obtain ⟨A2, h5, h6⟩ := putQW_ok cx f h2
      exact ⟨A2, _, by simp only [h1, Option.bind_some, h5], h6⟩
  | _ => simp only [hop] at h ⊢; exact gen h

def drc (dr : Option Nat) (k : Nat) (ops : Array Oper) (o : Oper) (S : SU) : Bool :=
  match dr with
  | none => true
  | some id => if inTail cx f id k then !(decide (k + 2 = ops.size) && !tailCk S ops) else (cx.ord f id k || softC cx f ops S o) && (cx.shr f id k).all (fun t => isVar cx f t || !hasOwn (S.s t))

def hideW : List Nat → StA → (StA → Prop) → Prop
  | [], A, K => K A
  | d :: Z, A, K => hideW Z A fun A => putW A d .undef K

theorem hideW_ok : ∀ {Z : List Nat} {A : StA} {K : StA → Prop}, hideW Z A K → ∃ H, den H = hide Z (den A) ∧ K H
  | [], A, K, h => ⟨A, (hide_nil _).symm, h⟩
  | d :: Z, A, K, h => by
    obtain ⟨H, h1, h2⟩ := hideW_ok (Z := Z) h
    rw [putW_eq] at h2
    refine ⟨_, ?_, h2⟩
    rw [← den_put, h1]
    simp only [hide]
    congr 1
    funext t
    simp only [upd, List.mem_cons]
    by_cases h1 : t = d
    · simp [h1]
    · simp [h1]

def redoW (id : Nat) (ops : Array Oper) : List Nat → StA → Prop → Prop
  | [], _, K => K
  | y :: Y, A, K => match ops[y]? with
    | some o => (match o.guard, o.dst with
      | none, some d => if isPure o.op && !isVar cx f d && !cx.ord f id y && (cx.shr f id y).all (fun t => isVar cx f t || !hasOwn ((den A).s t)) && Y.all (fun z => decide (y < z)) && !(dsts ops Y).contains d then
          hideW (dsts ops (y :: Y)) A fun H => qW cx f noCall H [] o.type (fun x H' _ => (den H' = den H ∧ x = lk A.jk A.env d) ∧ redoW id ops Y A K) o.op
        else False
      | _, _ => False)
    | none => False

theorem redoW_ok {id : Nat} {ops : Array Oper} {A : StA} {K : Prop} : ∀ {Y : List Nat}, redoW cx f id ops Y A K → redoP cx f id ops (den A) Y ∧ K
  | [], h => ⟨trivial, h⟩
  | y :: Y, h => by
    simp only [redoW] at h
    split at h
    · next o ho =>
      split at h
      · next d hg hdo =>
        split at h
        · next hc =>
          simp only [Bool.and_eq_true, Bool.not_eq_true', List.all_eq_true, decide_eq_true_eq] at hc
          obtain ⟨⟨⟨⟨⟨c1, c2⟩, c3⟩, c4⟩, c5⟩, c6⟩ := hc
          have c4 : ∀ t ∈ cx.shr f id y, isVar cx f t = true ∨ hasOwn ((den A).s t) = false := fun t ht => by
            have := c4 t ht
            simpa using this
          have c6 : d ∉ dsts ops Y := by simpa using c6
          obtain ⟨H, h1, h2⟩ := hideW_ok h
          obtain ⟨x, A1, b, h3, ⟨h4, h5⟩, h6⟩ := qW_ok cx f noCall h2
          obtain ⟨h7, h8⟩ := redoW_ok h6
          refine ⟨⟨⟨c5, o, d, ho, hdo, c1, c2, c3, c4, ?_⟩, h7⟩, h8⟩
          rw [h1] at h3
          rw [stepOp_quiet (isPure_quiet c1) (by simp only [wantedV, hg]), h3]
          simp only [Option.bind_some, putQ, hdo, c2, Bool.false_and, Bool.false_eq_true, if_false]
          rw [h4, h1, h5]
          have e : dsts ops (y :: Y) = d :: dsts ops Y := by simp only [dsts, List.filterMap_cons, ho, Option.bind_some, hdo]
          rw [e]
          simp only [hide]
          congr 1
          congr 1
          funext t
          simp only [upd, List.mem_cons]
          by_cases ht : t = d
          · subst ht
            simp only [if_true, if_neg c6]
            rfl
          · simp [ht]
        · exact h.elim
      · exact h.elim
    · exact h.elim

def redoD (dr : Option Nat) (k : Nat) (ops : Array Oper) (A : StA) (K : Prop) : Prop :=
  match dr with
  | none => K
  | some id => match pndOf cx f id k with
    | [] => K
    | y :: Y => redoW cx f id ops (y :: Y) A K

theorem redoD_ok {dr : Option Nat} {k : Nat} {ops : Array Oper} {A : StA} {K : Prop} (h : redoD cx f dr k ops A K) : (∀ id, dr = some id → chkD cx f id ops k (den A) = some (den A)) ∧ K := by
  unfold redoD at h
  split at h
  · exact ⟨fun id hd => by simp at hd, h⟩
  · next id =>
    split at h
    · next he => exact ⟨fun id' hd => by simp only [Option.some.injEq] at hd; subst hd; simp only [chkD, he], h⟩
    · next y Y he =>
      obtain ⟨h1, h2⟩ := redoW_ok cx f h
      exact ⟨fun id' hd => by simp only [Option.some.injEq] at hd; subst hd; simp only [chkD, he, if_pos h1], h2⟩

def goW (dr : Option Nat) (k : Nat) (ops : Array Oper) (o : Oper) (w : Bool) (A : StA) (kn : List Nat) (K : StA → List Nat → Prop) : Prop :=
  if drc cx f dr k ops o (den A) then (match w with
    | true => actW cx f call o A kn fun A kn => redoD cx f dr k ops A (K A kn)
    | false => putQW cx f A o.dst (.tup []) fun A => redoD cx f dr k ops A (K A (knP kn o.dst false))) else False

def stepW (dr : Option Nat) (k : Nat) (ops : Array Oper) (o : Oper) (A : StA) (kn : List Nat) (K : StA → List Nat → Prop) : Prop :=
  match o.guard with
  | none => goW cx f call dr k ops o true A kn K
  | some (j, want) => match (ops[j]?).bind (·.dst) with
    | none => False
    | some d => match lk A.jk A.env d with
      | .c (.t (.bool b)) => if kn.contains d then (match b with
          | true => goW cx f call dr k ops o want A kn K
          | false => goW cx f call dr k ops o (!want) A kn K)
        else (b = true → putW A d (.c (.t (.bool true))) fun A => goW cx f call dr k ops o want A (d :: kn) K) ∧
          (b = false → putW A d (.c (.t (.bool false))) fun A => goW cx f call dr k ops o (!want) A (d :: kn) K)
      | .tup [] => goW cx f call dr k ops o false A kn K
      | _ => False

noncomputable def stepR (dr : Option Nat) (k : Nat) (ops : Array Oper) (o : Oper) (S : SU) : Option SU :=
  match dr with
  | none => stepOp cx f call S ops o
  | some id => stepD cx f call id ops k S o

theorem goW_ok {dr : Option Nat} {k : Nat} {ops : Array Oper} {o : Oper} {w : Bool} {A : StA} {kn : List Nat} {K : StA → List Nat → Prop} (hw : wantedV (den A) ops o = some w) (h : goW cx f call dr k ops o w A kn K) : ∃ A' kn', stepR cx f call dr k ops o (den A) = some (den A') ∧ K A' kn' := by
  unfold goW at h
  split at h
  · next hd =>
    have key : ∃ A' kn', stepOp cx f call (den A) ops o = some (den A') ∧ redoD cx f dr k ops A' (K A' kn') := by
      cases w with
      | true => exact actW_ok cx f call hw h
      | false =>
        obtain ⟨A2, h5, h6⟩ := putQW_ok cx f h
        exact ⟨A2, _, by unfold stepOp; simp only [hw, h5], h6⟩
    obtain ⟨A', kn', h1, h2⟩ := key
    obtain ⟨h3, h4⟩ := redoD_ok cx f h2
    refine ⟨A', kn', ?_, h4⟩
    cases dr with
    | none => exact h1
    | some id =>
      simp only [drc] at hd
      simp only [stepR, stepD]
      cases hin : inTail cx f id k with
      | true =>
        rw [hin, if_pos rfl] at hd
        rw [if_pos rfl, if_neg (by simp only [Bool.not_eq_true'] at hd; rw [hd]; simp)]; exact h1
      | false =>
        rw [hin, if_neg (by simp)] at hd
        rw [if_neg (by simp)]
        simp only [stepD0, hd, if_true, h1, Option.bind_some, h3 id rfl]
  · exact h.elim

theorem stepW_ok {dr : Option Nat} {k : Nat} {ops : Array Oper} {o : Oper} {A : StA} {kn : List Nat} {K : StA → List Nat → Prop} (h : stepW cx f call dr k ops o A kn K) : ∃ A' kn', stepR cx f call dr k ops o (den A) = some (den A') ∧ K A' kn' := by
  unfold stepW at h
  split at h
  · next hg => exact goW_ok cx f call (by simp only [wantedV, hg]) h
  · next j want hg =>
    split at h
    · exact h.elim
    · next d hd =>
      have e : (den A).s d = lk A.jk A.env d := rfl
      have wt : ∀ {b : Bool}, lk A.jk A.env d = .c (.t (.bool b)) → wantedV (den A) ops o = some (b == want) := by
        intro b hb
        simp only [wantedV, hg, hd, e, hb]
      split at h
      · next b hb =>
        split at h
        · cases b with
          | true => exact goW_ok cx f call (by rw [wt hb]; cases want <;> rfl) h
          | false => exact goW_ok cx f call (by rw [wt hb]; cases want <;> rfl) h
        · cases b with
          | true =>
            have h := h.1 rfl
            rw [putW_eq] at h
            rw [← den_same hb]
            exact goW_ok cx f call (by rw [den_same hb, wt hb]; cases want <;> rfl) h
          | false =>
            have h := h.2 rfl
            rw [putW_eq] at h
            rw [← den_same hb]
            exact goW_ok cx f call (by rw [den_same hb, wt hb]; cases want <;> rfl) h
      · next hb => exact goW_ok cx f call (by simp only [wantedV, hg, hd, e, hb]) h
      · exact h.elim

def fK : List Nat → (List Nat → Prop) → Prop
  | [], K => K []
  | d :: l, K => fK l fun l => K (d :: l)

theorem fK_eq : ∀ (l : List Nat) (K : List Nat → Prop), fK l K = K l
  | [], K => rfl
  | d :: l, K => by simp only [fK, fK_eq l]

def stepsW (dr : Option Nat) (ops : Array Oper) : Nat → List Oper → StA → List Nat → (StA → List Nat → Prop) → Prop
  | _, [], A, kn, K => K A kn
  | k, o :: os, A, kn, K => stepW cx f call dr k ops o A kn fun A kn => fK kn fun kn => stepsW dr ops (k + 1) os A kn K

noncomputable def stepsR (dr : Option Nat) (ops : Array Oper) : Nat → List Oper → SU → Option SU
  | _, [], S => some S
  | k, o :: os, S => (stepR cx f call dr k ops o S).bind fun S => stepsR dr ops (k + 1) os S

theorem stepsR_none (ops : Array Oper) : ∀ (l : List Oper) (k : Nat) (S : SU), stepsR cx f call none ops k l S = stepOps cx f call ops l S
  | [], k, S => rfl
  | o :: l, k, S => by
    simp only [stepsR, stepR, stepOps]
    congr 1
    funext S'
    exact stepsR_none ops l (k + 1) S'

theorem stepsR_some (id : Nat) (ops : Array Oper) : ∀ (l : List Oper) (k : Nat) (S : SU), stepsR cx f call (some id) ops k l S = stepsD cx f call id ops k l S
  | [], k, S => rfl
  | o :: l, k, S => by
    simp only [stepsR, stepR, stepsD]
    congr 1
    funext S'
    exact stepsR_some id ops l (k + 1) S'

theorem stepsW_ok {dr : Option Nat} {ops : Array Oper} : ∀ {l : List Oper} {k : Nat} {A : StA} {kn : List Nat} {K : StA → List Nat → Prop}, stepsW cx f call dr ops k l A kn K → ∃ A' kn', stepsR cx f call dr ops k l (den A) = some (den A') ∧ K A' kn'
  | [], k, A, kn, K, h => ⟨A, kn, rfl, h⟩
  | o :: l, k, A, kn, K, h => by
    obtain ⟨A1, kn1, h1, h2⟩ := stepW_ok cx f call h
    rw [fK_eq] at h2
    obtain ⟨A2, kn2, h3, h4⟩ := stepsW_ok h2
    exact ⟨A2, kn2, by simp only [stepsR, h1, Option.bind_some, h3], h4⟩

def prepW : List Oper → StA → (StA → Prop) → Prop
  | [], A, K => K A
  | o :: os, A, K => match o.dst with
    | some d => if isPut o.op && isVar cx f d then killW (.sl d) [] A fun A => putW A d .undef fun A => prepW os A K else prepW os A K
    | none => prepW os A K

theorem prepW_eq : ∀ {l : List Oper} {A : StA} {K : StA → Prop}, prepW cx f l A K = K (prepA cx f A l)
  | [], A, K => rfl
  | o :: l, A, K => by
    simp only [prepW, prepA]
    cases o.dst with
    | none => exact prepW_eq
    | some d =>
      simp only
      split
      · rw [killW_eq, putW_eq]; exact prepW_eq
      · exact prepW_eq

def sem (c : Code) (A : StA) (K : Ex → StA → Prop) : Prop := ∃ lf ex A', execC cx f call lf c (den A) = some (ex, den A') ∧ K ex A'

def condW (kn : List Nat) (A : StA) (o : Operand) (p q : StA → List Nat → Prop) : Prop :=
  boolW kn A o fun b A kn => match b with
  | true => p A kn
  | false => q A kn

def seqK (vb : StA → List Nat → (Ex → StA → List Nat → Prop) → Prop) (K : Ex → StA → List Nat → Prop) (ex : Ex) (A : StA) (kn : List Nat) : Prop :=
  match ex with
  | .nrm => vb A kn K
  | .exit i => K (.exit i) A kn
  | .ret => K .ret A kn
def blkK (id : Nat) (K : Ex → StA → List Nat → Prop) (ex : Ex) (A : StA) (kn : List Nat) : Prop :=
  match ex with
  | .nrm => K .nrm A kn
  | .exit i => if i = id then K .nrm A kn else K (.exit i) A kn
  | .ret => K .ret A kn

def vc : Code → StA → List Nat → (Ex → StA → List Nat → Prop) → Prop
  | .skip, A, kn, K => K .nrm A kn
  | .region id ops draw, A, kn, K => prepW cx f ops.toList A fun A => (match draw with
    | true => stepsW cx f call (some id) (prmOps (cx.prm f id) ops) 0 (prmOps (cx.prm f id) ops).toList A kn (K .nrm)
    | false => stepsW cx f call none ops 0 ops.toList A kn (K .nrm))
  | .seq a b, A, kn, K => vc a A kn (seqK (vc b) K)
  | .cond c x y, A, kn, K => condW kn A c (fun A kn => vc x A kn K) (fun A kn => vc y A kn K)
  | .block id c, A, kn, K => vc c A kn (blkK id K)
  | .loop c, A, _, K => sem cx f call (.loop c) A fun ex A => K ex A []
  | .exit id, A, kn, K => K (.exit id) A kn
  | .ret, A, kn, K => K .ret A kn
  | _, _, _, _ => False

theorem exec_mono {lf lf' : Nat} {c : Code} {S : SU} {r : Ex × SU} (hl : lf ≤ lf') (h : execC cx f call lf c S = some r) : execC cx f call lf' c S = some r := by
  obtain ⟨q, q1, q2⟩ := execC_fin (cx := cx) (f := f) (call := call) (lf := lf) c S r h
  exact q2 call lf' hl q1

theorem vc_ok : ∀ {c : Code} {A : StA} {kn : List Nat} {K : Ex → StA → List Nat → Prop}, vc cx f call c A kn K → sem cx f call c A fun ex A => ∃ kn, K ex A kn := by
  intro c
  induction c with
  | skip => intro A kn K h; exact ⟨0, _, A, rfl, kn, h⟩
  | region id ops draw =>
    intro A kn K h
    simp only [vc, prepW_eq] at h
    cases draw with
    | true =>
      obtain ⟨A', kn', h1, h2⟩ := stepsW_ok cx f call h
      refine ⟨0, .nrm, A', ?_, kn', h2⟩
      rw [stepsR_some] at h1
      simp only [execC, if_true, den_prep, h1, Option.map_some]
    | false =>
      obtain ⟨A', kn', h1, h2⟩ := stepsW_ok cx f call h
      refine ⟨0, .nrm, A', ?_, kn', h2⟩
      rw [stepsR_none] at h1
      simp only [execC, Bool.false_eq_true, if_false, den_prep, h1, Option.map_some]
  | seq a b iha ihb =>
    intro A kn K h
    simp only [vc] at h
    obtain ⟨lf, ex, A1, h1, kn1, h2⟩ := iha h
    cases ex with
    | nrm =>
      obtain ⟨lf', ex', A2, h3, kn2, h4⟩ := ihb h2
      refine ⟨max lf lf', ex', A2, ?_, kn2, h4⟩
      simp only [execC, exec_mono cx f call (Nat.le_max_left lf lf') h1, exec_mono cx f call (Nat.le_max_right lf lf') h3]
    | exit i => exact ⟨lf, _, A1, by simp only [execC, h1], kn1, h2⟩
    | ret => exact ⟨lf, _, A1, by simp only [execC, h1], kn1, h2⟩
  | cond c x y ihx ihy =>
    intro A kn K h
    simp only [vc] at h
    unfold condW at h
    obtain ⟨b, A1, kn1, h1, hd, h2⟩ := boolW_ok cx f (t := 0) h
    cases b with
    | true =>
      obtain ⟨lf, ex, A1, h4, h5⟩ := ihx h2
      rw [hd] at h4
      exact ⟨lf, ex, A1, by simp only [execC, h1, h4], h5⟩
    | false =>
      obtain ⟨lf, ex, A1, h4, h5⟩ := ihy h2
      rw [hd] at h4
      exact ⟨lf, ex, A1, by simp only [execC, h1, h4], h5⟩
  | block id a iha =>
    intro A kn K h
    simp only [vc] at h
    obtain ⟨lf, ex, A1, h1, kn1, h2⟩ := iha h
    cases ex with
    | nrm => exact ⟨lf, _, A1, by simp only [execC, h1], kn1, h2⟩
    | exit i =>
      simp only [blkK] at h2
      split at h2
      · next hi => exact ⟨lf, _, A1, by simp only [execC, h1, if_pos hi], kn1, h2⟩
      · next hi => exact ⟨lf, _, A1, by simp only [execC, h1, if_neg hi], kn1, h2⟩
    | ret => exact ⟨lf, _, A1, by simp only [execC, h1], kn1, h2⟩
  | loop a iha =>
    intro A kn K h
    simp only [vc] at h
    obtain ⟨lf, ex, A1, h1, h2⟩ := h
    exact ⟨lf, ex, A1, h1, [], h2⟩
  | exit id => intro A kn K h; exact ⟨0, _, A, rfl, kn, h⟩
  | ret => intro A kn K h; exact ⟨0, _, A, rfl, kn, h⟩
  | _ => intro A kn K h; exact h.elim

def relE (jk : Nat → XU) (env : List (Nat × XU)) : List Nat → (List (Nat × XU) → Prop) → Prop
  | [], K => K []
  | d :: L, K => fX (lk jk env d) fun x => relE jk env L fun l => K ((d, x) :: l)

def relW (L : List Nat) (A : StA) (K : StA → Prop) : Prop := relE A.jk A.env L fun env => fEs A.e fun e => ∀ jk, K ⟨env, jk, e⟩

theorem relE_ok {jk : Nat → XU} {env : List (Nat × XU)} : ∀ {L : List Nat} {K : List (Nat × XU) → Prop}, relE jk env L K → ∃ l, (∀ i, lk (lk jk env) l i = lk jk env i) ∧ K l
  | [], K, h => ⟨[], fun i => rfl, h⟩
  | d :: L, K, h => by
    simp only [relE, fX_eq] at h
    obtain ⟨l, h1, h2⟩ := relE_ok h
    refine ⟨_, fun i => ?_, h2⟩
    simp only [lk]
    split
    · next hi => rw [hi]
    · exact h1 i

theorem relW_ok {L : List Nat} {A : StA} {K : StA → Prop} (h : relW L A K) : ∃ A', den A' = den A ∧ K A' := by
  obtain ⟨l, h1, h2⟩ := relE_ok h
  rw [fEs_eq] at h2
  exact ⟨⟨l, lk A.jk A.env, A.e⟩, by simp only [den]; congr 1; funext i; exact h1 i, h2 _⟩

theorem sem_den {c : Code} {A A' : StA} {K : Ex → StA → Prop} (h : den A' = den A) : sem cx f call c A' K → sem cx f call c A K := by
  rintro ⟨lf, ex, A1, h1, h2⟩
  exact ⟨lf, ex, A1, by rw [← h]; exact h1, h2⟩

theorem sem_loop {c : Code} {A : StA} {K : Ex → StA → Prop} (h : sem cx f call c A fun ex A => match ex with
    | .nrm => sem cx f call (.loop c) A K
    | .exit i => K (.exit i) A
    | .ret => K .ret A) : sem cx f call (.loop c) A K := by
  obtain ⟨lf, ex, A1, h1, h2⟩ := h
  cases ex with
  | nrm =>
    obtain ⟨lf', ex', A2, h3, h4⟩ := h2
    refine ⟨max lf lf' + 1, ex', A2, ?_, h4⟩
    simp only [execC] at h3 ⊢
    simp only [iter, exec_mono cx f call (show lf ≤ max lf lf' + 1 by omega) h1]
    obtain ⟨q, q1, q2⟩ := iter_fin (call := call) (lf := lf') (g := fun k l => execC cx f k l c) (fun S => execC_fin c S) h3
    exact q2 call (max lf lf' + 1) (max lf lf') (by omega) (by omega) q1
  | exit i => exact ⟨lf + 1, _, A1, by simp only [execC, iter, exec_mono cx f call (show lf ≤ lf + 1 by omega) h1], h2⟩
  | ret => exact ⟨lf + 1, _, A1, by simp only [execC, iter, exec_mono cx f call (show lf ≤ lf + 1 by omega) h1], h2⟩

theorem sem_in (L : List Nat) {c : Code} {A : StA} {K : Ex → StA → Prop} (h : relW L A fun A => sem cx f call c A K) : sem cx f call c A K := by
  obtain ⟨A2, h3, h4⟩ := relW_ok h
  exact sem_den cx f call h3 h4

def lpE (c : Code) (K : Ex → StA → Prop) (ex : Ex) (A : StA) : Prop :=
  match ex with
  | .nrm => sem cx f call (.loop c) A K
  | .exit i => K (.exit i) A
  | .ret => K .ret A
def lpK (L : List Nat) (c : Code) (K : Ex → StA → Prop) (ex : Ex) (A : StA) (_ : List Nat) : Prop := relW L A (lpE cx f call c K ex)

theorem loop_step (L : List Nat) {c : Code} {A : StA} {K : Ex → StA → Prop} (h : vc cx f call c A [] (lpK cx f call L c K)) : sem cx f call (.loop c) A K := by
  refine sem_loop cx f call ?_
  obtain ⟨lf, ex, A1, h1, kn, h2⟩ := vc_ok cx f call h
  obtain ⟨A2, h3, h4⟩ := relW_ok h2
  exact ⟨lf, ex, A2, by rw [h3]; exact h1, by cases ex <;> exact h4⟩

def finCW (c : CU) (A : StA) (K : CU → StA → Prop) : Prop :=
  match c with
  | .bor a (.sl d) p i off sz n => takeW A a (.sl d) p i off sz n fun t A => K (.t t) A
  | .lst a sz n cs => settlesW cs A fun ts A => K (.t (.sl a 0 sz n ts)) A
  | .ptr _ (.sl _) _ _ => K (.t (.dead ())) A
  | .fn g caps => if (rootsCs true caps).all isEx then K (.fn g caps) A else False
  | c => K c A

theorem finCW_ok {c : CU} {A : StA} {K : CU → StA → Prop} (h : finCW c A K) : ∃ d A', finC c (den A) = some (d, den A') ∧ K d A' := by
  cases c with
  | bor a r p i off sz n =>
    cases r with
    | sl d =>
      simp only [finCW] at h
      obtain ⟨t, A1, h1, h2⟩ := takeW_ok h
      exact ⟨_, A1, by simp only [finC, h1, Option.map_some], h2⟩
    | ex j => exact ⟨_, A, rfl, h⟩
  | lst a sz n cs =>
    obtain ⟨ts, A1, h1, h2⟩ := settlesW_ok cs h
    exact ⟨_, A1, by simp only [finC, settle, h1, Option.map_some], h2⟩
  | ptr a r p off => cases r <;> exact ⟨_, A, rfl, h⟩
  | fn g caps =>
    simp only [finCW] at h
    split at h
    · next hc => exact ⟨_, A, by simp only [finC, if_pos hc], h⟩
    · exact h.elim
  | _ => exact ⟨_, A, rfl, h⟩

def finCsW : List CU → StA → (List CU → StA → Prop) → Prop
  | [], A, K => K [] A
  | c :: cs, A, K => finCW c A fun c A => finCsW cs A fun cs A => K (c :: cs) A

theorem finCsW_ok : ∀ {cs : List CU} {A : StA} {K : List CU → StA → Prop}, finCsW cs A K → ∃ ds A', finCs cs (den A) = some (ds, den A') ∧ K ds A'
  | [], A, K, h => ⟨[], A, rfl, h⟩
  | c :: cs, A, K, h => by
    obtain ⟨d, A1, h1, h2⟩ := finCW_ok h
    obtain ⟨ds, A2, h3, h4⟩ := finCsW_ok h2
    exact ⟨_, A2, by simp only [finCs, h1, Option.bind_some, h3, Option.map_some], h4⟩

def finXW (x : XU) (A : StA) (K : XU → StA → Prop) : Prop :=
  match x with
  | .c (.ptr a (.sl d) [] 0) => killW (.sl d) [] A fun A => (match lk A.jk A.env d with
    | .box a cs => putW A d .undef fun A => finCsW cs A fun cs A => K (.box a cs) A
    | _ => False)
  | .c x => finCW x A fun c A => K (.c c) A
  | .agg cs => finCsW cs A fun cs A => K (.agg cs) A
  | .box a cs => finCsW cs A fun cs A => K (.box a cs) A
  | _ => False

theorem finXW_ok {x : XU} {A : StA} {K : XU → StA → Prop} (h : finXW x A K) : ∃ y A', finX x (den A) = some (y, den A') ∧ K y A' := by
  unfold finXW at h
  split at h
  · next a d =>
    rw [killW_eq] at h
    split at h
    · next b cs hb =>
      rw [putW_eq] at h
      obtain ⟨ds, A2, h3, h4⟩ := finCsW_ok h
      refine ⟨_, A2, ?_, h4⟩
      have e : (den (killA (.sl d) [] A)).s d = .box b cs := hb
      simp only [finX]
      rw [den_kill, e]
      simp only [den_put, h3, Option.map_some]
    · exact h.elim
  · next c hne =>
    obtain ⟨d, A1, h1, h2⟩ := finCW_ok h
    refine ⟨_, A1, ?_, h2⟩
    unfold finX
    split
    · next hx => exact absurd hx (by intro hh; cases hh; exact hne _ _ rfl)
    · next hx => cases hx; simp only [h1, Option.map_some]
    · next hx => cases hx
    · next hx => cases hx
    · next k1 k2 k3 k4 => exact absurd rfl (k2 _)
  · obtain ⟨ds, A2, h3, h4⟩ := finCsW_ok h
    exact ⟨_, A2, by simp only [finX, h3, Option.map_some], h4⟩
  · obtain ⟨ds, A2, h3, h4⟩ := finCsW_ok h
    exact ⟨_, A2, by simp only [finX, h3, Option.map_some], h4⟩
  · exact h.elim

def resW (A : StA) (r : ResultVar) (K : XU → StA → Prop) : Prop :=
  match r with
  | .tmp t => opW cx f A 0 (.tmp t) fun x => clrW cx f A (.tmp t) fun A => finXW x A K
  | .cell a t => opW cx f A 0 (.tmp a) fun x => (match x with
    | .c (.ptr b r p off) => loadW cx A t (.c (.ptr b r p off)) fun y => finXW y A K
    | _ => False)

theorem resW_ok {A : StA} {r : ResultVar} {K : XU → StA → Prop} (h : resW cx f A r K) : ∃ y A', ((resV cx f (den A) r).bind fun x => finX x.1 x.2) = some (y, den A') ∧ K y A' := by
  cases r with
  | tmp t =>
    obtain ⟨x, h1, h2⟩ := opW_ok h
    rw [clrW_eq] at h2
    obtain ⟨y, A1, h3, h4⟩ := finXW_ok h2
    exact ⟨y, A1, by simp only [resV, h1, Option.map_some, Option.bind_some, den_clr, h3], h4⟩
  | cell a t =>
    obtain ⟨x, h1, h2⟩ := opW_ok h
    split at h2
    · next b r p off =>
      obtain ⟨y, h3, h4⟩ := loadW_ok cx h2
      obtain ⟨z, A1, h5, h6⟩ := finXW_ok h4
      refine ⟨z, A1, ?_, h6⟩
      simp only [loadV] at h3
      split at h3
      · next hok =>
        simp only [resV, h1, if_pos hok]
        cases hl : loadN (den A) r p off (cx.ty t).sz with
        | none => simp [hl] at h3
        | some cs => simp only [hl, Option.bind_some] at h3 ⊢; simp only [h3, Option.map_some, Option.bind_some, h5]
      · cases h3
    · exact h2.elim

def resVsW : List ResultVar → StA → (List XU → StA → Prop) → Prop
  | [], A, K => K [] A
  | r :: rs, A, K => resW cx f A r fun x A => resVsW rs A fun xs A => K (x :: xs) A

theorem resVsW_ok : ∀ {rs : List ResultVar} {A : StA} {K : List XU → StA → Prop}, resVsW cx f rs A K → ∃ xs A', resVs cx f (den A) rs = some (xs, den A') ∧ K xs A'
  | [], A, K, h => ⟨[], A, rfl, h⟩
  | r :: rs, A, K, h => by
    obtain ⟨y, A1, h1, h2⟩ := resW_ok cx f h
    obtain ⟨xs, A2, h3, h4⟩ := resVsW_ok h2
    refine ⟨_, A2, ?_, h4⟩
    cases hx : resV cx f (den A) r with
    | none => simp [hx] at h1
    | some x =>
      simp only [hx, Option.bind_some] at h1
      simp only [resVs, hx, Option.bind_some, h1, h3, Option.map_some]

def endW (fn : Func) (K : XU → List (List CU) → Prop) (A : StA) : Prop :=
  resVsW cx f fn.results.toList A fun xs A => if xs.all (aliveX (den A)) && A.e.all (fun cs => (rootsCs true cs).all isEx) then K (packX xs) A.e else False

def fnK (fn : Func) (K : XU → List (List CU) → Prop) (ex : Ex) (A : StA) (_ : List Nat) : Prop :=
  match ex with
  | .exit _ => False
  | .nrm => endW cx f fn K A
  | .ret => endW cx f fn K A

def fnW (fn : Func) (args : List XU) (ext : List (List CU)) (K : XU → List (List CU) → Prop) : Prop :=
  if args.length ≤ fn.ntmps then vc cx f call (fn.body.getD .skip) ⟨envOf 0 args, fun _ => .undef, ext⟩ [] (fnK cx f fn K) else False

theorem fnW_ok {fn : Func} {args : List XU} {ext : List (List CU)} {K : XU → List (List CU) → Prop} (h : fnW cx f call fn args ext K) : ∃ lf x e, runBody cx f call lf fn (fn.body.getD .skip) args ext = some (x, e) ∧ K x e := by
  unfold fnW at h
  split at h
  · next hl =>
    obtain ⟨lf, ex, A, h1, kn, h2⟩ := vc_ok cx f call h
    have e : (⟨slots0 args, ext⟩ : SU) = den ⟨envOf 0 args, fun _ => .undef, ext⟩ := by
      simp only [den]
      congr 1
      funext i
      rw [lk_envOf]; simp [slots0]
    have fin : ∀ A, endW cx f fn K A → ∃ x e, ((resVs cx f (den A) fn.results.toList).bind fun r => if r.1.all (aliveX r.2) && r.2.e.all (fun cs => (rootsCs true cs).all isEx) then some (packX r.1, r.2.e) else none) = some (x, e) ∧ K x e := by
      intro A h
      obtain ⟨xs, A1, h3, h4⟩ := resVsW_ok cx f h
      split at h4
      · next hc =>
        refine ⟨_, _, ?_, h4⟩
        simp only [h3, Option.bind_some]
        have : (den A1).e = A1.e := rfl
        rw [this, if_pos hc]
      · exact h4.elim
    cases ex with
    | nrm =>
      obtain ⟨x, e', h3, h4⟩ := fin A h2
      exact ⟨lf, x, e', by simp only [runBody, if_pos hl, e, h1]; exact h3, h4⟩
    | exit i => exact h2.elim
    | ret =>
      obtain ⟨x, e', h3, h4⟩ := fin A h2
      exact ⟨lf, x, e', by simp only [runBody, if_pos hl, e, h1]; exact h3, h4⟩
  · exact h.elim
end

theorem fn_ok {Pr : Program} {cx : Ctx} {g : Nat} {fn : Func} {a : List XU} {e : List (List CU)} {K : XU → List (List CU) → Prop} (ho : cx.orc g = none) (hf : Pr.funcs[g]? = some fn) (hb : fn.body = some (fn.body.getD .skip)) (hg : cx.good g = true)
    (h : fnW cx g (RR Pr cx) fn a e K) : ∃ x e', RR Pr cx g a e = some (x, e') ∧ K x e' := by
  obtain ⟨lf, x, e', h1, h2⟩ := fnW_ok cx g (RR Pr cx) h
  exact ⟨x, e', RR_body Pr cx lf ho hf hb hg h1, h2⟩

end Go.Proofs.YtlkjnlfddadlmaaDoor.V

namespace Go.Proofs.YtlkjnlfddadlmaaDoor.V
open Go.RowKit

section
variable {w w' : World} {E : Nat → Prop} {P : Nat → Nat → Prop} {R : Nat → Prop} {ea : List EA} {argsG : List XV}

theorem out_data (hin : In w E P R ea argsG []) (hg : Grow w w') {y : TV} (hok : okT w' P R y) (hb : blkT y = []) : Out w E P R ea w' (.c (.t y)) [] := by
  have hb0 : ∀ r : Root, blkR (⟨upd (fun _ => .undef) 0 (.c (.t y)), []⟩ : SV) ea r = blkR (⟨slots0 argsG, []⟩ : SV) ea r ∨ blkR (⟨upd (fun _ => .undef) 0 (.c (.t y)), []⟩ : SV) ea r = [] := by
    intro r
    cases r with
    | sl d =>
      right
      by_cases e : d = 0
      · subst e; simp [blkR, upd, blkX, blkC, hb]
      · simp [blkR, upd, e, blkX]
    | ex j => exact .inl rfl
  have hmem : ∀ r b, b ∈ blkR (⟨upd (fun _ => .undef) 0 (.c (.t y)), []⟩ : SV) ea r → b ∈ blkR (⟨slots0 argsG, []⟩ : SV) ea r := by
    intro r b hb'
    rcases hb0 r with e | e
    · rwa [e] at hb'
    · rw [e] at hb'; simp at hb'
  constructor
  case val =>
    intro d hd
    have : d = 0 := by simpa using hd
    subst this
    right; simp [upd]
  case hi =>
    intro d hd
    have : d ≠ 0 := by simp at hd; omega
    simp [upd, this]
  case okS =>
    intro d
    by_cases e : d = 0
    · subst e; simp only [upd, if_true, okX, okC]; exact hok
    · simp [upd, e, okX]
  case okE => intro j cs hj; simp at hj
  case eaL => exact hin.eaL
  case row => intro j vs cs _ hj; simp at hj
  case refS =>
    intro d d' hd
    by_cases e : d = 0
    · subst e; simp [upd, refsX, refsC] at hd
    · simp [upd, e, refsX] at hd
  case refE => intro j cs d' hj; simp at hj
  case dis => exact fun r r' b h1 h2 => hin.dis r r' b (hmem r b h1) (hmem r' b h2)
  case nd =>
    intro r
    rcases hb0 r with e | e
    · rw [e]; exact hin.nd r
    · rw [e]; exact List.nodup_nil
  case lt => exact fun r b h => Nat.lt_of_lt_of_le (hin.lt r b (hmem r b h)) hg.size
  case own => exact fun r b h => hin.own r b (hmem r b h)
  case notR => exact fun r b h => hin.notR r b (hmem r b h)
  case PR => exact hin.PR
  case ltR => exact fun b h => Nat.lt_of_lt_of_le (hin.ltR b h) hg.size
  case frm => exact hg.frm (Frm.refl E w)

theorem er_strX {x : XV} {s : List UInt8} (h : erX x = .c (.t (.str s))) : x = .c (.t (.str s)) := by
  obtain ⟨c, rfl, hc⟩ := er_c h
  obtain ⟨t, rfl, ht⟩ := er_t hc
  rw [er_str ht]
theorem er_intX {x : XV} {k : IntKind} {n : Int} (h : erX x = .c (.t (.int k n))) : x = .c (.t (.int k n)) := by
  obtain ⟨c, rfl, hc⟩ := er_c h
  obtain ⟨t, rfl, ht⟩ := er_t hc
  rw [er_int ht]
end

def OrcOk (Pr : Program) (T : World → Prop) (g : Nat) (h : List XU → Option XU) : Prop := ∀ args x, h args = some x → Enters Pr g ∧
    ∀ (w : World) (E : Nat → Prop) (P : Nat → Nat → Prop) (R : Nat → Prop) (ea : List EA) (argsG : List XV), TabOk T w E → argsG.map erX = args → In w E P R ea argsG [] →
      Calls Pr g (argsG.map valX).toArray w (fun
        | .returned v, w' => ∃ resG, erX resG = x ∧ v = valX resG ∧ Out w E P R ea w' resG []
        | _, _ => False)

def orcIS (D : Int → Prop) [DecidablePred D] (F : Int → List UInt8) : List XU → Option XU
  | [.c (.t (.int .i64 n))] => if D n then some (.c (.t (.str (F n)))) else none
  | _ => none

theorem RR_orc {Pr : Program} {cx : Ctx} {g : Nat} {h : List XU → Option XU} {args : List XU} {x : XU} (ho : cx.orc g = some h) (hx : h args = some x) : RR Pr cx g args [] = some (x, []) := by
  refine (RR_iff Pr cx).2 ⟨1, ?_⟩
  simp only [run, ho, hx, Option.map_some]

theorem orc_is {Pr : Program} {T : World → Prop} {g : Nat} {F : Int → List UInt8} {D : Int → Prop} [DecidablePred D] (he : Enters Pr g) (hC : ∀ (n : Int) (w : World), T w → D n → Calls Pr g #[.int .i64 n] w fun e w' => e = .returned (.string ⟨(F n).toArray⟩) ∧ Grow w w') :
    OrcOk Pr T g (orcIS D F) := by
  intro args x hx
  refine ⟨he, fun w E P R ea argsG hT ha hin => ?_⟩
  unfold orcIS at hx
  split at hx
  · next n =>
    split at hx
    · next hd =>
      simp only [Option.some.injEq] at hx
      subst hx
      rcases argsG with _ | ⟨a, _ | ⟨b, l⟩⟩
      · simp at ha
      · simp only [List.map_cons, List.map_nil, List.cons.injEq, and_true] at ha
        have e1 := er_intX ha
        subst e1
        refine (hC n w (hT w (Frm.refl _ w)) hd).mono fun e w' ⟨h3, h4⟩ => ?_
        subst h3
        exact ⟨.c (.t (.str (F n))), rfl, by simp [valX, valC, valT], out_data hin h4 (by simp [okT]) (by simp [blkT])⟩
      · simp at ha
    · cases hx
  · cases hx

theorem enters_prog {Pr : Program} {g : Nat} {fn : Func} (hf : Pr.funcs[g]? = some fn) (hb : fn.body.isSome = true) (hn : (fn.name == "runtime.NumGoroutine") = false) : Enters Pr g := by
  obtain ⟨c, hc⟩ := Option.isSome_iff_exists.1 hb
  exact enters_of hf hc hn
end Go.Proofs.YtlkjnlfddadlmaaDoor.V

namespace Go.Proofs.YtlkjnlfddadlmaaDoor.V

inductive Co where
  | mk (op n : Int) (s t : List UInt8) (ks : List Co)

abbrev ii (n : Int) : TU := .int .i64 n
abbrev xi (n : Int) : XU := .c (.t (ii n))
abbrev xb (b : Bool) : XU := .c (.t (.bool b))
abbrev xs (s : List UInt8) : XU := .c (.t (.str s))
abbrev xc (us : List TU) : XU := .agg (us.map .t)
abbrev core (op n : Int) (s t : List UInt8) (g k : Nat) (cs : List TU) : List TU := [.int .i64 op, .int .i64 n, .str s, .str t, .sl () g 5 k cs]
abbrev xl (g sz k : Nat) (cs : List TU) : XU := .c (.t (.sl () g sz k cs))

mutual
def Rd : Co → List TU → Prop
  | .mk op n s t ks, us => ∃ g cs, us = core op n s t (g + 1) ks.length cs ∧ Rds ks cs
def Rds : List Co → List TU → Prop
  | [], cs => cs = []
  | c :: l, cs => ∃ us vs, cs = us ++ vs ∧ Rd c us ∧ Rds l vs
end

mutual
def enc : Co → List TU
  | .mk op n s t ks => core op n s t 0 ks.length (encs ks)
def encs : List Co → List TU
  | [] => []
  | c :: l => enc c ++ encs l
end

mutual
def szC : Co → Nat
  | .mk _ _ s t ks => s.length + t.length + szCs ks
def szCs : List Co → Nat
  | [] => 0
  | c :: l => 1 + szC c + szCs l
end

mutual
def Wf : Co → Prop
  | .mk op n s t ks => (-9223372036854775808 ≤ op ∧ op < 9223372036854775808) ∧ (-9223372036854775808 ≤ n ∧ n < 9223372036854775808) ∧ s.length ≤ maxLen ∧ t.length ≤ maxLen ∧ ks.length ≤ maxLen ∧ Wfs ks
def Wfs : List Co → Prop
  | [] => True
  | c :: l => Wf c ∧ Wfs l
end

theorem Wfs_iff : ∀ {l : List Co}, Wfs l ↔ ∀ c ∈ l, Wf c
  | [] => by simp [Wfs]
  | c :: l => by simp [Wfs, Wfs_iff (l := l)]

theorem Co.ind {P : Co → Prop} (h : ∀ op n s t ks, (∀ c ∈ ks, P c) → P (.mk op n s t ks)) (c : Co) : P c :=
  Co.rec (motive_1 := P) (motive_2 := fun l => ∀ c ∈ l, P c) (fun op n s t ks ih => h op n s t ks ih) (by simp) (fun c l h1 h2 x hx => by
    rcases List.mem_cons.1 hx with rfl | hx
    · exact h1
    · exact h2 x hx) c

theorem retags_append : ∀ (a b : List TU), retags (a ++ b) = retags a ++ retags b
  | [], b => rfl
  | x :: a, b => by simp only [List.cons_append, retags, retags_append a b]

mutual
theorem Rd.retag : ∀ {c : Co} {us : List TU}, Rd c us → Rd c (retags us)
  | .mk op n s t ks, us, h => by
    simp only [Rd] at h ⊢
    obtain ⟨g, cs, rfl, h⟩ := h
    exact ⟨g + 1, retags cs, rfl, Rds.retag h⟩
theorem Rds.retag : ∀ {l : List Co} {cs : List TU}, Rds l cs → Rds l (retags cs)
  | [], cs, h => by simp only [Rds] at h ⊢; subst h; rfl
  | c :: l, cs, h => by
    simp only [Rds] at h ⊢
    obtain ⟨us, vs, rfl, h1, h2⟩ := h
    exact ⟨_, _, retags_append us vs, Rd.retag h1, Rds.retag h2⟩
end

mutual
theorem enc_retag : ∀ (c : Co), Rd c (retags (enc c))
  | .mk op n s t ks => by
    simp only [Rd, enc]
    exact ⟨0, retags (encs ks), rfl, encs_retag ks⟩
theorem encs_retag : ∀ (l : List Co), Rds l (retags (encs l))
  | [] => by simp only [Rds, encs, retags]
  | c :: l => by
    simp only [Rds, encs]
    exact ⟨_, _, retags_append _ _, enc_retag c, encs_retag l⟩
end

mutual
theorem enc_down : ∀ (c : Co), downs (enc c) = some (enc c)
  | .mk op n s t ks => by simp only [enc, downs, down, encs_down ks, Option.bind_some, Option.map_some]; rfl
theorem encs_down : ∀ (l : List Co), downs (encs l) = some (encs l)
  | [] => by simp only [encs, downs]
  | c :: l => by
    have : ∀ (a b a' b' : List TU), downs a = some a' → downs b = some b' → downs (a ++ b) = some (a' ++ b') := by
      intro a
      induction a with
      | nil => intro b a' b' h1 h2; simp only [downs, Option.some.injEq] at h1; subst h1; exact h2
      | cons x a ih =>
        intro b a' b' h1 h2
        simp only [downs] at h1
        cases hx : down x with
        | none => simp [hx] at h1
        | some y =>
          simp only [hx, Option.bind_some] at h1
          cases ha : downs a with
          | none => simp [ha] at h1
          | some a1 =>
            simp only [ha, Option.map_some, Option.some.injEq] at h1
            subst h1
            simp only [List.cons_append, downs, hx, Option.bind_some, ih b a1 b' ha h2, Option.map_some]
    exact this _ _ _ _ (enc_down c) (encs_down l)
end

theorem Rd_len {c : Co} {us : List TU} (h : Rd c us) : us.length = 5 := by
  cases c
  simp only [Rd] at h
  obtain ⟨g, cs, rfl, _⟩ := h
  rfl

theorem enc_len (c : Co) : (enc c).length = 5 := by cases c; simp only [enc, core]; rfl

theorem encs_len : ∀ (l : List Co), (encs l).length = l.length * 5
  | [] => rfl
  | c :: l => by simp only [encs, List.length_append, enc_len, encs_len l, List.length_cons]; omega

theorem encs_whole (l : List Co) : ((encs l).drop 0).take (l.length * 5) = encs l := by rw [List.drop_zero, ← encs_len, List.take_length]

theorem encs_append : ∀ (l m : List Co), encs (l ++ m) = encs l ++ encs m
  | [], m => rfl
  | c :: l, m => by simp only [List.cons_append, encs, encs_append l m, List.append_assoc]

theorem Rds_at : ∀ {l : List Co} {cs : List TU} {i : Nat} {c : Co}, Rds l cs → l[i]? = some c → Rd c ((cs.drop (i * 5)).take 5)
  | [], cs, i, c, h, hi => by simp at hi
  | x :: l, cs, 0, c, h, hi => by
    simp only [Rds] at h
    obtain ⟨us, vs, rfl, h1, h2⟩ := h
    simp only [List.getElem?_cons_zero, Option.some.injEq] at hi
    subst hi
    have := Rd_len h1
    simpa [← this] using h1
  | x :: l, cs, i + 1, c, h, hi => by
    simp only [Rds] at h
    obtain ⟨us, vs, rfl, h1, h2⟩ := h
    simp only [List.getElem?_cons_succ] at hi
    have e : (i + 1) * 5 = us.length + i * 5 := by rw [Rd_len h1]; omega
    rw [e, List.drop_length_add_append]
    exact Rds_at h2 hi

theorem Rds_get {l : List Co} {cs : List TU} {i : Nat} {op n : Int} {s t : List UInt8} {ks : List Co} (h : Rds l cs) (hi : l[i]? = some (.mk op n s t ks)) :
    ∃ g cs', (cs.drop (i * 5)).take 5 = core op n s t (g + 1) ks.length cs' ∧ Rds ks cs' := by
  have := Rds_at h hi
  simp only [Rd] at this
  exact this

theorem wrap64 {n : Int} (h1 : -9223372036854775808 ≤ n) (h2 : n < 9223372036854775808) : IntKind.wrap .i64 n = n := Go.IntWalk.i64_in n ⟨h1, by omega⟩

theorem wrapS {i n : Nat} (h : i < n) (hn : n ≤ maxLen) : IntKind.wrap .i64 ((i : Int) + 1) = ((i + 1 : Nat) : Int) := by
  rw [wrap64 (by omega) (by simp only [maxLen] at hn; omega)]; omega

theorem drop_ind {α : Type} {ks : List α} {P : Nat → List α → Prop} (h0 : P ks.length []) (h1 : ∀ i c l, ks[i]? = some c → i < ks.length → P (i + 1) l → P i (c :: l)) : ∀ (l : List α) (i : Nat), ks.drop i = l → i ≤ ks.length → P i l
  | [], i, h, hi => by
    have : i = ks.length := by have := congrArg List.length h; simp only [List.length_drop, List.length_nil] at this; omega
    subst this; exact h0
  | c :: l, i, h, hi => by
    have h2 : ks[i]? = some c := by have := congrArg (·[0]?) h; simpa using this
    have h3 : i < ks.length := (List.getElem?_eq_some_iff.1 h2).1
    exact h1 i c l h2 h3 (drop_ind h0 h1 l (i + 1) (by rw [← List.drop_drop, h]; rfl) h3)

def loops : Code → List Code
  | .seq a b => loops a ++ loops b
  | .cond _ a b => loops a ++ loops b
  | .block _ a => loops a
  | .loop a => a :: loops a
  | _ => []

def lp (fn : Func) (n : Nat) : Code := (loops (fn.body.getD .skip)).getD n .skip

theorem lt_no {a b : Int} (h : decide (a < b) = true) (h2 : b ≤ a) : False := by simp at h; omega
theorem lt_yes {a b : Int} (h : decide (a < b) = false) (h2 : a < b) : False := by simp at h; omega

end Go.Proofs.YtlkjnlfddadlmaaDoor.V
