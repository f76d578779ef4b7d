/-
  What a slot holds that nobody speaks of makes no difference to a call that is handed places. No conditions.
-/
import Derived.Test.YtlkjnlfddadlmaaGreatDoorM3
import Derived.Deep.AppendSrc
import Derived.Laws.AppendOwn
import Derived.Deep.Upon
set_option linter.unusedVariables false
set_option linter.unusedSimpArgs false
namespace Go.Proofs.YtlkjnlfddadlmaaGreatDoor.V
mutual
def rfX : XU → List Root
 | .c x => yB true x
 | .agg cs => zN true cs
 | .box _ cs => zN true cs
 | .tup xs => uW xs
 | .undef => []
def uW : List XU → List Root
 | [] => []
 | x :: xs => rfX x ++ uW xs
end
theorem zXh {x : XU} (h : ∀ ys, x ≠ .tup ys) : rfX x = xX x := by
 cases x <;> first | rfl | exact absurd rfl (h _)
structure Off (d : Nat) (S : SU) : Prop where
 un : S.s d = .undef
 rf : ∀ t, Root.sl d ∉ rfX (S.s t)
 re : ∀ cs ∈ S.e, Root.sl d ∉ zN true cs
def xT (d : Nat) (x : XU) (S : SU) : SU := { S with s := upd S.s d x }
theorem uV {d t : Nat} {x : XU} {S : SU} (h : t ≠ d) : (xT d x S).s t = S.s t := by simp [xT, upd, h]
theorem zN4 {d : Nat} {x : XU} {S : SU} : (xT d x S).s d = x := by simp [xT, upd]
theorem nN {b : Bool} : ∀ {xs ys : List CU}, zN b (xs ++ ys) = zN b xs ++ zN b ys
 | [], ys => rfl
 | x :: xs, ys => by simp only [List.cons_append, zN, nN (xs := xs), List.append_assoc]
theorem qM {b : Bool} {r : Root} : ∀ {cs : List CU}, r ∈ zN b cs ↔ ∃ c ∈ cs, r ∈ yB b c
 | [] => by simp [zN]
 | c :: cs => by simp only [zN, List.mem_append, qM (cs := cs), List.mem_cons, exists_eq_or_imp]
theorem zIa {r : Root} : ∀ {xs : List XU}, r ∈ uW xs ↔ ∃ x ∈ xs, r ∈ rfX x
 | [] => by simp [uW]
 | x :: xs => by simp only [uW, List.mem_append, zIa (xs := xs), List.mem_cons, exists_eq_or_imp]
mutual
theorem zPt {r : Root} : ∀ {c : CU}, r ∈ yB false c → r ∈ yB true c
 | .t _, h => by simp [yB] at h
 | .ptr _ _ _ _, h => by simpa [yB] using h
 | .bor _ _ _ _ _ _ _, h => by simp [yB] at h
 | .rptr _ _, h => by simp [yB] at h
 | .nilp, h => by simp [yB] at h
 | .nilf, h => by simp [yB] at h
 | .fn _ caps, h => by simp only [yB] at h ⊢; exact gL h
 | .lst _ _ _ cs, h => by simp only [yB] at h ⊢; exact gL h
theorem gL {r : Root} : ∀ {cs : List CU}, r ∈ zN false cs → r ∈ zN true cs
 | [], h => by simp [zN] at h
 | c :: cs, h => by
  simp only [zN, List.mem_append] at h ⊢
  exact h.imp zPt gL
end
theorem kE {r : Root} : ∀ {xs : List XU}, r ∈ zN true (zT xs) → r ∈ uW xs
 | [], h => by simp [zT, zN] at h
 | .c x :: xs, h => by
  simp only [zT, zN, List.mem_append, uW, rfX] at h ⊢
  exact h.imp id kE
 | .agg cs :: xs, h => by
  simp only [zT, nN, List.mem_append, uW, rfX] at h ⊢
  exact h.imp id kE
 | .box _ _ :: xs, h => by
  simp only [zT, uW, List.mem_append] at h ⊢
  exact .inr (kE h)
 | .tup _ :: xs, h => by
  simp only [zT, uW, List.mem_append] at h ⊢
  exact .inr (kE h)
 | .undef :: xs, h => by
  simp only [zT, uW, List.mem_append] at h ⊢
  exact .inr (kE h)
mutual
theorem tE {r k : Root} {q : List Nat} : ∀ {c : CU}, k ∈ yB true (zS r q c) → k ∈ yB true c
 | .ptr _ _ _ _, h => by
  simp only [zS] at h
  split at h
  ·simp [yB] at h
  ·exact h
 | .bor _ _ _ _ _ _ _, h => by
  simp only [zS] at h
  split at h
  ·simp [yB] at h
  ·exact h
 | .fn _ caps, h => by simp only [zS, yB] at h ⊢; exact j2 h
 | .t _, h => h
 | .rptr _ _, h => h
 | .nilp, h => h
 | .nilf, h => h
 | .lst _ _ _ cs, h => by simp only [zS, yB] at h ⊢; exact j2 h
theorem j2 {r k : Root} {q : List Nat} : ∀ {cs : List CU}, k ∈ zN true (yT r q cs) → k ∈ zN true cs
 | [], h => h
 | c :: cs, h => by
  simp only [yT, zN, List.mem_append] at h ⊢
  exact h.imp tE j2
end
mutual
theorem zDy {r k : Root} {q : List Nat} : ∀ {x : XU}, k ∈ rfX (z6 r q x) → k ∈ rfX x
 | .c x, h => by simp only [z6, rfX] at h ⊢; exact tE h
 | .agg cs, h => by simp only [z6, rfX] at h ⊢; exact j2 h
 | .box _ cs, h => by simp only [z6, rfX] at h ⊢; exact j2 h
 | .tup xs, h => by simp only [z6, rfX] at h ⊢; exact zA9 h
 | .undef, h => h
theorem zA9 {r k : Root} {q : List Nat} : ∀ {xs : List XU}, k ∈ uW (xC r q xs) → k ∈ uW xs
 | [], h => h
 | x :: xs, h => by
  simp only [xC, uW, List.mem_append] at h ⊢
  exact h.imp zDy zA9
end
section
variable {cx : Ctx} {f : Nat} {call : zX} {d : Nat} {x : XU} {S : SU}
theorem Off.kill (h : Off d S) (r : Root) (q : List Nat) : Off d (V.kill r q S) := by
 refine ⟨by simp only [V.kill, h.un, z6], fun t hm => h.rf t (zDy hm), fun cs hc hm => ?_⟩
 simp only [V.kill, List.mem_map] at hc
 obtain ⟨ds, hd, rfl⟩ := hc
 exact h.re ds hd (j2 hm)
theorem zD1 {r : Root} {q : List Nat} (hx : z6 r q x = x) : V.kill r q (xT d x S) = xT d x (V.kill r q S) := by
 simp only [V.kill, xT]
 congr 1
 funext t
 by_cases h : t = d
 ·simp [upd, h, hx]
 ·simp [upd, h]
theorem nE {t : Nat} {o : Operand} (ho : o ≠ .tmp d) : opv cx f (xT d x S) t o = opv cx f S t o := by
 cases o with
 | tmp e => simp only [opv, uV (show e ≠ d from fun h => ho (by rw [h]))]
 | _ => rfl
theorem zO5 {t : Nat} {v : Value} {y : XU} (h : rJ cx t v = some y) : rfX y = [] := by
 rw [zXh (fun ys e => ?_)]
 ·exact oK h
 ·subst e
  unfold rJ at h
  split at h <;> try (cases h)
  all_goals (split at h <;> cases h)
theorem tL (h : Off d S) {t : Nat} {o : Operand} (ho : o ≠ .tmp d) {y : XU} (hy : opv cx f S t o = some y) : Root.sl d ∉ rfX y := by
 cases o with
 | tmp e =>
  have hne : e ≠ d := fun h => ho (by rw [h])
  simp only [opv] at hy
  have hs := h.rf e
  revert hs hy
  generalize S.s e = z
  intro hy hs hm
  unfold rdS at hy
  split at hy
  ·cases hy
  ·split at hy <;> simp only [Option.some.injEq] at hy <;> subst hy
   ·simp only [rfX, yB, List.mem_singleton, Root.sl.injEq] at hm; exact hne hm.symm
   ·exact hs hm
  ·split at hy <;> simp only [Option.some.injEq] at hy <;> subst hy
   ·simp only [rfX] at hm hs
    rcases sB _ _ _ _ _ hm with e1 | e1
    ·simp only [Root.sl.injEq] at e1; exact hne e1.symm
    ·exact hs e1
   ·exact hs hm
  ·split at hy <;> simp only [Option.some.injEq] at hy <;> subst hy
   ·simp only [rfX] at hm hs
    rcases mC _ _ _ _ hm with e1 | e1
    ·simp only [Root.sl.injEq] at e1; exact hne e1.symm
    ·exact hs e1
   ·exact hs hm
  ·split at hy
   ·cases hy
   ·simp only [Option.some.injEq] at hy; subst hy; exact hs hm
 | const v =>
  simp only [opv] at hy
  rw [zO5 hy]; simp
 | func g => simp only [opv, Option.some.injEq] at hy; subst hy; simp [rfX, yB, zN]
 | global g => cases hy
theorem vR {r : Root} (hr : r ≠ .sl d) : zA (xT d x S) r = zA S r := by
 cases r with
 | sl e => simp only [zA, uV (show e ≠ d from fun h => hr (by rw [h]))]
 | ex j => rfl
theorem pY (h : Off d S) {r : Root} {cs : List CU} (hc : zA S r = some cs) : Root.sl d ∉ zN true cs := by
 cases r with
 | sl e =>
  have hs := h.rf e
  simp only [zA] at hc
  revert hs hc
  generalize S.s e = z
  intro hc hs hm
  cases z with
  | c y => simp only [Option.some.injEq] at hc; subst hc; simp only [zN, List.append_nil] at hm; exact hs hm
  | agg ys => simp only [Option.some.injEq] at hc; subst hc; exact hs hm
  | box a ys => simp only [Option.some.injEq] at hc; subst hc; exact hs hm
  | tup ys => simp only [Option.some.injEq] at hc; subst hc; exact hs (kE hm)
  | undef => cases hc
 | ex j => exact h.re cs (List.mem_of_getElem? hc)
theorem iV {r : Root} (hr : r ≠ .sl d) {p : List Nat} {i : Nat} : at_ (xT d x S) r p i = at_ S r p i := by simp only [at_, vR hr]
theorem zH4 {r : Root} (hr : r ≠ .sl d) {p : List Nat} {i off m : Nat} : x6 (xT d x S) r p i off m = x6 S r p i off m := by simp only [x6, iV hr]
theorem l8 {r : Root} (hr : r ≠ .sl d) {p : List Nat} {off : Nat} {c : CU} : z7 (xT d x S) r p off c = (z7 S r p off c).map (xT d x) := by
 simp only [z7, vR hr]
 cases zA S r with
 | none => rfl
 | some cs =>
  simp only [Option.bind_some]
  cases kU cs p off c with
  | none => rfl
  | some ds =>
   simp only [Option.map_some, Option.some.injEq]
   cases r with
   | sl e =>
    have he : e ≠ d := fun h => hr (by rw [h])
    simp only [zM, uV he]
    simp only [xT]
    congr 1
    funext t
    by_cases h1 : t = e
    ·subst h1; simp [upd, he]
    ·by_cases h2 : t = d
     ·subst h2; simp [upd, h1]
     ·simp [upd, h1, h2]
   | ex j => rfl
theorem zS3 {k : Root} {cs ds : List CU} {p : List Nat} {off : Nat} {c : CU} (h : kU cs p off c = some ds) (hk : k ∈ zN true ds) : k ∈ zN true cs ∨ k ∈ yB true c := by
 cases p with
 | nil =>
  simp only [kU] at h
  split at h
  ·simp only [Option.some.injEq] at h; subst h
   obtain ⟨c', hc, hm⟩ := qM.1 hk
   rcases List.mem_or_eq_of_mem_set hc with hc | rfl
   ·exact .inl (qM.2 ⟨c', hc, hm⟩)
   ·exact .inr hm
  ·cases h
 | cons i p =>
  cases c with
  | t y =>
   simp only [kU] at h
   split at h
   ·simp only [Option.map_eq_some_iff] at h
    obtain ⟨ts, _, rfl⟩ := h
    obtain ⟨c', hc, hm⟩ := qM.1 hk
    rcases List.mem_or_eq_of_mem_set hc with hc | rfl
    ·exact .inl (qM.2 ⟨c', hc, hm⟩)
    ·simp [yB] at hm
   ·cases h
  | _ => simp [kU] at h
theorem gO {k : Root} : ∀ {xs : List XU} {cs : List CU}, k ∈ uW (yH xs cs) → k ∈ uW xs ∨ k ∈ zN true cs
 | [], _, h => by simp [yH, uW] at h
 | .c y :: xs, cs, h => by
  simp only [yH, uW, List.mem_append, rfX] at h ⊢
  rcases h with h | h
  ·cases cs with
   | nil => exact .inl (.inl h)
   | cons z zs => simp only [List.head?_cons, Option.getD_some] at h; simp only [zN, List.mem_append]; exact .inr (.inl h)
  ·rcases gO h with h | h
   ·exact .inl (.inr h)
   ·refine .inr ?_
    obtain ⟨c, hc, hm⟩ := qM.1 h
    exact qM.2 ⟨c, List.mem_of_mem_tail hc, hm⟩
 | .agg ds :: xs, cs, h => by
  simp only [yH, uW, List.mem_append, rfX] at h ⊢
  rcases h with h | h
  ·refine .inr ?_
   obtain ⟨c, hc, hm⟩ := qM.1 h
   exact qM.2 ⟨c, List.mem_of_mem_take hc, hm⟩
  ·rcases gO h with h | h
   ·exact .inl (.inr h)
   ·refine .inr ?_
    obtain ⟨c, hc, hm⟩ := qM.1 h
    exact qM.2 ⟨c, List.mem_of_mem_drop hc, hm⟩
 | .box a ds :: xs, cs, h => by
  simp only [yH, uW, List.mem_append] at h ⊢
  rcases h with h | h
  ·exact .inl (.inl h)
  ·exact (gO h).imp .inr id
 | .tup ys :: xs, cs, h => by
  simp only [yH, uW, List.mem_append] at h ⊢
  rcases h with h | h
  ·exact .inl (.inl h)
  ·exact (gO h).imp .inr id
 | .undef :: xs, cs, h => by
  simp only [yH, uW, List.mem_append] at h ⊢
  rcases h with h | h
  ·exact .inl (.inl h)
  ·exact (gO h).imp .inr id
theorem zS5 {k : Root} {y : XU} {cs : List CU} (h : k ∈ rfX (x7 y cs)) : k ∈ rfX y ∨ k ∈ zN true cs := by
 cases y with
 | c z =>
  rcases cs with _ | ⟨c, _ | ⟨c', cs⟩⟩
  ·exact .inl h
  ·simp only [x7, rfX] at h; simp only [zN, List.append_nil]; exact .inr h
  ·exact .inl h
 | agg ds => exact .inr h
 | box a ds => exact .inr h
 | tup xs => simp only [x7, rfX] at h ⊢; exact gO h
 | undef => exact .inl h
theorem o9 (h : Off d S) {r : Root} (hr : r ≠ .sl d) {p : List Nat} {off : Nat} {c : CU} (hc : Root.sl d ∉ yB true c) {S' : SU} (hp : z7 S r p off c = some S') : Off d S' := by
 simp only [z7, Option.bind_eq_some_iff, Option.map_eq_some_iff] at hp
 obtain ⟨cs, h1, ds, h2, rfl⟩ := hp
 have hds : Root.sl d ∉ zN true ds := fun hm => (zS3 h2 hm).elim (pY h h1) hc
 cases r with
 | sl e =>
  have he : e ≠ d := fun h => hr (by rw [h])
  refine ⟨by simp [zM, upd, Ne.symm he, h.un], fun t hm => ?_, h.re⟩
  by_cases ht : t = e
  ·subst ht
   simp only [zM, upd, if_true] at hm
   rcases zS5 hm with h' | h'
   ·exact h.rf t h'
   ·exact hds h'
  ·simp only [zM, upd, ht, if_false] at hm
   exact h.rf t hm
 | ex j =>
  refine ⟨h.un, h.rf, fun cs hc hm => ?_⟩
  simp only [zM] at hc
  rcases List.mem_or_eq_of_mem_set hc with hc | rfl
  ·exact h.re cs hc hm
  ·exact hds hm
theorem zJ0 (hx : ∀ r q, z6 r q x = x) {a : Unit} {r : Root} (hr : r ≠ .sl d) {p : List Nat} {i off sz n : Nat} : xL (xT d x S) a r p i off sz n = (xL S a r p i off sz n).map fun q => (q.1, xT d x q.2) := by
 unfold xL
 rw [iV hr]
 generalize at_ S r p i = o
 rcases o with _ | c
 ·rfl
 ·cases c with
  | t y => cases y with
   | sl b tag sz' m ds => cases tag with
    | zero =>
     by_cases hc : off + n * sz ≤ ds.length ∧ sz = sz' ∧ 0 < sz
     ·simp only [if_pos hc, l8 hr]
      cases z7 S r p i (.t (.dead b)) with
      | none => rfl
      | some S' => simp only [Option.map_some, zD1 (hx _ _)]
     ·simp only [if_neg hc]; rfl
    | succ g => rfl
   | _ => rfl
  | _ => rfl
theorem zLz (h : Off d S) {a : Unit} {r : Root} (hr : r ≠ .sl d) {p : List Nat} {i off sz n : Nat} {q : TU × SU} (hq : xL S a r p i off sz n = some q) : Off d q.2 := by
 unfold xL at hq
 split at hq
 ·split at hq
  ·simp only [Option.map_eq_some_iff] at hq
   obtain ⟨S', h1, rfl⟩ := hq
   exact (o9 h hr (by simp [yB]) h1).kill _ _
  ·cases hq
 ·cases hq
mutual
theorem iH (hx : ∀ r q, z6 r q x = x) : ∀ {c : CU} {S : SU}, Off d S → Root.sl d ∉ yB true c → yS c (xT d x S) = (yS c S).map (fun q => (q.1, xT d x q.2)) ∧ ∀ q, yS c S = some q → Off d q.2
 | .t y, S, h, _ => ⟨rfl, fun q hq => by simp only [yS, Option.some.injEq] at hq; subst hq; exact h⟩
 | .bor a (.sl e) p i off sz n, S, h, hc => by
  have hr : Root.sl e ≠ .sl d := fun e' => hc (by simp [yB, e'])
  simp only [yS]
  exact ⟨zJ0 hx hr, fun q hq => zLz h hr hq⟩
 | .bor a (.ex j) p i off sz n, S, h, _ => ⟨rfl, fun q hq => by simp [yS] at hq⟩
 | .lst a sz n cs, S, h, hc => by
  obtain ⟨h1, h2⟩ := tZ hx (cs := cs) h (by simpa [yB] using hc)
  simp only [yS, h1]
  refine ⟨by cases xZ cs S <;> rfl, fun q hq => ?_⟩
  simp only [Option.map_eq_some_iff] at hq
  obtain ⟨r, hr, rfl⟩ := hq
  exact h2 r hr
 | .ptr _ _ _ _, S, h, _ => ⟨rfl, fun q hq => by simp [yS] at hq⟩
 | .rptr _ _, S, h, _ => ⟨rfl, fun q hq => by simp [yS] at hq⟩
 | .nilp, S, h, _ => ⟨rfl, fun q hq => by simp [yS] at hq⟩
 | .nilf, S, h, _ => ⟨rfl, fun q hq => by simp [yS] at hq⟩
 | .fn _ _, S, h, _ => ⟨rfl, fun q hq => by simp [yS] at hq⟩
theorem tZ (hx : ∀ r q, z6 r q x = x) : ∀ {cs : List CU} {S : SU}, Off d S → Root.sl d ∉ zN true cs → xZ cs (xT d x S) = (xZ cs S).map (fun q => (q.1, xT d x q.2)) ∧ ∀ q, xZ cs S = some q → Off d q.2
 | [], S, h, _ => ⟨rfl, fun q hq => by simp only [xZ, Option.some.injEq] at hq; subst hq; exact h⟩
 | c :: cs, S, h, hc => by
  simp only [zN, List.mem_append, not_or] at hc
  obtain ⟨h1, h2⟩ := iH hx (c := c) h hc.1
  simp only [xZ, h1]
  cases hs : yS c S with
  | none => exact ⟨rfl, fun q hq => by cases hq⟩
  | some r =>
   obtain ⟨h3, h4⟩ := tZ hx (cs := cs) (h2 r hs) hc.2
   simp only [Option.map_some, Option.bind_some, h3]
   refine ⟨by cases xZ cs r.2 <;> rfl, fun q hq => ?_⟩
   simp only [Option.map_eq_some_iff] at hq
   obtain ⟨r', hr, rfl⟩ := hq
   exact h4 r' hr
end
theorem zGj (hx : ∀ r q, z6 r q x = x) (h : Off d S) {r : Root} (hr : r ≠ .sl d) {p : List Nat} {i : Nat} : q8 (xT d x S) r p i = (q8 S r p i).map (fun q => (q.1, xT d x q.2)) ∧ ∀ q, q8 S r p i = some q → Off d q.2 := by
 unfold q8
 rw [iV hr]
 generalize at_ S r p i = o
 rcases o with _ | c
 ·exact ⟨rfl, fun q hq => by cases hq⟩
 ·cases c with
  | t y => cases y with
   | sl b tag sz' m ds => cases tag with
    | zero =>
     simp only [l8 hr]
     cases hp : z7 S r p i (.t (.dead b)) with
     | none => exact ⟨rfl, fun q hq => by cases hq⟩
     | some S' =>
      refine ⟨by simp only [Option.map_some, zD1 (hx _ _)], fun q hq => ?_⟩
      simp only [Option.map_some, Option.some.injEq] at hq
      subst hq
      exact (o9 h hr (by simp [yB]) hp).kill _ _
    | succ g => exact ⟨rfl, fun q hq => by cases hq⟩
   | _ => exact ⟨rfl, fun q hq => by cases hq⟩
  | _ => exact ⟨rfl, fun q hq => by cases hq⟩
def onU (d : Nat) (x : XU) {β γ : Type} (u : β × γ × SU) : β × γ × SU := (u.1, u.2.1, xT d x u.2.2)
theorem r7 (hx : ∀ r q, z6 r q x = x) : ∀ {cs : List CU} {k : Nat} {S : SU}, Off d S → Root.sl d ∉ zN true cs → xS k cs (xT d x S) = (xS k cs S).map (onU d x) ∧
  ∀ u, xS k cs S = some u → Off d u.2.2 ∧ Root.sl d ∉ zN true u.1 ∧ ∀ w ∈ u.2.1, w.r ≠ .sl d
 | [], k, S, h, _ => ⟨rfl, fun u hu => by simp only [xS, Option.some.injEq] at hu; subst hu; exact ⟨h, by simp [zN], by simp⟩⟩
 | .bor a r p i off sz n :: cs, k, S, h, hc => by
  simp only [zN, yB, if_true, List.mem_append, List.mem_singleton, not_or] at hc
  have hr : r ≠ .sl d := fun e => hc.1 e.symm
  obtain ⟨h1, h2⟩ := zGj hx h hr (p := p) (i := i)
  simp only [xS, h1]
  cases ht : q8 S r p i with
  | none => exact ⟨rfl, fun u hu => by cases hu⟩
  | some q =>
   obtain ⟨h3, h4⟩ := r7 hx (cs := cs) (k := k + 1) (h2 q ht) hc.2
   simp only [Option.map_some, Option.bind_some, h3]
   refine ⟨by cases xS (k + 1) cs q.2 <;> rfl, fun u hu => ?_⟩
   simp only [Option.map_eq_some_iff] at hu
   obtain ⟨v, hv, rfl⟩ := hu
   obtain ⟨g1, g2, g3⟩ := h4 v hv
   refine ⟨g1, by simp only [zN, yB, if_true, List.mem_append, List.mem_singleton, not_or]; exact ⟨by simp, g2⟩, fun w hw => ?_⟩
   rcases List.mem_cons.1 hw with rfl | hw
   ·exact hr
   ·exact g3 w hw
 | .t y :: cs, k, S, h, hc => by
  simp only [zN, yB, List.nil_append] at hc
  obtain ⟨h3, h4⟩ := r7 hx (cs := cs) (k := k) h hc
  simp only [xS]
  split
  ·simp only [h3]
   refine ⟨by cases xS k cs S <;> rfl, fun u hu => ?_⟩
   simp only [Option.map_eq_some_iff] at hu
   obtain ⟨v, hv, rfl⟩ := hu
   obtain ⟨g1, g2, g3⟩ := h4 v hv
   exact ⟨g1, by simpa only [zN, yB, List.nil_append] using g2, g3⟩
  ·exact ⟨rfl, fun u hu => by cases hu⟩
 | .ptr _ _ _ _ :: cs, k, S, h, _ => ⟨rfl, fun u hu => by simp [xS] at hu⟩
 | .rptr _ _ :: cs, k, S, h, _ => ⟨rfl, fun u hu => by simp [xS] at hu⟩
 | .nilp :: cs, k, S, h, _ => ⟨rfl, fun u hu => by simp [xS] at hu⟩
 | .nilf :: cs, k, S, h, _ => ⟨rfl, fun u hu => by simp [xS] at hu⟩
 | .fn _ _ :: cs, k, S, h, _ => ⟨rfl, fun u hu => by simp [xS] at hu⟩
 | .lst _ _ _ _ :: cs, k, S, h, _ => ⟨rfl, fun u hu => by simp [xS] at hu⟩
theorem zE2 {e : Nat} (he : e ≠ d) : ({ xT d x S with s := upd (xT d x S).s e .undef } : SU) = xT d x { S with s := upd S.s e .undef } := by
 simp only [xT]
 congr 1
 funext t
 by_cases h1 : t = e
 ·subst h1; simp [upd, he]
 ·by_cases h2 : t = d
  ·subst h2; simp [upd, h1]
  ·simp [upd, h1, h2]
theorem zJ2 (h : Off d S) (e : Nat) : Off d { S with s := upd S.s e .undef } := by
 refine ⟨?_, fun t => ?_, h.re⟩
 ·simp only [upd]; split
  ·rfl
  ·exact h.un
 ·simp only [upd]; split
  ·simp [rfX]
  ·exact h.rf t
theorem zQz {o : Operand} (ho : o ≠ .tmp d) : V.clr cx f (xT d x S) o = xT d x (V.clr cx f S o) := by
 cases o with
 | tmp e =>
  have he : e ≠ d := fun h => ho (by rw [h])
  simp only [V.clr, uV he]
  split
  ·rfl
  ·split
   ·exact zE2 he
   ·rfl
 | _ => rfl
theorem zUa (h : Off d S) (o : Operand) : Off d (V.clr cx f S o) := by
 cases o with
 | tmp e =>
  simp only [V.clr]
  split
  ·exact h
  ·split
   ·exact zJ2 h e
   ·exact h
 | _ => exact h
theorem zRc {o : Operand} (ho : o ≠ .tmp d) : eat cx f (xT d x S) o = xT d x (eat cx f S o) := by
 cases o with
 | tmp e =>
  have he : e ≠ d := fun h => ho (by rw [h])
  simp only [eat]
  split
  ·rfl
  ·exact zE2 he
 | _ => rfl
theorem zUe (h : Off d S) (o : Operand) : Off d (eat cx f S o) := by
 cases o with
 | tmp e =>
  simp only [eat]
  split
  ·exact h
  ·exact zJ2 h e
 | _ => exact h
end
end Go.Proofs.YtlkjnlfddadlmaaGreatDoor.V
namespace Go.Proofs.YtlkjnlfddadlmaaGreatDoor.V
section
variable {cx : Ctx} {f : Nat} {call : zX} {d : Nat} {x : XU} {S : SU}
theorem zDt {α : Type} (S : St α) : hide [] S = S := by cases S; simp [hide]
def NoM (d : Nat) (ms : List (Option XU)) : Prop := ∀ y, some y ∈ ms → Root.sl d ∉ rfX y
theorem wI (hx : ∀ r q, z6 r q x = x) {g : Nat} : ∀ {os : List Operand} {i k : Nat} {ts : List Nat} {S : SU}, Off d S → (∀ o ∈ os, o ≠ .tmp d) → yM cx f g i k os ts (xT d x S) = (yM cx f g i k os ts S).map (onU d x) ∧
  ∀ u, yM cx f g i k os ts S = some u → Off d u.2.2 ∧ NoM d u.1 ∧ ∀ w ∈ u.2.1, w.r ≠ .sl d
 | [], i, k, ts, S, h, _ => ⟨rfl, fun u hu => by simp only [yM, Option.some.injEq] at hu; subst hu; exact ⟨h, by simp [NoM], by simp⟩⟩
 | o :: os, i, k, ts, S, h, ho => by
  have ho1 := ho o List.mem_cons_self
  have ho2 : ∀ o ∈ os, o ≠ .tmp d := fun o h => ho o (List.mem_cons_of_mem _ h)
  have hcons : ∀ {m : Option XU} {ms : List (Option XU)}, (∀ y, m = some y → Root.sl d ∉ rfX y) → NoM d ms → NoM d (m :: ms) := fun h1 h2 y hy => by
   rcases List.mem_cons.1 hy with e | e
   ·exact h1 y e.symm
   ·exact h2 y e
  simp only [yM]
  split
  ·rw [nE ho1]
   cases hv : opv cx f S (ts.head?.getD 0) o with
   | none => exact ⟨rfl, fun u hu => by cases hu⟩
   | some y =>
    have hy := tL h ho1 hv
    simp only [Option.bind_some]
    cases y with
    | c c =>
     simp only [zQz ho1]
     obtain ⟨h1, h2⟩ := iH hx (c := c) (zUa h o) (by simpa [rfX] using hy)
     rw [h1]
     cases hs : yS c (V.clr cx f S o) with
     | none => exact ⟨rfl, fun u hu => by cases hu⟩
     | some q =>
      obtain ⟨h3, h4⟩ := wI hx (g := g) (os := os) (i := i + 1) (k := k) (ts := ts.tail) (h2 q hs) ho2
      simp only [Option.map_some, Option.bind_some, h3]
      refine ⟨by cases yM cx f g (i + 1) k os ts.tail q.2 <;> rfl, fun u hu => ?_⟩
      simp only [Option.map_eq_some_iff] at hu
      obtain ⟨v, hv, rfl⟩ := hu
      obtain ⟨g1, g2, g3⟩ := h4 v hv
      exact ⟨g1, hcons (fun y e => by simp only [Option.some.injEq] at e; subst e; simp [rfX, yB]) g2, g3⟩
    | _ => exact ⟨rfl, fun u hu => by cases hu⟩
  ·split
   ·rw [nE ho1]
    cases hv : opv cx f S (ts.head?.getD 0) o with
    | none => exact ⟨rfl, fun u hu => by cases hu⟩
    | some y =>
     have hy := tL h ho1 hv
     simp only [Option.bind_some]
     have main : ∀ (cs : List CU) (F : List CU → XU), Root.sl d ∉ zN true cs → (∀ ds, Root.sl d ∉ zN true ds → Root.sl d ∉ rfX (F ds)) →
       ((xS k cs (eat cx f (xT d x S) o)).bind fun q => (yM cx f g (i + 1) (k + q.2.1.length) os ts.tail q.2.2).map fun u => (some (F q.1) :: u.1, q.2.1 ++ u.2.1, u.2.2)) =
        ((xS k cs (eat cx f S o)).bind fun q => (yM cx f g (i + 1) (k + q.2.1.length) os ts.tail q.2.2).map fun u => (some (F q.1) :: u.1, q.2.1 ++ u.2.1, u.2.2)).map (onU d x) ∧
       ∀ u, ((xS k cs (eat cx f S o)).bind fun q => (yM cx f g (i + 1) (k + q.2.1.length) os ts.tail q.2.2).map fun u => (some (F q.1) :: u.1, q.2.1 ++ u.2.1, u.2.2)) = some u → Off d u.2.2 ∧ NoM d u.1 ∧ ∀ w ∈ u.2.1, w.r ≠ .sl d := by
      intro cs F hcs hF
      rw [zRc ho1]
      obtain ⟨h1, h2⟩ := r7 hx (cs := cs) (k := k) (zUe h o) hcs
      rw [h1]
      cases hp : xS k cs (eat cx f S o) with
      | none => exact ⟨rfl, fun u hu => by cases hu⟩
      | some q =>
       obtain ⟨e1, e2, e3⟩ := h2 q hp
       obtain ⟨h3, h4⟩ := wI hx (g := g) (os := os) (i := i + 1) (k := k + q.2.1.length) (ts := ts.tail) e1 ho2
       simp only [Option.map_some, Option.bind_some, onU, h3]
       refine ⟨by cases yM cx f g (i + 1) (k + q.2.1.length) os ts.tail q.2.2 <;> rfl, fun u hu => ?_⟩
       simp only [Option.map_eq_some_iff] at hu
       obtain ⟨v, hv, rfl⟩ := hu
       obtain ⟨g1, g2, g3⟩ := h4 v hv
       refine ⟨g1, hcons (fun y e => by simp only [Option.some.injEq] at e; subst e; exact hF _ e2) g2, fun w hw => ?_⟩
       rcases List.mem_append.1 hw with hw | hw
       ·exact e3 w hw
       ·exact g3 w hw
     cases y with
     | c c =>
      refine main [c] (fun ds => .c (ds.head?.getD c)) (by simpa [rfX, zN] using hy) (fun ds hds => ?_)
      cases ds with
      | nil => simpa [rfX] using hy
      | cons z zs => simp only [zN, List.mem_append, not_or] at hds; simpa [rfX] using hds.1
     | agg cs => exact main cs (fun ds => .agg ds) (by simpa [rfX] using hy) (fun ds hds => by simpa [rfX] using hds)
     | _ => exact ⟨rfl, fun u hu => by cases hu⟩
   ·obtain ⟨h3, h4⟩ := wI hx (g := g) (os := os) (i := i + 1) (k := k) (ts := ts.tail) h ho2
    rw [h3]
    refine ⟨by cases yM cx f g (i + 1) k os ts.tail S <;> rfl, fun u hu => ?_⟩
    simp only [Option.map_eq_some_iff] at hu
    obtain ⟨v, hv, rfl⟩ := hu
    obtain ⟨g1, g2, g3⟩ := h4 v hv
    exact ⟨g1, hcons (fun y e => by cases e) g2, g3⟩
theorem gW (h : Off d S) : ∀ {ms : List (Option XU)} {os : List Operand} {ts : List Nat}, (∀ o ∈ os, o ≠ .tmp d) → xH cx f (xT d x S) ms os ts = xH cx f S ms os ts ∧ ∀ xs, xH cx f S ms os ts = some xs → NoM d xs
 | none :: ms, o :: os, ts, ho => by
  have ho1 := ho o List.mem_cons_self
  obtain ⟨h1, h2⟩ := gW h (ms := ms) (os := os) (ts := ts.tail) fun o h => ho o (List.mem_cons_of_mem _ h)
  simp only [xH, nE ho1, h1]
  refine ⟨trivial, fun xs hxs => ?_⟩
  simp only [Option.bind_eq_some_iff, Option.map_eq_some_iff] at hxs
  obtain ⟨y, hy, ys, hys, rfl⟩ := hxs
  intro z hz
  rcases List.mem_cons.1 hz with e | e
  ·simp only [Option.some.injEq] at e; subst e; exact tL h ho1 hy
  ·exact h2 ys hys z e
 | some _ :: ms, o :: os, ts, ho => by
  obtain ⟨h1, h2⟩ := gW h (ms := ms) (os := os) (ts := ts.tail) fun o h => ho o (List.mem_cons_of_mem _ h)
  simp only [xH, h1]
  refine ⟨trivial, fun xs hxs => ?_⟩
  simp only [Option.map_eq_some_iff] at hxs
  obtain ⟨ys, hys, rfl⟩ := hxs
  intro z hz
  rcases List.mem_cons.1 hz with e | e
  ·cases e
  ·exact h2 ys hys z e
 | [], os, ts, _ => ⟨by simp [xH], fun xs hxs => by simp only [xH, Option.some.injEq] at hxs; subst hxs; simp [NoM]⟩
 | none :: ms, [], ts, _ => ⟨by simp [xH], fun xs hxs => by simp only [xH, Option.some.injEq] at hxs; subst hxs; simp [NoM]⟩
 | some _ :: ms, [], ts, _ => ⟨by simp [xH], fun xs hxs => by simp only [xH, Option.some.injEq] at hxs; subst hxs; simp [NoM]⟩
mutual
theorem w7 : ∀ {c : CU}, Root.sl d ∉ yB true c → qH (xT d x S) c = qH S c
 | .bor _ r p i off sz n, hc => by
  have hr : r ≠ .sl d := fun e => hc (by simp [yB, e])
  simp only [qH, zH4 hr]
 | .lst _ sz n cs, hc => by simp only [qH]; rw [iK (by simpa [yB] using hc)]
 | .t _, _ => rfl
 | .ptr _ _ _ _, _ => rfl
 | .rptr _ _, _ => rfl
 | .nilp, _ => rfl
 | .nilf, _ => rfl
 | .fn _ [], _ => rfl
 | .fn _ (_ :: _), _ => rfl
theorem iK : ∀ {cs : List CU}, Root.sl d ∉ zN true cs → jK (xT d x S) cs = jK S cs
 | [], _ => rfl
 | c :: cs, hc => by
  simp only [zN, List.mem_append, not_or] at hc
  simp only [jK, w7 hc.1, iK hc.2]
end
theorem zC7 {L : List Root} {k : Nat} : ∀ {c : CU}, Root.sl d ∉ yB true c → vW (xT d x S) L k c = vW S L k c
 | .ptr _ _ _ _, _ => rfl
 | .fn _ _, _ => rfl
 | .bor a r p i off sz n, hc => by simp only [vW, w7 hc]
 | .t y, hc => by simp only [vW, w7 hc]
 | .rptr _ _, hc => by simp only [vW, w7 hc]
 | .nilp, hc => by simp only [vW, w7 hc]
 | .nilf, hc => by simp only [vW, w7 hc]
 | .lst _ _ _ _, hc => by simp only [vW, w7 hc]
theorem rE {L : List Root} {k : Nat} : ∀ {cs : List CU}, Root.sl d ∉ zN true cs → bJ (xT d x S) L k cs = bJ S L k cs
 | [], _ => rfl
 | c :: cs, hc => by
  simp only [zN, List.mem_append, not_or] at hc
  simp only [bJ, zC7 hc.1, rE hc.2]
theorem zOx {L : List Root} {k : Nat} {y : XU} (hy : Root.sl d ∉ rfX y) : rF (xT d x S) L k y = rF S L k y := by
 cases y with
 | c c => simp only [rF, zC7 (show Root.sl d ∉ yB true c from hy)]
 | agg cs => simp only [rF, rE (show Root.sl d ∉ zN true cs from hy)]
 | _ => rfl
theorem lM {L : List Root} {k : Nat} : ∀ {ms xs : List (Option XU)}, NoM d xs → qC (xT d x S) L k ms xs = qC S L k ms xs
 | some y :: ms, m :: xs, h => by simp only [qC]; rw [lM fun y hy => h y (List.mem_cons_of_mem _ hy)]
 | none :: ms, some y :: xs, h => by
  simp only [qC]
  rw [zOx (h y List.mem_cons_self), lM fun y hy => h y (List.mem_cons_of_mem _ hy)]
 | none :: ms, none :: xs, h => by simp [qC]
 | [], xs, h => by simp [qC]
 | some _ :: ms, [], h => by simp [qC]
 | none :: ms, [], h => by simp [qC]
theorem uR {k : Root} : ∀ {rs L : List Root}, k ∈ dV L rs → k ∈ L ∨ k ∈ rs
 | [], L, h => .inl h
 | r :: rs, L, h => by
  simp only [dV] at h
  split at h
  ·exact (uR h).imp id (List.mem_cons_of_mem _)
  ·rcases uR h with h | h
   ·rcases List.mem_append.1 h with h | h
    ·exact .inl h
    ·simp only [List.mem_singleton] at h; subst h; exact .inr List.mem_cons_self
   ·exact .inr (List.mem_cons_of_mem _ h)
theorem tU (h : Off d S) : ∀ {L : List Root}, Root.sl d ∉ L → mD (xT d x S) L = mD S L ∧ Root.sl d ∉ mD S L
 | [], _ => ⟨rfl, by simp [mD]⟩
 | r :: L, hL => by
  simp only [List.mem_cons, not_or] at hL
  have hr : r ≠ .sl d := Ne.symm hL.1
  obtain ⟨h1, h2⟩ := tU h hL.2
  simp only [mD, vR hr, h1, true_and, List.mem_append, not_or]
  refine ⟨fun hm => ?_, h2⟩
  cases hc : zA S r with
  | none => rw [hc] at hm; simp [zN] at hm
  | some cs => rw [hc] at hm; exact pY h hc (gL hm)
theorem mG (h : Off d S) : ∀ {n : Nat} {L : List Root}, Root.sl d ∉ L → v6 (xT d x S) n L = v6 S n L ∧ Root.sl d ∉ v6 S n L
 | 0, L, hL => ⟨rfl, hL⟩
 | n + 1, L, hL => by
  obtain ⟨h1, h2⟩ := tU (x := x) h hL
  simp only [v6, h1]
  exact mG h fun hm => (uR hm).elim hL h2
theorem oQ (h : Off d S) {xs : List (Option XU)} {caps : List CU} (hxs : NoM d xs) (hc : Root.sl d ∉ zN true caps) : jH cx f (xT d x S) xs caps = jH cx f S xs caps ∧ Root.sl d ∉ jH cx f S xs caps := by
 simp only [jH]
 refine mG h fun hm => ?_
 rcases uR hm with hm | hm
 ·cases hm
 ·rw [nN] at hm
  rcases List.mem_append.1 hm with hm | hm
  ·obtain ⟨y, hy, hr⟩ := zIa.1 (kE (gL hm))
   rw [List.mem_filterMap] at hy
   obtain ⟨m, hm, e⟩ := hy
   simp only [id] at e
   subst e
   exact hxs y hm hr
  ·exact hc (gL hm)
theorem rZ {q : Root} : ∀ {L : List Root} {j : Nat}, q ∉ L → yZ L q j = none
 | [], _, _ => rfl
 | r :: L, j, h => by
  simp only [List.mem_cons, not_or] at h
  simp only [yZ, if_neg (Ne.symm h.1)]
  exact rZ h.2
theorem zD4 : ∀ {L : List Root}, Root.sl d ∉ L → L.mapM (zA (xT d x S)) = L.mapM (zA S)
 | [], _ => rfl
 | r :: L, hL => by
  simp only [List.mem_cons, not_or] at hL
  simp only [List.mapM_cons, vR (Ne.symm hL.1), zD4 hL.2]
theorem pZ {r : Root} (hr : r ≠ .sl d) : vS cx f (xT d x S) r = vS cx f S r := by
 cases r with
 | sl e => simp only [vS, uV (show e ≠ d from fun h => hr (by rw [h]))]
 | ex j => rfl
theorem zKe {L : List Root} {k : Nat} {es : List (List CU)} (hL : Root.sl d ∉ L) (hx : jL L x = x) : kY L k es (xT d x S) = xT d x (kY L k es S) := by
 simp only [kY, xT]
 congr 1
 funext t
 by_cases h : t = d
 ·subst h; simp only [upd, if_true, dZ, rZ hL, hx]
 ·simp only [upd, if_neg h]
theorem zFg {w : Row} (hw : w.r ≠ .sl d) {es : List CU} : kM (xT d x S) w es = (kM S w es).map (xT d x) := by
 unfold kM
 split
 ·rw [iV hw, l8 hw]
  split <;> rfl
 ·rfl
 ·rfl
theorem pU : ∀ {ws : List Row} {ess : List (List CU)} {S : SU}, (∀ w ∈ ws, w.r ≠ .sl d) → x5 ws ess (xT d x S) = (x5 ws ess S).map (xT d x)
 | w :: ws, e :: ess, S, h => by
  simp only [x5, zFg (h w List.mem_cons_self)]
  cases kM S w e with
  | none => rfl
  | some S' => simp only [Option.map_some, Option.bind_some]; exact pU fun w hw => h w (List.mem_cons_of_mem _ hw)
 | [], _, S, _ => by simp [x5]
 | w :: ws, [], S, _ => by simp [x5]
theorem iT (hx : ∀ r q, z6 r q x = x) (hcx : ∀ L, jL L x = x) (h : Off d S) {fo : Operand} {args : List Operand} {ts : List Nat} (hf : fo ≠ .tmp d) (ha : ∀ o ∈ args, o ≠ .tmp d) :
  activeCall cx f call (xT d x S) fo args ts = (activeCall cx f call S fo args ts).map fun r => (r.1, xT d x r.2) := by
 unfold activeCall
 rw [nE hf]
 split
 ·next g caps0 _ =>
  obtain ⟨h1, h2⟩ := wI hx (cx := cx) (f := f) (g := g) (os := args) (i := 0) (k := 0) (ts := ts) h ha
  rw [h1]
  cases hp : yM cx f g 0 0 args ts S with
  | none => rfl
  | some u =>
   obtain ⟨u1, u2, u3⟩ := u
   obtain ⟨e1, e2, e3⟩ := h2 _ hp
   simp only at e1 e2 e3
   simp only [Option.map_some, Option.bind_some, onU, nE hf]
   cases hv : opv cx f u3 0 fo with
   | none => rfl
   | some y =>
    cases y with
    | c c => cases c with
     | fn g' caps =>
      have hcaps : Root.sl d ∉ zN true caps := by simpa [rfX, yB] using tL e1 hf hv
      obtain ⟨r1, r2⟩ := gW (cx := cx) (f := f) (x := x) e1 (ms := u1) (os := args) (ts := ts) ha
      simp only [r1]
      cases hr : xH cx f u3 u1 args ts with
      | none => rfl
      | some xs =>
       have hxs := r2 xs hr
       obtain ⟨l1, l2⟩ := oQ (cx := cx) (f := f) (x := x) e1 hxs hcaps
       simp only [Option.bind_some, l1, lM hxs, rE hcaps, zD4 l2]
       cases qC u3 (jH cx f u3 xs caps) u2.length u1 xs with
       | none => rfl
       | some ys =>
        simp only [Option.bind_some]
        cases bJ u3 (jH cx f u3 xs caps) u2.length caps with
        | none => rfl
        | some cs =>
         simp only [Option.bind_some]
         cases (jH cx f u3 xs caps).mapM (zA u3) with
         | none => rfl
         | some bs =>
          simp only [Option.bind_some]
          have hg : (jH cx f u3 xs caps).all (vS cx f (xT d x u3)) = (jH cx f u3 xs caps).all (vS cx f u3) := by
           rw [Bool.eq_iff_iff, List.all_eq_true, List.all_eq_true]
           constructor
           ·intro h r hr; rw [← pZ (x := x) (fun e => l2 (e ▸ hr))]; exact h r hr
           ·intro h r hr; rw [pZ (fun e => l2 (e ▸ hr))]; exact h r hr
          rw [hg]
          split
          ·cases call g _ _ with
           | none => rfl
           | some r =>
            simp only [Option.bind_some]
            cases kZ r.1 with
            | none => rfl
            | some z =>
             simp only [Option.bind_some]
             cases r.2.mapM xQ with
             | none => rfl
             | some es =>
              simp only [Option.bind_some]
              split
              ·rw [zKe l2 (hcx _), pU e3]
               cases x5 _ _ _ <;> rfl
              ·rfl
          ·rfl
     | _ => rfl
    | _ => rfl
 ·rfl
theorem zC5 (hx : ∀ r q, z6 r q x = x) (hcx : ∀ L, jL L x = x) (h : Off d S) {ops : Array Oper} {o : Oper} {fo : Operand} {c : Call} (ho : o.op = .call c) (hc : c.callee = .value fo) (ha : yX cx o.op = true) (hl : d ∉ o.looksAt ops) (hd : o.dst ≠ some d) :
  stepOp cx f call (xT d x S) ops o = (stepOp cx f call S ops o).map (xT d x) := by
 have hl' : ∀ e, Operand.tmp e ∈ o.op.operands.toList → e ≠ d := fun e he hh => hl (hh ▸ kP he)
 have hw : y5 (xT d x S) ops o = y5 S ops o := by
  unfold y5
  split
  ·rfl
  ·next j want hg =>
   split
   ·next t ht =>
    have hne : t ≠ d := fun e => hl (by
     subst e
     simp only [Oper.looksAt, hg, List.mem_append]
     right; rw [ht]; simp)
    rw [uV hne]
   ·rfl
 have hput : ∀ (S : SU) (y : XU), wJ cx f (xT d x S) o.dst y = (wJ cx f S o.dst y).map (xT d x) := by
  intro S y
  unfold wJ
  cases hdo : o.dst with
  | none => rfl
  | some e =>
   have he : e ≠ d := fun h => hd (by rw [hdo, h])
   simp only [uV he]
   split
   ·rfl
   ·simp only [Option.map_some, Option.some.injEq, xT]
    congr 1
    funext t
    by_cases h1 : t = e
    ·subst h1; simp [upd, he]
    ·by_cases h2 : t = d
     ·subst h2; simp [upd, h1]
     ·simp [upd, h1, h2]
 unfold stepOp
 rw [hw]
 cases y5 S ops o with
 | none => rfl
 | some b => cases b with
  | false => exact hput S _
  | true =>
   simp only [ho] at ha hl' ⊢
   rw [if_pos ha, if_pos ha]
   obtain ⟨callee, args, argTypes⟩ := c
   simp only at hc
   subst hc
   have hop : ∀ o', o' = fo ∨ o' ∈ args.toList → o' ≠ .tmp d := by
    intro o' h' e
    subst e
    refine hl' d ?_ rfl
    simp only [Op.operands, Call.operands, Array.toList_append, List.mem_append]
    rcases h' with h' | h'
    ·subst h'; left; simp
    ·right; exact h'
   have key := iT (call := call) hx hcx h (cx := cx) (f := f) (ts := argTypes.toList) (hop fo (.inl rfl)) (fun o' h' => hop o' (.inr h'))
   show ((activeCall cx f call (xT d x S) fo args.toList argTypes.toList).bind fun r => wJ cx f r.2 o.dst r.1) = ((activeCall cx f call S fo args.toList argTypes.toList).bind fun r => wJ cx f r.2 o.dst r.1).map (xT d x)
   rw [key]
   cases activeCall cx f call S fo args.toList argTypes.toList with
   | none => rfl
   | some r => simp only [Option.map_some, Option.bind_some]; exact hput _ _
structure Plain (x : XU) : Prop where
 kl : ∀ r q, z6 r q x = x
 ct : ∀ L, jL L x = x
 rf : rfX x = []
structure NR (d : Nat) (S : SU) : Prop where
 rf : ∀ t, Root.sl d ∉ rfX (S.s t)
 re : ∀ cs ∈ S.e, Root.sl d ∉ zN true cs
theorem zRu {Z : List Nat} {d : Nat} {S : SU} (h : NR d S) (hd : d ∈ Z) : Off d (hide Z S) := by
 refine ⟨by simp [hide, hd], fun t => ?_, h.re⟩
 simp only [hide]
 split
 ·simp [rfX]
 ·exact h.rf t
theorem zKu {w : Row} (hw : w.r ≠ .sl d) {es : List CU} {S' : SU} (h : kM S w es = some S') : S'.s d = S.s d := by
 have put : ∀ {c : CU}, z7 S w.r w.p w.i c = some S' → S'.s d = S.s d := by
  intro c hp
  simp only [z7, Option.bind_eq_some_iff, Option.map_eq_some_iff] at hp
  obtain ⟨cs, _, ds, _, rfl⟩ := hp
  cases hr : w.r with
  | sl e =>
   have he : d ≠ e := fun h => hw (by rw [hr, h])
   simp [zM, upd, he]
  | ex j => rfl
 unfold kM at h
 split at h
 ·split at h
  ·exact put h
  ·cases h
 ·simp only [Option.some.injEq] at h; subst h; rfl
 ·cases h
theorem oP : ∀ {ws : List Row} {ess : List (List CU)} {S S' : SU}, (∀ w ∈ ws, w.r ≠ .sl d) → x5 ws ess S = some S' → S'.s d = S.s d
 | w :: ws, e :: ess, S, S', hw, h => by
  simp only [x5, Option.bind_eq_some_iff] at h
  obtain ⟨S1, h1, h2⟩ := h
  rw [oP (fun w h => hw w (List.mem_cons_of_mem _ h)) h2, zKu (hw w List.mem_cons_self) h1]
 | [], _, S, S', _, h => by simp only [x5, Option.some.injEq] at h; subst h; rfl
 | w :: ws, [], S, S', _, h => by simp [x5] at h
theorem zCw (h : Off d S) {fo : Operand} {args : List Operand} {ts : List Nat} (hf : fo ≠ .tmp d) (ha : ∀ o ∈ args, o ≠ .tmp d) {r : XU × SU} (hr : activeCall cx f call S fo args ts = some r) : r.2.s d = .undef := by
 unfold activeCall at hr
 split at hr
 ·next g caps0 _ =>
  simp only [Option.bind_eq_some_iff] at hr
  obtain ⟨⟨u1, u2, u3⟩, hp, hr⟩ := hr
  obtain ⟨_, h2⟩ := wI (x := .undef) (fun _ _ => rfl) (cx := cx) (f := f) (g := g) (os := args) (i := 0) (k := 0) (ts := ts) h ha
  obtain ⟨e1, e2, e3⟩ := h2 _ hp
  simp only at e1 e2 e3 hr
  split at hr
  ·next g' caps hv =>
   have hcaps : Root.sl d ∉ zN true caps := by simpa [rfX, yB] using tL e1 hf hv
   simp only [Option.bind_eq_some_iff] at hr
   obtain ⟨xs, hxs, ys, _, cs, _, bs, _, hr⟩ := hr
   have hn := (gW (cx := cx) (f := f) (x := .undef) e1 (ms := u1) (os := args) (ts := ts) ha).2 xs hxs
   have hl := (oQ (cx := cx) (f := f) (x := .undef) e1 hn hcaps).2
   split at hr
   ·simp only [Option.bind_eq_some_iff] at hr
    obtain ⟨q, _, z, _, es, _, hr⟩ := hr
    split at hr
    ·simp only [Option.map_eq_some_iff] at hr
     obtain ⟨S', h1, rfl⟩ := hr
     rw [show (kQ (jH cx f u3 xs caps) u2.length z, S').2 = S' from rfl, oP e3 h1]
     simp only [kY, dZ, rZ hl, e1.un, jL]
    ·cases hr
   ·cases hr
  ·cases hr
 ·cases hr
theorem nS {S S1 : SU} {ops : Array Oper} {o : Oper} {fo : Operand} {c : Call} (ho : o.op = .call c) (hc : c.callee = .value fo) (ha : yX cx o.op = true) (hs : stepOp cx f call S ops o = some S1) (hl : d ∉ o.looksAt ops) (hd : o.dst ≠ some d) (hp : Plain (S.s d)) (hn : NR d S) :
  stepOp cx f call (hide [d] S) ops o = some (hide [d] S1) ∧ S1.s d = S.s d := by
 have hoff := zRu (Z := [d]) hn (by simp)
 have e0 : xT d (S.s d) (hide [d] S) = S := by
  refine St.ext' (fun t => ?_) rfl
  by_cases h : t = d
  ·subst h; exact zN4
  ·rw [uV h]; simp [hide, h]
 have key := zC5 (call := call) (cx := cx) (f := f) hp.kl hp.ct hoff ho hc ha hl hd
 rw [e0, hs] at key
 cases hh : stepOp cx f call (hide [d] S) ops o with
 | none => rw [hh] at key; cases key
 | some H =>
  rw [hh] at key
  simp only [Option.map_some, Option.some.injEq] at key
  have hun : H.s d = .undef := by
   unfold stepOp at hh
   have hput : ∀ {T T' : SU} {y : XU}, T.s d = .undef → wJ cx f T o.dst y = some T' → T'.s d = .undef := by
    intro T T' y hT hq
    unfold wJ at hq
    split at hq
    ·next e he =>
     split at hq
     ·cases hq
     ·simp only [Option.some.injEq] at hq; subst hq
      have hne : d ≠ e := fun h => hd (by rw [he, h])
      simp [upd, hne, hT]
    ·simp only [Option.some.injEq] at hq; subst hq; exact hT
   have hl' : ∀ e, Operand.tmp e ∈ o.op.operands.toList → e ≠ d := fun e he hh => hl (hh ▸ kP he)
   split at hh
   ·cases hh
   ·exact hput hoff.un hh
   ·simp only [ho] at ha hl' hh
    rw [if_pos ha] at hh
    obtain ⟨callee, args, argTypes⟩ := c
    simp only at hc
    subst hc
    have hop : ∀ o', o' = fo ∨ o' ∈ args.toList → o' ≠ .tmp d := by
     intro o' h' e
     subst e
     refine hl' d ?_ rfl
     simp only [Op.operands, Call.operands, Array.toList_append, List.mem_append]
     rcases h' with h' | h'
     ·subst h'; left; simp
     ·right; exact h'
    have hh : ((activeCall cx f call (hide [d] S) fo args.toList argTypes.toList).bind fun r => wJ cx f r.2 o.dst r.1) = some H := hh
    simp only [Option.bind_eq_some_iff] at hh
    obtain ⟨r, h1, h2⟩ := hh
    exact hput (zCw hoff (hop fo (.inl rfl)) (fun o' h' => hop o' (.inr h')) h1) h2
  have e1 : H = hide [d] S1 := by
   rw [key]
   refine St.ext' (fun t => ?_) rfl
   by_cases h : t = d
   ·subst h; simp [hide, hun]
   ·simp [hide, h, uV h]
  exact ⟨by rw [e1], by rw [key]; exact zN4⟩
theorem zDs (Z : List Nat) (S : SU) : hide (d :: Z) S = hide [d] (hide Z S) := by
 refine St.ext' (fun t => ?_) rfl
 simp only [hide, List.mem_cons, List.not_mem_nil, or_false]
 by_cases h : t = d <;> simp [h]
theorem p9 {S S1 : SU} {ops : Array Oper} {o : Oper} {fo : Operand} {c : Call} (ho : o.op = .call c) (hc : c.callee = .value fo) (ha : yX cx o.op = true) (hs : stepOp cx f call S ops o = some S1) : ∀ {Z : List Nat},
  (∀ d ∈ Z, d ∉ o.looksAt ops ∧ o.dst ≠ some d ∧ Plain (S.s d) ∧ NR d S) → stepOp cx f call (hide Z S) ops o = some (hide Z S1) ∧ ∀ d ∈ Z, S1.s d = S.s d
 | [], _ => ⟨by rw [zDt, zDt]; exact hs, by simp⟩
 | d :: Z, hz => by
  obtain ⟨ih, ih2⟩ := p9 ho hc ha hs (Z := Z) fun d h => hz d (List.mem_cons_of_mem _ h)
  obtain ⟨h1, h2, h3, h4⟩ := hz d List.mem_cons_self
  have hp : Plain ((hide Z S).s d) := by
   simp only [hide]
   split
   ·exact ⟨fun _ _ => rfl, fun _ => rfl, rfl⟩
   ·exact h3
  have hn : NR d (hide Z S) := ⟨fun t => by simp only [hide]; split <;> first | exact h4.rf t | simp [rfX], h4.re⟩
  rw [zDs Z S, zDs Z S1]
  refine ⟨(nS ho hc ha ih h1 h2 hp hn).1, fun e he => ?_⟩
  rcases List.mem_cons.1 he with rfl | he
  ·exact (nS ho hc ha hs h1 h2 h3 h4).2
  ·exact ih2 e he
end
end Go.Proofs.YtlkjnlfddadlmaaGreatDoor.V
namespace Go.Proofs.YtlkjnlfddadlmaaGreatDoor.V
def zF2 (π : List Nat) (n : Nat) : Bool := π.length == n && π.all (fun i => decide (i < n)) && (List.range n).all fun k => π.contains k && π.idxOf (π.getD k 0) == k
structure Perm (π : List Nat) (n : Nat) : Prop where
 len : π.length = n
 lt : ∀ i ∈ π, i < n
 mem : ∀ i, i < n → i ∈ π
 idx : ∀ k i, π[k]? = some i → π.idxOf i = k
theorem zIt {π : List Nat} {n : Nat} (h : zF2 π n = true) : Perm π n := by
 simp only [zF2, Bool.and_eq_true, beq_iff_eq, List.all_eq_true, decide_eq_true_eq, List.mem_range, List.contains_iff_mem] at h
 refine ⟨h.1.1, h.1.2, fun i hi => (h.2 i hi).1, fun k i hk => ?_⟩
 have hlt : k < π.length := (List.getElem?_eq_some_iff.1 hk).1
 have := (h.2 k (by omega)).2
 rwa [List.getD_eq_getElem?_getD, hk, Option.getD_some] at this
theorem zAx {j : Nat} : ∀ {π : List Nat}, j ∉ π → π.length ≤ π.idxOf j
 | [], _ => by simp
 | i :: π, h => by
  simp only [List.mem_cons, not_or] at h
  have := zAx h.2
  have hb : (i == j) = false := by simp only [beq_eq_false_iff_ne, ne_eq]; exact fun e => h.1 e.symm
  simp only [List.idxOf_cons, hb, List.length_cons, cond_false]
  omega
section
variable {π : List Nat} {ops : Array Oper}
theorem Perm.at (h : Perm π ops.size) {i : Nat} (hi : i < ops.size) : π[π.idxOf i]? = some i := by
 obtain ⟨k, hk⟩ := List.getElem?_of_mem (h.mem i hi)
 rw [h.idx k i hk]; exact hk
theorem zB0 (hne : π.isEmpty = false) : (xW π ops).size = π.length := by simp [xW, hne]
theorem tQ (hne : π.isEmpty = false) {k i : Nat} (hk : π[k]? = some i) {o : Oper} (ho : ops[i]? = some o) : (xW π ops)[k]? = some (iB π o) := by
 simp only [xW, hne, Bool.false_eq_true, if_false, List.getElem?_toArray, List.getElem?_map, hk, Option.map_some, ho, Option.getD_some]
theorem zSl (h : Perm π ops.size) (hne : π.isEmpty = false) {k : Nat} {o' : Oper} (hk : (xW π ops)[k]? = some o') : ∃ i o, π[k]? = some i ∧ ops[i]? = some o ∧ o' = iB π o := by
 have hlt : k < π.length := by rw [← zB0 hne]; exact (Array.getElem?_eq_some_iff.1 hk).1
 obtain ⟨i, hi⟩ : ∃ i, π[k]? = some i := ⟨_, List.getElem?_eq_getElem hlt⟩
 have hin := h.lt i (List.mem_of_getElem? hi)
 have ho : ops[i]? = some ops[i] := Array.getElem?_eq_getElem hin
 refine ⟨i, _, hi, ho, ?_⟩
 rw [tQ hne hi ho] at hk
 simpa using hk.symm
def zQj (π : List Nat) (l l' : Array Bool) : Prop := ∀ i ∈ π, l.getD i false = l'.getD (π.idxOf i) false
theorem zJ6 (h : Perm π ops.size) (hne : π.isEmpty = false) (tmps : Array Value) (j : Nat) : yielded (xW π ops) tmps (π.idxOf j) = yielded ops tmps j := by
 unfold yielded
 by_cases hj : j < ops.size
 ·have ho : ops[j]? = some ops[j] := Array.getElem?_eq_getElem hj
  rw [tQ hne (h.at hj) ho, ho]; rfl
 ·have hn : j ∉ π := fun hm => hj (h.lt j hm)
  have h1 : ops[j]? = none := Array.getElem?_eq_none (by omega)
  have h2 : (xW π ops)[π.idxOf j]? = none := Array.getElem?_eq_none (by rw [zB0 hne]; exact zAx hn)
  rw [h1, h2]
theorem zTv (h : Perm π ops.size) (hne : π.isEmpty = false) {P : Program} {Q : Exit → Act → World → Prop} {i : Nat} (hi : i < ops.size) {K : Act → World → Prop} {a : Act} {w : World} (hw : wpOp P (xW π ops) Q (π.idxOf i) K a w) : wpOp P ops Q i K a w := by
 have ho : ops[i]? = some ops[i] := Array.getElem?_eq_getElem hi
 unfold wpOp at hw ⊢
 rw [tQ hne (h.at hi) ho] at hw
 rw [ho]
 generalize ops[i] = o at hw
 have hwt : Region.wanted (iB π o) (yielded (xW π ops) a.tmps) = Region.wanted o (yielded ops a.tmps) := by
  unfold Region.wanted
  cases hg : o.guard with
  | none => simp only [iB, hg, Option.map_none]
  | some q => simp only [iB, hg, Option.map_some, zJ6 h hne]
 simp only [hwt] at hw
 cases o
 exact hw
theorem cL (h : Perm π ops.size) (hne : π.isEmpty = false) {md : Region.Mode} {l l' : Array Bool} (hs : l.size = ops.size) (hs' : l'.size = ops.size) (hl : zQj π l l') {i : Nat} (hi : i < ops.size) : i ∈ Region.ready md ops l ↔ π.idxOf i ∈ Region.ready md (xW π ops) l' := by
 have ho : ops[i]? = some ops[i] := Array.getElem?_eq_getElem hi
 have hd : ∀ (a : Array Bool) (j : Nat), j < a.size → a.getD j true = a.getD j false := fun a j hj => by simp [hj]
 have hix : π.idxOf i < ops.size := by rw [← h.len]; exact (List.getElem?_eq_some_iff.1 (h.at hi)).1
 rw [mem_ready, mem_ready, hd l i (by omega), hd l' _ (by omega), hl i (h.mem i hi)]
 refine and_congr_right fun _ => ?_
 have edge : ∀ j, l.getD j false = true ↔ l'.getD (π.idxOf j) false = true := by
  intro j
  by_cases hj : j < ops.size
  ·rw [hl j (h.mem j hj)]
  ·have hn : j ∉ π := fun hm => hj (h.lt j hm)
   have := zAx hn
   have e1 : l.getD j false = false := by
    have : ¬ j < l.size := by omega
    simp [this]
   have e2 : l'.getD (π.idxOf j) false = false := by
    have : ¬ π.idxOf j < l'.size := by rw [hs', ← h.len]; omega
    simp [this]
   rw [e1, e2]
 constructor
 ·rintro ⟨o, h1, h2⟩
  refine ⟨_, tQ hne (h.at hi) h1, fun e he hb => ?_⟩
  simp only [iB, Array.mem_map] at he
  obtain ⟨e0, he0, rfl⟩ := he
  exact (edge _).1 (h2 e0 he0 hb)
 ·rintro ⟨o', h1, h2⟩
  rw [tQ hne (h.at hi) ho] at h1
  simp only [Option.some.injEq] at h1
  subst h1
  refine ⟨_, ho, fun e he hb => (edge _).2 (h2 { e with on := π.idxOf e.on } ?_ hb)⟩
  simp only [iB, Array.mem_map]
  exact ⟨e, he, rfl⟩
theorem zI0 {md : Region.Mode} {l : Array Bool} {i : Nat} (h : i ∈ Region.ready md ops l) : i < ops.size := by
 obtain ⟨_, o, ho, _⟩ := mem_ready.1 h
 exact (Array.getElem?_eq_some_iff.1 ho).1
theorem zQd (h : Perm π ops.size) (hne : π.isEmpty = false) {P : Program} {md : Region.Mode} {Q : Exit → Act → World → Prop} : ∀ {fuel : Nat} {l l' : Array Bool} {a : Act} {w : World}, l.size = ops.size → l'.size = ops.size → zQj π l l' →
  wpAny P md (xW π ops) Q fuel l' a w → wpAny P md ops Q fuel l a w := by
 have nil : ∀ {l l' : Array Bool}, l.size = ops.size → l'.size = ops.size → zQj π l l' → (Region.ready md ops l = [] ↔ Region.ready md (xW π ops) l' = []) := by
  intro l l' hs hs' hl
  rw [List.eq_nil_iff_forall_not_mem, List.eq_nil_iff_forall_not_mem]
  constructor
  ·intro hn k hk
   obtain ⟨_, o', ho', _⟩ := mem_ready.1 hk
   obtain ⟨i, o, hi, ho, _⟩ := zSl h hne ho'
   refine hn i ((cL h hne hs hs' hl (Array.getElem?_eq_some_iff.1 ho).1).2 ?_)
   rw [h.idx k i hi]; exact hk
  ·intro hn i hi
   exact hn _ ((cL h hne hs hs' hl (zI0 hi)).1 hi)
 intro fuel
 induction fuel with
 | zero =>
  intro l l' a w hs hs' hl hw
  exact ⟨(nil hs hs' hl).2 hw.1, hw.2⟩
 | succ fuel ih =>
  intro l l' a w hs hs' hl hw
  refine ⟨fun hn => hw.1 ((nil hs hs' hl).1 hn), fun i hi => ?_⟩
  have hlt := zI0 hi
  refine zTv h hne hlt (wpOp_mono (fun a w h' => ?_) (hw.2 _ ((cL h hne hs hs' hl hlt).1 hi)))
  refine ih (by simpa using hs) (by simpa using hs') (fun j hj => ?_) h'
  by_cases e : j = i
  ·subst e
   have hix : π.idxOf j < ops.size := by rw [← h.len]; exact (List.getElem?_eq_some_iff.1 (h.at hlt)).1
   simp [hs, hs', hlt, hix]
  ·have hne' : π.idxOf j ≠ π.idxOf i := fun e' => by
    have h1 := h.at (h.lt j hj)
    have h2 := h.at hlt
    rw [e', h2] at h1
    exact e (by simpa using h1.symm)
   rw [getD_set_ne false (Ne.symm e), getD_set_ne false (Ne.symm hne')]
   exact hl j hj
theorem zLf (h : Perm π ops.size) (hne : π.isEmpty = false) {id : Nat} {P : Program} {Q : Exit → Act → World → Prop} {a : Act} {w : World} (hm : P.follows .mixedOrders = true)
  (hw : wpAny P .any (xW π ops) Q ops.size (Array.replicate ops.size false) a { w with drawn := w.drawn + 1 }) : (Code.region id ops true).wp P Q a w := by
 refine wp_region_any hm (zQd h hne (by simp) (by simp) (fun i hi => ?_) hw)
 have hlt := h.lt i hi
 have hix : π.idxOf i < ops.size := by rw [← h.len]; exact (List.getElem?_eq_some_iff.1 (h.at hlt)).1
 simp [hlt, hix]
end
end Go.Proofs.YtlkjnlfddadlmaaGreatDoor.V
namespace Go.Proofs.YtlkjnlfddadlmaaGreatDoor.V
section
variable {cx : Ctx} {f : Nat} {call : zX} {eff : Nat → Eff} {L : Nat → Bool} {b : Nat} {B : SU}
theorem vV {d : Nat} : ∀ {m : Nat}, (∀ k, b ≤ k → k < b + m → d ∉ (eff k).L) → (∀ k, b ≤ k → k < b + m → L k = true → (eff k).dst ≠ some d) → (yP eff L b m B).s d = B.s d
 | 0, _, _ => rfl
 | m + 1, hv, hn => by
  have ih := vV (m := m) (fun k h1 h2 => hv k h1 (by omega)) (fun k h1 h2 => hn k h1 (by omega))
  simp only [yP]
  split
  ·rename_i hl
   rw [bI, if_neg (hn _ (by omega) (by omega) hl), if_neg (hv _ (by omega) (by omega))]; exact ih
  ·exact ih
theorem eM {d k0 : Nat} (hL : L k0 = true) (hd : (eff k0).dst = some d) (hb : b ≤ k0) : ∀ {m : Nat}, k0 < b + m → (∀ k, b ≤ k → k < b + m → d ∉ (eff k).L) → (∀ k, b ≤ k → k < b + m → k ≠ k0 → (eff k).dst ≠ some d) → (yP eff L b m B).s d = (eff k0).x
 | 0, h, _, _ => by omega
 | m + 1, h, hv, hn => by
  simp only [yP]
  by_cases e : b + m = k0
  ·subst e
   rw [if_pos hL, bI, if_pos hd]
  ·have ih := eM hL hd hb (m := m) (by omega) (fun k h1 h2 => hv k h1 (by omega)) (fun k h1 h2 => hn k h1 (by omega))
   split
   ·rw [bI, if_neg (hn _ (by omega) (by omega) e), if_neg (hv _ (by omega) (by omega))]; exact ih
   ·exact ih
theorem zEi {i t : Nat} (hun : ∀ k, b ≤ k → k < i → L k = false → (eff k).dst ≠ some t) : ∀ {m : Nat}, b + m ≤ i → (yP eff (fun _ => true) b m B).s t = .undef ∨ (yP eff (fun _ => true) b m B).s t = (yP eff L b m B).s t
 | 0, _ => .inr rfl
 | m + 1, h => by
  have ih := zEi hun (m := m) (by omega)
  simp only [yP, if_true]
  cases hl : L (b + m) with
  | true =>
   simp only [if_true, bI]
   by_cases h1 : (eff (b + m)).dst = some t
   ·simp [h1]
   ·by_cases h2 : t ∈ (eff (b + m)).L
    ·simp [h1, h2]
    ·simp only [h1, h2, if_false]; exact ih
  | false =>
   have hne := hun (b + m) (by omega) (by omega) hl
   simp only [Bool.false_eq_true, if_false, bI, if_neg hne]
   by_cases h2 : t ∈ (eff (b + m)).L
   ·simp [h2]
   ·simp only [h2, if_false]; exact ih
theorem zJy {i t : Nat} (hb : b ≤ i) : ∀ {m : Nat}, i ≤ b + m → (∀ k, i ≤ k → k < b + m → L k = true → (eff k).dst ≠ some t ∧ t ∉ (eff k).L) → (yP eff L b m B).s t = (yP eff L b (i - b) B).s t
 | 0, h, _ => by
  have : i - b = 0 := by omega
  rw [this]
 | m + 1, h, hk => by
  by_cases e : i = b + m + 1
  ·have : i - b = m + 1 := by omega
   rw [this]
  ·have ih := zJy hb (m := m) (by omega) (fun k h1 h2 => hk k h1 (by omega))
   simp only [yP]
   split
   ·rename_i hl
    obtain ⟨h1, h2⟩ := hk (b + m) (by omega) (by omega) hl
    rw [bI, if_neg h1, if_neg h2]; exact ih
   ·exact ih
def jG (L : Nat → Bool) (i : Nat) : Nat → Bool := fun k => k == i || L k
theorem zMe {i : Nat} (hb : b ≤ i) (hi : L i = false) : ∀ {m : Nat}, i < b + m → (∀ k, i < k → k < b + m → L k = true → (∀ d, (eff i).dst = some d → (eff k).dst ≠ some d ∧ d ∉ (eff k).L) ∧ ∀ d, (eff k).dst = some d → d ∉ (eff i).L) →
  yP eff (jG L i) b m B = (eff i).app (yP eff L b m B)
 | 0, h, _ => by omega
 | m + 1, h, hk => by
  by_cases e : i = b + m
  ·subst e
   have e1 : yP eff (jG L (b + m)) b m B = yP eff L b m B := qP (fun k h1 h2 => by
    have : k ≠ b + m := by omega
    simp [jG, this])
   simp only [yP, hi, jG, beq_self_eq_true, Bool.true_or, if_true, Bool.false_eq_true, if_false]
   rw [← e1]
  ·have ih := zMe hb hi (m := m) (by omega) (fun k h1 h2 => hk k h1 (by omega))
   have hw : jG L i (b + m) = L (b + m) := by
    have : ¬ b + m = i := Ne.symm e
    simp [jG, this]
   simp only [yP, hw, ih]
   split
   ·rename_i hl
    obtain ⟨h1, h2⟩ := hk (b + m) (by omega) (by omega) hl
    exact (zQn (fun d hd => (h1 d hd).1) (fun d hd => (h1 d hd).2) h2).symm
   ·rfl
end
section
variable {cx : Ctx} {f : Nat} {w0 : World} {E0 : Nat → Prop} {P : Nat → Nat → Prop} {R : Nat → Prop} {ea : List EA} {w w' : World} {a : Act} {call : zX} {Pr : Program}
theorem At.wf {n : Nat} {Su : SU} (h : At cx f w0 E0 P R ea n Su a w) : ∀ t d, Root.sl d ∈ xX (Su.s t) → zB cx f d = true ∧ Su.s d ≠ .undef := by
 obtain ⟨S, hr, rfl, _, _⟩ := h
 intro t d hd
 have hm : Root.sl d ∈ zD (S.s t) := by
  have e : xX ((V.erS S).s t) = xX (erX (S.s t)) := rfl
  rw [e] at hd
  by_cases ht : ∃ ys, S.s t = .tup ys
  ·obtain ⟨ys, ht⟩ := ht
   rw [ht] at hd; simp [erX, zW, xX] at hd
  ·rwa [zEn (fun ys e => ht ⟨ys, e⟩)] at hd
 refine ⟨hr.refS t d hm, fun hu => ?_⟩
 obtain ⟨cs, hc⟩ := fV hr.eaL (hr.okS t) _ hm
 have : S.s d = .undef := by
  have hu' : erX (S.s d) = .undef := hu
  cases hs : S.s d <;> simp [hs, erX, zW] at hu'
  rfl
 simp [zA, this] at hc
mutual
theorem zSu : ∀ x : XV, rfX (erX x) = zD x
 | .c c => by simp only [erX, zW, rfX, zD]; exact dJ c
 | .agg cs => by simp only [erX, zW, rfX, zD]; exact qQ cs
 | .box v cs => by simp only [erX, zW, rfX, zD]; exact qQ cs
 | .tup ys => by
  have := zN9 ys
  simp only [erX, zW, rfX, zD]; exact this
 | .undef => rfl
theorem zN9 : ∀ xs : List XV, uW (wG er0 xs) = yN xs
 | [] => rfl
 | x :: xs => by
  have h1 := zSu x
  have h2 := zN9 xs
  simp only [wG, uW, yN, ← h1, ← h2]
end
theorem At.wf2 {n : Nat} {Su : SU} (h : At cx f w0 E0 P R ea n Su a w) : (∀ t d, Root.sl d ∈ rfX (Su.s t) → Su.s d ≠ .undef) ∧ ∀ cs d, cs ∈ Su.e → Root.sl d ∈ zN true cs → Su.s d ≠ .undef := by
 obtain ⟨S, hr, rfl, _, _⟩ := h
 have nz : ∀ d cs, zA S (.sl d) = some cs → (V.erS S).s d ≠ .undef := by
  intro d cs hc hu
  have : S.s d = .undef := by
   have hu' : erX (S.s d) = .undef := hu
   cases hs : S.s d <;> simp [hs, erX, zW] at hu'
   rfl
  simp [zA, this] at hc
 refine ⟨fun t d hd => ?_, fun cs d hc hd => ?_⟩
 ·have e : rfX ((V.erS S).s t) = zD (S.s t) := zSu _
  rw [e] at hd
  obtain ⟨cs, hc⟩ := fV hr.eaL (hr.okS t) _ hd
  exact nz d cs hc
 ·simp only [V.erS, jJ, List.mem_map] at hc
  obtain ⟨ds, hds, rfl⟩ := hc
  obtain ⟨j, hj⟩ := List.getElem?_of_mem hds
  have e : zN true (yY er0 ds) = zK ds := qQ ds
  rw [e] at hd
  obtain ⟨cs, hc⟩ := gH hr.eaL (hr.okE j ds hj).1 _ hd
  exact nz d cs hc
structure EffP (cx : Ctx) (f : Nat) (call : zX) (ops : Array Oper) (S1 S1' : SU) (o : Oper) (e : Eff) : Prop where
 dst : e.dst = o.dst
 app : S1' = e.app S1
 L : ∀ t ∈ e.L, Operand.tmp t ∈ o.op.operands.toList ∧ zB cx f t = false ∧ yQ (S1.s t) = true
 new : ∀ d, o.dst = some d → zB cx f d = true → S1.s d = .undef
 mono : ∀ S2, (∀ d ∈ o.looksAt ops, S1.s d = .undef ∨ S1.s d = S2.s d) → Agr S1 S2 o.op.operands.toList → HR cx f S1 S2 o.op.operands.toList → (∀ d, o.dst = some d → zB cx f d = true → S2.s d = .undef) →
  stepOp cx f call S2 ops o = some (e.app S2) ∧ vI cx f ops S2 o = true
theorem gQ {id k : Nat} {ops : Array Oper} {S S' : SU} {o : Oper} (h : bW cx f call id ops k S o = some S') : (cx.ord f id k = true ∨ vI cx f ops S o = true) ∧ (∀ t ∈ cx.shr f id k, zB cx f t = true ∨ yQ (S.s t) = false) ∧ stepOp cx f call S ops o = some S' ∧ zEl cx f id ops S' (zEh cx f id k) := by
 unfold bW at h
 split at h
 ·rename_i hc
  simp only [Bool.and_eq_true, Bool.or_eq_true, List.all_eq_true, Bool.not_eq_true'] at hc
  cases hs : stepOp cx f call S ops o with
  | none => simp [hs] at h
  | some S1 =>
   simp only [hs, Option.bind_some] at h
   unfold zKi at h
   split at h
   ·next he => simp only [Option.some.injEq] at h; subst h; exact ⟨hc.1, hc.2, rfl, by rw [he]; trivial⟩
   ·next y Y he =>
    split at h
    ·next hr => simp only [Option.some.injEq] at h; subst h; exact ⟨hc.1, hc.2, rfl, by rw [he]; exact hr⟩
    ·cases h
 ·cases h
def Eff.nil : Eff := ⟨none, .undef, []⟩
theorem zMj (S : SU) : Eff.nil.app S = S := St.ext' (fun t => by rw [bI]; simp [Eff.nil]) (zMi _ _)
structure TRun (cx : Ctx) (f : Nat) (call : zX) (id : Nat) (ops : Array Oper) (S : Nat → SU) (L0 : Nat → Bool) (eff : Nat → Eff) : Prop where
 done : ∀ k, L0 k = true → S (k + 1) = S k ∧ eff k = Eff.nil
 step : ∀ k o, ops[k]? = some o → L0 k = false → bW cx f call id ops k (S k) o = some (S (k + 1))
 soft : ∀ k o, ops[k]? = some o → L0 k = false → vI cx f ops (S k) o = true → EffP cx f call ops (S k) (S (k + 1)) o (eff k)
theorem effs (id : Nat) (ops : Array Oper) (S : Nat → SU) (L0 : Nat → Bool) (hD : ∀ k, L0 k = true → S (k + 1) = S k) (hS : ∀ k o, ops[k]? = some o → L0 k = false → bW cx f call id ops k (S k) o = some (S (k + 1))) :
  ∃ eff : Nat → Eff, TRun cx f call id ops S L0 eff := by
 have : ∀ k, ∃ e : Eff, (L0 k = true → e = Eff.nil) ∧ ∀ o, ops[k]? = some o → L0 k = false → vI cx f ops (S k) o = true → EffP cx f call ops (S k) (S (k + 1)) o e := by
  intro k
  cases hl : L0 k with
  | true => exact ⟨Eff.nil, fun _ => rfl, fun o _ h => by cases h⟩
  | false =>
   cases ho : ops[k]? with
   | none => exact ⟨Eff.nil, (fun h => by cases h), (fun o h => by cases h)⟩
   | some o =>
    by_cases hs : vI cx f ops (S k) o = true
    ·obtain ⟨e, h1, h2, h3, h4, h5⟩ := zJr hs (gQ (hS k o ho hl)).2.2.1
     exact ⟨e, (fun h => by cases h), fun o' h' _ _ => by simp only [Option.some.injEq] at h'; subst h'; exact ⟨h1, h2, h3, h4, h5⟩⟩
    ·exact ⟨Eff.nil, (fun h => by cases h), fun o' h' _ hs' => by simp only [Option.some.injEq] at h'; subst h'; exact absurd hs' hs⟩
 obtain ⟨eff, h⟩ := Classical.axiomOfChoice this
 exact ⟨eff, ⟨fun k hk => ⟨hD k hk, (h k).1 hk⟩, hS, fun k => (h k).2⟩⟩
section seg
variable {id : Nat} {ops : Array Oper} {T : List Nat} {S : Nat → SU} {eff : Nat → Eff} {b c : Nat} {L0 : Nat → Bool}
theorem uD (hT : TRun cx f call id ops S L0 eff) (hc : c ≤ ops.size)
  (hsoft : ∀ k o, b ≤ k → k < c → L0 k = false → ops[k]? = some o → vI cx f ops (S k) o = true) : ∀ m, b + m ≤ c → S (b + m) = yP eff (fun _ => true) b m (S b)
 | 0, _ => rfl
 | m + 1, h => by
  have ih := uD hT hc hsoft m (by omega)
  have ho : ops[b + m]? = some (ops[b + m]'(by omega)) := Array.getElem?_eq_getElem (by omega)
  simp only [yP, if_true]
  rw [← ih]
  cases hl : L0 (b + m) with
  | true =>
   obtain ⟨h1, h2⟩ := hT.done _ hl
   rw [h2, zMj]; exact h1
  | false => exact (hT.soft (b + m) _ ho hl (hsoft (b + m) _ (by omega) (by omega) hl ho)).app
theorem zJb (hd : DrawOk cx f id ops T) (hT : TRun cx f call id ops S L0 eff) (hc : c ≤ ops.size)
  (hsoft : ∀ k o, b ≤ k → k < c → L0 k = false → ops[k]? = some o → vI cx f ops (S k) o = true) (hno : ∀ k, b ≤ k → k < c → L0 k = false → cx.ord f id k = false) {L : Nat → Bool} (hL0 : ∀ k, k < c → L0 k = true → L k = true) (hcl : mL ops L) {n : Nat} {cur : SU} (hat : At cx f w0 E0 P R ea n cur a w)
  (hcur : cur = yP eff L b (c - b) (S b)) {i : Nat} {o : Oper} (hbi : b ≤ i) (hic : i < c) (hi : ops[i]? = some o) (hLi : L i = false) (hrd : ∀ e ∈ o.after, Region.binds .any e = true → L e.on = true) :
  stepOp cx f call cur ops o = some ((eff i).app cur) ∧ vI cx f ops cur o = true ∧ (eff i).app cur = yP eff (jG L i) b (c - b) (S b) := by
 have hget : ∀ k (hk : k < c), ops[k]? = some (ops[k]'(Nat.lt_of_lt_of_le hk hc)) := fun k hk => Array.getElem?_eq_getElem (by omega)
 have hun : ∀ k, k < c → L k = false → L0 k = false := fun k hkc hk => by
  cases h : L0 k with
  | false => rfl
  | true => rw [hL0 k hkc h] at hk; cases hk
 have hE : ∀ k (hk1 : b ≤ k) (hk2 : k < c), L0 k = false → EffP cx f call ops (S k) (S (k + 1)) (ops[k]'(by omega)) (eff k) := fun k hk1 hk2 hk3 => hT.soft k _ (hget k hk2) hk3 (hsoft k _ hk1 hk2 hk3 (hget k hk2))
 have hEi : EffP cx f call ops (S i) (S (i + 1)) o (eff i) := hT.soft i o hi (hun i hic hLi) (hsoft i o hbi hic (hun i hic hLi) hi)
 have hdn : ∀ k (hk1 : b ≤ k) (hk2 : k < c) d, (eff k).dst = some d → L0 k = false ∧ (ops[k]'(by omega)).dst = some d := fun k hk1 hk2 d hk => by
  cases h : L0 k with
  | false => exact ⟨rfl, by rw [← (hE k hk1 hk2 h).dst]; exact hk⟩
  | true => rw [(hT.done k h).2] at hk; cases hk
 -- what is not ordered with i
 have hlow : ∀ k, b ≤ k → k < i → L k = false → (ops[k]?.getD o).apart ops o = true := by
  intro k h1 h2 h3
  have hk := hget k (by omega)
  rw [hk]
  refine hd.apart k i _ o h2 hk hi ?_
  cases hb : (T.getD i 0).testBit k with
  | false => rfl
  | true =>
   have := (hd.closed hcl (i + 1) i o (by omega) hi hrd k hb).1
   rw [h3] at this; cases this
 have hunk : ∀ k, i < k → k < c → L k = true → (T.getD k 0).testBit i = false := by
  intro k h1 h2 h3
  have hk := hget k h2
  cases hb : (T.getD k 0).testBit i with
  | false => rfl
  | true =>
   have := (hd.closed hcl (k + 1) k _ (by omega) hk (fun e he hb' => hcl k _ h3 hk e he hb') i hb).1
   rw [hLi] at this; cases this
 have hhigh : ∀ k (h1 : i < k) (h2 : k < c), L k = true → o.apart ops (ops[k]'(Nat.lt_of_lt_of_le h2 hc)) = true ∧ ∀ t ∈ o.looksAt ops, t ∉ (eff k).L := by
  intro k h1 h2 h3
  have hk := hget k h2
  have hu := hunk k h1 h2 h3
  refine ⟨hd.apart i k o _ h1 hi hk hu, fun t ht hL => ?_⟩
  cases h0 : L0 k with
  | true => rw [(hT.done k h0).2] at hL; simp [Eff.nil] at hL
  | false =>
   obtain ⟨g1, g2, g3⟩ := (hE k (by omega) h2 h0).L t hL
   have hsh := hd.shr i k o _ h1 hi hk hu (hno k (by omega) h2 h0) t ht g1
   rcases (gQ (hT.step k _ hk h0)).2.1 t hsh with h' | h'
   ·rw [g2] at h'; cases h'
   ·rw [g3] at h'; cases h'
 have htext : S i = yP eff (fun _ => true) b (i - b) (S b) := by
  have := uD hT hc hsoft (i - b) (by omega)
  rwa [show b + (i - b) = i by omega] at this
 -- the slots that the operation looks at
 have hslot : ∀ t ∈ o.looksAt ops, (S i).s t = .undef ∨ (S i).s t = cur.s t := by
  intro t ht
  have h1 := zEi (eff := eff) (L := L) (B := S b) (b := b) (i := i) (t := t) (fun k h1 h2 h3 => by
   have hap := hlow k h1 h2 h3
   have hk := hget k (by omega)
   rw [hk, Option.getD_some] at hap
   rw [(hE k h1 (by omega) (hun k (by omega) h3)).dst]
   intro e
   exact (Oper.apart_spec hap).1 t e ht) (m := i - b) (by omega)
  have h2 := zJy (eff := eff) (L := L) (B := S b) (t := t) hbi (m := c - b) (by omega) (fun k h1 h2 h3 => by
   have hne : k ≠ i := fun e => by rw [e, hLi] at h3; cases h3
   obtain ⟨g1, g2⟩ := hhigh k (by omega) (by omega) h3
   refine ⟨?_, g2 t ht⟩
   intro e
   exact (Oper.apart_spec g1).2.2 t (hdn k (by omega) (by omega) t e).2 ht)
  rw [← htext] at h1
  rw [hcur, h2]
  exact h1
 -- who writes a name
 have hvL : ∀ d, zB cx f d = true → ∀ k, b ≤ k → k < c → d ∉ (eff k).L := by
  intro d hv k h1 h2 hd'
  cases h0 : L0 k with
  | true => rw [(hT.done k h0).2] at hd'; simp [Eff.nil] at hd'
  | false =>
   have := ((hE k h1 h2 h0).L d hd').2.1
   rw [hv] at this; cases this
 have huniq : ∀ d k0 k, b ≤ k0 → k0 < c → b ≤ k → k < c → (eff k0).dst = some d → k ≠ k0 → (eff k).dst ≠ some d := by
  intro d k0 k h1 h2 h3 h4 hk0 hne hk
  obtain ⟨u0, hk0⟩ := hdn k0 h1 h2 d hk0
  obtain ⟨u1, hk⟩ := hdn k h3 h4 d hk
  rcases hd.dst k k0 _ _ d hne (hget k h4) (hget k0 h2) hk hk0 with h' | h'
  ·rw [hno k h3 h4 u1] at h'; cases h'
  ·rw [hno k0 h1 h2 u0] at h'; cases h'
 have hfresh : ∀ d, zB cx f d = true → ∀ k0, b ≤ k0 → k0 < c → (eff k0).dst = some d → (S b).s d = .undef := by
  intro d hv k0 h1 h2 hk0
  obtain ⟨u0, hk0'⟩ := hdn k0 h1 h2 d hk0
  have h3 := (hE k0 h1 h2 u0).new d hk0' hv
  have h4 := uD hT hc hsoft (k0 - b) (by omega)
  rw [show b + (k0 - b) = k0 by omega] at h4
  rw [h4, vV (fun k g1 g2 => hvL d hv k g1 (by omega)) (fun k g1 g2 _ => huniq d k0 k h1 h2 g1 (by omega) hk0 (by omega))] at h3
  exact h3
 have hroot : ∀ d, zB cx f d = true → cur.s d ≠ .undef → (S i).s d = .undef ∨ (S i).s d = cur.s d := by
  intro d hv hne
  by_cases hw : ∃ k0, b ≤ k0 ∧ k0 < c ∧ (eff k0).dst = some d
  ·obtain ⟨k0, h1, h2, h3⟩ := hw
   have hf := hfresh d hv k0 h1 h2 h3
   by_cases hL : L k0 = true
   ·have e1 : cur.s d = (eff k0).x := by
     rw [hcur]
     exact eM hL h3 h1 (by omega) (fun k g1 g2 => hvL d hv k g1 (by omega)) (fun k g1 g2 g3 => huniq d k0 k h1 h2 g1 (by omega) h3 g3)
    by_cases hlt : k0 < i
    ·right
     rw [e1, htext]
     exact eM (L := fun _ => true) rfl h3 h1 (by omega) (fun k g1 g2 => hvL d hv k g1 (by omega)) (fun k g1 g2 g3 => huniq d k0 k h1 h2 g1 (by omega) h3 g3)
    ·left
     rw [htext, vV (fun k g1 g2 => hvL d hv k g1 (by omega)) (fun k g1 g2 _ => huniq d k0 k h1 h2 g1 (by omega) h3 (by omega))]
     exact hf
   ·exfalso
    apply hne
    rw [hcur, vV (fun k g1 g2 => hvL d hv k g1 (by omega)) (fun k g1 g2 g3 => huniq d k0 k h1 h2 g1 (by omega) h3 (fun e => hL (e ▸ g3)))]
    exact hf
  ·right
   have hn : ∀ k, b ≤ k → k < c → (eff k).dst ≠ some d := fun k h1 h2 h3 => hw ⟨k, h1, h2, h3⟩
   rw [hcur, htext, vV (fun k g1 g2 => hvL d hv k g1 (by omega)) (fun k g1 g2 _ => hn k g1 (by omega)), vV (fun k g1 g2 => hvL d hv k g1 (by omega)) (fun k g1 g2 _ => hn k g1 (by omega))]
 have hwf := hat.wf
 have hrefs : ∀ t ∈ o.looksAt ops, ∀ d, Root.sl d ∈ xX ((S i).s t) → zB cx f d = true ∧ cur.s d ≠ .undef := by
  intro t ht d hr
  rcases hslot t ht with e | e
  ·rw [e] at hr; simp [xX] at hr
  ·rw [e] at hr; exact hwf t d hr
 have hagr : Agr (S i) cur o.op.operands.toList := by
  refine ⟨fun t ht => hslot t (kP ht), fun t ht r hr => ?_⟩
  cases r with
  | sl d =>
   obtain ⟨h1, h2⟩ := hrefs t (kP ht) d hr
   rcases hroot d h1 h2 with e | e
   ·left; simp [zA, e]
   ·right; simp only [zA, e]
  | ex j =>
   right
   have e : (S i).e = cur.e := by rw [htext, hcur, f0, f0]
   simp only [zA, e]
 have hnew : ∀ d, o.dst = some d → zB cx f d = true → cur.s d = .undef := by
  intro d hdst hv
  have hk : (eff i).dst = some d := by rw [hEi.dst]; exact hdst
  rw [hcur, vV (fun k g1 g2 => hvL d hv k g1 (by omega)) (fun k g1 g2 g3 => huniq d i k hbi hic g1 (by omega) hk (fun e => by rw [e, hLi] at g3; cases g3))]
  exact hfresh d hv i hbi hic hk
 obtain ⟨h1, h2⟩ := hEi.mono cur hslot hagr (.inr fun t ht k hk => (hrefs t (kP ht) k hk).1) hnew
 refine ⟨h1, h2, ?_⟩
 rw [hcur]
 refine (zMe hbi hLi (by omega) (fun k g1 g2 g3 => ?_)).symm
 obtain ⟨hap, _⟩ := hhigh k g1 (by omega) g3
 have hsp := Oper.apart_spec hap
 refine ⟨fun d hd' => ?_, fun d hd' hL => ?_⟩
 ·rw [hEi.dst] at hd'
  refine ⟨fun e => hsp.2.1 d hd' (hdn k (by omega) (by omega) d e).2, fun hL => ?_⟩
  cases h0 : L0 k with
  | true => rw [(hT.done k h0).2] at hL; simp [Eff.nil] at hL
  | false => exact hsp.1 d hd' (kP ((hE k (by omega) (by omega) h0).L d hL).1)
 ·exact hsp.2.2 d (hdn k (by omega) (by omega) d hd').2 (kP (hEi.L d hL).1)
end seg
def mN (cx : Ctx) (f : Nat) (call : zX) (Pr : Program) (w0 : World) (E0 : Nat → Prop) (P : Nat → Nat → Prop) (R : Nat → Prop) (ea : List EA) (n : Nat) : Prop :=
 ∀ (ops : Array Oper) (o : Oper) (i : Nat) (Su Su' : SU) (a : Act) (w : World), At cx f w0 E0 P R ea n Su a w → ops[i]? = some o → (∀ d, o.dst = some d → d < n) → stepOp cx f call Su ops o = some Su' →
  ∀ (K : Act → World → Prop) (Q : Exit → Act → World → Prop), (∀ a' w', At cx f w0 E0 P R ea n Su' a' w' → K a' w') → wpOp Pr ops Q i K a w
theorem zBl (g : Nat → Bool) (n : Nat) : ∀ (m b : Nat), b + m = n → ∃ c, b ≤ c ∧ c ≤ n ∧ (∀ k, b ≤ k → k < c → g k = false) ∧ (c = n ∨ g c = true)
 | 0, b, h => ⟨b, Nat.le_refl _, by omega, fun k h1 h2 => by omega, .inl (by omega)⟩
 | m + 1, b, h => by
  by_cases hg : g b = true
  ·exact ⟨b, Nat.le_refl _, by omega, fun k h1 h2 => by omega, .inr hg⟩
  ·obtain ⟨c, h1, h2, h3, h4⟩ := zBl g n m (b + 1) (by omega)
   refine ⟨c, by omega, h2, fun k h5 h6 => ?_, h4⟩
   by_cases e : k = b
   ·subst e; simpa using hg
   ·exact h3 k (by omega) h6
def left (n : Nat) (listed : Array Bool) : Nat := ((List.range n).filter fun i => !listed.getD i false).length
theorem zDp {β : Type} {p q : β → Bool} : ∀ {l : List β}, (∀ x ∈ l, q x = true → p x = true) → (∃ x ∈ l, p x = true ∧ q x = false) → (l.filter q).length < (l.filter p).length
 | [], _, h => by obtain ⟨x, hx, _⟩ := h; cases hx
 | y :: l, h1, h2 => by
  have hle : (l.filter q).length ≤ (l.filter p).length := by
   clear h2
   induction l with
   | nil => simp
   | cons z l ih =>
    have ih := ih (fun x hx => h1 x (by rcases List.mem_cons.1 hx with rfl | hx <;> simp [*]))
    have hz := h1 z (by simp)
    simp only [List.filter_cons]
    cases hq : q z <;> cases hp : p z <;> simp_all <;> omega
  by_cases hy : p y = true ∧ q y = false
  ·simp only [List.filter_cons, hy.1, hy.2, if_true, List.length_cons, Bool.false_eq_true, if_false]
   omega
  ·obtain ⟨x, hx, hx1, hx2⟩ := h2
   rcases List.mem_cons.1 hx with rfl | hx
   ·exact absurd ⟨hx1, hx2⟩ hy
   ·have ih := zDp (fun x hx => h1 x (List.mem_cons_of_mem _ hx)) ⟨x, hx, hx1, hx2⟩
    have hyy := h1 y (List.mem_cons_self)
    simp only [List.filter_cons]
    cases hq : q y <;> cases hp : p y <;> simp_all
theorem zH3 {n i : Nat} {listed : Array Bool} (hi : i < n) (hs : listed.size = n) (hl : listed.getD i false = false) : left n (listed.setIfInBounds i true) < left n listed := by
 unfold left
 refine zDp (fun x hx h => ?_) ⟨i, List.mem_range.2 hi, by simp [hl], ?_⟩
 ·simp only [Bool.not_eq_true'] at h ⊢
  cases hx' : listed.getD x false with
  | false => rfl
  | true => rw [getD_set_true hx'] at h; cases h
 ·have : i < listed.size := by omega
  simp [this]
theorem xF {ops : Array Oper} {Y : List Nat} {t : Nat} : t ∈ qI ops Y ↔ ∃ y ∈ Y, ∃ o, ops[y]? = some o ∧ o.dst = some t := by
 simp only [qI, List.mem_filterMap, Option.bind_eq_some_iff]
def uK (Z : List Nat) (a b : Act) : Prop := a.defers = b.defers ∧ a.tmps.size = b.tmps.size ∧ ∀ t, t ∉ Z → a.tmps[t]? = b.tmps[t]?
theorem uK.refl {Z : List Nat} {a : Act} : uK Z a a := ⟨rfl, rfl, fun _ _ => rfl⟩
theorem uK.put {Z : List Nat} {a b : Act} (h : uK Z a b) (d : Option Nat) (v : Value) : uK Z (a.put d v) (b.put d v) := by
 cases d with
 | none => exact h
 | some d =>
  refine ⟨h.1, by simp only [Act.put, Array.size_setIfInBounds]; exact h.2.1, fun t ht => ?_⟩
  simp only [Act.put, Array.getElem?_setIfInBounds, h.2.1, h.2.2 t ht]
theorem uK.later {Z : List Nat} {a b : Act} (h : uK Z a b) {d : Nat} (hd : d ∈ Z) (v : Value) : uK Z a (b.put (some d) v) := by
 refine ⟨h.1, by simp only [Act.put, Array.size_setIfInBounds]; exact h.2.1, fun t ht => ?_⟩
 have : d ≠ t := fun e => ht (e ▸ hd)
 simp only [Act.put, Array.getElem?_setIfInBounds, if_neg this]
 exact h.2.2 t ht
theorem uK.eval {Z : List Nat} {a b : Act} (h : uK Z a b) {x : Operand} (hx : ∀ t, x = .tmp t → t ∉ Z) : a.eval x = b.eval x := by
 cases x with
 | tmp t =>
  have := h.2.2 t (hx t rfl)
  simp only [Act.eval, Array.getD_eq_getD_getElem?, this]
 | _ => rfl
theorem zQc {Z : List Nat} {o : Oper} {a b : Act} {K : Act → World → Prop} {Q : Exit → Act → World → Prop} {r : Result Next} (hs : uK Z a b) (h : o.upon Pr b (fun b w => ∀ a, uK Z a b → K a w) (fun e b w => ∀ a, uK Z a b → Q e a w) r) : o.upon Pr a K Q r := by
 cases r with
 | ok n w' =>
  cases n <;> simp only [Oper.upon] at h ⊢
  case value v => exact h _ (hs.put _ _)
  case skip => exact h _ (hs.put _ _)
  case defer d => exact h _ (uK.put (a := { a with defers := d :: a.defers }) (b := { b with defers := d :: b.defers }) ⟨by simp only [hs.1], hs.2.1, hs.2.2⟩ _ _)
  case enter f args =>
   refine Calls.mono h fun e w'' he => ?_
   cases e with
   | returned v => exact he _ (hs.put _ _)
   | panicked c => exact he _ hs
   | outgrown => obtain ⟨b', w3, h'⟩ := he; exact ⟨b', w3, h' b' uK.refl⟩
  case row r args => exact Rows.mono h fun v w'' he => he _ (hs.put _ _)
 | halt x w' =>
  cases x <;> simp only [Oper.upon] at h ⊢
  case panic v => exact h _ hs
theorem m0 {o : Oper} (h3 : rN o.op = true) {ρ ρ' : Operand → Value} (h : ∀ x ∈ o.op.operands.toList, ρ x = ρ' x) : execOp ρ o = execOp ρ' o := by
 cases ho : o.op with
 | assign x =>
  rw [ho] at h
  simp only [execOp, ho, h x (by simp [Op.operands])]
 | store t a x =>
  rw [ho] at h
  simp only [execOp, ho, h a (by simp [Op.operands]), h x (by simp [Op.operands])]
 | call c =>
  rw [ho] at h
  have hc : ∀ x ∈ c.operands.toList, ρ x = ρ' x := by simpa [Op.operands] using h
  have ha : c.args.map ρ = c.args.map ρ' := by
   apply Array.map_congr_left
   intro x hx
   refine hc x ?_
   cases hcal : c.callee <;> simp [Call.operands, hcal, hx]
  have hr : resolve ρ c o.type = resolve ρ' c o.type := by
   unfold resolve
   rw [ha]
   cases hcal : c.callee with
   | builtin b => rfl
   | invoke recv name => simp only [hc recv (by simp [Call.operands, hcal])]
   | value f => simp only [hc f (by simp [Call.operands, hcal])]
  simp only [execOp, ho, hr]
 | _ => rw [ho] at h3; simp [rN] at h3
theorem zQe {Z : List Nat} {ops : Array Oper} {o : Oper} {i : Nat} {a b : Act} {w : World} {K : Act → World → Prop} {Q : Exit → Act → World → Prop} (hi : ops[i]? = some o) (h3 : rN o.op = true) (hl : ∀ t ∈ o.looksAt ops, t ∉ Z) (hs : uK Z a b)
  (h : wpOp Pr ops (fun e b w => ∀ a, uK Z a b → Q e a w) i (fun b w => ∀ a, uK Z a b → K a w) b w) : wpOp Pr ops Q i K a w := by
 simp only [wpOp, hi] at h ⊢
 have e1 : execOp a.eval o = execOp b.eval o := m0 h3 fun x hx => hs.eval fun t ht => hl t (kP (ht ▸ hx))
 have e2 : Region.wanted o (yielded ops a.tmps) = Region.wanted o (yielded ops b.tmps) := by
  unfold Region.wanted
  cases hg : o.guard with
  | none => rfl
  | some g =>
   obtain ⟨j, want⟩ := g
   simp only [yielded]
   cases hd : (ops[j]?).bind (·.dst) with
   | none => rfl
   | some d =>
    have hm : d ∈ o.looksAt ops := by
     simp only [Oper.looksAt, hg, hd, List.mem_append]
     right; simp
    simp only [Option.bind_some, hs.2.2 d (hl d hm)]
 rw [e2]
 split
 ·rename_i hw
  simp only [hw, if_true] at h
  rcases h with h | ⟨h1, h2⟩
  ·left
   unfold Oper.wp at h ⊢
   rw [e1]
   exact zQc hs h
  ·right
   obtain ⟨b', w3, h'⟩ := h2
   exact ⟨by unfold Oper.asks at h1 ⊢; rw [e1]; exact h1, b', w3, h' b' uK.refl⟩
 ·rename_i hw
  simp only [hw] at h
  exact h _ (hs.put _ _)
theorem jW {α : Type} (Z : List Nat) (S : St α) (t : Nat) : (hide Z S).s t = if t ∈ Z then .undef else S.s t := rfl
theorem s9 {α : Type} (S : St α) : hide [] S = S := by cases S; simp [hide]
theorem Rel.hide {S : SV} {tmps : Array Value} (h : Rel (zB cx f) w0 E0 P R ea w S tmps) : ∀ {Z : List Nat}, (∀ d ∈ Z, zB cx f d = false) → Rel (zB cx f) w0 E0 P R ea w (V.hide Z S) tmps
 | [], _ => by rw [s9]; exact h
 | d :: Z, hZ => by
  have ih := h.hide (Z := Z) (fun d hd => hZ d (List.mem_cons_of_mem _ hd))
  have hv := hZ d List.mem_cons_self
  have := ih.clear (ih.noMen (d := d) (fun h' => by rw [hv] at h'; cases h'))
  have e : V.hide (d :: Z) S = { V.hide Z S with s := upd (V.hide Z S).s d .undef } := by
   simp only [V.hide]
   congr 1
   funext t
   simp only [upd, List.mem_cons]
   by_cases h1 : t = d
   ·simp [h1]
   ·simp [h1]
  rw [e]; exact this
theorem At.hide {n : Nat} {Su : SU} {b : Act} {Z : List Nat} (h : At cx f w0 E0 P R ea n Su b w) (hZ : ∀ d ∈ Z, zB cx f d = false) (hs : uK Z a b) : At cx f w0 E0 P R ea n (V.hide Z Su) a w := by
 obtain ⟨S, hr, rfl, hd, hsz⟩ := h
 have hr' := hr.hide hZ
 refine ⟨V.hide Z S, { hr' with val := fun d hd' => ?_, hi := fun d hd' => hr'.hi d (by rw [← hs.2.1]; exact hd') }, ?_, by rw [hs.1]; exact hd, by rw [hs.2.1]; exact hsz⟩
 ·by_cases hm : d ∈ Z
  ·left; simp [V.hide, hm]
  ·rw [hs.2.2 d hm]
   exact hr'.val d (by rw [← hs.2.1]; exact hd')
 ·simp only [V.erS, jJ, V.hide]
  congr 1
  funext t
  split
  ·simp [zW]
  ·rfl
theorem nJ {id : Nat} {ops : Array Oper} {S1 : SU} {k : Nat} : ∀ {Y : List Nat}, zEl cx f id ops S1 Y → k ∈ Y → ∃ Y2, (∀ z ∈ Y, k ≤ z → z = k ∨ z ∈ Y2) ∧ (∀ z ∈ Y2, z ∈ Y ∧ k < z) ∧
  ∃ o d, ops[k]? = some o ∧ o.dst = some d ∧ j4 o.op = true ∧ zB cx f d = false ∧ cx.ord f id k = false ∧ (∀ t ∈ cx.shr f id k, zB cx f t = true ∨ yQ (S1.s t) = false) ∧ stepOp cx f lX (V.hide (qI ops (k :: Y2)) S1) ops o = some (V.hide (qI ops Y2) S1)
 | y :: Y, h, hk => by
  obtain ⟨⟨hs, o, d, h1⟩, h2⟩ := h
  rcases List.mem_cons.1 hk with rfl | hk
  ·exact ⟨Y, fun z hz hkz => (List.mem_cons.1 hz), fun z hz => ⟨List.mem_cons_of_mem _ hz, hs z hz⟩, o, d, h1⟩
  ·obtain ⟨Y2, g1, g2, g3⟩ := nJ h2 hk
   refine ⟨Y2, fun z hz hkz => ?_, fun z hz => ⟨List.mem_cons_of_mem _ (g2 z hz).1, (g2 z hz).2⟩, g3⟩
   rcases List.mem_cons.1 hz with e | hz
   ·have := hs k hk; omega
   ·exact g1 z hz hkz
theorem zEm {id : Nat} {ops : Array Oper} {T : List Nat} {S1 : SU} (hd : DrawOk cx f id ops T) {Y : List Nat} (hr : zEl cx f id ops S1 Y) {M : List Nat} (hM : ∀ y ∈ M, y ∈ Y) (hwf : ∀ t d, Root.sl d ∈ xX (S1.s t) → zB cx f d = true ∧ S1.s d ≠ .undef) {k : Nat} (hk : k ∈ M) {o : Oper} (ho : ops[k]? = some o) :
  j4 o.op = true ∧ cx.ord f id k = false ∧ (∃ d, o.dst = some d ∧ zB cx f d = false) ∧ bW cx f call id ops k (V.hide (qI ops (M.filter fun y => decide (k ≤ y))) S1) o = some (V.hide (qI ops (M.filter fun y => decide (k + 1 ≤ y))) S1) := by
 obtain ⟨Y2, g1, g2, o', d, k1, k2, k3, k4, k5, k6, k7⟩ := nJ hr (hM k hk)
 rw [ho] at k1
 simp only [Option.some.injEq] at k1
 subst k1
 refine ⟨k3, k5, ⟨d, k2, k4⟩, ?_⟩
 have hord : ∀ y ∈ Y, cx.ord f id y = false := fun y hy => by
  obtain ⟨_, _, _, _, _, _, _, _, _, h5, _⟩ := nJ hr hy
  exact h5
 have hsub : ∀ t, t ∈ qI ops (M.filter fun y => decide (k ≤ y)) → t ∈ qI ops (k :: Y2) := by
  intro t ht
  obtain ⟨y, hy, oy, h1, h2⟩ := xF.1 ht
  simp only [List.mem_filter, decide_eq_true_eq] at hy
  refine xF.2 ⟨y, ?_, oy, h1, h2⟩
  rcases g1 y (hM y hy.1) hy.2 with e | e
  ·rw [e]; exact List.mem_cons_self
  ·exact List.mem_cons_of_mem _ e
 have hdn : ∀ Z : List Nat, (∀ z ∈ Z, z ∈ Y ∧ k < z) → d ∉ qI ops Z := by
  intro Z hZ hm
  obtain ⟨y, hy, oy, h1, h2⟩ := xF.1 hm
  obtain ⟨h3, h4⟩ := hZ y hy
  rcases hd.dst y k oy o d (by omega) h1 ho h2 k2 with h' | h'
  ·rw [hord y h3] at h'; cases h'
  ·rw [k5] at h'; cases h'
 have hd2 : d ∉ qI ops Y2 := hdn Y2 g2
 have hd3 : d ∉ qI ops (M.filter fun y => decide (k + 1 ≤ y)) := hdn _ fun z hz => by
  simp only [List.mem_filter, decide_eq_true_eq] at hz
  exact ⟨hM z hz.1, by omega⟩
 have hsoft : ∀ S, vI cx f ops S o = true := fun S => by simp only [vI, kN k3, Bool.not_false, Bool.true_or]
 obtain ⟨e, e1, e2, e3, e4, e5⟩ := zJr (hsoft _) k7
 -- nothing is used up
 have hL : e.L = [] := by
  rw [List.eq_nil_iff_forall_not_mem]
  intro t ht
  obtain ⟨_, _, h3⟩ := e3 t ht
  have hn : t ∉ qI ops (k :: Y2) := fun hm => by simp [jW, hm, yQ] at h3
  have hne : S1.s t ≠ .undef := fun hu => by simp [jW, hu, yQ] at h3
  have hn2 : t ∉ qI ops Y2 := fun hm => hn (by
   obtain ⟨y, hy, r⟩ := xF.1 hm
   exact xF.2 ⟨y, List.mem_cons_of_mem _ hy, r⟩)
  have htd : some d ≠ some t := fun h => by
   simp only [Option.some.injEq] at h
   subst h
   exact hn (xF.2 ⟨k, List.mem_cons_self, o, ho, k2⟩)
  have := congrArg (fun S : SU => S.s t) e2
  simp only [jW, if_neg hn2, bI, e1, k2, if_neg htd, if_pos ht] at this
  exact hne this
 have hx : e.x = S1.s d := by
  have := congrArg (fun S : SU => S.s d) e2
  simp only [jW, if_neg hd2, bI, e1, k2, if_true] at this
  exact this.symm
 have hsl : ∀ t, (V.hide (qI ops (k :: Y2)) S1).s t = .undef ∨ (V.hide (qI ops (k :: Y2)) S1).s t = (V.hide (qI ops (M.filter fun y => decide (k ≤ y))) S1).s t := by
  intro t
  by_cases h1 : t ∈ qI ops (k :: Y2)
  ·left; simp [jW, h1]
  ·right
   have : t ∉ qI ops (M.filter fun y => decide (k ≤ y)) := fun h => h1 (hsub t h)
   simp only [jW, if_neg h1, if_neg this]
 have hrt : ∀ t q, Root.sl q ∈ xX ((V.hide (qI ops (k :: Y2)) S1).s t) → zB cx f q = true := by
  intro t q hq
  by_cases h1 : t ∈ qI ops (k :: Y2)
  ·simp [jW, h1, xX] at hq
  ·simp only [jW, if_neg h1] at hq
   exact (hwf t q hq).1
 obtain ⟨m1, _⟩ := e5 (V.hide (qI ops (M.filter fun y => decide (k ≤ y))) S1) (fun t _ => hsl t)
  ⟨fun t _ => hsl t, fun t _ r hr => by
   cases r with
   | sl q =>
    rcases hsl q with h | h
    ·left; simp [zA, h]
    ·right; simp only [zA, h]
   | ex j => right; rfl⟩
  (.inr fun t _ q hq => hrt t q hq) (fun d' hd' hv => by rw [k2] at hd'; simp only [Option.some.injEq] at hd'; subst hd'; rw [k4] at hv; cases hv)
 have happ : e.app (V.hide (qI ops (M.filter fun y => decide (k ≤ y))) S1) = V.hide (qI ops (M.filter fun y => decide (k + 1 ≤ y))) S1 := by
  refine St.ext' (fun t => ?_) (by rw [zMi]; rfl)
  rw [bI, e1, k2, hL, hx]
  by_cases h1 : t = d
  ·subst h1
   simp only [if_true, jW, if_neg hd3]
  ·have h2 : ¬ some d = some t := fun h => h1 (by simpa using h.symm)
   simp only [if_neg h2, List.not_mem_nil, if_false, jW]
   have : t ∈ qI ops (M.filter fun y => decide (k ≤ y)) ↔ t ∈ qI ops (M.filter fun y => decide (k + 1 ≤ y)) := by
    constructor
    ·intro h
     obtain ⟨y, hy, oy, h3, h4⟩ := xF.1 h
     simp only [List.mem_filter, decide_eq_true_eq] at hy
     refine xF.2 ⟨y, ?_, oy, h3, h4⟩
     have : y ≠ k := fun e => by
      subst e
      rw [ho] at h3
      simp only [Option.some.injEq] at h3
      subst h3
      rw [k2] at h4
      exact h1 (by simpa using h4.symm)
     simp only [List.mem_filter, decide_eq_true_eq]
     exact ⟨hy.1, by omega⟩
    ·intro h
     obtain ⟨y, hy, oy, h3, h4⟩ := xF.1 h
     simp only [List.mem_filter, decide_eq_true_eq] at hy
     refine xF.2 ⟨y, ?_, oy, h3, h4⟩
     simp only [List.mem_filter, decide_eq_true_eq]
     exact ⟨hy.1, by omega⟩
   simp only [this]
 have k6' : (cx.shr f id k).all (fun t => zB cx f t || !yQ ((V.hide (qI ops (M.filter fun y => decide (k ≤ y))) S1).s t)) = true := by
  rw [List.all_eq_true]
  intro t ht
  rcases k6 t ht with h | h
  ·simp [h]
  ·by_cases h1 : t ∈ qI ops (M.filter fun y => decide (k ≤ y))
   ·simp [jW, h1, yQ]
   ·simp only [jW, if_neg h1, h, Bool.not_false, Bool.or_true]
 unfold bW
 rw [if_pos (by rw [hsoft, Bool.or_true, Bool.true_and]; exact k6'), iL k3, m1, happ]
 simp only [Option.bind_some, zKi, zEh, k5, Bool.false_eq_true, if_false]
theorem r8 {eff : Nat → Eff} {L : Nat → Bool} {b : Nat} {S : SU} : ∀ {m : Nat}, (∀ k, b ≤ k → k < b + m → L k = true → eff k = Eff.nil) → yP eff L b m S = S
 | 0, _ => rfl
 | m + 1, h => by
  have ih := r8 (m := m) (eff := eff) (L := L) (b := b) (S := S) (fun k h1 h2 => h k h1 (by omega))
  simp only [yP]
  split
  ·next hl => rw [h _ (by omega) (by omega) hl, zMj]; exact ih
  ·exact ih
theorem iD {eff : Nat → Eff} {L : Nat → Bool} {b t : Nat} {S : SU} : ∀ {m : Nat}, (∀ k, b ≤ k → k < b + m → L k = false → (eff k).dst ≠ some t ∧ t ∉ (eff k).L) → (yP eff L b m S).s t = (yP eff (fun _ => true) b m S).s t
 | 0, _ => rfl
 | m + 1, h => by
  have ih := iD (m := m) (eff := eff) (L := L) (b := b) (S := S) (t := t) (fun k h1 h2 => h k h1 (by omega))
  simp only [yP, if_true]
  split
  ·rw [bI, bI, ih]
  ·next hl =>
   obtain ⟨h1, h2⟩ := h (b + m) (by omega) (by omega) (by simpa using hl)
   rw [bI, if_neg h1, if_neg h2, ih]
theorem zIw {zs : List CU} (h : zs.all isZ = true) : Plain (.box () zs) := by
 have key : ∀ zs : List CU, zs.all isZ = true → (∀ r q, yT r q zs = zs) ∧ (∀ L, qR L zs = zs) ∧ zN true zs = [] := by
  intro zs
  induction zs with
  | nil => intro _; exact ⟨fun _ _ => rfl, fun _ => rfl, rfl⟩
  | cons c zs ih =>
   intro h
   simp only [List.all_cons, Bool.and_eq_true] at h
   obtain ⟨h1, h2, h3⟩ := ih h.2
   have hc : (∀ r q, zS r q c = c) ∧ (∀ L, jV L c = c) ∧ yB true c = [] := by
    cases c <;> first
     | exact ⟨fun _ _ => rfl, fun _ => rfl, rfl⟩
     | (have := h.1; simp [isZ] at this)
   exact ⟨fun r q => by simp only [yT, hc.1, h1], fun L => by simp only [qR, hc.2.1, h2], by simp only [zN, hc.2.2, h3, List.nil_append]⟩
 obtain ⟨h1, h2, h3⟩ := key zs h
 exact ⟨fun r q => by simp only [z6, h1], fun L => by simp only [jL, h2], h3⟩
theorem zIs {id : Nat} {ops : Array Oper} {y : Nat} (h : zBw cx f id ops y = true) : ∃ o d e, ops[y]? = some o ∧ o.guard = none ∧ o.dst = some d ∧ o.op = .alloc e ∧ zB cx f d = true ∧ cx.ord f id y = false ∧ (cx.ty e).ok = true ∧ (cx.ty e).zs.all isZ = true ∧ cx.shr f id y = [] := by
 unfold zBw at h
 split at h
 ·next o ho =>
  split at h
  ·next d e hg hd hop =>
   simp only [Bool.and_eq_true, Bool.not_eq_true', List.isEmpty_iff] at h
   exact ⟨o, d, e, ho, hg, hd, hop, h.1.1.1.1, h.1.1.1.2, h.1.1.2, h.1.2, h.2⟩
  ·cases h
 ·cases h
theorem aD {ops : Array Oper} {o : Oper} {e d : Nat} {S : SU} (hg : o.guard = none) (hd : o.dst = some d) (hop : o.op = .alloc e) (hty : (cx.ty e).ok = true) : stepOp cx f call S ops o = if zB cx f d && !uQ (S.s d) then none else some { S with s := upd S.s d (.box () (cx.ty e).zs) } := by
 unfold stepOp
 simp only [y5, hg, hop, qval, hty, if_true, Option.bind_some, wJ, hd]
theorem zRb {id : Nat} {ops : Array Oper} {T : List Nat} {n : Nat} (hd : DrawOk cx f id ops T) (hstep : mN cx f call Pr w0 E0 P R ea n) (hpure : eO cx f w0 E0 P R ea n)
  (hdst : ∀ (k : Nat) (o : Oper) (d : Nat), ops[k]? = some o → o.dst = some d → d < n) {Sn : SU}
  {Q : Exit → Act → World → Prop} {m : Nat} (hm : m ≤ ops.size) (hmo : m < ops.size → 0 < m ∧ cx.ord f id (m - 1) = true ∧ cx.pnd f id (m - 1) = [] ∧ cx.pal f id (m - 1) = []) (hQ : m = ops.size → ∀ a w, At cx f w0 E0 P R ea n Sn a w → Q .normal a w)
  (hend : m < ops.size → ∀ (fuel : Nat) (listed : Array Bool) (a : Act) (w : World), left ops.size listed ≤ fuel → listed.size = ops.size → (∀ k, listed.getD k false = decide (k < m)) → At cx f w0 E0 P R ea n Sn a w → wpAny Pr .any ops Q fuel listed a w) :
  ∀ (fuel : Nat) (S : Nat → SU) (eff : Nat → Eff) (L0 : Nat → Bool) (listed : Array Bool) (c : Nat) (cur : SU) (a : Act) (w : World), TRun cx f call id ops S L0 eff → S m = Sn →
   left ops.size listed ≤ fuel → listed.size = ops.size → c ≤ m → (m < ops.size → c < m) → (∀ k, m ≤ k → L0 k = true) → (∀ k, k < m → L0 k = true → listed.getD k false = true) → (∀ k, c ≤ k → listed.getD k false = false) →
   (∀ k, k < c → L0 k = false → cx.ord f id k = false) → (c = m ∨ cx.ord f id c = true) → mL ops (fun k => listed.getD k false) → At cx f w0 E0 P R ea n cur a w → cur = yP eff (fun k => listed.getD k false) 0 c (S 0) →
   wpAny Pr .any ops Q fuel listed a w := by
 intro fuel
 induction fuel with
 | zero =>
  intro S eff L0 listed c cur a w hT hSn hleft hsz hcm hcl2 hLm hL0 hhi hno hc hcl hat hcur
  have hcn : c ≤ ops.size := Nat.le_trans hcm hm
  have hall : ∀ k, k < ops.size → listed.getD k false = true := by
   intro k hk
   have h0 : left ops.size listed = 0 := by omega
   simp only [left, List.length_eq_zero_iff, List.filter_eq_nil_iff, List.mem_range] at h0
   simpa using h0 k hk
  have hcc : c = ops.size := by
   rcases Nat.lt_or_ge c ops.size with h | h
   ·have := hhi c (Nat.le_refl _); rw [hall c h] at this; cases this
   ·omega
  have hsoft : ∀ k o, 0 ≤ k → k < c → L0 k = false → ops[k]? = some o → vI cx f ops (S k) o = true := fun k o _ h1 h2 ho => by
   rcases (gQ (hT.step k o ho h2)).1 with h' | h'
   ·rw [hno k h1 h2] at h'; cases h'
   ·exact h'
  refine ⟨?_, hQ ?_ a w ?_⟩
  ·rw [List.eq_nil_iff_forall_not_mem]
   intro j hj
   obtain ⟨h1, o, ho, _⟩ := mem_ready.1 hj
   have hlt := (Array.getElem?_eq_some_iff.1 ho).1
   have := hall j hlt
   have h2 : j < listed.size := by omega
   simp [h2] at h1 this
   rw [h1] at this; cases this
  ·have hme : m = ops.size := by omega
   exact hme
  ·have := uD hT hcn hsoft c (by omega)
   rw [Nat.zero_add] at this
   rw [← hSn, show m = c by omega, this]
   have e : yP eff (fun k => listed.getD k false) 0 c (S 0) = yP eff (fun _ => true) 0 c (S 0) := qP (fun k h1 h2 => hall k (by omega))
   rw [← e, ← hcur]; exact hat
 | succ fuel ih =>
  intro S eff L0 listed c cur a w hT hSn hleft hsz hcm hcl2 hLm hL0 hhi hno hc hcl hat hcur
  have hcn : c ≤ ops.size := Nat.le_trans hcm hm
  have hsoft : ∀ k o, 0 ≤ k → k < c → L0 k = false → ops[k]? = some o → vI cx f ops (S k) o = true := fun k o _ h1 h2 ho => by
   rcases (gQ (hT.step k o ho h2)).1 with h' | h'
   ·rw [hno k h1 h2] at h'; cases h'
   ·exact h'
  -- where all are listed
  have fin : (∀ k, k < ops.size → listed.getD k false = true) → Q .normal a w := by
   intro hall
   have hcc : c = ops.size := by
    rcases Nat.lt_or_ge c ops.size with h | h
    ·have := hhi c (Nat.le_refl _); rw [hall c h] at this; cases this
    ·omega
   refine hQ (by omega) a w ?_
   have := uD hT hcn hsoft c (by omega)
   rw [Nat.zero_add] at this
   rw [← hSn, show m = c by omega, this]
   have e : yP eff (fun k => listed.getD k false) 0 c (S 0) = yP eff (fun _ => true) 0 c (S 0) := qP (fun k h1 h2 => hall k (by omega))
   rw [← e, ← hcur]; exact hat
  refine ⟨fun hnil => fin fun k hk => ?_, fun i hi => ?_⟩
  ·-- the first that is not listed is ready
   cases hl : listed.getD k false with
   | true => rfl
   | false =>
    exfalso
    have : ∀ m, ∀ k, k < m → k < ops.size → listed.getD k false = false → False := by
     intro m
     induction m with
     | zero => intro k hk; omega
     | succ m ihm =>
      intro k hkm hk hlk
      have ho : ops[k]? = some ops[k] := Array.getElem?_eq_getElem hk
      have hr : k ∈ Region.ready .any ops listed := by
       refine mem_ready.2 ⟨?_, _, ho, fun e he hb => ?_⟩
       ·have h2 : k < listed.size := by omega
        simp [h2] at hlk ⊢; exact hlk
       ·cases hle : listed.getD e.on false with
        | true => rfl
        | false =>
         have hlt := hd.on k _ ho e he hb
         exact (ihm e.on (by omega) (by omega) hle).elim
      rw [hnil] at hr; cases hr
    exact this (k + 1) k (by omega) hk hl
  ·obtain ⟨h1, o, ho, hrd⟩ := mem_ready.1 hi
   have hlt := (Array.getElem?_eq_some_iff.1 ho).1
   have hLi : listed.getD i false = false := by
    have h2 : i < listed.size := by omega
    simp [h2] at h1 ⊢; exact h1
   have hset : ∀ k, (listed.setIfInBounds i true).getD k false = jG (fun k => listed.getD k false) i k := by
    intro k
    by_cases e : k = i
    ·subst e
     have h2 : k < listed.size := by omega
     simp [jG, h2]
    ·rw [getD_set_ne false (Ne.symm e)]; simp [jG, e]
   have hcl' : mL ops (fun k => (listed.setIfInBounds i true).getD k false) := by
    intro k o' hk ho' e he hb
    simp only [hset, jG, Bool.or_eq_true, beq_iff_eq] at hk ⊢
    right
    rcases hk with rfl | hk
    ·rw [ho] at ho'; simp only [Option.some.injEq] at ho'; subst ho'; exact hrd e he hb
    ·exact hcl k o' hk ho' e he hb
   have hleft' : left ops.size (listed.setIfInBounds i true) ≤ fuel := by
    have := zH3 hlt hsz hLi; omega
   have hL0i : i < m → L0 i = false := fun him => by
    cases h : L0 i with
    | false => rfl
    | true => rw [hL0 i him h] at hLi; cases hLi
   rcases Nat.lt_or_ge i c with hic | hic
   ·-- a soft one
    obtain ⟨g1, g2, g3⟩ := zJb hd hT (b := 0) hcn hsoft (fun k _ h => hno k h) (fun k h => hL0 k (by omega)) hcl hat hcur (Nat.zero_le i) hic ho hLi hrd
    refine hstep ops o i cur _ a w hat ho (fun d hd' => hdst i o d ho hd') g1 _ Q (fun a' w' hat' => ?_)
    refine ih S eff L0 (listed.setIfInBounds i true) c _ a' w' hT hSn hleft' (by simpa using hsz) hcm hcl2 hLm ?_ ?_ hno hc hcl' hat' ?_
    ·intro k hkm hk; rw [hset]; simp only [jG, hL0 k hkm hk, Bool.or_true]
    ·intro k hk; rw [hset]
     have : k ≠ i := by omega
     simp only [jG, hhi k hk, Bool.or_false, beq_eq_false_iff_ne]; exact this
    ·rw [g3]; exact qP (fun k _ _ => (hset k).symm)
   ·-- an active one
    have hco : cx.ord f id c = true := by
     rcases hc with h | h
     ·rcases Nat.lt_or_ge m ops.size with h2 | h2
      ·have := hcl2 h2; omega
      ·omega
     ·exact h
    have hcltm : c < m := by
     rcases Nat.lt_or_ge m ops.size with h2 | h2
     ·exact hcl2 h2
     ·have : c < ops.size := by omega
      omega
    have hici : i = c := by
     rcases Nat.lt_or_ge c i with h | h
     ·exfalso
      have hoc : ops[c]? = some (ops[c]'(by omega)) := Array.getElem?_eq_getElem (by omega)
      rcases hd.ord c i _ o h hoc ho (.inl hco) with hb | ⟨_, hb, _⟩
      ·have := (hd.closed hcl (i + 1) i o (by omega) ho hrd c hb).1
       rw [hhi c (Nat.le_refl _)] at this; cases this
      ·rw [hco] at hb; cases hb
     ·omega
    subst hici
    have hbit : ∀ k, k < i → listed.getD k false = false → (T.getD i 0).testBit k = false := by
     intro k hk hl
     cases hb : (T.getD i 0).testBit k with
     | false => rfl
     | true =>
      have := (hd.closed hcl (i + 1) i o (by omega) ho hrd k hb).1
      rw [hl] at this; cases this
    have hpn : ∀ k, k < i → listed.getD k false = false → k ∈ cx.pnd f id i ∨ k ∈ cx.pal f id i := by
     intro k hk hl
     have hok : ops[k]? = some (ops[k]'(by omega)) := Array.getElem?_eq_getElem (by omega)
     rcases hd.ord k i _ o hk hok ho (.inr hco) with hb | ⟨_, _, hb⟩
     ·rw [hbit k hk hl] at hb; cases hb
     ·exact hb
    obtain ⟨_, _, hsi, hredo⟩ := gQ (hT.step i o ho (hL0i hcltm))
    rw [show zEh cx f id i = cx.pnd f id i from if_pos hco] at hredo
    obtain ⟨M, hM⟩ : ∃ M, M = (List.range i).filter fun k => !listed.getD k false := ⟨_, rfl⟩
    have hMm : ∀ k, k ∈ M ↔ k < i ∧ listed.getD k false = false := by
     intro k; rw [hM]; simp only [List.mem_filter, List.mem_range, Bool.not_eq_true']
    -- what comes behind
    have cont : (∀ k ∈ M, ∀ o', ops[k]? = some o' → cx.ord f id k = false ∧ bW cx f call id ops k (V.hide (qI ops (M.filter fun y => decide (k ≤ y))) (S (i + 1))) o' = some (V.hide (qI ops (M.filter fun y => decide (k + 1 ≤ y))) (S (i + 1)))) →
      ∀ a' w', At cx f w0 E0 P R ea n (V.hide (qI ops M) (S (i + 1))) a' w' → wpAny Pr .any ops Q fuel (listed.setIfInBounds i true) a' w' := by
     intro hre a' w' hb'
     obtain ⟨S', hS'⟩ : ∃ S' : Nat → SU, S' = fun k => if k ≤ i + 1 then V.hide (qI ops (M.filter fun y => decide (k ≤ y))) (S (i + 1)) else S k := ⟨_, rfl⟩
     have hlo : ∀ k, k ≤ i + 1 → S' k = V.hide (qI ops (M.filter fun y => decide (k ≤ y))) (S (i + 1)) := fun k hk => by rw [hS']; exact if_pos hk
     have hgt : ∀ k, i + 1 ≤ k → S' k = S k := by
      intro k hk
      by_cases e : k = i + 1
      ·subst e
       rw [hlo _ (Nat.le_refl _)]
       have : (M.filter fun y => decide (i + 1 ≤ y)) = [] := by
        rw [List.filter_eq_nil_iff]
        intro y hy
        have := ((hMm y).1 hy).1
        simp only [decide_eq_true_eq]; omega
       rw [this]; exact s9 _
      ·rw [hS']; exact if_neg (by omega)
     have hLk : ∀ k, (listed.setIfInBounds i true).getD k false = true → k ≤ i ∧ k ∉ M := by
      intro k hk
      rw [hset] at hk
      simp only [jG, Bool.or_eq_true, beq_iff_eq] at hk
      rcases hk with rfl | hk
      ·exact ⟨Nat.le_refl _, fun h => by have := ((hMm k).1 h).1; omega⟩
      ·refine ⟨?_, fun h => by rw [((hMm k).1 h).2] at hk; cases hk⟩
       rcases Nat.lt_or_ge k i with h | h
       ·omega
       ·rw [hhi k h] at hk; cases hk
     have hLn : ∀ k, (listed.setIfInBounds i true).getD k false = false → k ≠ i ∧ listed.getD k false = false := by
      intro k hk
      rw [hset] at hk
      simp only [jG, Bool.or_eq_false_iff, beq_eq_false_iff_ne] at hk
      exact hk
     obtain ⟨eff', hT'⟩ := effs (cx := cx) (f := f) (call := call) id ops S' (fun k => (listed.setIfInBounds i true).getD k false || decide (m ≤ k)) (fun k hk => by
      simp only [Bool.or_eq_true, decide_eq_true_eq] at hk
      rcases Nat.lt_or_ge k m with hkm | hkm
      case inr => rw [hgt k (by omega), hgt (k + 1) (by omega)]; exact (hT.done k (hLm k hkm)).1
      obtain ⟨h1, h2⟩ := hLk k (hk.resolve_right (by omega))
      rw [hlo k (by omega), hlo (k + 1) (by omega)]
      congr 2
      refine List.filter_congr fun y hy => ?_
      have : y ≠ k := fun e => h2 (e ▸ hy)
      rw [decide_eq_decide]; omega) (fun k o' ho' hk => by
      simp only [Bool.or_eq_false_iff, decide_eq_false_iff_not] at hk
      obtain ⟨hk, hkm⟩ := hk
      obtain ⟨h1, h2⟩ := hLn k hk
      rcases Nat.lt_or_ge k i with h | h
      ·rw [hlo k (by omega), hlo (k + 1) (by omega)]
       exact (hre k ((hMm k).2 ⟨h, h2⟩) o' ho').2
      ·rw [hgt k (by omega), hgt (k + 1) (by omega)]
       refine hT.step k o' ho' ?_
       cases h0 : L0 k with
       | false => rfl
       | true => rw [hL0 k (by omega) h0] at h2; cases h2)
     by_cases hfin : m < ops.size ∧ i + 1 = m
     ·-- the tail
      obtain ⟨q1, q2, q3, q4⟩ := hmo hfin.1
      have hM0 : M = [] := by
       rw [List.eq_nil_iff_forall_not_mem]
       intro y hy
       have e : m - 1 = i := by omega
       rw [e] at q3 q4
       rcases hpn y ((hMm y).1 hy).1 ((hMm y).1 hy).2 with h | h
       ·rw [q3] at h; cases h
       ·rw [q4] at h; cases h
      refine hend hfin.1 fuel _ a' w' hleft' (by simpa using hsz) (fun k => ?_) ?_
      ·rw [hset]
       rcases Nat.lt_trichotomy k i with h | h | h
       ·have : listed.getD k false = true := by
         cases hl : listed.getD k false with
         | true => rfl
         | false => have := (hMm k).2 ⟨h, hl⟩; rw [hM0] at this; cases this
        simp only [jG, this, Bool.or_true, show k < m by omega, decide_true]
       ·subst h; simp only [jG, beq_self_eq_true, Bool.true_or, show k < m by omega, decide_true]
       ·have h9 : k ≠ i := by omega
        have h8 : (k == i) = false := by simpa using h9
        simp only [jG, h8, hhi k (by omega), Bool.or_false, show ¬ k < m by omega, decide_false]
      ·rw [hM0] at hb'
       simp only [qI, List.filterMap_nil] at hb'
       rw [s9] at hb'
       rw [← hSn, ← hfin.2]; exact hb'
     obtain ⟨c', k1, k2, k3, k4⟩ := zBl (fun k => cx.ord f id k) m (m - (i + 1)) (i + 1) (by omega)
     refine ih S' eff' (fun k => (listed.setIfInBounds i true).getD k false || decide (m ≤ k)) (listed.setIfInBounds i true) c' (V.hide (qI ops M) (S (i + 1))) a' w' hT' ?_ hleft' (by simpa using hsz) k2 (fun h => ?_) (fun k h => by simp [h]) (fun k hkm h => by simpa [show ¬ m ≤ k by omega] using h) ?_ ?_ k4 hcl' hb' ?_
     ·rw [hgt _ (by omega)]; exact hSn
     ·rcases Nat.lt_or_ge c' m with h2 | h2
      ·exact h2
      ·exfalso
       obtain ⟨q1, q2, _⟩ := hmo h
       have := k3 (m - 1) (by omega) (by omega)
       rw [q2] at this; cases this
     ·intro k hk
      rw [hset]
      have : k ≠ i := by omega
      simp only [jG, hhi k (by omega), Bool.or_false, beq_eq_false_iff_ne]; exact this
     ·intro k hk hl
      simp only [Bool.or_eq_false_iff] at hl
      obtain ⟨h1, h2⟩ := hLn k hl.1
      rcases Nat.lt_or_ge k i with h | h
      ·exact (hre k ((hMm k).2 ⟨h, h2⟩) _ (Array.getElem?_eq_getElem (by omega))).1
      ·exact k3 k (by omega) hk
     ·rw [r8 (fun k _ _ h => (hT'.done k (by simp [h])).2), hlo 0 (by omega)]
      congr 2
      exact (List.filter_eq_self.2 fun y _ => by simp).symm
    by_cases hpe : cx.pal f id i = []
    ·-- only such as look
     have hMp : ∀ y ∈ M, y ∈ cx.pnd f id i := fun y hy => by
      rcases hpn y ((hMm y).1 hy).1 ((hMm y).1 hy).2 with h | h
      ·exact h
      ·rw [hpe] at h; cases h
     have hZ : ∀ d ∈ qI ops M, zB cx f d = false := by
      intro d hd'
      obtain ⟨y, hy, oy, h3, h4⟩ := xF.1 hd'
      obtain ⟨_, _, _, o', d', k1, k2, _, k4, _⟩ := nJ hredo (hMp y hy)
      rw [h3] at k1
      simp only [Option.some.injEq] at k1
      subst k1
      rw [h4] at k2
      simp only [Option.some.injEq] at k2
      subst k2; exact k4
     -- those that are not listed yet, done where nobody sees it
     have comp : ∀ m, m ≤ i → ∃ b, At cx f w0 E0 P R ea n (yP eff (fun k => listed.getD k false || decide (k < m)) 0 i (S 0)) b w ∧ uK (qI ops M) a b := by
      intro m
      induction m with
      | zero =>
       intro _
       refine ⟨a, ?_, uK.refl⟩
       have e : yP eff (fun k => listed.getD k false || decide (k < 0)) 0 i (S 0) = cur := by
        rw [hcur]; exact qP (fun k _ _ => by simp)
       rw [e]; exact hat
      | succ m ihm =>
       intro hm
       obtain ⟨b, hb1, hb2⟩ := ihm (by omega)
       have hmask : ∀ k, (listed.getD k false || decide (k < m + 1)) = jG (fun k => listed.getD k false || decide (k < m)) m k := by
        intro k
        simp only [jG]
        by_cases e : k = m
        ·subst e; simp
        ·have : decide (k < m + 1) = decide (k < m) := by rw [decide_eq_decide]; omega
         rw [this]; simp [e]
       cases hl : listed.getD m false with
       | true =>
        refine ⟨b, ?_, hb2⟩
        have e : yP eff (fun k => listed.getD k false || decide (k < m + 1)) 0 i (S 0) = yP eff (fun k => listed.getD k false || decide (k < m)) 0 i (S 0) := qP (fun k _ _ => by
         rw [hmask]
         simp only [jG]
         by_cases e : k = m
         ·subst e; simp only [beq_self_eq_true, Bool.true_or, hl]
         ·simp [e])
        rw [e]; exact hb1
       | false =>
        have hom : ops[m]? = some (ops[m]'(by omega)) := Array.getElem?_eq_getElem (by omega)
        have hmM : m ∈ M := (hMm m).2 ⟨by omega, hl⟩
        have hclm : mL ops (fun k => listed.getD k false || decide (k < m)) := by
         intro k o' hk ho' e he hb
         simp only [Bool.or_eq_true, decide_eq_true_eq] at hk ⊢
         rcases hk with hk | hk
         ·exact .inl (hcl k o' hk ho' e he hb)
         ·right; have := hd.on k o' ho' e he hb; omega
        obtain ⟨g1, _, g3⟩ := zJb hd hT (b := 0) hcn hsoft (fun k _ h => hno k h) (L := fun k => listed.getD k false || decide (k < m)) (fun k hkc hk => by simp only [hL0 k (by omega) hk, Bool.true_or]) hclm hb1 rfl (Nat.zero_le m) (by omega) hom (by simp only [hl, Nat.lt_irrefl, decide_false, Bool.or_false]) (fun e he hb => by
         have := hd.on m _ hom e he hb
         simp only [this, decide_true, Bool.or_true])
        obtain ⟨_, _, _, o', d', k1, k2, k3, _⟩ := nJ hredo (hMp m hmM)
        rw [hom] at k1
        simp only [Option.some.injEq] at k1
        subst k1
        rw [iL k3] at g1
        obtain ⟨v, hv⟩ := hpure ops _ _ _ b w hb1 k3 (fun d hd' => hdst m _ d hom hd') g1
        rw [g3] at hv
        refine ⟨b.put (ops[m]'(by omega)).dst v, ?_, ?_⟩
        ·have e : yP eff (fun k => listed.getD k false || decide (k < m + 1)) 0 i (S 0) = yP eff (jG (fun k => listed.getD k false || decide (k < m)) m) 0 (i - 0) (S 0) := qP (fun k _ _ => hmask k)
         rw [e]; exact hv
        ·rw [k2]; exact hb2.later (xF.2 ⟨m, hmM, _, hom, k2⟩) v
     obtain ⟨b, hb1, hb2⟩ := comp i (Nat.le_refl i)
     have hcS : yP eff (fun k => listed.getD k false || decide (k < i)) 0 i (S 0) = S i := by
      have := uD hT hcn hsoft i (by omega)
      rw [Nat.zero_add] at this
      rw [this]
      exact qP (fun k _ h2 => by simp only [show k < i by omega, decide_true, Bool.or_true])
     rw [hcS] at hb1
     have cont : ∀ b' w', At cx f w0 E0 P R ea n (S (i + 1)) b' w' → ∀ a', uK (qI ops M) a' b' → wpAny Pr .any ops Q fuel (listed.setIfInBounds i true) a' w' := by
      intro b' w' hb' a' hs
      have hwf := hb'.wf
      exact cont (fun k hk o' ho' => ⟨(zEm (call := call) hd hredo hMp hwf hk ho').2.1, (zEm (call := call) hd hredo hMp hwf hk ho').2.2.2⟩) a' w' (hb'.hide hZ hs)
     by_cases hM0 : M = []
     ·have hab : a = b := by
       obtain ⟨h1, _, h3⟩ := hb2
       rw [hM0] at h3
       have h4 : a.tmps = b.tmps := Array.ext_getElem? fun t => h3 t (by simp [qI])
       cases a; cases b; simp only at h1 h4; subst h1 h4; rfl
      subst hab
      exact hstep ops o i _ _ a w hb1 ho (fun d hd' => hdst i o d ho hd') hsi _ Q (fun a' w' hat' => cont a' w' hat' a' uK.refl)
     ·have h3 : rN o.op = true := by
       obtain ⟨y, hy⟩ := List.exists_mem_of_ne_nil M hM0
       exact hd.act i o ho hco (List.ne_nil_of_mem (hMp y hy))
      refine zQe ho h3 (fun t ht hm => ?_) hb2 (hstep ops o i _ _ b w hb1 ho (fun d hd' => hdst i o d ho hd') hsi _ _ (fun b' w' hat' a' hs => cont b' w' hat' a' hs))
      obtain ⟨y, hy, oy, h4, h5⟩ := xF.1 hm
      obtain ⟨h6, h7⟩ := (hMm y).1 hy
      exact (Oper.apart_spec (hd.apart y i oy o h6 h4 ho (hbit y h6 h7))).1 t h5 ht
    ·-- places that are made
     obtain ⟨_, hcv, hpo⟩ := hd.pal i o ho hco hpe
     obtain ⟨hact, fo, cc, hop, hcal⟩ : yX cx o.op = true ∧ ∃ fo cc, o.op = .call cc ∧ cc.callee = .value fo := by
      simp only [eC, Bool.and_eq_true] at hcv
      refine ⟨hcv.1, ?_⟩
      have h2 := hcv.2
      split at h2
      ·next cc hcc =>
       split at h2
       ·next fo hfo => exact ⟨fo, cc, hcc, hfo⟩
       ·cases h2
      ·cases h2
     have hMp : ∀ y ∈ M, y ∈ cx.pal f id i := fun y hy => by
      rcases hpn y ((hMm y).1 hy).1 ((hMm y).1 hy).2 with h | h
      ·rw [(hd.pal i o ho hco hpe).1] at h; cases h
      ·exact h
     have hsp : ∀ y ∈ M, ∃ o d e, ops[y]? = some o ∧ o.guard = none ∧ o.dst = some d ∧ o.op = .alloc e ∧ zB cx f d = true ∧ cx.ord f id y = false ∧ (cx.ty e).ok = true ∧ (cx.ty e).zs.all isZ = true ∧ cx.shr f id y = [] := fun y hy => zIs (hpo y (hMp y hy))
     have hcS : yP eff (fun _ => true) 0 i (S 0) = S i := by
      have := uD hT hcn hsoft i (by omega)
      rw [Nat.zero_add] at this
      exact this.symm
     have hefs : ∀ k, k < i → (∀ t ∈ (eff k).L, zB cx f t = false) ∧ (L0 k = false → ∀ ok, ops[k]? = some ok → EffP cx f call ops (S k) (S (k + 1)) ok (eff k)) := by
      intro k hk
      have hok : ops[k]? = some (ops[k]'(by omega)) := Array.getElem?_eq_getElem (by omega)
      cases hl0 : L0 k with
      | true => rw [(hT.done k hl0).2]; exact ⟨by simp [Eff.nil], (fun h => by cases h)⟩
      | false =>
       have hef := hT.soft k _ hok hl0 (hsoft k _ (Nat.zero_le _) hk hl0 hok)
       refine ⟨fun t ht => (hef.L t ht).2.1, fun _ ok' h' => ?_⟩
       rw [hok] at h'
       simp only [Option.some.injEq] at h'
       subst h'; exact hef
     have hML0 : ∀ y ∈ M, L0 y = false := fun y hy => by
      cases h : L0 y with
      | false => rfl
      | true => have := hL0 y (by have := ((hMm y).1 hy).1; omega) h; rw [((hMm y).1 hy).2] at this; cases this
     -- who else writes such a slot
     have huq : ∀ y ∈ M, ∀ oy d, ops[y]? = some oy → oy.dst = some d → ∀ k, k < i → k ≠ y → (eff k).dst ≠ some d := by
      intro y hy oy d hoy hdy k hk hne hdk
      cases hl0 : L0 k with
      | true => rw [(hT.done k hl0).2] at hdk; cases hdk
      | false =>
       have hok : ops[k]? = some (ops[k]'(by omega)) := Array.getElem?_eq_getElem (by omega)
       have := ((hefs k hk).2 hl0 _ hok).dst
       rw [hdk] at this
       obtain ⟨o2, d2, e2, a1, _, _, _, _, a6, _⟩ := hsp y hy
       rcases hd.dst k y _ oy d hne hok hoy this.symm hdy with h | h
       ·rw [hno k hk hl0] at h; cases h
       ·rw [a6] at h; cases h
     have hS0 : ∀ y ∈ M, ∀ oy d, ops[y]? = some oy → oy.dst = some d → zB cx f d = true → (S 0).s d = .undef := by
      intro y hy oy d hoy hdy hv
      have hyi := ((hMm y).1 hy).1
      have h1 := ((hefs y hyi).2 (hML0 y hy) oy hoy).new d hdy hv
      have h2 := uD hT hcn hsoft y (by omega)
      rw [Nat.zero_add] at h2
      rw [h2, vV (d := d) (fun k _ hk hm => by have := (hefs k (by omega)).1 d hm; rw [hv] at this; cases this) (fun k _ hk _ => huq y hy oy d hoy hdy k (by omega) (by omega))] at h1
      exact h1
     have hSi : ∀ y ∈ M, ∀ oy d e, ops[y]? = some oy → oy.dst = some d → oy.guard = none → oy.op = .alloc e → zB cx f d = true → (cx.ty e).ok = true → (S i).s d = .box () (cx.ty e).zs := by
      intro y hy oy d e hoy hdy hg hope hv hty
      have hyi := ((hMm y).1 hy).1
      have hef := (hefs y hyi).2 (hML0 y hy) oy hoy
      have hst := (gQ (hT.step y oy hoy (hML0 y hy))).2.2.1
      rw [aD hg hdy hope hty] at hst
      split at hst
      ·cases hst
      ·simp only [Option.some.injEq] at hst
       have hx : (eff y).x = .box () (cx.ty e).zs := by
        have h1 : (S (y + 1)).s d = (eff y).x := by rw [hef.app, bI, hef.dst, hdy, if_pos rfl]
        rw [← h1, ← hst]; simp [upd]
       rw [← hcS, eM (k0 := y) rfl (by rw [hef.dst, hdy]) (Nat.zero_le _) (by omega) (fun k _ hk hm => by have := (hefs k (by omega)).1 d hm; rw [hv] at this; cases this) (fun k _ hk hne => huq y hy oy d hoy hdy k (by omega) hne), hx]
     have hcurH : cur = V.hide (qI ops M) (S i) := by
      refine St.ext' (fun t => ?_) ?_
      ·rw [jW, hcur]
       by_cases ht : t ∈ qI ops M
       ·rw [if_pos ht]
        obtain ⟨y, hy, oy, h3, h4⟩ := xF.1 ht
        obtain ⟨o2, d2, e2, a1, _, a3, _, a5, _⟩ := hsp y hy
        rw [h3] at a1; simp only [Option.some.injEq] at a1; subst a1
        rw [h4] at a3; simp only [Option.some.injEq] at a3; subst a3
        rw [vV (d := t) (fun k _ hk hm => by have := (hefs k (by omega)).1 t hm; rw [a5] at this; cases this) (fun k _ hk hl => huq y hy oy t h3 h4 k (by omega) (fun e => by subst e; rw [((hMm k).1 hy).2] at hl; cases hl))]
        exact hS0 y hy oy t h3 h4 a5
       ·rw [if_neg ht, ← hcS]
        refine iD fun k _ hk hl => ?_
        have hkM : k ∈ M := (hMm k).2 ⟨by omega, hl⟩
        obtain ⟨oy, d, e, a1, _, a3, a4, _⟩ := hsp k hkM
        have hef := (hefs k (by omega)).2 (hML0 k hkM) oy a1
        refine ⟨fun h => ht (xF.2 ⟨k, hkM, oy, a1, by rw [← hef.dst]; exact h⟩), fun hm => ?_⟩
        have := (hef.L t hm).1
        rw [a4] at this
        simp [Op.operands] at this
      ·rw [hcur, f0, ← hcS]
       show _ = (yP eff (fun _ => true) 0 i (S 0)).e
       rw [f0]
     have hwf := hat.wf2
     have hzz : ∀ d ∈ qI ops M, d ∉ o.looksAt ops ∧ o.dst ≠ some d ∧ Plain ((S i).s d) ∧ NR d (S i) := by
      intro d hdz
      obtain ⟨y, hy, oy, h3, h4⟩ := xF.1 hdz
      obtain ⟨h6, h7⟩ := (hMm y).1 hy
      obtain ⟨o2, d2, e2, a1, a2, a3, a4, a5, a6, a7, a8, _⟩ := hsp y hy
      rw [h3] at a1; simp only [Option.some.injEq] at a1; subst a1
      rw [h4] at a3; simp only [Option.some.injEq] at a3; subst a3
      obtain ⟨q1, q2, q3⟩ := Oper.apart_spec (hd.apart y i oy o h6 h3 ho (hbit y h6 h7))
      refine ⟨q1 d h4, q2 d h4, by rw [hSi y hy oy d e2 h3 h4 a2 a4 a5 a7]; exact zIw a8, fun t hm => ?_, fun cs hcs hm => ?_⟩
      ·by_cases ht : t ∈ qI ops M
       ·obtain ⟨y', hy', oy', g3, g4⟩ := xF.1 ht
        obtain ⟨o3, d3, e3, b1, b2, b3, b4, b5, b6, b7, b8, _⟩ := hsp y' hy'
        rw [g3] at b1; simp only [Option.some.injEq] at b1; subst b1
        rw [g4] at b3; simp only [Option.some.injEq] at b3; subst b3
        rw [hSi y' hy' oy' t e3 g3 g4 b2 b4 b5 b7, (zIw b8).rf] at hm
        cases hm
       ·have h8 := hwf.1 t d (by rw [hcurH, jW, if_neg ht]; exact hm)
        rw [hcurH, jW, if_pos hdz] at h8
        exact h8 rfl
      ·have h8 := hwf.2 cs d (by rw [hcurH]; exact hcs) hm
       rw [hcurH, jW, if_pos hdz] at h8
       exact h8 rfl
     obtain ⟨hstp, hkeep⟩ := p9 hop hcal hact hsi hzz
     refine hstep ops o i cur _ a w hat ho (fun d hd' => hdst i o d ho hd') (by rw [hcurH]; exact hstp) _ Q (fun a' w' hat' => cont (fun k hk o' ho' => ?_) a' w' hat')
     obtain ⟨oy, d, e, a1, a2, a3, a4, a5, a6, a7, a8, a9⟩ := hsp k hk
     rw [ho'] at a1; simp only [Option.some.injEq] at a1; subst a1
     refine ⟨a6, ?_⟩
     have hdk : d ∈ qI ops (M.filter fun y => decide (k ≤ y)) := xF.2 ⟨k, by simp only [List.mem_filter, decide_eq_true_eq]; exact ⟨hk, Nat.le_refl _⟩, o', ho', a3⟩
     have hdn : d ∉ qI ops (M.filter fun y => decide (k + 1 ≤ y)) := by
      intro hm
      obtain ⟨y, hy, oy, g3, g4⟩ := xF.1 hm
      simp only [List.mem_filter, decide_eq_true_eq] at hy
      obtain ⟨o3, d3, e3, b1, _, b3, _, _, b6, _⟩ := hsp y hy.1
      rcases hd.dst k y o' oy d (by omega) ho' g3 a3 g4 with h | h
      ·rw [a6] at h; cases h
      ·rw [b6] at h; cases h
     have hSd : (S (i + 1)).s d = .box () (cx.ty e).zs := by
      rw [hkeep d (xF.2 ⟨k, hk, o', ho', a3⟩)]
      exact hSi k hk o' d e ho' a3 a2 a4 a5 a7
     unfold bW
     rw [if_pos (by simp only [vI, a4, yX, a9, List.all_nil, Bool.not_false, Bool.true_or, Bool.or_true, Bool.true_and]), aD a2 a3 a4 a7]
     have hu : uQ ((V.hide (qI ops (M.filter fun y => decide (k ≤ y))) (S (i + 1))).s d) = true := by rw [jW, if_pos hdk]; rfl
     rw [if_neg (by rw [hu]; simp)]
     simp only [Option.bind_some, zKi, zEh, a6, Bool.false_eq_true, if_false, Option.some.injEq]
     refine St.ext' (fun t => ?_) rfl
     by_cases ht : t = d
     ·subst ht
      simp only [upd, if_true, jW, if_neg hdn, hSd]
     ·simp only [upd, if_neg ht, jW]
      have : t ∈ qI ops (M.filter fun y => decide (k ≤ y)) ↔ t ∈ qI ops (M.filter fun y => decide (k + 1 ≤ y)) := by
       constructor
       ·intro h
        obtain ⟨y, hy, oy, h3, h4⟩ := xF.1 h
        simp only [List.mem_filter, decide_eq_true_eq] at hy
        refine xF.2 ⟨y, ?_, oy, h3, h4⟩
        have : y ≠ k := fun e' => by
         subst e'
         rw [ho'] at h3
         simp only [Option.some.injEq] at h3
         subst h3
         rw [a3] at h4
         exact ht (by simpa using h4.symm)
        simp only [List.mem_filter, decide_eq_true_eq]
        exact ⟨hy.1, by omega⟩
       ·intro h
        obtain ⟨y, hy, oy, h3, h4⟩ := xF.1 h
        simp only [List.mem_filter, decide_eq_true_eq] at hy
        refine xF.2 ⟨y, ?_, oy, h3, h4⟩
        simp only [List.mem_filter, decide_eq_true_eq]
        exact ⟨hy.1, by omega⟩
      simp only [this]
end
end Go.Proofs.YtlkjnlfddadlmaaGreatDoor.V
namespace Go.Proofs.YtlkjnlfddadlmaaGreatDoor.V
open Go.RowKit
theorem zGb (w : World) {x y : Addr} (h : x.block ≠ y.block) (u v : Value) : (w.setCell x u).setCell y v = (w.setCell y v).setCell x u := by
 simp only [World.setCell]
 congr 1
 refine Array.ext_getElem? fun k => ?_
 simp only [Array.getElem?_modify]
 by_cases h1 : y.block = k
 ·by_cases h2 : x.block = k
  ·exact absurd (h2.trans h1.symm) h
  ·simp [h1, h2]
 ·by_cases h2 : x.block = k
  ·simp [h1, h2]
  ·simp [h1, h2]
theorem lA {b : Nat} : ∀ (vs : List Value) (i : Nat) (w : World) {y : Addr} (_ : b ≠ y.block) (v : Value), (w.setCells b i vs).setCell y v = (w.setCell y v).setCells b i vs
 | [], _, _, _, _, _ => rfl
 | u :: vs, i, w, y, h, v => by
  simp only [World.setCells]
  rw [lA vs (i + 1) _ h v, zGb w (x := ⟨b, i, none⟩) h]
theorem p5 {b b' : Nat} (h : b ≠ b') (vs : List Value) (i : Nat) : ∀ (us : List Value) (j : Nat) (w : World), (w.setCells b i vs).setCells b' j us = (w.setCells b' j us).setCells b i vs
 | [], _, _ => rfl
 | u :: us, j, w => by
  simp only [World.setCells]
  rw [lA vs i w (y := ⟨b', j, none⟩) h u, p5 h vs i us (j + 1)]
section
variable {cx : Ctx} {f : Nat} {w0 : World} {E0 : Nat → Prop} {P : Nat → Nat → Prop} {R : Nat → Prop} {ea : List EA} {w w' : World} {S : SV} {tmps : Array Value} {Pr : Program} {a : Act} {call : zX}
theorem mT {b b' : Nat} (h : b ≠ b') {vs : List Value} {i k : Nat} : (w.setCells b i vs).cell? ⟨b', k, none⟩ = w.cell? ⟨b', k, none⟩ :=
 World.cell?_setCells_out b vs i w ⟨b', k, none⟩ (fun e => absurd e.symm h)
theorem zAt {x y : Addr} {v : Value} : (w.setCell x v).frozen? y = w.frozen? y := by
 simp only [World.frozen?, World.setCell, Array.getElem?_modify]
 by_cases h : x.block = y.block
 ·simp only [h, if_true]
  cases w.heap[y.block]? with
  | none => rfl
  | some o => cases o <;> rfl
 ·simp only [h, if_false]
theorem wN {b : Nat} {y : Addr} : ∀ {vs : List Value} {i : Nat} {w : World}, (w.setCells b i vs).frozen? y = w.frozen? y
 | [], _, _ => rfl
 | v :: vs, i, w => by simp only [World.setCells]; rw [wN, zAt]
theorem zIv {r : Root} {p : List Nat} {ad : Addr} (h : yV S ea r p = some ad) : ad.block ∈ zL S ea r := by
 simp only [yV] at h
 by_cases hp : p = []
 ·subst hp
  simp only [if_true] at h
  cases r with
  | sl d =>
   simp only [rootAd] at h
   split at h
   ·next ad' cs heq =>
    simp only [Option.some.injEq] at h; subst h
    simp [zL, heq, zE, hdr]
   ·cases h
  | ex j => exact rH h
 ·rw [if_neg hp] at h
  split at h
  ·next ad' l c heq =>
   simp only [Option.some.injEq] at h; subst h
   simp only [k8] at heq
   split at heq
   ·next v sz n cs hat =>
    simp only [Option.some.injEq] at heq; subst heq
    exact zKd hat _ (by simp [zP, zU, hdr])
   ·cases heq
  ·cases h
structure TailOk (cx : Ctx) (f id : Nat) (ops : Array Oper) (T : List Nat) (m : Nat) : Prop where
 pos : 0 < m
 sz : m + 2 ≤ ops.size
 ord : cx.ord f id (m - 1) = true
 pnd : cx.pnd f id (m - 1) = []
 pal : cx.pal f id (m - 1) = []
 aft : ∀ k, m ≤ k → k < ops.size → (T.getD k 0).testBit (m - 1) = true
 no : ∀ k, m ≤ k → k < ops.size → cx.ord f id k = false
 gd : ∀ k o, m ≤ k → ops[k]? = some o → o.guard = none
 pur : ∀ k o, m ≤ k → k + 2 < ops.size → ops[k]? = some o → gV o.op = true ∧ ∃ d, o.dst = some d
 sto : ∀ k o, ops.size ≤ k + 2 → ops[k]? = some o → o.dst = none ∧ ∃ t x y, o.op = .store t (.tmp x) y
def stOp : Op → Bool
 | .store _ (.tmp _) _ => true
 | _ => false
def zLw (cx : Ctx) (f id : Nat) (ops : Array Oper) (T : List Nat) : Bool :=
 match cx.tl f id with
 | none => true
 | some m => decide (0 < m) && decide (m + 2 ≤ ops.size) && cx.ord f id (m - 1) && (cx.pnd f id (m - 1)).isEmpty && (cx.pal f id (m - 1)).isEmpty &&
  (List.range ops.size).all fun k => decide (k < m) || ((T.getD k 0).testBit (m - 1) && match ops[k]? with
   | some o => o.guard.isNone && (if k + 2 < ops.size then gV o.op && o.dst.isSome else o.dst.isNone && stOp o.op)
   | none => false)
def zLv (cx : Ctx) (f id n : Nat) : Bool :=
 match cx.tl f id with
 | none => true
 | some m => (List.range n).all fun k => decide (k < m) || !cx.ord f id k
theorem zJz {id : Nat} {ops : Array Oper} {T : List Nat} {m : Nat} (hm : cx.tl f id = some m) (hno : zLv cx f id ops.size = true) (h : zLw cx f id ops T = true) : TailOk cx f id ops T m := by
 simp only [zLw, hm, Bool.and_eq_true, decide_eq_true_eq, List.isEmpty_iff, List.all_eq_true, List.mem_range, Bool.or_eq_true] at h
 obtain ⟨⟨⟨⟨⟨h1, h2⟩, h3⟩, h4⟩, h5⟩, h6⟩ := h
 have key : ∀ k o, m ≤ k → ops[k]? = some o → (T.getD k 0).testBit (m - 1) = true ∧ o.guard = none ∧ (if k + 2 < ops.size then gV o.op && o.dst.isSome else o.dst.isNone && stOp o.op) = true := by
  intro k o hk ho
  have hlt := (Array.getElem?_eq_some_iff.1 ho).1
  have := (h6 k hlt).resolve_left (by omega)
  rw [ho] at this
  simp only [Bool.and_eq_true, Option.isNone_iff_eq_none] at this
  exact ⟨this.1, this.2.1, this.2.2⟩
 refine ⟨h1, h2, h3, h4, h5, fun k hk hlt => (key k _ hk (Array.getElem?_eq_getElem hlt)).1, fun k hk hlt => ?_, fun k o hk ho => (key k o hk ho).2.1, fun k o hk hlt ho => ?_, fun k o hlt ho => ?_⟩
 ·simp only [zLv, hm, List.all_eq_true, List.mem_range, Bool.or_eq_true, decide_eq_true_eq, Bool.not_eq_true'] at hno
  exact (hno k hlt).resolve_left (by omega)
 ·have := (key k o hk ho).2.2
  rw [if_pos hlt, Bool.and_eq_true, Option.isSome_iff_exists] at this
  exact this
 ·have hlt' := (Array.getElem?_eq_some_iff.1 ho).1
  have := (key k o (by omega) ho).2.2
  rw [if_neg (by omega), Bool.and_eq_true, Option.isNone_iff_eq_none] at this
  refine ⟨this.1, ?_⟩
  have h2 := this.2
  unfold stOp at h2
  split at h2
  ·next t x y he => exact ⟨t, x, y, he⟩
  ·cases h2
def q9 (ops : Array Oper) (m : Nat) (v : Nat → Value) (a : Act) : Nat → Act
 | 0 => a
 | j + 1 => (q9 ops m v a j).put ((ops[m + j]?).bind (·.dst)) (v (m + j))
theorem oH {ops : Array Oper} {m : Nat} {v u : Nat → Value} {a : Act} : ∀ {j : Nat}, (∀ k, k < m + j → v k = u k) → q9 ops m v a j = q9 ops m u a j
 | 0, _ => rfl
 | j + 1, h => by simp only [q9]; rw [oH (fun k hk => h k (by omega)), h (m + j) (by omega)]
theorem zF5 {a : Act} {d t : Nat} {v : Value} (hd : d < a.tmps.size) : (a.put (some d) v).tmps[t]? = if t = d then some v else a.tmps[t]? := by
 simp only [Act.put]
 by_cases h : t = d
 ·subst h; simp [hd]
 ·simp only [if_neg h]; rw [Array.getElem?_setIfInBounds_ne (Ne.symm h)]
theorem nW {ops : Array Oper} {m : Nat} {v : Nat → Value} {a : Act} {n : Nat} (hn : a.tmps.size = n) (hdst : ∀ (k : Nat) (o : Oper) (d : Nat), ops[k]? = some o → o.dst = some d → d < n) : ∀ {j t : Nat}, (q9 ops m v a j).tmps.size = n ∧
  ((∃ k o, m ≤ k ∧ k < m + j ∧ ops[k]? = some o ∧ o.dst = some t ∧ (∀ k' o', m ≤ k' → k' < m + j → ops[k']? = some o' → o'.dst = some t → k' ≤ k) ∧ (q9 ops m v a j).tmps[t]? = some (v k)) ∨
   ((∀ k o, m ≤ k → k < m + j → ops[k]? = some o → o.dst ≠ some t) ∧ (q9 ops m v a j).tmps[t]? = a.tmps[t]?))
 | 0, t => ⟨hn, .inr ⟨fun k o h1 h2 => by omega, rfl⟩⟩
 | j + 1, t => by
  obtain ⟨i1, i2⟩ := nW hn hdst (m := m) (v := v) (j := j) (t := t)
  refine ⟨by simp only [q9]; rw [zB1]; exact i1, ?_⟩
  cases ho : ops[m + j]? with
  | none =>
   simp only [q9, ho, Option.bind_none]
   rcases i2 with ⟨k, o, h1, h2, h3, h4, h5, h6⟩ | ⟨h1, h2⟩
   ·refine .inl ⟨k, o, h1, by omega, h3, h4, fun k' o' g1 g2 g3 g4 => h5 k' o' g1 ?_ g3 g4, h6⟩
    rcases Nat.lt_or_ge k' (m + j) with h | h
    ·exact h
    ·obtain rfl : k' = m + j := by omega
     rw [ho] at g3; cases g3
   ·refine .inr ⟨fun k o g1 g2 g3 => ?_, h2⟩
    rcases Nat.lt_or_ge k (m + j) with h | h
    ·exact h1 k o g1 h g3
    ·obtain rfl : k = m + j := by omega
     rw [ho] at g3; cases g3
  | some o =>
   simp only [q9, ho, Option.bind_some]
   cases hd : o.dst with
   | none =>
    rcases i2 with ⟨k, o2, h1, h2, h3, h4, h5, h6⟩ | ⟨h1, h2⟩
    ·refine .inl ⟨k, o2, h1, by omega, h3, h4, fun k' o' g1 g2 g3 g4 => h5 k' o' g1 ?_ g3 g4, h6⟩
     rcases Nat.lt_or_ge k' (m + j) with h | h
     ·exact h
     ·obtain rfl : k' = m + j := by omega
      rw [ho] at g3; simp only [Option.some.injEq] at g3; subst g3; rw [hd] at g4; cases g4
    ·refine .inr ⟨fun k o2 g1 g2 g3 => ?_, h2⟩
     rcases Nat.lt_or_ge k (m + j) with h | h
     ·exact h1 k o2 g1 h g3
     ·obtain rfl : k = m + j := by omega
      rw [ho] at g3; simp only [Option.some.injEq] at g3; subst g3; rw [hd]; simp
   | some d =>
    have hdn := hdst _ o d ho hd
    rw [zF5 (by omega)]
    by_cases ht : t = d
    ·subst ht
     exact .inl ⟨m + j, o, by omega, by omega, ho, hd, fun k' o' g1 g2 _ _ => by omega, by simp⟩
    ·simp only [if_neg ht]
     rcases i2 with ⟨k, o2, h1, h2, h3, h4, h5, h6⟩ | ⟨h1, h2⟩
     ·refine .inl ⟨k, o2, h1, by omega, h3, h4, fun k' o' g1 g2 g3 g4 => h5 k' o' g1 ?_ g3 g4, h6⟩
      rcases Nat.lt_or_ge k' (m + j) with h | h
      ·exact h
      ·obtain rfl : k' = m + j := by omega
       rw [ho] at g3; simp only [Option.some.injEq] at g3; subst g3; rw [hd] at g4; exact absurd (by simpa using g4.symm) ht
     ·refine .inr ⟨fun k o2 g1 g2 g3 => ?_, h2⟩
      rcases Nat.lt_or_ge k (m + j) with h | h
      ·exact h1 k o2 g1 h g3
      ·obtain rfl : k = m + j := by omega
       rw [ho] at g3; simp only [Option.some.injEq] at g3; subst g3; rw [hd]; simpa using fun e => ht e.symm
end
end Go.Proofs.YtlkjnlfddadlmaaGreatDoor.V
namespace Go.Proofs.YtlkjnlfddadlmaaGreatDoor.V
open Go.RowKit
section
variable {cx : Ctx} {f : Nat} {w0 : World} {E0 : Nat → Prop} {P : Nat → Nat → Prop} {R : Nat → Prop} {ea : List EA} {w w' : World} {S : SV} {tmps : Array Value} {Pr : Program} {a : Act} {call : zX}
theorem zFf {o : Oper} (h3 : gV o.op = true) {ρ ρ' : Operand → Value} (h : ∀ x ∈ o.op.operands.toList, ρ x = ρ' x) : execOp ρ o = execOp ρ' o := by
 cases ho : o.op with
 | move x => rw [ho] at h; simp only [execOp, ho, h x (by simp [Op.operands])]
 | fieldAddr e x i => rw [ho] at h; simp only [execOp, ho, h x (by simp [Op.operands])]
 | indexAddr e x i => rw [ho] at h; simp only [execOp, ho, h x (by simp [Op.operands]), h i (by simp [Op.operands])]
 | nilCheck x => rw [ho] at h; simp only [execOp, ho, h x (by simp [Op.operands])]
 | _ => rw [ho] at h3; simp [gV] at h3
theorem zO9 {a b : Act} {x : Operand} (h : ∀ t, x = .tmp t → a.tmps[t]? = b.tmps[t]?) : a.eval x = b.eval x := by
 cases x with
 | tmp t => simp only [Act.eval, Array.getD_eq_getD_getElem?, h t rfl]
 | _ => rfl
theorem iP (hty : jB Pr cx.ty) {n : Nat} {ops : Array Oper} {o : Oper} {Su Su' : SU} {t : Nat} {x y : Operand} (hat : At cx f w0 E0 P R ea n Su a w) (ho : o.op = .store t x y) (hg : o.guard = none) (hd : o.dst = none) (hq : stepOp cx f call Su ops o = some Su') :
  ∃ w' b i vs, At cx f w0 E0 P R ea n Su' a w' ∧ a.eval x = .pointer (some ⟨b, i, none⟩) ∧ sL Pr a o w w' b i vs := by
 obtain ⟨S, hr, rfl, hdf, hsz⟩ := hat
 unfold stepOp at hq
 simp only [y5, hg, ho] at hq
 cases hv : nT cx f (V.erS S) t x y with
 | none => simp [hv] at hq
 | some r =>
  simp only [hv, Option.bind_some, wJ, hd, Option.some.injEq] at hq
  subst hq
  obtain ⟨w', S2, b, i, vs, e1, e2, e3, e4⟩ := zCq hty hr rfl ho hv
  exact ⟨w', b, i, vs, ⟨S2, e2, e1, hdf, hsz⟩, e3, e4⟩
theorem zU1 {n : Nat} {Su : SU} (hat : At cx f w0 E0 P R ea n Su a w) : ∃ S, Rel (zB cx f) w0 E0 P R ea w S a.tmps ∧ ∀ x r, eJ (Su.s x) = some r → ∃ (ad : Addr) (off : Nat), a.eval (.tmp x) = .pointer (some ⟨ad.block, ad.off + off, none⟩) ∧ ad.block ∈ zL S ea r := by
 obtain ⟨S, hr, rfl, hdf, hsz⟩ := hat
 refine ⟨S, hr, fun x r hx => ?_⟩
 have hop : ∃ p off, opv cx f (V.erS S) 0 (.tmp x) = some (.c (.ptr () r p off)) := by
  unfold eJ at hx
  split at hx
  ·next q r' p off he =>
   simp only [Option.some.injEq] at hx; subst hx
   refine ⟨p, off, ?_⟩
   simp only [opv, he]
   cases zB cx f x <;> rfl
  ·cases hx
 obtain ⟨p, off, hop⟩ := hop
 obtain ⟨cG, h1, h2, h3, h4⟩ := kA hr rfl hop
 obtain ⟨v, rfl⟩ := mZ h1
 simp only [okC] at h3
 obtain ⟨ad, had, rfl⟩ := h3
 exact ⟨ad, off, by rw [h2]; rfl, zIv had⟩
theorem zTo (hty : jB Pr cx.ty) {id : Nat} {ops : Array Oper} {T : List Nat} {m n : Nat} (hd : DrawOk cx f id ops T) (ht : TailOk cx f id ops T m) (hdst : ∀ (k : Nat) (o : Oper) (d : Nat), ops[k]? = some o → o.dst = some d → d < n)
  {S : Nat → SU} (hS : ∀ k o, m ≤ k → ops[k]? = some o → stepOp cx f call (S k) ops o = some (S (k + 1))) (hck : oD (S (ops.size - 2)) ops = true)
  {Q : Exit → Act → World → Prop} (hQ : ∀ a w, At cx f w0 E0 P R ea n (S ops.size) a w → Q .normal a w) (hat : At cx f w0 E0 P R ea n (S m) a w) :
  ∀ (fuel : Nat) (listed : Array Bool), left ops.size listed ≤ fuel → listed.size = ops.size → (∀ k, listed.getD k false = decide (k < m)) → wpAny Pr .any ops Q fuel listed a w := by
 have hsz := ht.sz
 have hpos := ht.pos
 -- what is reckoned
 have runs : ∀ j, m + j ≤ ops.size - 2 → ∃ v : Nat → Value, At cx f w0 E0 P R ea n (S (m + j)) (q9 ops m v a j) w ∧ ∀ i, i < j → ∀ o, ops[m + i]? = some o → ∀ w', (execOp (q9 ops m v a i).eval o).run Pr w' = .ok (.value (v (m + i))) w' := by
  intro j
  induction j with
  | zero => intro _; exact ⟨fun _ => undef, hat, fun i hi => by omega⟩
  | succ j ih =>
   intro hj
   obtain ⟨v, h1, h2⟩ := ih (by omega)
   have ho : ops[m + j]? = some (ops[m + j]'(by omega)) := Array.getElem?_eq_getElem (by omega)
   obtain ⟨hp, d, hdd⟩ := ht.pur (m + j) _ (by omega) (by omega) ho
   obtain ⟨u, h3, h4⟩ := zLg hty h1 hp (ht.gd _ _ (by omega) ho) (fun d hd' => hdst _ _ d ho hd') (hS _ _ (by omega) ho)
   have hc : ∀ i, i ≤ j → q9 ops m (fun k => if k = m + j then u else v k) a i = q9 ops m v a i := fun i hi => oH fun k hk => by rw [if_neg (by omega)]
   refine ⟨fun k => if k = m + j then u else v k, ?_, fun i hi o ho' w' => ?_⟩
   ·simp only [q9, hc j (Nat.le_refl _), ho, Option.bind_some, if_true]
    exact h3
   ·rw [hc i (by omega)]
    simp only
    rcases Nat.lt_or_ge i j with h | h
    ·rw [if_neg (by omega)]; exact h2 i h o ho' w'
    ·obtain rfl : i = j := by omega
     rw [ho] at ho'; simp only [Option.some.injEq] at ho'; subst ho'
     rw [if_pos rfl]; exact h4 w'
 obtain ⟨q, hq⟩ : ∃ q, m + q = ops.size - 2 := ⟨ops.size - 2 - m, by omega⟩
 obtain ⟨v, hA, hrun⟩ := runs q (by omega)
 rw [hq] at hA
 obtain ⟨p, hp⟩ : ∃ p, p = ops.size - 2 := ⟨_, rfl⟩
 rw [← hp] at hA hck hq
 have hps : p + 2 = ops.size := by omega
 have o1e : ops[p]? = some (ops[p]'(by omega)) := Array.getElem?_eq_getElem (by omega)
 have o2e : ops[p + 1]? = some (ops[p + 1]'(by omega)) := Array.getElem?_eq_getElem (by omega)
 generalize ops[p]'(by omega) = o1 at o1e
 generalize ops[p + 1]'(by omega) = o2 at o2e
 obtain ⟨d1, t1, x1, y1, e1⟩ := ht.sto p o1 (by omega) o1e
 obtain ⟨d2, t2, x2, y2, e2⟩ := ht.sto (p + 1) o2 (by omega) o2e
 obtain ⟨w1, b1, i1, vs1, hA1, p1, s1, s1c, s1r⟩ := iP hty hA e1 (ht.gd p o1 (by omega) o1e) d1 (hS p o1 (by omega) o1e)
 obtain ⟨w2, b2, i2, vs2, hA2, p2, s2, s2c, s2r⟩ := iP hty hA1 e2 (ht.gd (p + 1) o2 (by omega) o2e) d2 (hS (p + 1) o2 (by omega) o2e)
 have hne : b1 ≠ b2 := by
  obtain ⟨SG, hr, hb⟩ := zU1 hA
  simp only [oD, show ops.size - 2 = p by omega, show ops.size - 1 = p + 1 by omega, o1e, o2e, e1, e2, zCb] at hck
  split at hck
  ·next r r' hr1 hr2 =>
   obtain ⟨ad, off, g1, g2⟩ := hb x1 r hr1
   obtain ⟨ad', off', g3, g4⟩ := hb x2 r' hr2
   rw [g1] at p1; rw [g3] at p2
   simp only [Value.pointer.injEq, Option.some.injEq, Addr.mk.injEq] at p1 p2
   intro e
   have := of_decide_eq_true hck
   exact this (hr.dis r r' ad.block g2 (by rw [p1.1, e, ← p2.1]; exact g4))
  ·cases hck
 have hsA : a.tmps.size = n := by obtain ⟨_, _, _, _, h⟩ := hat; exact h
 -- which temporaries an operation of the end sees
 have sees : ∀ (l : Nat → Bool), mL ops l → ∀ i o, m ≤ i → i ≤ p + 1 → ops[i]? = some o → l i = false → (∀ e ∈ o.after, Region.binds .any e = true → l e.on = true) →
   ∀ a' : Act, (∀ k ok t, m ≤ k → k < p → ops[k]? = some ok → ok.dst = some t → l k = true → a'.tmps[t]? = some (v k)) → (∀ t, (∀ k ok, m ≤ k → k < p → ops[k]? = some ok → ok.dst = some t → l k = false) → a'.tmps[t]? = a.tmps[t]?) →
   ∀ j, m + j = min i p → ∀ x ∈ o.op.operands.toList, a'.eval x = (q9 ops m v a j).eval x := by
  intro l hcl i o hmi hip ho hli hrd a' ha1 ha2 j hj x hx
  refine zO9 fun t hxt => ?_
  subst hxt
  have hlook : t ∈ o.looksAt ops := kP hx
  rcases (nW hsA hdst (m := m) (v := v) (j := j) (t := t)).2 with ⟨k, ok, g1, g2, g3, g4, g5, g6⟩ | ⟨g1, g2⟩
  ·rw [g6]
   refine ha1 k ok t g1 (by omega) g3 g4 ?_
   cases hb : (T.getD i 0).testBit k with
   | true => exact (hd.closed hcl (i + 1) i o (by omega) ho hrd k hb).1
   | false => exact absurd hlook ((Oper.apart_spec (hd.apart k i ok o (by omega) g3 ho hb)).1 t g4)
  ·rw [g2]
   refine ha2 t fun k ok h1 h2 h3 h4 => ?_
   rcases Nat.lt_trichotomy k i with h | h | h
   ·exact absurd h4 (g1 k ok h1 (by omega) h3)
   ·subst h; exact hli
   ·cases hl : l k with
    | false => rfl
    | true =>
     cases hb : (T.getD k 0).testBit i with
     | true =>
      have := (hd.closed hcl (k + 1) k ok (by omega) h3 (fun e he hb' => hcl k ok hl h3 e he hb') i hb).1
      rw [hli] at this; cases this
     | false => exact absurd hlook ((Oper.apart_spec (hd.apart i k o ok h ho h3 hb)).2.2 t h4)
 have key : ∀ (fuel : Nat) (listed : Array Bool) (a' : Act) (w' : World), left ops.size listed ≤ fuel → listed.size = ops.size → (∀ k, k < m → listed.getD k false = true) → mL ops (fun k => listed.getD k false) →
   a'.defers = a.defers → a'.tmps.size = n → (∀ k ok t, m ≤ k → k < p → ops[k]? = some ok → ok.dst = some t → listed.getD k false = true → a'.tmps[t]? = some (v k)) →
   (∀ t, (∀ k ok, m ≤ k → k < p → ops[k]? = some ok → ok.dst = some t → listed.getD k false = false) → a'.tmps[t]? = a.tmps[t]?) →
   w' = (fun u : World => if listed.getD (p + 1) false = true then u.setCells b2 i2 vs2 else u) (if listed.getD p false = true then w.setCells b1 i1 vs1 else w) → wpAny Pr .any ops Q fuel listed a' w' := by
  intro fuel
  induction fuel with
  | zero =>
   intro listed a' w' hleft hls hlo hcl hdf hsz' ha1 ha2 hw
   have hall : ∀ k, k < ops.size → listed.getD k false = true := by
    intro k hk
    have h0 : left ops.size listed = 0 := by omega
    simp only [left, List.length_eq_zero_iff, List.filter_eq_nil_iff, List.mem_range] at h0
    simpa using h0 k hk
   refine ⟨?_, ?_⟩
   ·rw [List.eq_nil_iff_forall_not_mem]
    intro k hk
    obtain ⟨h1, o, ho, _⟩ := mem_ready.1 hk
    have hlt := (Array.getElem?_eq_some_iff.1 ho).1
    have := hall k hlt
    have h2 : k < listed.size := by omega
    simp [h2] at h1 this
    rw [h1] at this; cases this
   ·have hfin : a' = q9 ops m v a q ∧ w' = w2 := by
     refine ⟨?_, ?_⟩
     ·have hdA : (q9 ops m v a q).defers = a.defers := by
       have : ∀ j, (q9 ops m v a j).defers = a.defers := by
        intro j
        induction j with
        | zero => rfl
        | succ j ih => simp only [q9]; rw [l9]; exact ih
       exact this q
      have htm : a'.tmps = (q9 ops m v a q).tmps := by
       refine Array.ext_getElem? fun t => ?_
       rcases (nW hsA hdst (m := m) (v := v) (j := q) (t := t)).2 with ⟨k, ok, g1, g2, g3, g4, g5, g6⟩ | ⟨g1, g2⟩
       ·rw [g6]; exact ha1 k ok t g1 (by omega) g3 g4 (hall k (by omega))
       ·rw [g2]; exact ha2 t fun k ok h1 h2 h3 h4 => absurd h4 (g1 k ok h1 (by omega) h3)
      cases a' with
      | mk t1 d1 => 
       cases hb : q9 ops m v a q with
       | mk t2 d2 =>
        rw [hb] at hdA htm
        simp only at hdA htm hdf
        rw [htm, hdf, hdA]
     ·rw [hw, s2, s1]
      simp only [hall p (by omega), hall (p + 1) (by omega), if_true]
    rw [hfin.1, hfin.2]
    refine hQ _ _ ?_
    rw [show ops.size = p + 1 + 1 by omega]; exact hA2
  | succ fuel ih =>
   intro listed a' w' hleft hls hlo hcl hdf hsz' ha1 ha2 hw
   refine ⟨fun hnil => ?_, fun i hi => ?_⟩
   ·-- all are listed
    have hall : ∀ k, k < ops.size → listed.getD k false = true := by
     intro k hk
     cases hl : listed.getD k false with
     | true => rfl
     | false =>
      exfalso
      have : ∀ M, ∀ k, k < M → k < ops.size → listed.getD k false = false → False := by
       intro M
       induction M with
       | zero => intro k hk; omega
       | succ M ihm =>
        intro k hkm hk hlk
        have ho : ops[k]? = some ops[k] := Array.getElem?_eq_getElem hk
        have hr : k ∈ Region.ready .any ops listed := by
         refine mem_ready.2 ⟨?_, _, ho, fun e he hb => ?_⟩
         ·have h2 : k < listed.size := by omega
          simp [h2] at hlk ⊢; exact hlk
         ·cases hle : listed.getD e.on false with
          | true => rfl
          | false =>
           have hlt := hd.on k _ ho e he hb
           exact (ihm e.on (by omega) (by omega) hle).elim
        rw [hnil] at hr; cases hr
      exact this (k + 1) k (by omega) hk hl
    have hdA : (q9 ops m v a q).defers = a.defers := by
     have : ∀ j, (q9 ops m v a j).defers = a.defers := by
      intro j
      induction j with
      | zero => rfl
      | succ j ih => simp only [q9]; rw [l9]; exact ih
     exact this q
    have htm : a'.tmps = (q9 ops m v a q).tmps := by
     refine Array.ext_getElem? fun t => ?_
     rcases (nW hsA hdst (m := m) (v := v) (j := q) (t := t)).2 with ⟨k, ok, g1, g2, g3, g4, g5, g6⟩ | ⟨g1, g2⟩
     ·rw [g6]; exact ha1 k ok t g1 (by omega) g3 g4 (hall k (by omega))
     ·rw [g2]; exact ha2 t fun k ok h1 h2 h3 h4 => absurd h4 (g1 k ok h1 (by omega) h3)
    have e3 : a' = q9 ops m v a q := by
     cases a' with
     | mk t1 d1 =>
      cases hb : q9 ops m v a q with
      | mk t2 d2 =>
       rw [hb] at hdA htm
       simp only at hdA htm hdf
       rw [htm, hdf, hdA]
    have e4 : w' = w2 := by
     rw [hw, s2, s1]
     simp only [hall p (by omega), hall (p + 1) (by omega), if_true]
    rw [e3, e4]
    refine hQ _ _ ?_
    rw [show ops.size = p + 1 + 1 by omega]; exact hA2
   ·obtain ⟨h1, o, ho, hrd⟩ := mem_ready.1 hi
    have hlt := (Array.getElem?_eq_some_iff.1 ho).1
    have hLi : listed.getD i false = false := by
     have h2 : i < listed.size := by omega
     simp [h2] at h1 ⊢; exact h1
    have hmi : m ≤ i := by
     rcases Nat.lt_or_ge i m with h | h
     ·rw [hlo i h] at hLi; cases hLi
     ·exact h
    have hset : ∀ k, (listed.setIfInBounds i true).getD k false = jG (fun k => listed.getD k false) i k := by
     intro k
     by_cases e : k = i
     ·subst e
      have h2 : k < listed.size := by omega
      simp [jG, h2]
     ·rw [getD_set_ne false (Ne.symm e)]; simp [jG, e]
    have hset1 : (listed.setIfInBounds i true).getD i false = true := by rw [hset]; simp [jG]
    have hset2 : ∀ k, k ≠ i → (listed.setIfInBounds i true).getD k false = listed.getD k false := fun k hk => by rw [hset]; simp [jG, hk]
    have hcl' : mL ops (fun k => (listed.setIfInBounds i true).getD k false) := by
     intro k o' hk ho' e he hb
     simp only [hset, jG, Bool.or_eq_true, beq_iff_eq] at hk ⊢
     right
     rcases hk with rfl | hk
     ·rw [ho] at ho'; simp only [Option.some.injEq] at ho'; subst ho'; exact hrd e he hb
     ·exact hcl k o' hk ho' e he hb
    have hleft' : left ops.size (listed.setIfInBounds i true) ≤ fuel := by
     have := zH3 hlt hls hLi; omega
    have hlo' : ∀ k, k < m → (listed.setIfInBounds i true).getD k false = true := fun k hk => by rw [hset2 k (by omega)]; exact hlo k hk
    have hgd := ht.gd i o hmi ho
    have hwant : Region.wanted o (yielded ops a'.tmps) = true := by simp only [Region.wanted, hgd]
    simp only [wpOp, ho]
    rw [if_pos hwant]
    refine .inl ?_
    have hsee := sees (fun k => listed.getD k false) hcl i o hmi (by omega) ho hLi hrd a' ha1 ha2
    rcases Nat.lt_trichotomy i p with hip | hip | hip
    ·-- a place is reckoned
     obtain ⟨hpu, d, hdd⟩ := ht.pur i o hmi (by omega) ho
     obtain ⟨j, rfl⟩ : ∃ j, i = m + j := ⟨i - m, by omega⟩
     have hex := hrun j (by omega) o ho w'
     rw [← zFf hpu (hsee j (by omega))] at hex
     refine aK hex ?_
     rw [hdd]
     have hdn := hdst _ o d ho hdd
     refine ih _ _ _ hleft' (by simpa using hls) hlo' hcl' (by rw [l9]; exact hdf) (by rw [zB1]; exact hsz') (fun k ok t g1 g2 g3 g4 g5 => ?_) (fun t g => ?_) ?_
     ·rw [zF5 (by omega)]
      by_cases hk : k = m + j
      ·subst hk
       rw [ho] at g3; simp only [Option.some.injEq] at g3; subst g3
       rw [hdd] at g4; simp only [Option.some.injEq] at g4; subst g4
       simp
      ·have htd : t ≠ d := fun e => by
        subst e
        rcases hd.dst k (m + j) ok o t hk g3 ho g4 hdd with h | h
        ·rw [ht.no k g1 (by omega)] at h; cases h
        ·rw [ht.no (m + j) hmi hlt] at h; cases h
       rw [if_neg htd]
       rw [hset2 k hk] at g5
       exact ha1 k ok t g1 g2 g3 g4 g5
     ·have htd : t ≠ d := fun e => by
       subst e
       have := g (m + j) o hmi hip ho hdd
       rw [hset1] at this; cases this
      rw [zF5 (by omega), if_neg htd]
      refine ha2 t fun k ok g1 g2 g3 g4 => ?_
      have h5 := g k ok g1 g2 g3 g4
      by_cases hk : k = m + j
      ·subst hk; exact hLi
      ·rwa [hset2 k hk] at h5
     ·rw [hset2 p (by omega), hset2 (p + 1) (by omega)]; exact hw
    ·-- the first store
     subst hip
     rw [o1e] at ho; simp only [Option.some.injEq] at ho; subst ho
     have hj := hsee q (by omega)
     have hexec : execOp a'.eval o1 = execOp (q9 ops m v a q).eval o1 := m0 (by rw [e1]; rfl) hj
     have hcond : ∀ j, j < vs1.length → (w'.cell? ⟨b1, i1 + j, none⟩).isSome = true ∧ w'.frozen? ⟨b1, i1 + j, none⟩ = false := by
      intro j hj
      have := s1c j hj
      rw [hw]
      simp only [hLi, Bool.false_eq_true, if_false]
      split
      ·rw [mT (Ne.symm hne), wN]; exact this
      ·exact this
     have hr := s1r w' hcond
     rw [← hexec] at hr
     refine zCt hr ?_
     rw [d1]
     refine ih _ _ _ hleft' (by simpa using hls) hlo' hcl' hdf hsz' (fun k ok t g1 g2 g3 g4 g5 => ha1 k ok t g1 g2 g3 g4 (by rwa [hset2 k (by omega)] at g5)) (fun t g => ha2 t fun k ok g1 g2 g3 g4 => by have := g k ok g1 g2 g3 g4; rwa [hset2 k (by omega)] at this) ?_
     rw [hset1, hset2 (i + 1) (by omega), hw]
     simp only [hLi, Bool.false_eq_true, if_false, if_true]
     split
     ·exact p5 (Ne.symm hne) vs2 i2 vs1 i1 w
     ·rfl
    ·-- the second one
     obtain rfl : i = p + 1 := by omega
     rw [o2e] at ho; simp only [Option.some.injEq] at ho; subst ho
     have hj := hsee q (by omega)
     have hexec : execOp a'.eval o2 = execOp (q9 ops m v a q).eval o2 := m0 (by rw [e2]; rfl) hj
     have hcond : ∀ j, j < vs2.length → (w'.cell? ⟨b2, i2 + j, none⟩).isSome = true ∧ w'.frozen? ⟨b2, i2 + j, none⟩ = false := by
      intro j hj
      have := s2c j hj
      rw [s1, mT hne, wN] at this
      rw [hw]
      simp only [hLi, Bool.false_eq_true, if_false]
      split
      ·rw [mT hne, wN]; exact this
      ·exact this
     have hr := s2r w' hcond
     rw [← hexec] at hr
     refine zCt hr ?_
     rw [d2]
     refine ih _ _ _ hleft' (by simpa using hls) hlo' hcl' hdf hsz' (fun k ok t g1 g2 g3 g4 g5 => ha1 k ok t g1 g2 g3 g4 (by rwa [hset2 k (by omega)] at g5)) (fun t g => ha2 t fun k ok g1 g2 g3 g4 => by have := g k ok g1 g2 g3 g4; rwa [hset2 k (by omega)] at this) ?_
     rw [hset1, hset2 p (by omega), hw]
     simp only [hLi, Bool.false_eq_true, if_false, if_true]
 intro fuel listed hleft hls hl
 refine key fuel listed a w hleft hls (fun k hk => by rw [hl]; simp [hk]) (fun k o hk ho e he hb => ?_) rfl hsA (fun k ok t g1 g2 g3 g4 g5 => ?_) (fun t _ => rfl) ?_
 ·simp only [hl, decide_eq_true_eq] at hk ⊢
  have := hd.on k o ho e he hb
  omega
 ·rw [hl] at g5; simp only [decide_eq_true_eq] at g5; omega
 ·simp only [hl, show ¬ p < m by omega, show ¬ p + 1 < m by omega, decide_false, Bool.false_eq_true, if_false]
theorem At.drew {n : Nat} {Su : SU} (h : At cx f w0 E0 P R ea n Su a w) : At cx f w0 E0 P R ea n Su a w.drew := by
 obtain ⟨S, hr, h1, h2, h3⟩ := h
 exact ⟨S, hr.grow (Grow.drew w), h1, h2, h3⟩
theorem zCp {id : Nat} {ops : Array Oper} : ∀ {l : List Oper} {k : Nat} {S0 S1 : SU}, stepsD cx f call id ops k l S0 = some S1 → ∃ S : Nat → SU, S k = S0 ∧ S (k + l.length) = S1 ∧ ∀ j o, l[j]? = some o → aC cx f call id ops (k + j) (S (k + j)) o = some (S (k + j + 1))
 | [], k, S0, S1, h => by
  simp only [stepsD, Option.some.injEq] at h
  exact ⟨fun _ => S0, rfl, by simp [h], by simp⟩
 | o :: l, k, S0, S1, h => by
  simp only [stepsD] at h
  cases hs : aC cx f call id ops k S0 o with
  | none => simp [hs] at h
  | some S' =>
   simp only [hs, Option.bind_some] at h
   obtain ⟨S, h1, h2, h3⟩ := zCp h
   refine ⟨fun j => if j = k then S0 else S j, by simp, ?_, fun j o' hj => ?_⟩
   ·have : k + (o :: l).length ≠ k := by simp
    simp only [this, if_false]
    rw [← h2]; congr 1; simp; omega
   ·cases j with
    | zero =>
     simp only [List.getElem?_cons_zero, Option.some.injEq] at hj
     subst hj
     have : ¬ (k + 0 + 1 = k) := by omega
     simp only [Nat.add_zero, if_true, Nat.add_eq_left, Nat.succ_ne_self, if_false]
     rw [hs, h1]
    | succ j =>
     simp only [List.getElem?_cons_succ] at hj
     have e1 : ¬ (k + (j + 1) = k) := by omega
     have e2 : ¬ (k + (j + 1) + 1 = k) := by omega
     simp only [e1, e2, if_false]
     have := h3 j o' hj
     rw [show k + 1 + j = k + (j + 1) by omega] at this
     exact this
theorem zHi (hty : jB Pr cx.ty) {id : Nat} {ops : Array Oper} {T : List Nat} {S0 S1 : SU} {n : Nat} (hd : DrawOk cx f id ops T) (htl : ∀ m, cx.tl f id = some m → TailOk cx f id ops T m) (hstep : mN cx f call Pr w0 E0 P R ea n) (hpure : eO cx f w0 E0 P R ea n) (hdst : ∀ (k : Nat) (o : Oper) (d : Nat), ops[k]? = some o → o.dst = some d → d < n)
  (hq : stepsD cx f call id ops 0 ops.toList S0 = some S1) (hat : At cx f w0 E0 P R ea n S0 a w) {Q : Exit → Act → World → Prop} (hQ : ∀ a w, At cx f w0 E0 P R ea n S1 a w → Q .normal a w) : wpAny Pr .any ops Q ops.size (Array.replicate ops.size false) a { w with drawn := w.drawn + 1 } := by
 obtain ⟨S, h1, h2, h3⟩ := zCp hq
 have h2 : S ops.size = S1 := by
  have : (0 : Nat) + ops.toList.length = ops.size := by simp
  rw [this] at h2; exact h2
 have h3 : ∀ k o, ops[k]? = some o → aC cx f call id ops k (S k) o = some (S (k + 1)) := by
  intro k o ho
  have := h3 k o (by simpa using ho)
  simpa using this
 have hrep : ∀ k, (Array.replicate ops.size false).getD k false = false := by
  intro k
  rcases Nat.lt_or_ge k ops.size with h | h <;> simp [h]
 have hleft0 : left ops.size (Array.replicate ops.size false) ≤ ops.size := by
  have := List.length_filter_le (fun i => !(Array.replicate ops.size false).getD i false) (List.range ops.size)
  simpa [left] using this
 -- where the end begins
 obtain ⟨m, hm, hlo, hhi⟩ : ∃ m, m ≤ ops.size ∧ (∀ k, k < m → m3 cx f id k = false) ∧ (m < ops.size → TailOk cx f id ops T m ∧ ∀ k, m ≤ k → m3 cx f id k = true) := by
  cases ht : cx.tl f id with
  | none => exact ⟨ops.size, Nat.le_refl _, fun k _ => by simp [m3, ht], fun h => absurd h (Nat.lt_irrefl _)⟩
  | some m =>
   have hk := htl m ht
   exact ⟨m, by have := hk.sz; omega, fun k hk => by simp [m3, ht]; omega, fun _ => ⟨hk, fun k hk => by simp [m3, ht]; omega⟩⟩
 obtain ⟨S', hS'⟩ : ∃ S' : Nat → SU, S' = fun k => if k ≤ m then S k else S m := ⟨_, rfl⟩
 have hSlo : ∀ k, k ≤ m → S' k = S k := fun k hk => by rw [hS']; exact if_pos hk
 have hShi : ∀ k, m ≤ k → S' k = S m := fun k hk => by
  rcases Nat.eq_or_lt_of_le hk with rfl | h
  ·exact hSlo _ (Nat.le_refl _)
  ·rw [hS']; exact if_neg (by omega)
 obtain ⟨eff, hT⟩ := effs (cx := cx) (f := f) (call := call) id ops S' (fun k => decide (m ≤ k)) (fun k hk => by
  have := of_decide_eq_true hk
  rw [hShi k this, hShi (k + 1) (by omega)]) (fun k o ho hk => by
  have := of_decide_eq_false hk
  have h4 := h3 k o ho
  unfold aC at h4
  rw [hlo k (by omega)] at h4
  rw [hSlo k (by omega), hSlo (k + 1) (by omega)]
  simpa using h4)
 obtain ⟨c, k1, k2, k3, k4⟩ := zBl (fun k => cx.ord f id k) m m 0 (by omega)
 refine zRb (m := m) hd hstep hpure hdst hm (fun h => ⟨(hhi h).1.pos, (hhi h).1.ord, (hhi h).1.pnd, (hhi h).1.pal⟩) (Sn := S m) (fun h a w ha => hQ a w (by rw [← h2, ← h]; exact ha)) (fun h fuel listed a w g1 g2 g3 g4 => ?_) ops.size S' eff (fun k => decide (m ≤ k)) _ c (S' 0) a _ hT (hSlo m (Nat.le_refl _)) hleft0 (by simp) k2 (fun h => ?_) (fun k hk => by simp [hk]) (fun k hk h => by simp at h; omega) (fun k _ => hrep k) (fun k hk _ => k3 k (Nat.zero_le k) hk) k4 ?_ (by rw [hSlo 0 (Nat.zero_le _), h1]; exact hat.drew) ?_
 ·obtain ⟨ht, hin⟩ := hhi h
  have hsz := ht.sz
  have hst : ∀ k o, m ≤ k → ops[k]? = some o → stepOp cx f call (S k) ops o = some (S (k + 1)) ∧ (k + 2 = ops.size → oD (S k) ops = true) := by
   intro k o hk ho
   have h4 := h3 k o ho
   unfold aC at h4
   rw [hin k hk, if_pos rfl] at h4
   split at h4
   ·cases h4
   ·next hc =>
    refine ⟨h4, fun he => ?_⟩
    cases h5 : oD (S k) ops with
    | true => rfl
    | false => rw [h5] at hc; exact absurd (by simp [he]) hc
  refine zTo hty hd ht hdst (fun k o hk ho => (hst k o hk ho).1) ((hst (ops.size - 2) _ (by omega) (Array.getElem?_eq_getElem (by omega))).2 (by omega)) (fun a w ha => hQ a w (by rw [← h2]; exact ha)) g4 fuel listed g1 g2 g3
 ·rcases Nat.lt_or_ge c m with h5 | h5
  ·exact h5
  ·exfalso
   have ht := (hhi h).1
   have := k3 (m - 1) (Nat.zero_le _) (by have := ht.pos; omega)
   rw [ht.ord] at this; cases this
 ·intro k o hk; have hk' : (Array.replicate ops.size false).getD k false = true := hk; rw [hrep k] at hk'; cases hk'
 ·refine (r8 (fun k _ _ hk => ?_)).symm
  rw [hrep k] at hk; cases hk
theorem zUc {id : Nat} {ops : Array Oper} {π T : List Nat} {S0 S1 : SU} {n : Nat} (hm : Pr.follows .mixedOrders = true) (hty : jB Pr cx.ty) (hπ : π.isEmpty = true ∨ zF2 π ops.size = true) (hd : DrawOk cx f id (xW π ops) T) (htl : ∀ m, cx.tl f id = some m → TailOk cx f id (xW π ops) T m) (hstep : mN cx f call Pr w0 E0 P R ea n) (hpure : eO cx f w0 E0 P R ea n) (hdst : ∀ (k : Nat) (o : Oper) (d : Nat), ops[k]? = some o → o.dst = some d → d < n)
  (hq : stepsD cx f call id (xW π ops) 0 (xW π ops).toList S0 = some S1) (hat : At cx f w0 E0 P R ea n S0 a w) {Q : Exit → Act → World → Prop} (hQ : ∀ a w, At cx f w0 E0 P R ea n S1 a w → Q .normal a w) : (Code.region id ops true).wp Pr Q a w := by
 cases he : π.isEmpty with
 | true =>
  have e : xW π ops = ops := by simp only [xW, he, if_true]
  rw [e] at hd hq htl
  exact wp_region_any hm (zHi hty hd htl hstep hpure hdst hq hat hQ)
 | false =>
  have hp := zIt (hπ.resolve_left (by rw [he]; simp))
  have hsz : (xW π ops).size = ops.size := by rw [zB0 he, hp.len]
  have := zHi hty hd htl hstep hpure (fun k o d ho hdo => by
   obtain ⟨i, o0, _, h2, rfl⟩ := zSl hp he ho
   exact hdst i o0 d h2 hdo) hq hat hQ
  rw [hsz] at this
  exact zLf hp he hm this
end
end Go.Proofs.YtlkjnlfddadlmaaGreatDoor.V
namespace Go.Proofs.YtlkjnlfddadlmaaGreatDoor.V
open Go.RowKit
section
variable {cx : Ctx} {f : Nat} {w0 : World} {E0 : Nat → Prop} {P : Nat → Nat → Prop} {R : Nat → Prop} {ea : List EA} {w w' : World} {a : Act} {call : zX} {Pr : Program}
theorem zH7 {c : Code} {Q : Exit → Act → World → Prop} (I : Nat → Act → World → Prop) (h0 : ∀ a w, ¬ I 0 a w) (round : ∀ n a w, I (n + 1) a w → c.wp Pr (Exit.then (I n) Q) a w) {n : Nat} (h : I n a w) : (Code.loop c).wp Pr Q a w := by
 intro b k cs
 have key : ∀ n a w, I n a w → ∃ e a' w', Q e a' w' ∧ Arrives Pr (lone (b.at a (.code c :: .inLoop c :: k)) cs w) b k cs e a' w' := by
  intro n
  induction n with
  | zero => intro a w hI; exact absurd hI (h0 a w)
  | succ n ih =>
   intro a w hI
   obtain ⟨e, a₁, w₁, hq, harr⟩ := round n a w hI b (.inLoop c :: k) cs
   cases e with
   | normal =>
    obtain ⟨e₂, a₂, w₂, hq₂, harr₂⟩ := ih a₁ w₁ hq
    exact ⟨e₂, a₂, w₂, hq₂, .of_steps (Steps.trans harr (.one step_inLoop)) harr₂⟩
   | exit id => exact ⟨_, a₁, w₁, hq, .pass (x := .inLoop c) rfl (fun _ _ => .inl (by simp)) harr⟩
   | goto l => exact ⟨_, a₁, w₁, hq, .pass (x := .inLoop c) rfl (fun _ _ => .inl (by simp)) harr⟩
   | ret => exact ⟨_, a₁, w₁, hq, .pass (x := .inLoop c) rfl (fun _ _ => .inl (by simp)) harr⟩
   | panic ch => exact ⟨_, a₁, w₁, hq, .pass (x := .inLoop c) rfl (fun _ _ => .inl (by simp)) harr⟩
   | outgrown => exact ⟨_, a₁, w₁, hq, .pass (x := .inLoop c) rfl (fun _ _ => .inl (by simp)) harr⟩
 obtain ⟨e, a', w', hq, harr⟩ := key n a w h
 exact ⟨e, a', w', hq, .of_steps (.one step_loop) harr⟩
theorem eI {n : Nat} : ∀ {l : List Oper} {Su : SU}, At cx f w0 E0 P R ea n Su a w → At cx f w0 E0 P R ea n (zBy cx f Su l) a w
 | [], Su, h => h
 | o :: os, Su, h => by
  have key : ∀ d, At cx f w0 E0 P R ea n { kill (.sl d) [] Su with s := upd (kill (.sl d) [] Su).s d .undef } a w := by
   intro d
   obtain ⟨S, hr, rfl, h2, h3⟩ := h
   have h5 := (hr.kill (.sl d) []).clear (rU d)
   refine ⟨_, h5, ?_, h2, h3⟩
   have hk : kill (.sl d) [] (V.erS S) = V.erS (kill (.sl d) [] S) := fP er0 S (.sl d) []
   rw [hk]
   simp only [V.erS, jJ]
   congr 1
   funext i
   by_cases e : i = d <;> simp [upd, e, zW]
  simp only [zBy]
  cases o.dst with
  | none => exact eI h
  | some d =>
   simp only
   split
   ·exact eI (key _)
   ·exact eI h
theorem iR {n : Nat} (hstep : mN cx f call Pr w0 E0 P R ea n) {ops : Array Oper} (hdst : ∀ (k : Nat) (o : Oper) (d : Nat), ops[k]? = some o → o.dst = some d → d < n) {Q : Exit → Act → World → Prop} {S1 : SU}
  (hQ : ∀ a w, At cx f w0 E0 P R ea n S1 a w → Q .normal a w) : ∀ {m k : Nat} {Su : SU} {a : Act} {w : World}, k + m = ops.size → At cx f w0 E0 P R ea n Su a w → stepOps cx f call ops (ops.toList.drop k) Su = some S1 → wpOps Pr ops Q (List.range' k m) a w
 | 0, k, Su, a, w, hk, hat, hq => by
  rw [List.drop_eq_nil_of_le (by simp; omega)] at hq
  simp only [stepOps, Option.some.injEq] at hq
  subst hq
  exact hQ a w hat
 | m + 1, k, Su, a, w, hk, hat, hq => by
  have hlt : k < ops.size := by omega
  rw [List.drop_eq_getElem_cons (by simpa using hlt)] at hq
  simp only [stepOps, Array.getElem_toList] at hq
  cases hs : stepOp cx f call Su ops (ops[k]'hlt) with
  | none => simp [hs] at hq
  | some S' =>
   simp only [hs, Option.bind_some] at hq
   have ho : ops[k]? = some (ops[k]'hlt) := Array.getElem?_eq_getElem hlt
   rw [List.range'_succ, wpOps_cons]
   exact hstep ops _ k Su S' a w hat ho (fun d hd => hdst k _ d ho hd) hs _ Q (fun a' w' hat' => iR hstep hdst hQ (by omega) hat' hq)
def wW (cx : Ctx) (f n : Nat) : Code → Bool
 | .region id ops draw => ops.toList.all (fun o => match o.dst with | some d => decide (d < n) | none => true) && (!draw || (((cx.prm f id).isEmpty || zF2 (cx.prm f id) ops.size) && zKn cx f id (xW (cx.prm f id) ops) (befT (xW (cx.prm f id) ops).toList []) && zLv cx f id (xW (cx.prm f id) ops).size && zLw cx f id (xW (cx.prm f id) ops) (befT (xW (cx.prm f id) ops).toList [])))
 | .seq a b => wW cx f n a && wW cx f n b
 | .cond _ a b => wW cx f n a && wW cx f n b
 | .block _ c => wW cx f n c
 | .loop c => wW cx f n c
 | _ => true
def zKq : Ex → Exit
 | .nrm => .normal
 | .exit id => .exit id
 | .ret => .ret
theorem zUj {n lf : Nat} (hm : Pr.follows .mixedOrders = true) (hty : jB Pr cx.ty) (hstep : mN cx f call Pr w0 E0 P R ea n) (hpure : eO cx f w0 E0 P R ea n) : ∀ (c : Code) {Su Su' : SU} {ex : Ex} {a : Act} {w : World} {Q : Exit → Act → World → Prop}, wW cx f n c = true → At cx f w0 E0 P R ea n Su a w → y8 cx f call lf c Su = some (ex, Su') →
  (∀ a' w', At cx f w0 E0 P R ea n Su' a' w' → Q (zKq ex) a' w') → c.wp Pr Q a w := by
 intro c
 induction c with
 | skip =>
  intro Su Su' ex a w Q _ hat hq hQ
  simp only [y8, Option.some.injEq, Prod.mk.injEq] at hq
  obtain ⟨rfl, rfl⟩ := hq
  exact wp_skip (hQ a w hat)
 | region id ops draw =>
  intro Su Su' ex a w Q hck hat hq hQ
  simp only [wW, Bool.and_eq_true, List.all_eq_true, Bool.or_eq_true, Bool.not_eq_true'] at hck
  have hdst : ∀ (k : Nat) (o : Oper) (d : Nat), ops[k]? = some o → o.dst = some d → d < n := by
   intro k o d ho hd
   have := hck.1 o (List.mem_of_getElem? (by simpa using ho : ops.toList[k]? = some o))
   rw [hd] at this
   simpa using this
  have hat' := eI (l := ops.toList) hat
  cases draw with
  | false =>
   simp only [y8, Bool.false_eq_true, if_false] at hq
   cases hs : stepOps cx f call ops ops.toList (zBy cx f Su ops.toList) with
   | none => simp [hs] at hq
   | some S1 =>
    simp only [hs, Option.map_some, Option.some.injEq, Prod.mk.injEq] at hq
    obtain ⟨rfl, rfl⟩ := hq
    refine wp_region ?_
    rw [List.range_eq_range']
    exact iR hstep hdst hQ (by omega) hat' (by simpa using hs)
  | true =>
   simp only [y8, if_true] at hq
   cases hs : stepsD cx f call id (xW (cx.prm f id) ops) 0 (xW (cx.prm f id) ops).toList (zBy cx f Su ops.toList) with
   | none => simp [hs] at hq
   | some S1 =>
    simp only [hs, Option.map_some, Option.some.injEq, Prod.mk.injEq] at hq
    obtain ⟨rfl, rfl⟩ := hq
    have h2 := hck.2.resolve_left (by simp)
    exact zUc hm hty h2.1.1.1 (zHh h2.1.1.2) (fun m hm => zJz hm h2.1.2 h2.2) hstep hpure hdst hs hat' hQ
 | seq x y ihx ihy =>
  intro Su Su' ex a w Q hck hat hq hQ
  simp only [wW, Bool.and_eq_true] at hck
  simp only [y8] at hq
  split at hq
  ·rename_i S1 h1
   exact wp_seq (ihx hck.1 hat h1 (fun a' w' hat' => ihy hck.2 hat' hq hQ))
  ·rename_i h1
   refine wp_seq (ihx hck.1 hat hq (fun a' w' hat' => ?_))
   cases ex with
   | nrm => exact absurd hq (h1 Su')
   | exit id => exact hQ a' w' hat'
   | ret => exact hQ a' w' hat'
 | cond o x y ihx ihy =>
  intro Su Su' ex a w Q hck hat hq hQ
  simp only [wW, Bool.and_eq_true] at hck
  simp only [y8] at hq
  have hb : ∀ b, v1 (opv cx f Su 0 o) = some b → a.eval o = .bool b := by
   intro b hb
   obtain ⟨S, hr, rfl, _, _⟩ := hat
   exact zBu hr rfl hb
  split at hq
  ·rename_i h1
   exact wp_cond_true (hb _ h1) (ihx hck.1 hat hq hQ)
  ·rename_i h1
   exact wp_cond_false (hb _ h1) (ihy hck.2 hat hq hQ)
  ·cases hq
 | block id x ih =>
  intro Su Su' ex a w Q hck hat hq hQ
  simp only [wW] at hck
  simp only [y8] at hq
  split at hq
  ·rename_i id' S1 h1
   refine wp_block (ih hck hat h1 (fun a' w' hat' => ?_))
   split at hq
   ·rename_i e
    simp only [Option.some.injEq, Prod.mk.injEq] at hq
    obtain ⟨rfl, rfl⟩ := hq
    simp only [zKq, Exit.inBlock, e, if_true]
    exact hQ a' w' hat'
   ·rename_i e
    simp only [Option.some.injEq, Prod.mk.injEq] at hq
    obtain ⟨rfl, rfl⟩ := hq
    simp only [zKq, Exit.inBlock, e, if_false]
    exact hQ a' w' hat'
  ·rename_i h1
   refine wp_block (ih hck hat hq (fun a' w' hat' => ?_))
   cases ex with
   | nrm => exact hQ a' w' hat'
   | exit id' => exact absurd hq (h1 id' Su')
   | ret => exact hQ a' w' hat'
 | loop x ih =>
  intro Su Su' ex a w Q hck hat hq hQ
  simp only [wW] at hck
  simp only [y8] at hq
  refine zH7 (n := lf) (fun m a w => ∃ S, At cx f w0 E0 P R ea n S a w ∧ iter m (y8 cx f call lf x) S = some (ex, Su')) (fun a w h => ?_) (fun m a w h => ?_) ⟨Su, hat, hq⟩
  ·obtain ⟨S, _, h⟩ := h
   simp [iter] at h
  ·obtain ⟨S, hat, h⟩ := h
   simp only [iter] at h
   split at h
   ·rename_i S1 h1
    exact ih hck hat h1 (fun a' w' hat' => ⟨S1, hat', h⟩)
   ·rename_i h1
    refine ih hck hat h (fun a' w' hat' => ?_)
    cases ex with
    | nrm => exact absurd h (h1 Su')
    | exit id' => exact hQ a' w' hat'
    | ret => exact hQ a' w' hat'
 | exit id =>
  intro Su Su' ex a w Q _ hat hq hQ
  simp only [y8, Option.some.injEq, Prod.mk.injEq] at hq
  obtain ⟨rfl, rfl⟩ := hq
  exact wp_exit (hQ a w hat)
 | ret =>
  intro Su Su' ex a w Q _ hat hq hQ
  simp only [y8, Option.some.injEq, Prod.mk.injEq] at hq
  obtain ⟨rfl, rfl⟩ := hq
  exact wp_ret (hQ a w hat)
 | rangeFunc => intro Su Su' ex a w Q _ _ hq; simp [y8] at hq
 | scope => intro Su Su' ex a w Q _ _ hq; simp [y8] at hq
 | label => intro Su Su' ex a w Q _ _ hq; simp [y8] at hq
 | goto => intro Su Su' ex a w Q _ _ hq; simp [y8] at hq
 | refuse => intro Su Su' ex a w Q _ _ hq; simp [y8] at hq
end
end Go.Proofs.YtlkjnlfddadlmaaGreatDoor.V
namespace Go.Proofs.YtlkjnlfddadlmaaGreatDoor.V
open Go.RowKit
section
variable {cx : Ctx} {f : Nat} {w0 : World} {E0 : Nat → Prop} {P : Nat → Nat → Prop} {R : Nat → Prop} {ea : List EA} {w w' : World} {a : Act} {call : zX} {Pr : Program} {S S0 S1 S2 S3 : SV} {tmps : Array Value}
structure EmpE (ea : List EA) (S S2 : SV) : Prop where
 ok : ∀ (w : World) (P : Nat → Nat → Prop) (R : Nat → Prop) (c : CV), (∀ r ∈ zF c, x4 r = true) → okC w P R S ea c → yL S2 c = true → okC w P R S2 ea c
 al : ∀ c : CV, (∀ r ∈ zF c, x4 r = true) → yL S2 c = true → yL S c = true
 blk : ∀ k, ∀ b ∈ zL S2 ea k, b ∈ zL S ea k
theorem EmpE.refl : EmpE ea S S := ⟨fun _ _ _ _ _ h _ => h, fun _ _ h => h, fun _ _ h => h⟩
theorem EmpE.trans (h : EmpE ea S S2) (k : EmpE ea S2 S3) : EmpE ea S S3 :=
 ⟨fun w P R c hr hc ha => k.ok w P R c hr (h.ok w P R c hr hc (k.al c hr ha)) ha, fun c hr hc => h.al c hr (k.al c hr hc), fun r b hb => h.blk r b (k.blk r b hb)⟩
theorem EmpE.of (h : Emp ea S S2) : EmpE ea S S2 := ⟨fun w P R c _ hc ha => h.ok w P R c hc ha, fun c _ hc => h.al c hc, h.blk⟩
def iS (w : World) (P : Nat → Nat → Prop) (R : Nat → Prop) (ea : List EA) (S2 : SV) (c : CV) : Prop :=
 (∀ r ∈ zF c, x4 r = true) ∧ ∀ S3, EmpE ea S2 S3 → yL S3 c = true → okC w P R S3 ea c
theorem iS.t {x : TV} (h : okT w P R x) : iS w P R ea S2 (.t x) := ⟨by simp [zF], fun S3 _ _ => by simpa only [okC] using h⟩
theorem iS.emp {c : CV} (h : iS w P R ea S2 c) (he : EmpE ea S2 S3) : iS w P R ea S3 c := ⟨h.1, fun S4 h4 ha => h.2 S4 (he.trans h4) ha⟩
theorem zDu {cs : List CV} : ((zN true (cs.map erC)).all x4 = true) ↔ ∀ r ∈ zK cs, x4 r = true := by
 have : zN true (cs.map erC) = zK cs := by rw [← qQ cs, zR]
 rw [this, List.all_eq_true]
theorem zM6 {isv : Nat → Bool} {c : CV} (h : Rel isv w0 E0 P R ea w S tmps) (he : Emp ea S0 S) (hok : okC w P R S0 ea c) (hb : Bk w0 E0 R ea w S (zP c)) {d : CU} {Su : SU} (hq : fJ (erC c) (V.erS S) = some (d, Su)) :
  ∃ (cG : CV) (S2 : SV), erC cG = d ∧ V.erS S2 = Su ∧ zJ cG = zJ c ∧ Rel isv w0 E0 P R ea w S2 tmps ∧ Emp ea S S2 ∧ iS w P R ea S2 cG ∧ Bk w0 E0 R ea w S2 (zP cG) ∧ (∀ b ∈ zP cG, b ∈ zP c ∨ ∃ r, b ∈ zL S ea r) := by
 have same : ∀ {cG : CV}, erC cG = d → V.erS S = Su → zJ cG = zJ c → iS w P R ea S cG → zP cG = zP c → ∃ (cG : CV) (S2 : SV), erC cG = d ∧ V.erS S2 = Su ∧ zJ cG = zJ c ∧ Rel isv w0 E0 P R ea w S2 tmps ∧ Emp ea S S2 ∧ iS w P R ea S2 cG ∧ Bk w0 E0 R ea w S2 (zP cG) ∧ (∀ b ∈ zP cG, b ∈ zP c ∨ ∃ r, b ∈ zL S ea r) := by
  intro cG h1 h2 h3 h4 h5
  exact ⟨cG, S, h1, h2, h3, h, Emp.refl, h4, by rw [h5]; exact hb, fun b hb' => .inl (by rwa [h5] at hb')⟩
 cases c with
 | t x =>
  simp only [erC, zI, fJ, Option.some.injEq, Prod.mk.injEq] at hq
  obtain ⟨rfl, rfl⟩ := hq
  simp only [okC] at hok
  exact same (cG := .t x) rfl rfl rfl (.t hok) rfl
 | ptr v r p off =>
  cases r with
  | sl k =>
   simp only [erC, zI, fJ, Option.some.injEq, Prod.mk.injEq] at hq
   obtain ⟨rfl, rfl⟩ := hq
   simp only [okC] at hok
   exact same (cG := .t (.dead v)) rfl rfl rfl (.t (by simp only [okT]; exact .inr hok.slice)) rfl
  | ex j =>
   simp only [erC, zI, fJ, Option.some.injEq, Prod.mk.injEq] at hq
   obtain ⟨rfl, rfl⟩ := hq
   exact same (cG := .ptr v (.ex j) p off) rfl rfl rfl ⟨by simp [zF, x4], fun S3 h3 ha => h3.ok w P R _ (by simp [zF, x4]) (he.ok w P R _ hok (h3.al _ (by simp [zF, x4]) ha)) ha⟩ rfl
 | bor v r p i off sz n =>
  cases r with
  | sl k =>
   simp only [erC, zI, fJ, er0] at hq
   cases ht : xL (V.erS S) () (.sl k) p i off sz n with
   | none => rw [ht] at hq; simp at hq
   | some q =>
    obtain ⟨t, Sq⟩ := q
    rw [ht] at hq
    simp only [Option.map_some, Option.some.injEq, Prod.mk.injEq] at hq
    obtain ⟨rfl, rfl⟩ := hq
    obtain ⟨cG, S2, e1, e2, e3, e4, e5, e6, e7, e8, e9⟩ := aL.take h he hok ht
    refine ⟨cG, S2, e1, e2, e3, e4, e5, ?_, e7, e8⟩
    obtain ⟨y, rfl, _⟩ := k9 e1
    simp only [okC] at e6
    exact .t e6
  | ex j =>
   simp only [erC, zI, fJ, Option.some.injEq, Prod.mk.injEq] at hq
   obtain ⟨rfl, rfl⟩ := hq
   exact same (cG := .bor v (.ex j) p i off sz n) rfl rfl rfl ⟨by simp [zF, x4], fun S3 h3 ha => h3.ok w P R _ (by simp [zF, x4]) (he.ok w P R _ hok (h3.al _ (by simp [zF, x4]) ha)) ha⟩ rfl
 | rptr v cs =>
  simp only [erC, zI, fJ, Option.some.injEq, Prod.mk.injEq] at hq
  obtain ⟨rfl, rfl⟩ := hq
  exact same (cG := .rptr v cs) rfl rfl rfl ⟨by simp [zF], fun S3 _ _ => by simpa only [okC] using hok⟩ rfl
 | nilp =>
  simp only [erC, zI, fJ, Option.some.injEq, Prod.mk.injEq] at hq
  obtain ⟨rfl, rfl⟩ := hq
  exact same (cG := .nilp) rfl rfl rfl ⟨by simp [zF], fun S3 _ _ => by simp [okC]⟩ rfl
 | nilf =>
  simp only [erC, zI, fJ, Option.some.injEq, Prod.mk.injEq] at hq
  obtain ⟨rfl, rfl⟩ := hq
  exact same (cG := .nilf) rfl rfl rfl ⟨by simp [zF], fun S3 _ _ => by simp [okC]⟩ rfl
 | fn g caps =>
  simp only [erC, zI, fJ] at hq
  split at hq
  ·rename_i hall
   simp only [Option.some.injEq, Prod.mk.injEq] at hq
   obtain ⟨rfl, rfl⟩ := hq
   have hall' : ∀ r ∈ zK caps, x4 r = true := by
    rw [← zDu, ← zR]; exact hall
   exact same (cG := .fn g caps) rfl rfl rfl ⟨by simpa only [zF] using hall', fun S3 h3 ha => h3.ok w P R _ (by simpa only [zF] using hall') (he.ok w P R _ hok (h3.al _ (by simpa only [zF] using hall') ha)) ha⟩ rfl
  ·cases hq
 | lst v sz n cs =>
  simp only [erC, zI, fJ] at hq
  cases ht : yS (C.lst (er0 v) sz n (yY er0 cs)) (V.erS S) with
  | none => rw [ht] at hq; simp at hq
  | some q =>
   obtain ⟨t, Sq⟩ := q
   rw [ht] at hq
   simp only [Option.map_some, Option.some.injEq, Prod.mk.injEq] at hq
   obtain ⟨rfl, rfl⟩ := hq
   obtain ⟨tG, S2, e1, e2, e3, e4, e5, e6, e7, e8⟩ := lC (c := .lst v sz n cs) h he hok hb ht
   exact ⟨.t tG, S2, by simp only [erC, zI]; rw [← e1], e2, e3, e4, e5, .t e6, by simpa only [zP] using e7, by simpa only [zP] using e8⟩
theorem zAn {isv : Nat → Bool} : ∀ {cs : List CV} {S : SV} {ds : List CU} {Su : SU}, Rel isv w0 E0 P R ea w S tmps → Emp ea S0 S → yF w P R S0 ea cs → Bk w0 E0 R ea w S (zH cs) → dD (cs.map erC) (V.erS S) = some (ds, Su) →
  ∃ (us : List CV) (S2 : SV), us.map erC = ds ∧ V.erS S2 = Su ∧ us.map zJ = cs.map zJ ∧ Rel isv w0 E0 P R ea w S2 tmps ∧ Emp ea S S2 ∧ (∀ u ∈ us, iS w P R ea S2 u) ∧ Bk w0 E0 R ea w S2 (zH us) ∧ (∀ b ∈ zH us, b ∈ zH cs ∨ ∃ r, b ∈ zL S ea r)
 | [], S, ds, Su, h, he, hok, hb, hq => by
  simp only [List.map_nil, dD, Option.some.injEq, Prod.mk.injEq] at hq
  obtain ⟨rfl, rfl⟩ := hq
  exact ⟨[], S, rfl, rfl, rfl, h, Emp.refl, by simp, by simpa [zH] using hb, by simp [zH]⟩
 | c :: cs, S, ds, Su, h, he, hok, hb, hq => by
  simp only [List.map_cons, dD] at hq
  simp only [yF] at hok
  simp only [zH] at hb
  cases h1 : fJ (erC c) (V.erS S) with
  | none => rw [h1] at hq; simp at hq
  | some r =>
   obtain ⟨d, Sd⟩ := r
   rw [h1] at hq
   simp only [Option.bind_some] at hq
   obtain ⟨cG, S1, a1, a2, a3, a4, a5, a6, a7, a8⟩ := zM6 h he hok.1 (hb.sub (List.sublist_append_left _ _)) h1
   subst a2
   cases h2 : dD (cs.map erC) (V.erS S1) with
   | none => rw [h2] at hq; simp at hq
   | some q =>
    obtain ⟨es, Se⟩ := q
    rw [h2] at hq
    simp only [Option.map_some, Option.some.injEq, Prod.mk.injEq] at hq
    obtain ⟨rfl, rfl⟩ := hq
    obtain ⟨us, S2, b1, b2, b3, b4, b5, b6, b7, b8⟩ := zAn a4 (he.trans a5) hok.2 ((hb.sub (List.sublist_append_right _ _)).emp a5) h2
    have hnd := List.nodup_append.1 hb.nd
    refine ⟨cG :: us, S2, by simp [a1, b1], b2, by simp [a3, b3], b4, a5.trans b5, ?_, ?_, ?_⟩
    ·intro u hu
     rcases List.mem_cons.1 hu with rfl | hu
     ·exact a6.emp (EmpE.of b5)
     ·exact b6 u hu
    ·simp only [zH]
     refine (a7.emp b5).append b7 (fun b hb1 hb2 => ?_)
     rcases b8 b hb2 with h' | ⟨k, h'⟩
     ·rcases a8 b hb1 with g | ⟨k, g⟩
      ·exact hnd.2.2 b g b h' rfl
      ·exact (hb.sub (List.sublist_append_right _ _)).sep k b h' g
     ·exact a7.sep k b hb1 h'
    ·intro b hb'
     simp only [zH, List.mem_append] at hb' ⊢
     rcases hb' with hb' | hb'
     ·exact (a8 b hb').imp .inl id
     ·rcases b8 b hb' with g | ⟨k, g⟩
      ·exact .inl (.inr g)
      ·exact .inr ⟨k, a5.blk k b g⟩
mutual
theorem zGx {k : Nat} : ∀ {c : CV}, (∀ r ∈ zF c, x4 r = true) → yL { kill (.sl k) [] S with s := upd (kill (.sl k) [] S).s k .undef } c = true → yL S c = true
 | .t x, _, _ => by simp [yL]
 | .rptr v cs, _, _ => by simp [yL]
 | .nilp, _, _ => by simp [yL]
 | .nilf, _, _ => by simp [yL]
 | .ptr v r p off, hr, ha => by
  cases r with
  | sl d => have := hr (.sl d) (by simp [zF]); simp [x4] at this
  | ex j =>
   simp only [yL, Bool.or_eq_true] at ha ⊢
   refine ha.imp (fun h => h) fun h => ?_
   have e : ∀ (p : List Nat) (i : Nat), at_ { kill (.sl k) [] S with s := upd (kill (.sl k) [] S).s k .undef } (.ex j) p i = at_ (kill (.sl k) [] S) (.ex j) p i := fun p i => rfl
   rw [e, uL, dF] at h
   exact h
 | .bor v r p i off sz n, hr, ha => by
  cases r with
  | sl d => have := hr (.sl d) (by simp [zF]); simp [x4] at this
  | ex j =>
   simp only [yL] at ha ⊢
   have e : ∀ (p : List Nat) (i : Nat), at_ { kill (.sl k) [] S with s := upd (kill (.sl k) [] S).s k .undef } (.ex j) p i = at_ (kill (.sl k) [] S) (.ex j) p i := fun p i => rfl
   rw [e, uL, dF] at ha
   exact ha
 | .fn g caps, hr, ha => by simp only [yL, zF] at hr ha ⊢; exact aM hr ha
 | .lst v sz n cs, hr, ha => by simp only [yL, zF] at hr ha ⊢; exact aM hr ha
theorem aM {k : Nat} : ∀ {cs : List CV}, (∀ r ∈ zK cs, x4 r = true) → xN { kill (.sl k) [] S with s := upd (kill (.sl k) [] S).s k .undef } cs = true → xN S cs = true
 | [], _, _ => by simp [xN]
 | c :: cs, hr, ha => by
  simp only [xN, Bool.and_eq_true, zK, List.mem_append] at hr ha ⊢
  exact ⟨zGx (fun r h => hr r (.inl h)) ha.1, aM (fun r h => hr r (.inr h)) ha.2⟩
end
def iY : XV → List CV
 | .c c => [c]
 | .agg cs => cs
 | .box _ cs => cs
 | _ => []
structure Res (isv : Nat → Bool) (w0 : World) (E0 : Nat → Prop) (P : Nat → Nat → Prop) (R : Nat → Prop) (ea : List EA) (w : World) (S2 : SV) (y : XV) : Prop where
 good : ∀ c ∈ iY y, iS w P R ea S2 c
 kind : (∃ c, y = .c c) ∨ (∃ cs, y = .agg cs) ∨ ∃ ad cs, y = .box (.pointer (some ad)) cs ∧ vA w ad cs
 bk : Bk w0 E0 R ea w S2 (zE y)
theorem EmpE.bk {l : List Nat} (he : EmpE ea S S2) (h : Bk w0 E0 R ea w S l) : Bk w0 E0 R ea w S2 l := ⟨h.nd, fun r b hb hb' => h.sep r b hb (he.blk r b hb'), h.lt, h.own, h.notR⟩
theorem zUk {isv : Nat → Bool} {x : XV} (h : Rel isv w0 E0 P R ea w S tmps) (hn : New isv w0 E0 P R ea w S x) {y : XU} {Su : SU} (hq : s7 (erX x) (V.erS S) = some (y, Su)) :
  ∃ (yG : XV) (S2 : SV), erX yG = y ∧ V.erS S2 = Su ∧ zQ yG = zQ x ∧ Rel isv w0 E0 P R ea w S2 tmps ∧ EmpE ea S S2 ∧ Res isv w0 E0 P R ea w S2 yG ∧ ∀ b ∈ zE yG, b ∈ zE x ∨ ∃ r, b ∈ zL S ea r := by
 have hok := hn.ok
 have hb := hn.bk
 have box_case : ∀ {S1 : SV} {v : Value} {cs : List CV} {ds : List CU} {Sd : SU}, Rel isv w0 E0 P R ea w S1 tmps → EmpE ea S S1 → yF w P R S1 ea cs → (∃ ad, v = .pointer (some ad) ∧ vA w ad cs) → Bk w0 E0 R ea w S1 (hdr v ++ zH cs) → dD (cs.map erC) (V.erS S1) = some (ds, Sd) →
   ∃ (us : List CV) (S2 : SV), us.map erC = ds ∧ V.erS S2 = Sd ∧ Rel isv w0 E0 P R ea w S2 tmps ∧ EmpE ea S S2 ∧ Res isv w0 E0 P R ea w S2 (.box v us) ∧ ∀ b ∈ hdr v ++ zH us, b ∈ hdr v ++ zH cs ∨ ∃ r, b ∈ zL S ea r := by
  intro S1 v cs ds Sd h1 he1 hok1 hbox hb1 hq1
  obtain ⟨us, S2, e1, e2, e3, e4, e5, e6, e7, e8⟩ := zAn h1 Emp.refl hok1 (hb1.sub (List.sublist_append_right _ _)) hq1
  obtain ⟨ad, rfl, g1, g2, cur, e, g3, g4⟩ := hbox
  refine ⟨us, S2, e1, e2, e4, he1.trans (EmpE.of e5), ⟨e6, .inr (.inr ⟨ad, us, rfl, g1, g2, cur, e, g3, by rw [g4, z8, z8, e3]⟩), ?_⟩, fun b hb' => ?_⟩
  ·simp only [zE]
   refine ((hb1.sub (List.sublist_append_left _ _)).emp e5).append e7 (fun b hb2 hb3 => ?_)
   rcases e8 b hb3 with h' | ⟨k, h'⟩
   ·exact (List.nodup_append.1 hb1.nd).2.2 b hb2 b h' rfl
   ·exact (hb1.sub (List.sublist_append_left _ _)).sep k b hb2 h'
  ·rcases List.mem_append.1 hb' with hb' | hb'
   ·exact .inl (List.mem_append_left _ hb')
   ·rcases e8 b hb' with g | ⟨k, g⟩
    ·exact .inl (List.mem_append_right _ g)
    ·exact .inr ⟨k, he1.blk k b g⟩
 have c_case : ∀ {c : CV} {d : CU} {Sd : SU}, x = .c c → fJ (erC c) (V.erS S) = some (d, Sd) → ∃ (yG : XV) (S2 : SV), erX yG = .c d ∧ V.erS S2 = Sd ∧ zQ yG = zQ x ∧ Rel isv w0 E0 P R ea w S2 tmps ∧ EmpE ea S S2 ∧ Res isv w0 E0 P R ea w S2 yG ∧ ∀ b ∈ zE yG, b ∈ zE x ∨ ∃ r, b ∈ zL S ea r := by
  rintro c d Sd rfl hq1
  simp only [okX] at hok
  simp only [zE] at hb
  obtain ⟨cG, S2, e1, e2, e3, e4, e5, e6, e7, e8⟩ := zM6 h Emp.refl hok hb hq1
  exact ⟨.c cG, S2, by simp only [erX, zW]; rw [← e1], e2, by simp only [zQ, e3], e4, EmpE.of e5, ⟨by simpa [iY] using e6, .inl ⟨cG, rfl⟩, by simpa only [zE] using e7⟩, by simpa only [zE] using e8⟩
 cases x with
 | c c =>
  simp only [erX, zW] at hq
  unfold s7 at hq
  split at hq
  ·rename_i _ k heq
   simp only [X.c.injEq] at heq
   obtain ⟨v, rfl⟩ := mZ (show erC c = .ptr _ (.sl k) [] 0 from heq)
   have hk : kill (.sl k) [] (V.erS S) = V.erS (kill (.sl k) [] S) := fP er0 S (.sl k) []
   rw [hk] at hq
   have h1 := h.kill (.sl k) []
   have hnm := rU (S := S) k
   have h2 := h1.clear hnm
   split at hq
   ·rename_i _ cs heq2
    obtain ⟨v2, ds, hs, hds⟩ : ∃ v2 ds, (kill (.sl k) [] S).s k = .box v2 ds ∧ ds.map erC = cs := by
     have h0 : erX ((kill (.sl k) [] S).s k) = .box _ cs := heq2
     cases hx : (kill (.sl k) [] S).s k <;> rw [hx] at h0 <;> simp [erX, zW, zR] at h0
     exact ⟨_, _, rfl, h0⟩
    subst hds
    cases hf : dD (ds.map erC) { V.erS (kill (.sl k) [] S) with s := upd (V.erS (kill (.sl k) [] S)).s k .undef } with
    | none => rw [hf] at hq; simp at hq
    | some q =>
     obtain ⟨es, Se⟩ := q
     rw [hf] at hq
     simp only [Option.map_some, Option.some.injEq, Prod.mk.injEq] at hq
     obtain ⟨rfl, rfl⟩ := hq
     have hst : ({ V.erS (kill (.sl k) [] S) with s := upd (V.erS (kill (.sl k) [] S)).s k .undef } : SU) = V.erS { kill (.sl k) [] S with s := upd (kill (.sl k) [] S).s k .undef } := by
      simp only [V.erS, jJ]
      congr 1
      funext i
      by_cases e : i = k <;> simp [upd, e, zW]
     rw [hst] at hf
     have hokb := h1.okS k
     rw [hs] at hokb
     simp only [okX] at hokb
     obtain ⟨hokc, ad, rfl, hbox⟩ := hokb
     have hnr : ∀ c ∈ ds, Root.sl k ∉ zF c := by
      intro c hc hr
      refine hnm.s k ?_
      rw [hs]; simp only [zD, yI, List.mem_flatMap]; exact ⟨c, hc, hr⟩
     have hokd : yF w P R { kill (.sl k) [] S with s := upd (kill (.sl k) [] S).s k .undef } ea ds :=
      zY.2 fun c hc => fS (fun _ _ _ => rfl) (fun _ _ => rfl) (zY.1 hokc c hc) (fun _ _ => rfl) (fun r hr => kT (fun e => hnr c hc (e ▸ hr)))
     have hbk : Bk w0 E0 R ea w { kill (.sl k) [] S with s := upd (kill (.sl k) [] S).s k .undef } (hdr (.pointer (some ad)) ++ zH ds) := by
      have hB : zL (kill (.sl k) [] S) ea (.sl k) = hdr (.pointer (some ad)) ++ zH ds := by simp only [zL, hs, zE]
      refine ⟨by rw [← hB]; exact h1.nd _, fun r b hb1 hb2 => ?_, fun b hb1 => h1.lt (.sl k) b (by rw [hB]; exact hb1), fun b hb1 => h1.own (.sl k) b (by rw [hB]; exact hb1), fun b hb1 => h1.notR (.sl k) b (by rw [hB]; exact hb1)⟩
      by_cases e : r = .sl k
      ·subst e; simp [zL, upd, zE] at hb2
      ·rw [qD e] at hb2
       exact e (h1.dis r (.sl k) b hb2 (by rw [hB]; exact hb1))
     have hemp : EmpE ea S { kill (.sl k) [] S with s := upd (kill (.sl k) [] S).s k .undef } := by
      have hne : ∀ {c : CV}, (∀ r ∈ zF c, x4 r = true) → Root.sl k ∉ zF c := fun hr hm => by have := hr _ hm; simp [x4] at this
      refine ⟨fun w' P' R' c hr hc _ => ?_, fun c hr ha => ?_, fun r b hb' => ?_⟩
      ·have g := zBp (.sl k) [] hc
       rw [zA5 (hne hr)] at g
       exact fS (fun _ _ _ => rfl) (fun _ _ => rfl) g (fun _ _ => rfl) (fun r hr' => kT (fun e => hne hr (e ▸ hr')))
      ·exact zGx hr ha
      ·by_cases e : r = .sl k
       ·subst e; simp [zL, upd, zE] at hb'
       ·rw [qD e, jM] at hb'; exact hb'
     obtain ⟨us, S2, e1, e2, e4, e5, e6, e7⟩ := box_case h2 hemp hokd ⟨ad, rfl, hbox⟩ hbk hf
     -- the pointer is the box's own address
     have hv : v = .pointer (some ad) := by
      simp only [okX, okC, vB] at hok
      obtain ⟨ad', had, rfl⟩ := hok
      simp only [yV, if_true] at had
      have hra : rootAd (kill (.sl k) [] S) ea (.sl k) = some ad := by simp only [rootAd, hs]
      rw [iF] at hra
      rw [hra] at had
      simp only [Option.some.injEq] at had
      subst had
      obtain ⟨g1, g2, _⟩ := hbox
      cases ad with
      | mk blk off spot => simp only at g1 g2; subst g1; subst g2; rfl
     subst hv
     refine ⟨.box (.pointer (some ad)) us, S2, by simp only [erX, zW, zR]; rw [← e1], e2, rfl, e4, e5, e6, fun b hb' => ?_⟩
     rcases e7 b (by simpa only [zE] using hb') with g | g
     ·right
      refine ⟨.sl k, ?_⟩
      have : b ∈ zL (kill (.sl k) [] S) ea (.sl k) := by simp only [zL, hs, zE]; exact g
      rwa [jM] at this
     ·exact .inr g
   ·cases hq
  ·rename_i x' _ heq
   simp only [X.c.injEq] at heq
   subst heq
   cases hf : fJ (zI er0 c) (V.erS S) with
   | none => rw [hf] at hq; simp at hq
   | some q =>
    obtain ⟨d, Sd⟩ := q
    rw [hf] at hq
    simp only [Option.map_some, Option.some.injEq, Prod.mk.injEq] at hq
    obtain ⟨rfl, rfl⟩ := hq
    exact c_case rfl hf
  all_goals (first | cases hq | (rename_i heq; cases heq))
 | agg cs =>
  simp only [erX, zW, zR, s7] at hq
  cases hf : dD (cs.map (zI er0)) (V.erS S) with
  | none => rw [hf] at hq; simp at hq
  | some q =>
   obtain ⟨ds, Sd⟩ := q
   rw [hf] at hq
   simp only [Option.map_some, Option.some.injEq, Prod.mk.injEq] at hq
   obtain ⟨rfl, rfl⟩ := hq
   simp only [okX] at hok
   simp only [zE] at hb
   obtain ⟨us, S2, e1, e2, e3, e4, e5, e6, e7, e8⟩ := zAn h Emp.refl hok hb hf
   exact ⟨.agg us, S2, by simp only [erX, zW, zR]; rw [← e1], e2, by simp only [zQ, z8, e3], e4, EmpE.of e5, ⟨e6, .inr (.inl ⟨us, rfl⟩), by simpa only [zE] using e7⟩, by simpa only [zE] using e8⟩
 | box v cs =>
  simp only [erX, zW, zR, s7] at hq
  cases hf : dD (cs.map (zI er0)) (V.erS S) with
  | none => rw [hf] at hq; simp at hq
  | some q =>
   obtain ⟨ds, Sd⟩ := q
   rw [hf] at hq
   simp only [Option.map_some, Option.some.injEq, Prod.mk.injEq] at hq
   obtain ⟨rfl, rfl⟩ := hq
   simp only [okX] at hok
   simp only [zE] at hb
   obtain ⟨us, S2, e1, e2, e4, e5, e6, e7⟩ := box_case h EmpE.refl hok.1 hok.2 hb hf
   exact ⟨.box v us, S2, by simp only [erX, zW, zR, er0]; rw [← e1], e2, rfl, e4, e5, e6, by simpa only [zE] using e7⟩
 | tup xs => simp [erX, zW, s7] at hq
 | undef => simp [erX, zW, s7] at hq
end
end Go.Proofs.YtlkjnlfddadlmaaGreatDoor.V
namespace Go.Proofs.YtlkjnlfddadlmaaGreatDoor.V
open Go.RowKit
section
variable {cx : Ctx} {f : Nat} {w0 : World} {E0 : Nat → Prop} {P : Nat → Nat → Prop} {R : Nat → Prop} {ea : List EA} {w w' : World} {a : Act} {call : zX} {Pr : Program} {S S0 S1 S2 S3 : SV} {tmps : Array Value}
def cN (tmps : Array Value) : ResultVar → Sem Value
 | .tmp t => pure (tmps.getD t undef)
 | .cell a t => do loadVar t (← asAddr (tmps.getD a undef))
mutual
theorem zC6 {o : Operand} : ∀ {c : CV}, (∀ r ∈ zF c, x4 r = true) → yL (V.clr cx f S o) c = yL S c
 | .t x, _ => by simp [yL]
 | .rptr v cs, _ => by simp [yL]
 | .nilp, _ => by simp [yL]
 | .nilf, _ => by simp [yL]
 | .ptr v r p off, hr => by
  cases r with
  | sl d => have := hr (.sl d) (by simp [zF]); simp [x4] at this
  | ex j =>
   have e : (V.clr cx f S o).e = S.e := by cases o <;> simp only [V.clr]; split <;> (try split) <;> rfl
   simp only [yL, at_, zA, e]
 | .bor v r p i off sz n, hr => by
  cases r with
  | sl d => have := hr (.sl d) (by simp [zF]); simp [x4] at this
  | ex j =>
   have e : (V.clr cx f S o).e = S.e := by cases o <;> simp only [V.clr]; split <;> (try split) <;> rfl
   simp only [yL, at_, zA, e]
 | .fn g caps, hr => by simp only [yL, zF] at hr ⊢; exact rC hr
 | .lst v sz n cs, hr => by simp only [yL, zF] at hr ⊢; exact rC hr
theorem rC {o : Operand} : ∀ {cs : List CV}, (∀ r ∈ zK cs, x4 r = true) → xN (V.clr cx f S o) cs = xN S cs
 | [], _ => by simp [xN]
 | c :: cs, hr => by
  simp only [xN, zK, List.mem_append] at hr ⊢
  rw [zC6 (fun r h => hr r (.inl h)), rC (fun r h => hr r (.inr h))]
end
theorem zU6 (hty : jB Pr cx.ty) (h : Rel (zB cx f) w0 E0 P R ea w S tmps) {r : ResultVar} {x : XU} {Su : SU} (hq : zF8 cx f (V.erS S) r = some (x, Su)) :
  ∃ (xG : XV) (S2 : SV), erX xG = x ∧ V.erS S2 = Su ∧ Rel (zB cx f) w0 E0 P R ea w S2 tmps ∧ EmpE ea S S2 ∧ New (zB cx f) w0 E0 P R ea w S2 xG ∧ (∀ b ∈ zE xG, ∃ k, b ∈ zL S ea k) ∧ (cN tmps r).run Pr w = .ok (zQ xG) w := by
 cases r with
 | tmp t =>
  simp only [zF8] at hq
  cases hx : opv cx f (V.erS S) 0 (.tmp t) with
  | none => rw [hx] at hq; simp at hq
  | some y =>
   rw [hx] at hq
   simp only [Option.map_some, Option.some.injEq, Prod.mk.injEq] at hq
   obtain ⟨rfl, rfl⟩ := hq
   obtain ⟨xG, hxG⟩ := h.opv (a := { tmps := tmps, defers := [] }) rfl hx
   refine ⟨xG, V.clr cx f S (.tmp t), hxG.er, gT _, h.clr _, ?_, hxG.new, hxG.src, ?_⟩
   ·have hne : ∀ {c : CV}, (∀ r ∈ zF c, x4 r = true) → ∀ d, Root.sl d ∉ zF c := fun hr d hm => by have := hr _ hm; simp [x4] at this
    refine ⟨fun w' P' R' c hr hc _ => zNt hc (fun d hd => absurd hd (hne hr d)), fun c hr ha => ?_, fun k b hb => ?_⟩
    ·rw [zC6 hr] at ha; exact ha
    ·simp only [V.clr] at hb
     split at hb
     ·exact hb
     ·split at hb
      ·by_cases e : k = .sl t
       ·subst e; simp [zL, upd, zE] at hb
       ·rwa [qD e] at hb
      ·exact hb
   ·have := hxG.val
    simp only [Act.eval] at this
    simp [cN, this]
 | cell b t =>
  simp only [zF8] at hq
  split at hq
  ·rename_i _ r p off hx
   split at hq
   ·rename_i hok
    obtain ⟨aG, haG, hav, haok, har⟩ := kA h (a := { tmps := tmps, defers := [] }) rfl hx
    obtain ⟨v, rfl⟩ := mZ haG
    simp only [okC, vB] at haok
    obtain ⟨ad, had, rfl⟩ := haok
    rw [show V.erS S = jJ er0 S from rfl, cD] at hq
    cases hl : jT S r p off (cx.ty t).sz with
    | none => simp [hl] at hq
    | some cs =>
     simp only [hl, Option.map_some, Option.bind_some] at hq
     cases hm : mkX cx t (cs.map erC) with
     | none => simp [hm] at hq
     | some x' =>
      simp only [hm, Option.map_some, Option.some.injEq, Prod.mk.injEq] at hq
      obtain ⟨rfl, rfl⟩ := hq
      obtain ⟨l1, l2, l3, l4, l5⟩ := zBh h (fun d' e' => har d' (by simp [zF, e'])) hl
      obtain ⟨xG, hx1, hx2⟩ := zFs hm
      have hxp : okX w P R S ea xG ∧ zE xG = [] ∧ zD xG = zK cs := by
       rcases hx2 with ⟨_, _, rfl⟩ | ⟨_, c, rfl, rfl⟩
       ·exact ⟨by simpa [okX] using l2, by simpa [zE] using l3, by simp [zD]⟩
       ·exact ⟨by simpa [okX] using l2.1, by simpa [zE, zH] using l3, by simp [zD, zK]⟩
      obtain ⟨p1, p2, p3⟩ := hxp
      refine ⟨xG, S, hx1, rfl, h, EmpE.refl, ⟨p1, fun d' hd' => l4 d' (p3 ▸ hd'), by rw [p2]; exact List.nodup_nil, fun r b hb => by rw [p2] at hb; simp at hb, fun b hb => by rw [p2] at hb; simp at hb, fun b hb => by rw [p2] at hb; simp at hb, fun b hb => by rw [p2] at hb; simp at hb⟩, fun b hb => by rw [p2] at hb; simp at hb, ?_⟩
      have hav' : tmps.getD b undef = .pointer (some ⟨ad.block, ad.off + off, none⟩) := by simpa [Act.eval, zJ] using hav
      have hr := bU (Pr := Pr) (w := w) hty hok l1 (fun j c hj => l5 ad had j c hj) hx2
      simp only [Instr.loadAt, Instr.sureAddr, Sem.run_bind, Sem.run_pure, Result.andThen_ok] at hr
      simp only [cN, hav', asAddr, Sem.run_bind, Sem.run_pure, Result.andThen_ok]
      exact hr
   ·cases hq
  ·cases hq
theorem zI4 (hty : jB Pr cx.ty) : ∀ {rs : List ResultVar} {S : SV} {xs : List XU} {Su : SU}, Rel (zB cx f) w0 E0 P R ea w S tmps → nL cx f (V.erS S) rs = some (xs, Su) →
  ∃ (ys : List XV) (S2 : SV), ys.map erX = xs ∧ V.erS S2 = Su ∧ Rel (zB cx f) w0 E0 P R ea w S2 tmps ∧ EmpE ea S S2 ∧ (∀ y ∈ ys, Res (zB cx f) w0 E0 P R ea w S2 y) ∧ Bk w0 E0 R ea w S2 (xA ys) ∧ (∀ b ∈ xA ys, ∃ k, b ∈ zL S ea k) ∧
   (rs.mapM (cN tmps)).run Pr w = .ok (ys.map zQ) w
 | [], S, xs, Su, h, hq => by
  simp only [nL, Option.some.injEq, Prod.mk.injEq] at hq
  obtain ⟨rfl, rfl⟩ := hq
  exact ⟨[], S, rfl, rfl, h, EmpE.refl, by simp, ⟨by simp [xA], by simp [xA], by simp [xA], by simp [xA], by simp [xA]⟩, by simp [xA], rfl⟩
 | r :: rs, S, xs, Su, h, hq => by
  simp only [nL] at hq
  cases h1 : zF8 cx f (V.erS S) r with
  | none => rw [h1] at hq; simp at hq
  | some q =>
   obtain ⟨x, Sx⟩ := q
   rw [h1] at hq
   simp only [Option.bind_some] at hq
   obtain ⟨xG, S1, rfl, rfl, a3, a4, a5, a6, a7⟩ := zU6 hty h h1
   cases h2 : s7 (erX xG) (V.erS S1) with
   | none => rw [h2] at hq; simp at hq
   | some q =>
    obtain ⟨y, Sy⟩ := q
    rw [h2] at hq
    simp only [Option.bind_some] at hq
    obtain ⟨yG, S2, rfl, rfl, b3, b4, b5, b6, b7⟩ := zUk a3 a5 h2
    cases h3 : nL cx f (V.erS S2) rs with
    | none => rw [h3] at hq; simp at hq
    | some q =>
     obtain ⟨zs, Sz⟩ := q
     rw [h3] at hq
     simp only [Option.map_some, Option.some.injEq, Prod.mk.injEq] at hq
     obtain ⟨rfl, rfl⟩ := hq
     obtain ⟨ys, S3, rfl, rfl, c3, c4, c5, c6, c7, c8⟩ := zI4 hty b4 h3
     refine ⟨yG :: ys, S3, rfl, rfl, c3, a4.trans (b5.trans c4), ?_, ?_, ?_, ?_⟩
     ·intro z hz
      rcases List.mem_cons.1 hz with rfl | hz
      ·exact ⟨fun c hc => (b6.good c hc).emp c4, b6.kind, c4.bk b6.bk⟩
      ·exact c5 z hz
     ·simp only [xA]
      refine (c4.bk b6.bk).append c6 (fun b hb1 hb2 => ?_)
      obtain ⟨k, hk⟩ := c7 b hb2
      exact b6.bk.sep k b hb1 hk
     ·intro b hb
      simp only [xA, List.mem_append] at hb
      rcases hb with hb | hb
      ·rcases b7 b hb with g | ⟨k, g⟩
       ·exact a6 b g
       ·exact ⟨k, a4.blk k b g⟩
      ·obtain ⟨k, g⟩ := c7 b hb
       exact ⟨k, a4.blk k b (b5.blk k b g)⟩
     ·simp only [List.mapM_cons, Sem.run_bind, a7, Result.andThen_ok, c8, Sem.run_pure, List.map_cons, b3]
end
end Go.Proofs.YtlkjnlfddadlmaaGreatDoor.V
namespace Go.Proofs.YtlkjnlfddadlmaaGreatDoor.V
open Go.RowKit
section
variable {cx : Ctx} {f : Nat} {w0 : World} {E0 : Nat → Prop} {P : Nat → Nat → Prop} {R : Nat → Prop} {ea : List EA} {w w' : World} {a : Act} {call : zX} {Pr : Program} {S S0 S1 S2 S3 : SV} {tmps : Array Value}
theorem zF9 (fn : Func) (tmps : Array Value) (w : World) {vs : List Value} (h : (fn.results.toList.mapM (cN tmps)).run Pr w = .ok vs w) : (results fn tmps).run Pr w = .ok (if _ : vs.length = 1 then vs[0] else .tuple vs.toArray) w := by
 have e : results fn tmps = (do
   let vs ← fn.results.mapM (cN tmps)
   pure (if h : vs.size = 1 then vs[0] else .tuple vs)) := by
  unfold results
  congr 1
 rw [e, Array.mapM_eq_mapM_toList]
 simp only [Sem.run_bind, map_eq_pure_bind, h, Result.andThen_ok, Sem.run_pure]
 simp
def jZ : List XV → XV
 | [y] => y
 | ys => .tup ys
theorem zSi (ys : List XV) : erX (jZ ys) = o6 (ys.map erX) := by
 cases ys with
 | nil => simp [jZ, o6, erX, zW, wG]
 | cons y ys => cases ys with
  | nil => simp [jZ, o6]
  | cons z zs => simp [jZ, o6, erX, zW, wH]
theorem zPm (ys : List XV) : (if _ : (ys.map zQ).length = 1 then (ys.map zQ)[0] else .tuple (ys.map zQ).toArray) = zQ (jZ ys) := by
 cases ys with
 | nil => simp [jZ, zQ, jF]
 | cons y ys => cases ys with
  | nil => simp [jZ]
  | cons z zs => simp [jZ, zQ, jF, aJ]
theorem zEg (ys : List XV) : zE (jZ ys) = xA ys := by
 cases ys with
 | nil => simp [jZ, zE]
 | cons y ys => cases ys with
  | nil => simp [jZ, xA]
  | cons z zs => simp [jZ, zE]
theorem zLd (ys : List XV) : zD (jZ ys) = yN ys := by
 cases ys with
 | nil => simp [jZ, zD]
 | cons y ys => cases ys with
  | nil => simp [jZ, yN]
  | cons z zs => simp [jZ, zD]
theorem zSj {ys : List XV} (h : ∀ y ∈ ys, okX w P R S ea y) : okX w P R S ea (jZ ys) := by
 cases ys with
 | nil => simp [jZ, okX, xR]
 | cons y ys => cases ys with
  | nil => exact h y (by simp)
  | cons z zs => simp only [jZ, okX]; exact nC.2 h
theorem Res.ex {isv : Nat → Bool} {y : XV} (h : Res isv w0 E0 P R ea w S y) : ∀ r ∈ zD y, x4 r = true := by
 intro r hr
 have key : ∀ cs : List CV, (∀ c ∈ cs, iS w P R ea S c) → r ∈ zK cs → x4 r = true := by
  intro cs hc hr
  rw [yI, List.mem_flatMap] at hr
  obtain ⟨c, hc', hr⟩ := hr
  exact (hc c hc').1 r hr
 rcases h.kind with ⟨c, rfl⟩ | ⟨cs, rfl⟩ | ⟨ad, cs, rfl, _⟩
 ·exact (h.good c (by simp [iY])).1 r (by simpa [zD] using hr)
 ·exact key cs h.good (by simpa [zD] using hr)
 ·exact key cs h.good (by simpa [zD] using hr)
theorem Res.ok {isv : Nat → Bool} {y : XV} (h : Res isv w0 E0 P R ea w S y) (ha : lL (V.erS S) (erX y) = true) : okX w P R S ea y := by
 have key : ∀ cs : List CV, (∀ c ∈ cs, iS w P R ea S c) → xN (V.erS S) (cs.map erC) = true → yF w P R S ea cs := by
  intro cs hc ha
  have ha' : xN S cs = true := by
   have h0 := vZ er0 S cs
   rw [zR] at h0
   rw [← h0]; exact ha
  exact zY.2 fun c hc' => (hc c hc').2 S EmpE.refl (eP.1 ha' c hc')
 rcases h.kind with ⟨c, rfl⟩ | ⟨cs, rfl⟩ | ⟨ad, cs, rfl, hb⟩
 ·simp only [erX, zW, lL] at ha
  have ha' : yL S c = true := by rw [← dW er0 S c]; exact ha
  simp only [okX]
  exact (h.good c (by simp [iY])).2 S EmpE.refl ha'
 ·simp only [erX, zW, zR, lL] at ha
  simp only [okX]; exact key cs h.good ha
 ·simp only [erX, zW, zR, lL] at ha
  simp only [okX]; exact ⟨key cs h.good ha, ad, rfl, hb⟩
theorem In.at {n : Nat} {args : List XV} {ext : List (List CV)} (h : In w E0 P R ea args ext) (hn : args.length ≤ n) :
  At cx f w E0 P R ea n (V.erS ⟨y6 args, ext⟩) { tmps := (args.map zQ).toArray ++ Array.replicate (n - (args.map zQ).toArray.size) undef, defers := [] } w := by
 refine ⟨⟨y6 args, ext⟩, ?_, rfl, rfl, by simp; omega⟩
 constructor
 case val =>
  intro d hd
  rcases Nat.lt_or_ge d args.length with h' | h'
  ·rcases h.val d (by simpa using h') with e | e
   ·exact .inl e
   ·right; rw [Array.getElem?_append_left (by simpa using h')]; exact e
  ·exact .inl (h.hi d (by simpa using h'))
 case hi => exact fun d hd => h.hi d (by simp at hd ⊢; omega)
 case okS => exact h.okS
 case okE => exact h.okE
 case eaL => exact h.eaL
 case row => exact h.row
 case refS => intro d d' hd; have := h.refS d d' hd; cases this
 case refE => intro j cs d' hj hd; have := h.refE j cs d' hj hd; cases this
 case dis => exact h.dis
 case nd => exact h.nd
 case lt => exact h.lt
 case own => exact h.own
 case notR => exact h.notR
 case PR => exact h.PR
 case ltR => exact h.ltR
 case frm => exact h.frm
theorem zLr (args : List XV) : (V.erS ⟨y6 args, []⟩ : SU).s = y6 (args.map erX) := by
 funext i
 simp only [V.erS, jJ, y6, List.getD_eq_getElem?_getD, List.getElem?_map]
 cases args[i]? <;> rfl
theorem zO8 (args : List XV) (ext : List (List CV)) : (V.erS ⟨y6 args, ext⟩ : SU) = ⟨y6 (args.map erX), ext.map (·.map erC)⟩ := by
 have := zLr args
 simp only [V.erS, jJ] at this ⊢
 rw [this]
 congr 1
 exact List.map_congr_left fun cs _ => zR er0 cs
theorem zW5 {isv : Nat → Bool} (h : Rel isv w0 E0 P R ea w S tmps) {ys : List XV} (hres : ∀ y ∈ ys, Res isv w0 E0 P R ea w S y) (hbk : Bk w0 E0 R ea w S (xA ys)) (hal : ∀ y ∈ ys, lL (V.erS S) (erX y) = true) (hex : ∀ (j : Nat) cs, S.e[j]? = some cs → ∀ r ∈ zK cs, x4 r = true) :
  Out w0 E0 P R ea w (jZ ys) S.e := by
 have hT : ∀ r, x4 r = true → zA (⟨upd (fun _ => .undef) 0 (jZ ys), S.e⟩ : SV) r = zA S r ∧ rootAd (⟨upd (fun _ => .undef) 0 (jZ ys), S.e⟩ : SV) ea r = rootAd S ea r := by
  intro r hr
  cases r with
  | sl d => simp [x4] at hr
  | ex j => exact ⟨rfl, rfl⟩
 have hrx : ∀ r ∈ zD (jZ ys), x4 r = true := by
  intro r hr
  rw [zLd, cM, List.mem_flatMap] at hr
  obtain ⟨y, hy, hr⟩ := hr
  exact (hres y hy).ex r hr
 have hb0 : ∀ r b, b ∈ zL (⟨upd (fun _ => .undef) 0 (jZ ys), S.e⟩ : SV) ea r → (r = .sl 0 ∧ b ∈ xA ys) ∨ (x4 r = true ∧ b ∈ zL S ea r) := by
  intro r b hb
  cases r with
  | sl d =>
   by_cases e : d = 0
   ·subst e; left; simp only [zL, upd, if_true, zEg] at hb; exact ⟨rfl, hb⟩
   ·simp [zL, upd, e, zE] at hb
  | ex j => right; exact ⟨rfl, hb⟩
 constructor
 case val =>
  intro d hd
  have : d = 0 := by simp at hd; exact hd
  subst this
  right; simp [upd]
 case hi =>
  intro d hd
  have : d ≠ 0 := by simp at hd; omega
  simp [upd, this]
 case okS =>
  intro d
  by_cases e : d = 0
  ·subst e
   simp only [upd, if_true]
   refine jY (fun _ _ _ => rfl) (fun _ _ => rfl) (zSj (fun y hy => (hres y hy).ok (hal y hy))) (fun _ _ => rfl) (fun r hr => hT r (hrx r hr))
  ·simp [upd, e, okX]
 case okE =>
  intro j cs hj
  exact ⟨qT (fun _ _ _ => rfl) (fun _ _ => rfl) (h.okE j cs hj).1 (fun _ _ => rfl) (fun r hr => hT r (hex j cs hj r hr)), (h.okE j cs hj).2⟩
 case eaL => exact h.eaL
 case row => exact h.row
 case refS =>
  intro d d' hd
  by_cases e : d = 0
  ·subst e
   simp only [upd, if_true] at hd
   have := hrx _ hd; simp [x4] at this
  ·simp [upd, e, zD] at hd
 case refE => intro j cs d' hj hd; have := hex j cs hj _ hd; simp [x4] at this
 case dis =>
  intro r r' b hb hb'
  rcases hb0 r b hb with ⟨rfl, h1⟩ | ⟨h1, h2⟩ <;> rcases hb0 r' b hb' with ⟨rfl, h3⟩ | ⟨h3, h4⟩
  ·rfl
  ·exact absurd h4 (hbk.sep r' b h1)
  ·exact absurd h2 (hbk.sep r b h3)
  ·exact h.dis r r' b h2 h4
 case nd =>
  intro r
  cases r with
  | sl d =>
   by_cases e : d = 0
   ·subst e; simp only [zL, upd, if_true, zEg]; exact hbk.nd
   ·simp [zL, upd, e, zE]
  | ex j => exact h.nd (.ex j)
 case lt => exact fun r b hb => (hb0 r b hb).elim (fun g => hbk.lt b g.2) (fun g => h.lt r b g.2)
 case own => exact fun r b hb => (hb0 r b hb).elim (fun g => hbk.own b g.2) (fun g => h.own r b g.2)
 case notR => exact fun r b hb => (hb0 r b hb).elim (fun g => hbk.notR b g.2) (fun g => h.notR r b g.2)
 case PR => exact h.PR
 case ltR => exact h.ltR
 case frm => exact h.frm
theorem zT5 {lf : Nat} {fn : Func} {c : Code} (hm : Pr.follows .mixedOrders = true) (hty : jB Pr cx.ty) (hf : Pr.funcs[f]? = some fn) (hb : fn.body = some c) (hck : wW cx f fn.ntmps c = true)
  {args : List XU} {ext : List (List CU)} {res : XU} {ext' : List (List CU)} (hq : uX cx f call lf fn c args ext = some (res, ext')) {w : World} {E : Nat → Prop} {P : Nat → Nat → Prop} {R : Nat → Prop} {ea : List EA} {argsG : List XV} {extG : List (List CV)} (hstep : ∀ P R ea, mN cx f call Pr w E P R ea fn.ntmps)
  (ha : argsG.map erX = args) (he : extG.map (·.map erC) = ext) (hin : In w E P R ea argsG extG) :
  Calls Pr f (argsG.map zQ).toArray w (fun
    | .returned v, w' => ∃ resG extG', erX resG = res ∧ extG'.map (·.map erC) = ext' ∧ v = zQ resG ∧ Out w E P R ea w' resG extG'
    | _, _ => False) := by
 subst ha; subst he
 unfold uX at hq
 split at hq
 ·rename_i hlen
  have hat := In.at (cx := cx) (f := f) (n := fn.ntmps) hin (by simpa using hlen)
  rw [zO8] at hat
  have fin : ∀ {S1 : SU} {ex : Ex}, y8 cx f call lf c ⟨y6 (argsG.map erX), extG.map (·.map erC)⟩ = some (ex, S1) → (ex = .nrm ∨ ex = .ret) → ((nL cx f S1 fn.results.toList).bind fun r => if r.1.all (lL r.2) && r.2.e.all (fun cs => (zN true cs).all x4) then some (o6 r.1, r.2.e) else none) = some (res, ext') →
    Calls Pr f (argsG.map zQ).toArray w (fun
    | .returned v, w' => ∃ resG extG', erX resG = res ∧ extG'.map (·.map erC) = ext' ∧ v = zQ resG ∧ Out w E P R ea w' resG extG'
    | _, _ => False) := by
   intro S1 ex hex hk hr
   refine calls_of_wp hf hb (zUj hm hty (hstep _ _ _) (zPo hty) c hck hat hex (fun a' w' hat' => ?_))
   have main : bodyPost Pr fn (fun
    | .returned v, w' => ∃ resG extG', erX resG = res ∧ extG'.map (·.map erC) = ext' ∧ v = zQ resG ∧ Out w E P R ea w' resG extG'
    | _, _ => False) .ret a' w' := by
    obtain ⟨S, hrel, rfl, hd, hsz⟩ := hat'
    cases hrs : nL cx f (V.erS S) fn.results.toList with
    | none => rw [hrs] at hr; simp at hr
    | some q =>
     obtain ⟨xs, Sx⟩ := q
     rw [hrs] at hr
     simp only [Option.bind_some] at hr
     split at hr
     ·rename_i hc
      simp only [Bool.and_eq_true, List.all_eq_true] at hc
      simp only [Option.some.injEq, Prod.mk.injEq] at hr
      obtain ⟨rfl, rfl⟩ := hr
      obtain ⟨ys, S2, rfl, rfl, c3, c4, c5, c6, c7, c8⟩ := zI4 (Pr := Pr) hty hrel hrs
      refine ⟨hd, _, zF9 fn a'.tmps w' c8, jZ ys, S2.e, zSi ys, (List.map_congr_left fun cs _ => (zR er0 cs).symm), zPm ys, ?_⟩
      refine zW5 c3 c5 c6 (fun y hy => hc.1 _ (List.mem_map_of_mem hy)) (fun j cs hj => ?_)
      have hm' : (cs.map erC) ∈ (V.erS S2).e := by
       simp only [V.erS, jJ]
       exact List.mem_map.2 ⟨cs, List.mem_of_getElem? hj, zR er0 cs⟩
      have := hc.2 _ hm'
      exact zDu.1 (List.all_eq_true.2 this)
     ·cases hr
   rcases hk with rfl | rfl
   ·exact main
   ·exact main
  split at hq
  ·rename_i S1 h1; exact fin h1 (.inl rfl) hq
  ·rename_i S1 h1; exact fin h1 (.inr rfl) hq
  ·cases hq
 ·cases hq
def TabOk (T : World → Prop) (w : World) (E : Nat → Prop) : Prop := ∀ w', Frm E w w' → T w'
theorem TabOk.on {T : World → Prop} {w0 w : World} {E0 E : Nat → Prop} (h : TabOk T w0 E0) (hf : Frm E0 w0 w) (hE : ∀ b, E b → E0 b ∨ w0.heap.size ≤ b) : TabOk T w E :=
 fun w' h' => h w' (hf.trans (h'.mono hE))
structure CtxOk (Pr : Program) (cx : Ctx) (T : World → Prop) : Prop where
 mixed : Pr.follows .mixedOrders = true
 ty : jB Pr cx.ty
 name : ∀ g fn, cx.good g = true → Pr.funcs[g]? = some fn → (fn.name == "runtime.NumGoroutine") = false
 code : ∀ g fn c, cx.good g = true → Pr.funcs[g]? = some fn → fn.body = some c → wW cx g fn.ntmps c = true
 orc : ∀ g h args x, cx.orc g = some h → h args = some x → bF Pr g ∧
  ∀ (w : World) (E : Nat → Prop) (P : Nat → Nat → Prop) (R : Nat → Prop) (ea : List EA) (argsG : List XV), TabOk T w E → argsG.map erX = args → In w E P R ea argsG [] →
   Calls Pr g (argsG.map zQ).toArray w (fun
    | .returned v, w' => ∃ resG, erX resG = x ∧ v = zQ resG ∧ Out w E P R ea w' resG []
    | _, _ => False)
 step : ∀ call w0 E0, lH Pr call w0 E0 → ∀ g n P R ea, mN cx g call Pr w0 E0 P R ea n
theorem enters_of {fn : Func} {g : Nat} {c : Code} (hf : Pr.funcs[g]? = some fn) (hb : fn.body = some c) (hn : (fn.name == "runtime.NumGoroutine") = false) : bF Pr g := by
 intro args w
 simp only [beq_eq_false_iff_ne, ne_eq] at hn
 simp [callFunc, hf, hb, hn]
theorem zSw {T : World → Prop} (hcx : CtxOk Pr cx T) : ∀ k w0 E0, TabOk T w0 E0 → lH Pr (run Pr cx k) w0 E0
 | 0, w0, E0, hT => by intro g args ext res ext' h; simp [run] at h
 | k + 1, w0, E0, hT => by
  have ih := zSw hcx k
  intro g args ext res ext' h
  simp only [run] at h
  split at h
  ·rename_i hh ho
   split at h
   ·cases hx : hh args with
    | none => simp [hx] at h
    | some x =>
     simp only [hx, Option.map_some, Option.some.injEq, Prod.mk.injEq] at h
     obtain ⟨rfl, rfl⟩ := h
     obtain ⟨h1, h2⟩ := hcx.orc g hh args x ho hx
     refine ⟨h1, fun w E P R ea argsG extG hf1 hf2 ha he hin => ?_⟩
     have : extG = [] := by simpa using he
     subst this
     refine (h2 w E P R ea argsG (hT.on hf1 hf2) ha hin).mono fun e w' he' => ?_
     cases e with
     | returned v => obtain ⟨resG, g1, g2, g3⟩ := he'; exact ⟨resG, [], g1, rfl, g2, g3⟩
     | panicked _ => exact he'
     | outgrown => exact he'
   ·cases h
  ·split at h
   ·rename_i fn hf
    split at h
    ·rename_i c hb
     split at h
     ·rename_i hg
      exact ⟨enters_of hf hb (hcx.name g fn hg hf), fun w E P R ea argsG extG hf1 hf2 ha he hin => zT5 hcx.mixed hcx.ty hf hb (hcx.code g fn c hg hf hb) h (fun P R ea => hcx.step _ w E (ih w E (hT.on hf1 hf2)) g _ P R ea) ha he hin⟩
     ·cases h
    ·cases h
   ·cases h
end
end Go.Proofs.YtlkjnlfddadlmaaGreatDoor.V
namespace Go.Proofs.YtlkjnlfddadlmaaGreatDoor.V
open Go.RowKit
section
variable {cx : Ctx} {f : Nat} {w0 : World} {E0 : Nat → Prop} {P : Nat → Nat → Prop} {R : Nat → Prop} {ea : List EA} {w w' : World} {a : Act} {call : zX} {Pr : Program} {S S0 S1 S2 S3 : SV} {tmps : Array Value}
def rA (w : World) (v : Value) (m : Nat) (vs : List Value) : Prop :=
 ∃ A cap, v = .slice A m cap ∧ (vs = [] ∨ ∃ ad, A = some ad ∧ ad.spot = none ∧ vM w ad.block ad.off vs)
theorem kX.behind {v : Value} {sz n : Nat} {vs : List Value} (h : kX w v sz n vs) (hl : vs.length = n * sz) : rA w v n vs := by
 rcases h with ⟨rfl, rfl⟩ | ⟨b, o, cur, e, ⟨ad, cap, rfl, h1, h2, rfl, h3⟩, hh, hv⟩
 ·exact ⟨none, 0, rfl, .inl (by rw [Nat.zero_mul] at hl; exact List.length_eq_zero_iff.1 hl)⟩
 ·refine ⟨some ad, cap, rfl, ?_⟩
  by_cases hn : n = 0
  ·left; rw [hn, Nat.zero_mul] at hl; exact List.length_eq_zero_iff.1 hl
  ·right
   obtain ⟨rfl, h4⟩ := h3.resolve_left (by omega)
   refine ⟨ad, rfl, h2, fun j v hj => ?_⟩
   simp only [World.cell?, hh, Option.isSome_none, Bool.false_eq_true, if_false]
   exact hv j v hj
theorem sK.behind {Q : Nat → Prop} {v : Value} {sz n : Nat} {vs : List Value} (h : sK w Q v n vs) (hl : vs.length = n * sz) : rA w v n vs := by
 obtain ⟨A, cap, rfl, _, h⟩ := h
 refine ⟨A, cap, rfl, ?_⟩
 rcases h with rfl | ⟨ad, rfl, h1, _, h2⟩
 ·left; rw [Nat.zero_mul] at hl; exact List.length_eq_zero_iff.1 hl
 ·exact .inr ⟨ad, rfl, h1, h2⟩
theorem rA.src {size tx : Nat} {v : Value} {m : Nat} {vs : List Value} (h : rA w v m vs) (hk : (∃ e', Pr.underlying tx = some (.slice e')) ∨ Pr.underlying tx = some .string) (hl : vs.length = m * size) (h1 : ∀ u ∈ vs, u.oneCell' = true) : Src Pr size tx v m vs w := by
 obtain ⟨A, cap, rfl, h⟩ := h
 have hcell : ∀ w' : World, (∀ b o, w'.cell? ⟨b, o, none⟩ = w.cell? ⟨b, o, none⟩) → (Builtin.firstCells size m (.slice A m cap)).run Pr w' = .ok vs.toArray w' := by
  intro w' hw'
  rcases h with rfl | ⟨ad, rfl, hs, hc⟩
  ·cases A with
   | none => exact run_firstCells_none w' size m m cap
   | some ad => exact run_firstCells_some w' size m ad m cap [] (by simpa using hl) (by simp)
  ·refine run_firstCells_some w' size m ad m cap vs hl (fun j u hu => ?_)
   have e : ad.add j = ⟨ad.block, ad.off + j, none⟩ := by
    unfold Addr.add
    split
    ·cases ad; simp only at hs; subst hs; simp_all
    ·rfl
   rw [e, hw']
   exact hc j u hu
 exact ⟨hk, fun _ => rfl, hcell w (fun _ _ => rfl), hcell w.drew (fun _ _ => rfl), hl, h1⟩
theorem zNu {x : TV} (h : okT w P R x) : (zV x).oneCell' = true := by
 have := pI (S := (⟨fun _ => .undef, []⟩ : SV)) (ea := []) (c := .t x) (by simpa only [okC] using h)
 simpa only [zJ] using this
theorem zHv (h : Rel (zB cx f) w0 E0 P R ea w S tmps) (ha : a.tmps = tmps) {o : Operand} {t : Nat} {zs : List TU} {sz n : Nat} {Su : SU} (hq : vX cx f (V.erS S) o t = some (zs, sz, n, Su)) :
  ∃ (us : List TV) (S2 : SV), us.map erT = zs ∧ V.erS S2 = Su ∧ Rel (zB cx f) w0 E0 P R ea w S2 tmps ∧ (∀ k b, b ∈ zL S2 ea k → b ∈ zL S ea k) ∧ okT w P R (.sl (a.eval o) 0 sz n us) ∧ Bk w0 E0 R ea w S2 (zU (.sl (a.eval o) 0 sz n us)) ∧
   (∀ b ∈ zU (.sl (a.eval o) 0 sz n us), ∃ k, b ∈ zL S ea k) := by
 unfold vX at hq
 split at hq
 ·rename_i _ sz' n' cs hx
  simp only [Option.some.injEq, Prod.mk.injEq] at hq
  obtain ⟨rfl, rfl, rfl, rfl⟩ := hq
  obtain ⟨xG, hxG⟩ := h.opv ha hx
  obtain ⟨cG, rfl, hc⟩ := aR hxG.er
  obtain ⟨y, rfl, hy⟩ := k9 hc
  obtain ⟨v, ds, rfl, hds⟩ := zHm hy
  have hv : a.eval o = v := by simpa [zQ, zJ, zV] using hxG.val
  subst hv
  have hn := hxG.new
  refine ⟨ds, V.clr cx f S o, hds, gT o, h.clr o, ?_, by simpa only [okX, okC] using hn.ok, by simpa only [zE, zP] using hn.bk, fun b hb => hxG.src b (by simpa only [zE, zP] using hb)⟩
  intro k b hb
  cases o with
  | tmp d =>
   simp only [V.clr] at hb
   split at hb
   ·exact hb
   ·split at hb
    ·by_cases e : k = .sl d
     ·subst e; simp [zL, upd, zE] at hb
     ·rwa [qD e] at hb
    ·exact hb
  | _ => exact hb
 ·rename_i v r p i off sz' n' hx
  split at hq
  ·cases hq
  ·obtain ⟨cG, hcG, hval, hok, hrf⟩ := kA h ha hx
   obtain ⟨v', rfl⟩ := zKp hcG
   simp only [okC] at hok
   cases ht : xL (V.erS S) () r p i off sz' n' with
   | none =>
    change ((xL (V.erS S) () r p i off sz' n').bind _) = _ at hq
    rw [ht] at hq; simp at hq
   | some q =>
    obtain ⟨tt, Sq⟩ := q
    change ((xL (V.erS S) () r p i off sz' n').bind _) = _ at hq
    rw [ht] at hq
    simp only [Option.bind_some] at hq
    obtain ⟨tG, S2, e1, e2, e3, e4, e5, e6, e7⟩ := oE h hok ht
    have hsl : ∃ cs, tt = .sl () 0 sz' n' cs := by
     unfold xL at ht
     split at ht
     ·split at ht
      ·cases hp : z7 (V.erS S) r p i (.t (.dead _)) with
       | none => rw [hp] at ht; simp at ht
       | some S' => rw [hp] at ht; simp only [Option.map_some, Option.some.injEq, Prod.mk.injEq] at ht; exact ⟨_, ht.1.symm⟩
      ·cases ht
     ·cases ht
    obtain ⟨cs, rfl⟩ := hsl
    simp only [Option.some.injEq, Prod.mk.injEq] at hq
    obtain ⟨rfl, rfl, rfl, rfl⟩ := hq
    obtain ⟨v2, ds, rfl, hds⟩ := zHm e1
    have hv : a.eval o = v2 := by
     rw [hval]
     simpa only [zV, zJ] using e3.symm
    subst hv
    exact ⟨ds, S2, hds, e2, e4, e5.blk, by simpa only [okX, okC] using e6.ok, by simpa only [zE, zP] using e6.bk, fun b hb => ⟨_, e7 b hb⟩⟩
 ·rename_i v sz' n' cs hx
  obtain ⟨xG, hxG⟩ := h.opv ha hx
  obtain ⟨cG, rfl, hc⟩ := aR hxG.er
  obtain ⟨v', ds, rfl, hds⟩ := zWl hc
  subst hds
  have hn := hxG.new
  rw [← gT] at hq
  cases hs : xZ (ds.map erC) (V.erS (V.clr cx f S o)) with
  | none => rw [hs] at hq; simp at hq
  | some q =>
   obtain ⟨ts, Sq⟩ := q
   rw [hs] at hq
   simp only [Option.map_some, Option.some.injEq, Prod.mk.injEq] at hq
   obtain ⟨rfl, rfl, rfl, rfl⟩ := hq
   have hset : yS (erC (.lst v' sz' n' ds)) (V.erS (V.clr cx f S o)) = some (.sl (er0 v') 0 sz' n' ts, Sq) := by
    simp only [erC, zI, zR, yS]
    rw [show (xZ (ds.map (zI er0)) (V.erS (V.clr cx f S o))) = some (ts, Sq) from hs]
    rfl
   have hok : okC w P R (V.clr cx f S o) ea (.lst v' sz' n' ds) := by simpa only [okX] using hn.ok
   obtain ⟨tG, S2, e1, e2, e3, e4, e5, e6, e7, e8⟩ := lC (h.clr o) Emp.refl hok (by simpa only [zE] using hn.bk) hset
   obtain ⟨v2, us, rfl, hus⟩ := zHm e1
   have hv : a.eval o = v2 := by
    rw [hxG.val]
    simpa only [zV, zJ, zQ] using e3.symm
   subst hv
   have hclr : ∀ k b, b ∈ zL (V.clr cx f S o) ea k → b ∈ zL S ea k := by
    intro k b hb
    cases o with
    | tmp d =>
     simp only [V.clr] at hb
     split at hb
     ·exact hb
     ·split at hb
      ·by_cases e : k = .sl d
       ·subst e; simp [zL, upd, zE] at hb
       ·rwa [qD e] at hb
      ·exact hb
    | _ => exact hb
   refine ⟨us, S2, hus, e2, e4, fun k b hb => hclr k b (e5.blk k b hb), e6, e7, fun b hb => ?_⟩
   rcases e8 b hb with g | ⟨k, g⟩
   ·exact hxG.src b (by simpa only [zE] using g)
   ·exact ⟨k, hclr k b g⟩
 ·cases hq
theorem zC1 (h : Rel (zB cx f) w0 E0 P R ea w S tmps) {r : Root} {p : List Nat} {i off sz n : Nat} {v : Value} (hb : wD S r p i off sz n v) (hsz : 0 < sz) {ds : List TV} (hl : x6 S r p i off (n * sz) = some ds) :
  xP w P R ds ∧ ds.length = n * sz ∧ rA w v n (ds.map zV) := by
 obtain ⟨b, m, es, hat, hle, hok, hown, _⟩ := iX h hb hsz
 unfold x6 at hl
 rw [hat] at hl
 simp only [if_pos hle, Option.some.injEq] at hl
 subst hl
 have hlen : ((es.drop off).take (n * sz)).length = n * sz := by rw [List.length_take, List.length_drop]; omega
 exact ⟨fU (u9 hok), hlen, hown.behind (by rw [List.length_map, hlen])⟩
theorem zTm (h : Rel (zB cx f) w0 E0 P R ea w S tmps) (ha : a.tmps = tmps) {o : Operand} {t : Nat} {fl : Bool} {ys : List TU} {sz m : Nat} {Su : SU} (hsz : 0 < sz) (hq : wL cx f (V.erS S) o t fl = some (ys, sz, m, Su)) :
  ∃ (us : List TV) (S2 : SV), us.map erT = ys ∧ V.erS S2 = Su ∧ Rel (zB cx f) w0 E0 P R ea w S2 tmps ∧ xP w P R us ∧ Bk w0 E0 R ea w S2 (zZ us) ∧ us.length = m * sz ∧
   (rA w (a.eval o) m (us.map zV) ∨ ∃ s : List UInt8, sz = 1 ∧ m = s.length ∧ a.eval o = .string ⟨s.toArray⟩ ∧ us.map zV = byteCells ⟨s.toArray⟩) := by
 have hnob : ∀ {us : List TV}, zZ us = [] → Bk w0 E0 R ea w S (zZ us) := fun e => by
  rw [e]; exact ⟨List.nodup_nil, fun _ _ h => (by cases h), fun _ h => (by cases h), fun _ h => (by cases h), fun _ h => (by cases h)⟩
 have head : vX cx f (V.erS S) o t = some (ys, sz, m, Su) → ∃ (us : List TV) (S2 : SV), us.map erT = ys ∧ V.erS S2 = Su ∧ Rel (zB cx f) w0 E0 P R ea w S2 tmps ∧ xP w P R us ∧ Bk w0 E0 R ea w S2 (zZ us) ∧ us.length = m * sz ∧
   (rA w (a.eval o) m (us.map zV) ∨ ∃ s : List UInt8, sz = 1 ∧ m = s.length ∧ a.eval o = .string ⟨s.toArray⟩ ∧ us.map zV = byteCells ⟨s.toArray⟩) := by
  intro hq
  obtain ⟨us, S2, e1, e2, e3, _, e5, e6, _⟩ := zHv h ha hq
  simp only [okT, if_true] at e5
  refine ⟨us, S2, e1, e2, e3, e5.2.1, e6.sub (by simp only [zU, if_true]; exact List.sublist_append_right _ _), e5.1, .inl (e5.2.2.behind (by simpa using e5.1))⟩
 unfold wL at hq
 split at hq
 ·rename_i _ tag sz' n' cs hx
  simp only [Option.some.injEq, Prod.mk.injEq] at hq
  obtain ⟨rfl, rfl, rfl, rfl⟩ := hq
  obtain ⟨cG, hcG, hval, hok, hrf⟩ := kA h ha hx
  obtain ⟨y, rfl, hy⟩ := k9 hcG
  obtain ⟨v, ds, rfl, hds⟩ := zHm hy
  simp only [okC, okT, Nat.succ_ne_zero, if_false] at hok
  obtain ⟨k1, k2, k3, k4, k5⟩ := hok
  have hv : a.eval o = v := by simpa [zJ, zV] using hval
  refine ⟨ds, S, hds, rfl, h, k2, hnob ?_, k1, .inl (by rw [hv]; exact k3.behind (by simpa using k1))⟩
  rw [xD, List.flatMap_eq_nil_iff]
  exact fun x hx => d9 (xU.1 k5 x hx)
 ·rename_i s hx
  simp only [Option.some.injEq, Prod.mk.injEq] at hq
  obtain ⟨rfl, rfl, rfl, rfl⟩ := hq
  obtain ⟨cG, hcG, hval, hok, hrf⟩ := kA h ha hx
  obtain ⟨y, rfl, hy⟩ := k9 hcG
  have := aS hy
  subst this
  have hv : a.eval o = .string ⟨s.toArray⟩ := by simpa [zJ, zV] using hval
  refine ⟨s.map fun b => .int .u8 b.toNat, S, by simp [zDc, erT, yA], rfl, h, ?_, hnob ?_, by simp, .inr ⟨s, rfl, rfl, hv, ?_⟩⟩
  ·exact yJ.2 fun x hx => by obtain ⟨b, _, rfl⟩ := List.mem_map.1 hx; simp [okT]
  ·rw [xD, List.flatMap_eq_nil_iff]
   intro x hx; obtain ⟨b, _, rfl⟩ := List.mem_map.1 hx; simp [zU]
  ·simp [byteCells, zV]
 ·rename_i _ r p i off sz' n' hx
  split at hq
  ·obtain ⟨cG, hcG, hval, hok, hrf⟩ := kA h ha hx
   obtain ⟨v, rfl⟩ := zKp hcG
   simp only [okC] at hok
   cases hl : x6 (V.erS S) r p i off (n' * sz') with
   | none => rw [hl] at hq; simp at hq
   | some cs =>
    rw [hl] at hq
    simp only [Option.bind_some] at hq
    split at hq
    ·rename_i hfl
     simp only [Option.some.injEq, Prod.mk.injEq] at hq
     obtain ⟨rfl, rfl, rfl, rfl⟩ := hq
     have hm : x6 (V.erS S) r p i off (n' * sz') = (x6 S r p i off (n' * sz')).map (·.map (yA er0)) := rT er0 S r p i off (n' * sz')
     rw [hm] at hl
     cases hg : x6 S r p i off (n' * sz') with
     | none => rw [hg] at hl; simp at hl
     | some ds =>
      rw [hg] at hl
      simp only [Option.map_some, Option.some.injEq] at hl
      subst hl
      obtain ⟨g1, g2, g3⟩ := zC1 h hok hsz hg
      have hv : a.eval o = v := by simpa [zJ] using hval
      refine ⟨ds, S, rfl, rfl, h, g1, hnob ?_, g2, .inl (by rw [hv]; exact g3)⟩
      rw [xD, List.flatMap_eq_nil_iff]
      intro x hx
      have hf := List.all_eq_true.1 hfl (yA er0 x) (List.mem_map_of_mem hx)
      cases x with
      | sl v2 tag sz2 n2 cs2 => cases tag with
       | zero => simp [yA, zRj] at hf
       | succ g => simp [zU]
      | _ => simp [zU]
    ·cases hq
  ·exact head hq
 ·exact head hq
end
end Go.Proofs.YtlkjnlfddadlmaaGreatDoor.V
namespace Go.Proofs.YtlkjnlfddadlmaaGreatDoor.V
open Go.RowKit
section
variable {cx : Ctx} {f : Nat} {w0 : World} {E0 : Nat → Prop} {P : Nat → Nat → Prop} {R : Nat → Prop} {ea : List EA} {w w' : World} {a : Act} {call : zX} {Pr : Program} {S S0 S1 S2 S3 : SV} {tmps : Array Value}
theorem p6 {b : Nat} {e : TypeId} : ∀ {vs : List Value} {o : Nat} {w : World} {cur : Array Value}, w.heap[b]? = some (.cells cur e (0, 0)) → o + vs.length ≤ cur.size →
  ∃ cur', (w.setCells b o vs).heap[b]? = some (.cells cur' e (0, 0)) ∧ cur'.size = cur.size ∧ (∀ j v, vs[j]? = some v → cur'[o + j]? = some v) ∧ (∀ k, k < o → cur'[k]? = cur[k]?)
 | [], o, w, cur, h, _ => ⟨cur, h, rfl, by simp, fun _ _ => rfl⟩
 | v :: vs, o, w, cur, h, hl => by
  simp only [List.length_cons] at hl
  obtain ⟨cur', h1, h2, h3, h4⟩ := p6 (vs := vs) (o := o + 1) (heap_setCell (o := o) (v := v) h) (by simp; omega)
  refine ⟨cur', h1, by simpa using h2, fun j u hj => ?_, fun k hk => ?_⟩
  ·cases j with
   | zero =>
    simp only [List.getElem?_cons_zero, Option.some.injEq] at hj
    subst hj
    rw [Nat.add_zero, h4 o (by omega), Array.getElem?_setIfInBounds_self_of_lt (by omega)]
   | succ j =>
    simp only [List.getElem?_cons_succ] at hj
    rw [show o + (j + 1) = o + 1 + j by omega]
    exact h3 j u hj
  ·rw [h4 k (by omega), Array.getElem?_setIfInBounds_ne (by omega)]
theorem nO {b k : Nat} (hk : k ≠ b) : ∀ {vs : List Value} {o : Nat} {w : World}, (w.setCells b o vs).heap[k]? = w.heap[k]?
 | [], o, w => rfl
 | v :: vs, o, w => by
  simp only [World.setCells]
  rw [nO hk, gA hk]
theorem dU (b : Nat) : ∀ (vs : List Value) (o : Nat) (w : World), (w.setCells b o vs).os = w.os ∧ (w.setCells b o vs).tape = w.tape ∧ (w.setCells b o vs).output = w.output ∧ (w.setCells b o vs).heap.size = w.heap.size
 | [], _, _ => ⟨rfl, rfl, rfl, rfl⟩
 | v :: vs, o, w => by
  obtain ⟨h1, h2, h3, h4⟩ := dU b vs (o + 1) (w.setCell ⟨b, o, none⟩ v)
  exact ⟨h1, h2, h3, by rw [World.setCells, h4]; simp [World.setCell]⟩
theorem Rel.apart {isv : Nat → Bool} (h : Rel isv w0 E0 P R ea w S tmps) {B : Nat} (hB : ∀ r, B ∉ zL S ea r) (hR : ¬ R B) (hE : E0 B ∨ w0.heap.size ≤ B) (hw : ∀ k, k ≠ B → w'.heap[k]? = w.heap[k]?) (hr : w'.os = w.os ∧ w'.tape = w.tape ∧ w'.output = w.output ∧ w'.heap.size = w.heap.size) :
  Rel isv w0 E0 P R ea w' S tmps := by
 have hRB : ∀ b, R b → b ≠ B := fun b hb e => hR (e ▸ hb)
 have hPB : ∀ t b, P t b → b ≠ B := fun t b hb e => hR (e ▸ h.PR t b hb)
 constructor
 case val => exact h.val
 case hi => exact h.hi
 case okS => exact fun d => cJ hw hPB hRB (h.okS d) (hB (.sl d))
 case okE =>
  intro j cs hj
  refine ⟨zY.2 fun c hc => gG hw hPB hRB (zY.1 (h.okE j cs hj).1 c hc) (fun hb => hB (.ex j) (rI hj (by rw [yW, List.mem_flatMap]; exact ⟨c, hc, hb⟩))), fun ad had => ?_⟩
  exact ((h.okE j cs hj).2 ad had).same (hw _ (fun e => hB (.ex j) (e ▸ rH had)))
 case eaL => exact h.eaL
 case row => exact h.row
 case refS => exact h.refS
 case refE => exact h.refE
 case dis => exact h.dis
 case nd => exact h.nd
 case lt => intro r b hb; rw [hr.2.2.2]; exact h.lt r b hb
 case own => exact h.own
 case notR => exact h.notR
 case PR => exact h.PR
 case ltR => intro b hb; rw [hr.2.2.2]; exact h.ltR b hb
 case frm =>
  refine ⟨hr.1.trans h.frm.os, hr.2.1.trans h.frm.tape, hr.2.2.1.trans h.frm.output, by rw [hr.2.2.2]; exact h.frm.size, fun k hk hE' => ?_⟩
  have : k ≠ B := by
   rintro rfl
   rcases hE with g | g
   ·exact hE' g
   ·omega
  exact (hw k this).trans (h.frm.block k hk hE')
theorem zOw (hty : jB Pr cx.ty) (h : Rel (zB cx f) w0 E0 P R ea w S tmps) (ha : a.tmps = tmps) {o : Oper} {c : Call} (ho : o.op = .call c) (hcal : c.callee = .builtin .append) {s x : Operand} (hargs : c.args.toList = [s, x]) {z : XU} {Su : SU}
  (hq : gS cx f (V.erS S) c.argTypes.toList s x = some (z, Su)) :
  ∃ w' S' xG, erX xG = z ∧ V.erS S' = Su ∧ Rel (zB cx f) w0 E0 P R ea w' S' tmps ∧ New (zB cx f) w0 E0 P R ea w' S' xG ∧ (execOp a.eval o).run Pr w = .ok (.value (zQ xG)) w' := by
 unfold gS at hq
 split at hq
 ·rename_i t t' hts
  have hta : c.argTypes = #[t, t'] := by apply Array.ext'; simp [hts]
  split at hq
  ·rename_i el hel
   cases ht : wL cx f (V.erS S) x t' (cx.ty el).flat with
   | none => simp [ht] at hq
   | some q =>
    obtain ⟨ys, sz', m, Su1⟩ := q
    simp only [ht, Option.bind_some] at hq
    cases hh : vX cx f Su1 s t with
    | none => simp [hh] at hq
    | some q =>
     obtain ⟨zs, sz, n, Su2⟩ := q
     simp only [hh, Option.bind_some] at hq
     split at hq
     ·rename_i hc
      obtain ⟨rfl, hsz', hsz, hok, htok, hty', hmax, hby⟩ := hc
      simp only [Option.some.injEq, Prod.mk.injEq] at hq
      obtain ⟨rfl, rfl⟩ := hq
      obtain ⟨us, S1, rfl, rfl, r1, u2, u3, u4, u5⟩ := zTm h ha (by omega) ht
      obtain ⟨hs, S2, rfl, rfl, r2, v2, v3, v4, v5⟩ := zHv r1 ha hh
      -- types
      obtain ⟨ti, d, zz, hf⟩ := hty.facts htok
      have hd := hf.slice hel
      subst hd
      obtain ⟨ti2, d2, zz2, hf2⟩ := hty.facts hok
      have hzs : zz2.cells.size = (cx.ty el).sz := by
       have := uY hf2.zs
       rw [Array.length_toList, hf2.zlen] at this
       exact this.symm
      have hkind : (∃ e', Pr.underlying t' = some (.slice e')) ∨ Pr.underlying t' = some .string := by
       simp only [zLx, Bool.and_eq_true, Bool.or_eq_true, beq_iff_eq] at hty'
       obtain ⟨g1, g2⟩ := hty'
       obtain ⟨ti', d', zz', hf'⟩ := hty.facts g1
       rcases g2 with g2 | g2
       ·obtain ⟨el', hel'⟩ := Option.isSome_iff_exists.mp g2
        have := hf'.slice hel'
        subst this
        exact .inl ⟨_, hf'.und⟩
       ·obtain ⟨d3, hd3, hk3⟩ := xV (t := t') hty (k := 3) (by omega) (by simp [jC, g1, g2])
        have : d3 = .string := by cases d3 <;> simp [j5] at hk3 <;> rfl
        subst this
        exact .inr hd3
      have hul : us.length = m * (cx.ty el).sz := by rw [← hsz']; exact u4
      have hunl : (us.map zV).length = m * ti2.size := by rw [List.length_map, hf2.size]; exact hul
      have hone : ∀ u ∈ us.map zV, u.oneCell' = true := by
       intro u hu
       obtain ⟨y, hy, rfl⟩ := List.mem_map.1 hu
       exact zNu (yJ.1 u2 y hy)
      have hsrc : Src Pr ti2.size t' (a.eval x) m (us.map zV) w := by
       rcases u5 with u5 | ⟨b, g1, g2, g3, g4⟩
       ·exact u5.src hkind hunl hone
       ·rw [g3, g4]
        have hsb : (⟨b.toArray⟩ : ByteArray).size = b.length := by simp [ByteArray.size]
        have hs1 : ti2.size = 1 := by rw [hf2.size]; omega
        have hstr : Pr.underlying t' = some .string ∨ ∃ e', Pr.underlying t' = some (.slice e') := hkind.symm
        rw [g2, ← hsb, hs1]
        exact ⟨hkind, fun _ => rfl, firstCells_string _ w, firstCells_string _ w.drew, by rw [byteCells_length, Nat.mul_one], fun u hu => by
         obtain ⟨_, _, rfl⟩ := List.mem_map.1 hu
         rfl⟩
      simp only [okT, if_true] at v3
      obtain ⟨w1, w2, w3⟩ := v3
      simp only [zU, if_true] at v4 v5
      -- the parts' blocks
      have ubk : Bk w0 E0 R ea w S2 (zZ us) := ⟨u3.nd, fun r b hb hb' => u3.sep r b hb (v2 r b hb'), u3.lt, u3.own, u3.notR⟩
      have hdis : ∀ b ∈ hdr (a.eval s) ++ zZ hs, b ∉ zZ us := by
       intro b hb hb'
       obtain ⟨k, hk⟩ := v5 b hb
       exact u3.sep k b hb' hk
      have hlen : (hs ++ us).length = (n + m) * (cx.ty el).sz := by rw [List.length_append, w1, hul, Nat.add_mul]
      have hokall : xP w P R (hs ++ us) := yJ.2 fun y hy => by
       rcases List.mem_append.1 hy with hy | hy
       ·exact yJ.1 w2 y hy
       ·exact yJ.1 u2 y hy
      have hblk : zZ (hs ++ us) = zZ hs ++ zZ us := by rw [xD, xD, xD, List.flatMap_append]
      have hallbk : Bk w0 E0 R ea w S2 (zZ (hs ++ us)) := by
       rw [hblk]
       exact (v4.sub (List.sublist_append_right _ _)).append ubk (fun b hb => hdis b (List.mem_append_right _ hb))
      have hrunv : ∀ {v : Value} {w' : World}, (Builtin.append_ c.argTypes o.type #[a.eval s, a.eval x]).run Pr w = .ok v w' → (execOp a.eval o).run Pr w = .ok (.value v) w' := by
       intro v w' hr
       simp [execOp, ho, resolve, hcal, invoke, builtin, zMn hargs, hr]
      have hsmall : n + m ≤ 9223372036854775807 := by unfold maxLen at hmax; omega
      -- a new row
      have grow : ∀ {base : Option Addr} {cap : Nat}, a.eval s = .slice base n cap → cap < n + m →
        ∃ w' S' xG, erX xG = .c (.t (.sl () 0 (cx.ty el).sz (n + m) (hs.map erT ++ us.map erT))) ∧ V.erS S' = V.erS S2 ∧ Rel (zB cx f) w0 E0 P R ea w' S' tmps ∧ New (zB cx f) w0 E0 P R ea w' S' xG ∧ (execOp a.eval o).run Pr w = .ok (.value (zQ xG)) w' := by
       intro base cap hbase hg
       have hsrc2 : Src Pr ti2.size t (a.eval s) n (hs.map zV) w := (w3.behind (by rw [List.length_map]; exact w1)).src (.inl ⟨_, hf.und⟩) (by rw [List.length_map, hf2.size]; exact w1) (fun u hu => by
        obtain ⟨y, hy, rfl⟩ := List.mem_map.1 hu
        exact zNu (yJ.1 w2 y hy))
       have hfit : Builtin.nextslicecap (n + m) cap * ti2.bytes ≤ 281474976710656 := by
        rw [hf2.bytes]
        have h1 := nextslicecap_le hg
        have h2 : Builtin.nextslicecap (n + m) cap * (cx.ty el).bytes ≤ 2 * (n + m) * (cx.ty el).bytes := Nat.mul_le_mul_right _ h1
        have h3 : 2 * (n + m) * (cx.ty el).bytes = 2 * ((n + m) * (cx.ty el).bytes) := by rw [Nat.mul_assoc]
        omega
       have hr := run_append_grow_src w t t' o.type el ti2 zz2 hf.und hf2.info hf2.zero base n cap (hs.map zV) (by have := hsrc2.cellsD; rwa [hbase] at this) (a.eval x) m (us.map zV) hsrc hg (by omega) hfit
       rw [← hbase, ← hta] at hr
       have hcap := grownCap_ge w (n + m) cap el
       have hrD := r2.grow (Grow.drew w)
       have hn0 : New (zB cx f) w0 E0 P R ea w.drew S2 (.agg ((hs ++ us).map .t)) := by
        have hb1 : zH ((hs ++ us).map C.t) = zZ (hs ++ us) := by rw [yW, xD, List.flatMap_map]; rfl
        refine ⟨?_, ?_, ?_, ?_, ?_, ?_, ?_⟩
        ·simp only [okX]
         refine zY.2 fun c hc => ?_
         obtain ⟨y, hy, rfl⟩ := List.mem_map.1 hc
         simp only [okC]
         exact tK (w := w) (w' := w.drew) (fun _ _ _ => rfl) (fun _ _ => rfl) (yJ.1 hokall y hy) (fun _ _ => rfl)
        ·intro d' hd'
         simp only [zD, yI, List.mem_flatMap] at hd'
         obtain ⟨c, hc, hd'⟩ := hd'
         obtain ⟨y, _, rfl⟩ := List.mem_map.1 hc
         simp [zF] at hd'
        ·simp only [zE, hb1]; exact hallbk.nd
        ·intro r b hb; exact hallbk.sep r b (by simpa only [zE, hb1] using hb)
        ·intro b hb; exact hallbk.lt b (by simpa only [zE, hb1] using hb)
        ·intro b hb; exact hallbk.own b (by simpa only [zE, hb1] using hb)
        ·intro b hb; exact hallbk.notR b (by simpa only [zE, hb1] using hb)
       have hvc : yC ((hs ++ us).map C.t) = hs.map zV ++ us.map zV := by rw [z8, List.map_map, ← List.map_append]; rfl
       obtain ⟨k1, k2⟩ := New.row (cur := (hs.map zV ++ us.map zV).toArray ++ Builtin.zeroCells zz2.cells (grownCap w (n + m) cap el - (n + m))) (e := el) (sz := (cx.ty el).sz) (n := n + m) (cap := grownCap w (n + m) cap el) hrD hn0
        (by rw [List.length_map]; exact hlen) hcap (by
         have e1 : (Builtin.zeroCells zz2.cells (grownCap w (n + m) cap el - (n + m))).size = (grownCap w (n + m) cap el - (n + m)) * zz2.cells.size := by simp [Builtin.zeroCells]
         rw [Array.size_append, e1, hzs, List.size_toArray, ← List.map_append, List.length_map, hlen, ← Nat.add_mul]
         rw [show n + m + (grownCap w (n + m) cap el - (n + m)) = grownCap w (n + m) cap el by omega]
         exact Nat.le_refl _) (by
         intro j v hj
         rw [hvc] at hj
         have hlt := (List.getElem?_eq_some_iff.1 hj).1
         rw [Array.getElem?_append_left (by simpa using hlt)]
         simpa using hj)
       refine ⟨_, S2, _, ?_, rfl, k1, k2.lst_t, ?_⟩
       ·simp [erX, zW, zI, yA, yO, er0]
       ·have := hrunv hr
        simpa [zQ, zJ, zV] using this
      rcases w3 with ⟨hnil, rfl⟩ | ⟨b, o', cur, e, ⟨ad, cap, hv, h1, h2, rfl, h3⟩, hhp, hcv⟩
      ·-- nil
       have hhs : hs = [] := by rw [Nat.zero_mul] at w1; exact List.length_eq_zero_iff.1 w1
       subst hhs
       by_cases hm : m = 0
       ·subst hm
        have hus : us = [] := by rw [Nat.zero_mul] at hul; exact List.length_eq_zero_iff.1 hul
        subst hus
        have hr := run_append_nothing (P := Pr) w t t' o.type el ti2 hf.und hf2.info none 0 0 (Nat.le_refl _) (a.eval x) (by simpa using hsrc)
        rw [← hnil, ← hta] at hr
        refine ⟨w, S2, .c (.t (.sl (a.eval s) 0 (cx.ty el).sz (0 + 0) [])), by simp [erX, zW, zI, yA, kH, er0], rfl, r2, ?_, by simpa [zQ, zJ, zV] using hrunv hr⟩
        refine ⟨?_, by simp [zD, zF], ?_, ?_, ?_, ?_, ?_⟩
        ·simp only [okX, okC, okT, if_true, xP, List.length_nil, Nat.zero_add, Nat.zero_mul, List.map_nil, true_and]
         exact .inl ⟨hnil, rfl⟩
        all_goals simp [zE, zP, zU, hnil, hdr, zZ]
       ·exact grow hnil (by omega)
      ·by_cases hroom : n + m ≤ cap
       ·-- there is room
        have had : ad = ⟨ad.block, ad.off, none⟩ := by cases ad; simp only at h2; subst h2; rfl
        have hin : m ≠ 0 → ad.off = o' ∧ o' + cap * (cx.ty el).sz ≤ cur.size := fun hm => h3.resolve_left (by omega)
        have hmul : (n + m) * (cx.ty el).sz ≤ cap * (cx.ty el).sz := Nat.mul_le_mul_right _ hroom
        have hmul' : (n + m) * (cx.ty el).sz = n * (cx.ty el).sz + m * (cx.ty el).sz := Nat.add_mul _ _ _
        have hcellj : ∀ j, j < (us.map zV).length → ad.off + n * (cx.ty el).sz + j < cur.size := by
         intro j hj
         rw [List.length_map, hul] at hj
         have hm : m ≠ 0 := by rintro rfl; simp at hj
         obtain ⟨g1, g2⟩ := hin hm
         omega
        have hr := run_append_room_src (P := Pr) w t t' o.type el ti2 hf.und hf2.info ad.block ad.off n cap (a.eval x) m (us.map zV) hsrc hroom
         (fun j hj => by
          rw [hf2.size]
          simp only [World.cell?, hhp, Option.isSome_none, Bool.false_eq_true, if_false]
          rw [Array.getElem?_eq_getElem (hcellj j hj)]; rfl)
         (fun j hj => by simp [World.frozen?, hhp])
        rw [← had, ← hv, ← hta, hf2.size] at hr
        have hB : ad.block ∈ hdr (a.eval s) ++ zZ hs := by rw [hv]; simp [hdr]
        have hBR : ¬ R ad.block := v4.notR _ hB
        have hBhs : ad.block ∉ zZ hs := by
         have := v4.nd
         rw [hv] at this
         simp only [hdr, List.cons_append, List.nil_append, List.nodup_cons] at this
         exact this.1
        have hBus : ad.block ∉ zZ us := hdis _ hB
        have hw : ∀ k, k ≠ ad.block → (w.setCells ad.block (ad.off + n * (cx.ty el).sz) (us.map zV)).heap[k]? = w.heap[k]? := fun k hk => nO hk
        have hrel := r2.apart (w' := w.setCells ad.block (ad.off + n * (cx.ty el).sz) (us.map zV)) (B := ad.block) (fun r => v4.sep r _ hB) hBR (v4.own _ hB) hw (dU _ _ _ _)
        have hPB : ∀ t b, P t b → b ≠ ad.block := fun t b hb e => hBR (e ▸ r2.PR t b hb)
        have hRB : ∀ b, R b → b ≠ ad.block := fun b hb e => hBR (e ▸ hb)
        refine ⟨_, S2, .c (.t (.sl (.slice (some ad) (n + m) cap) 0 (cx.ty el).sz (n + m) (hs ++ us))), by simp [erX, zW, zI, yA, yO, er0], rfl, hrel, ?_, by simpa [zQ, zJ, zV] using hrunv hr⟩
        have hbb : zE (.c (.t (.sl (.slice (some ad) (n + m) cap) 0 (cx.ty el).sz (n + m) (hs ++ us)))) = hdr (a.eval s) ++ zZ (hs ++ us) := by
         rw [hv]; simp [zE, zP, zU, hdr]
        have hbk2 : Bk w0 E0 R ea w S2 (hdr (a.eval s) ++ zZ (hs ++ us)) := by
         rw [hblk, ← List.append_assoc]
         exact v4.append ubk hdis
        refine ⟨?_, by simp [zD, zF], by rw [hbb]; exact hbk2.nd, fun r b hb => hbk2.sep r b (by rwa [hbb] at hb), fun b hb => ?_, fun b hb => hbk2.own b (by rwa [hbb] at hb), fun b hb => hbk2.notR b (by rwa [hbb] at hb)⟩
        ·simp only [okX, okC, okT, if_true]
         refine ⟨hlen, yJ.2 fun y hy => ?_, ?_⟩
         ·refine cI hw hPB hRB (yJ.1 hokall y hy) (fun hb => ?_)
          rcases List.mem_append.1 hy with hy | hy
          ·exact hBhs (by rw [xD, List.mem_flatMap]; exact ⟨y, hy, hb⟩)
          ·exact hBus (by rw [xD, List.mem_flatMap]; exact ⟨y, hy, hb⟩)
         ·by_cases hcap0 : cap = 0
          ·-- nothing there
           have hn0 : n = 0 := by omega
           have hm0 : m = 0 := by omega
           subst hn0; subst hm0
           have hus : us = [] := by rw [Nat.zero_mul] at hul; exact List.length_eq_zero_iff.1 hul
           have hhs : hs = [] := by rw [Nat.zero_mul] at w1; exact List.length_eq_zero_iff.1 w1
           subst hus; subst hhs
           refine .inr ⟨ad.block, o', cur, e, ⟨ad, cap, rfl, by omega, h2, rfl, .inl hcap0⟩, ?_, by simp⟩
           simp only [List.map_nil, World.setCells]; exact hhp
          ·obtain ⟨g1, g2⟩ := h3.resolve_left hcap0
           obtain ⟨cur', c1, c2, c3, c4⟩ := p6 (vs := us.map zV) (o := ad.off + n * (cx.ty el).sz) hhp (by rw [List.length_map, hul]; omega)
           refine .inr ⟨ad.block, o', cur', e, ⟨ad, cap, rfl, hroom, h2, rfl, .inr ⟨g1, by rw [c2]; exact g2⟩⟩, c1, fun j v hj => ?_⟩
           rw [List.map_append] at hj
           rcases Nat.lt_or_ge j (n * (cx.ty el).sz) with hlt | hge
           ·rw [List.getElem?_append_left (by rw [List.length_map, w1]; exact hlt)] at hj
            rw [c4 (o' + j) (by omega)]
            exact hcv j v hj
           ·rw [List.getElem?_append_right (by rw [List.length_map, w1]; exact hge), List.length_map, w1] at hj
            have := c3 _ v hj
            rwa [show ad.off + n * (cx.ty el).sz + (j - n * (cx.ty el).sz) = o' + j by omega] at this
        ·rw [(dU _ _ _ _).2.2.2]; exact hbk2.lt b (by rwa [hbb] at hb)
       ·exact grow hv (by omega)
     ·cases hq
  ·cases hq
 ·cases hq
end
end Go.Proofs.YtlkjnlfddadlmaaGreatDoor.V
namespace Go.Proofs.YtlkjnlfddadlmaaGreatDoor.V
open Go.RowKit
section
variable {cx : Ctx} {f : Nat} {w0 : World} {E0 : Nat → Prop} {P : Nat → Nat → Prop} {R : Nat → Prop} {ea : List EA} {w w' : World} {a : Act} {call : zX} {Pr : Program} {S S0 S1 S2 S3 : SV} {tmps : Array Value}
theorem zJt (hty : jB Pr cx.ty) {ops : Array Oper} {o : Oper} {i n : Nat} {Su Su' : SU} {c : Call} {s x : Operand} (hat : At cx f w0 E0 P R ea n Su a w) (ho : o.op = .call c) (hcal : c.callee = .builtin .append) (hargs : c.args.toList = [s, x]) (hact : yX cx (.call c) = true) (hi : ops[i]? = some o)
  (hdst : ∀ d, o.dst = some d → d < n) (hq : stepOp cx f call Su ops o = some Su') {K : Act → World → Prop} {Q : Exit → Act → World → Prop} (hk : ∀ a' w', At cx f w0 E0 P R ea n Su' a' w' → K a' w') : wpOp Pr ops Q i K a w := by
 obtain ⟨S, hr, rfl, hd, hsz⟩ := hat
 simp only [wpOp, hi]
 unfold stepOp at hq
 cases hw : y5 (V.erS S) ops o with
 | none => simp [hw] at hq
 | some b =>
  have hwt := bE hr hw
  cases b with
  | false =>
   rw [if_neg (by rw [hwt]; simp)]
   simp only [hw] at hq
   exact hk _ _ (pO hr rfl hd hsz hdst hq)
  | true =>
   rw [if_pos hwt]
   refine .inl ?_
   simp only [hw, ho, hact, if_true, hcal, hargs] at hq
   cases hv : gS cx f (V.erS S) c.argTypes.toList s x with
   | none => simp [hv] at hq
   | some r =>
    obtain ⟨z, Sz⟩ := r
    simp only [hv, Option.bind_some] at hq
    obtain ⟨w', S', xG, e1, e2, e3, e4, e5⟩ := zOw hty hr rfl ho hcal hargs hv
    exact aK e5 (hk _ _ (dI e3 e4 e1 e2 hd hsz hdst hq))
end
end Go.Proofs.YtlkjnlfddadlmaaGreatDoor.V
