/-
  What a slot holds that nobody speaks of makes no difference to a call that is handed places. No conditions.
-/
import Derived.Test.YtlkjnlfddadlmaaM3
import Derived.Deep.AppendSrc
import Derived.Laws.AppendOwn
import Derived.Deep.Upon
set_option linter.unusedVariables false
set_option linter.unusedSimpArgs false
namespace Go.Proofs.Ytlkjnlfddadlmaa.V
mutual
def rfX : XU → List Root
 | .c x => yB true x
 | .agg cs => zP true cs
 | .box _ cs => zP true cs
 | .tup xs => bQ xs
 | .undef => []
def bQ : List XU → List Root
 | [] => []
 | x :: xs => rfX x ++ bQ xs
end
theorem zZh {x : XU} (h : ∀ ys, x ≠ .tup ys) : rfX x = xY x := by
 cases x <;> first | rfl | exact absurd rfl (h _)
structure Off (d : Nat) (S : SU) : Prop where
 un : S.s d = .undef
 rf : ∀ t, Root.sl d ∉ rfX (S.s t)
 re : ∀ cs ∈ S.e, Root.sl d ∉ zP true cs
def xU (d : Nat) (x : XU) (S : SU) : SU := { S with s := upd S.s d x }
theorem bP {d t : Nat} {x : XU} {S : SU} (h : t ≠ d) : (xU d x S).s t = S.s t := by simp [xU, upd, h]
theorem zPz {d : Nat} {x : XU} {S : SU} : (xU d x S).s d = x := by simp [xU, upd]
theorem pD {b : Bool} : ∀ {xs ys : List CU}, zP b (xs ++ ys) = zP b xs ++ zP b ys
 | [], ys => rfl
 | x :: xs, ys => by simp only [List.cons_append, zP, pD (xs := xs), List.append_assoc]
theorem qZ {b : Bool} {r : Root} : ∀ {cs : List CU}, r ∈ zP b cs ↔ ∃ c ∈ cs, r ∈ yB b c
 | [] => by simp [zP]
 | c :: cs => by simp only [zP, List.mem_append, qZ (cs := cs), List.mem_cons, exists_eq_or_imp]
theorem zKb {r : Root} : ∀ {xs : List XU}, r ∈ bQ xs ↔ ∃ x ∈ xs, r ∈ rfX x
 | [] => by simp [bQ]
 | x :: xs => by simp only [bQ, List.mem_append, zKb (xs := xs), List.mem_cons, exists_eq_or_imp]
mutual
theorem zRm {r : Root} : ∀ {c : CU}, r ∈ yB false c → r ∈ yB true c
 | .t _, h => by simp [yB] at h
 | .ptr _ _ _ _, h => by simpa [yB] using h
 | .bor _ _ _ _ _ _ _, h => by simp [yB] at h
 | .rptr _ _, h => by simp [yB] at h
 | .nilp, h => by simp [yB] at h
 | .nilf, h => by simp [yB] at h
 | .fn _ caps, h => by simp only [yB] at h ⊢; exact uA h
 | .lst _ _ _ cs, h => by simp only [yB] at h ⊢; exact uA h
theorem uA {r : Root} : ∀ {cs : List CU}, r ∈ zP false cs → r ∈ zP true cs
 | [], h => by simp [zP] at h
 | c :: cs, h => by
  simp only [zP, List.mem_append] at h ⊢
  exact h.imp zRm uA
end
theorem kQ {r : Root} : ∀ {xs : List XU}, r ∈ zP true (zU xs) → r ∈ bQ xs
 | [], h => by simp [zU, zP] at h
 | .c x :: xs, h => by
  simp only [zU, zP, List.mem_append, bQ, rfX] at h ⊢
  exact h.imp id kQ
 | .agg cs :: xs, h => by
  simp only [zU, pD, List.mem_append, bQ, rfX] at h ⊢
  exact h.imp id kQ
 | .box _ _ :: xs, h => by
  simp only [zU, bQ, List.mem_append] at h ⊢
  exact .inr (kQ h)
 | .tup _ :: xs, h => by
  simp only [zU, bQ, List.mem_append] at h ⊢
  exact .inr (kQ h)
 | .undef :: xs, h => by
  simp only [zU, bQ, List.mem_append] at h ⊢
  exact .inr (kQ h)
mutual
theorem aR {r k : Root} {q : List Nat} : ∀ {c : CU}, k ∈ yB true (zT r q c) → k ∈ yB true c
 | .ptr _ _ _ _, h => by
  simp only [zT] at h
  split at h
  ·simp [yB] at h
  ·exact h
 | .bor _ _ _ _ _ _ _, h => by
  simp only [zT] at h
  split at h
  ·simp [yB] at h
  ·exact h
 | .fn _ caps, h => by simp only [zT, yB] at h ⊢; exact kI h
 | .t _, h => h
 | .rptr _ _, h => h
 | .nilp, h => h
 | .nilf, h => h
 | .lst _ _ _ cs, h => by simp only [zT, yB] at h ⊢; exact kI h
theorem kI {r k : Root} {q : List Nat} : ∀ {cs : List CU}, k ∈ zP true (yV r q cs) → k ∈ zP true cs
 | [], h => h
 | c :: cs, h => by
  simp only [yV, zP, List.mem_append] at h ⊢
  exact h.imp aR kI
end
mutual
theorem zFt {r k : Root} {q : List Nat} : ∀ {x : XU}, k ∈ rfX (z7 r q x) → k ∈ rfX x
 | .c x, h => by simp only [z7, rfX] at h ⊢; exact aR h
 | .agg cs, h => by simp only [z7, rfX] at h ⊢; exact kI h
 | .box _ cs, h => by simp only [z7, rfX] at h ⊢; exact kI h
 | .tup xs, h => by simp only [z7, rfX] at h ⊢; exact zCp h
 | .undef, h => h
theorem zCp {r k : Root} {q : List Nat} : ∀ {xs : List XU}, k ∈ bQ (xB r q xs) → k ∈ bQ xs
 | [], h => h
 | x :: xs, h => by
  simp only [xB, bQ, List.mem_append] at h ⊢
  exact h.imp zFt zCp
end
section
variable {cx : Ctx} {f : Nat} {call : zW} {d : Nat} {x : XU} {S : SU}
theorem Off.kill (h : Off d S) (r : Root) (q : List Nat) : Off d (V.kill r q S) := by
 refine ⟨by simp only [V.kill, h.un, z7], fun t hm => h.rf t (zFt hm), fun cs hc hm => ?_⟩
 simp only [V.kill, List.mem_map] at hc
 obtain ⟨ds, hd, rfl⟩ := hc
 exact h.re ds hd (kI hm)
theorem zFw {r : Root} {q : List Nat} (hx : z7 r q x = x) : V.kill r q (xU d x S) = xU d x (V.kill r q S) := by
 simp only [V.kill, xU]
 congr 1
 funext t
 by_cases h : t = d
 ·simp [upd, h, hx]
 ·simp [upd, h]
theorem nX {t : Nat} {o : Operand} (ho : o ≠ .tmp d) : opv cx f (xU d x S) t o = opv cx f S t o := by
 cases o with
 | tmp e => simp only [opv, bP (show e ≠ d from fun h => ho (by rw [h]))]
 | _ => rfl
theorem zQ0 {t : Nat} {v : Value} {y : XU} (h : sF cx t v = some y) : rfX y = [] := by
 rw [zZh (fun ys e => ?_)]
 ·exact iU h
 ·subst e
  unfold sF at h
  split at h <;> try (cases h)
  all_goals (split at h <;> cases h)
theorem aZ (h : Off d S) {t : Nat} {o : Operand} (ho : o ≠ .tmp d) {y : XU} (hy : opv cx f S t o = some y) : Root.sl d ∉ rfX y := by
 cases o with
 | tmp e =>
  have hne : e ≠ d := fun h => ho (by rw [h])
  simp only [opv] at hy
  have hs := h.rf e
  revert hs hy
  generalize S.s e = z
  intro hy hs hm
  unfold rdS at hy
  split at hy
  ·cases hy
  ·split at hy <;> simp only [Option.some.injEq] at hy <;> subst hy
   ·simp only [rfX, yB, List.mem_singleton, Root.sl.injEq] at hm; exact hne hm.symm
   ·exact hs hm
  ·split at hy <;> simp only [Option.some.injEq] at hy <;> subst hy
   ·simp only [rfX] at hm hs
    rcases tB _ _ _ _ _ hm with e1 | e1
    ·simp only [Root.sl.injEq] at e1; exact hne e1.symm
    ·exact hs e1
   ·exact hs hm
  ·split at hy <;> simp only [Option.some.injEq] at hy <;> subst hy
   ·simp only [rfX] at hm hs
    rcases mT _ _ _ _ hm with e1 | e1
    ·simp only [Root.sl.injEq] at e1; exact hne e1.symm
    ·exact hs e1
   ·exact hs hm
  ·split at hy
   ·cases hy
   ·simp only [Option.some.injEq] at hy; subst hy; exact hs hm
 | const v =>
  simp only [opv] at hy
  rw [zQ0 hy]; simp
 | func g => simp only [opv, Option.some.injEq] at hy; subst hy; simp [rfX, yB, zP]
 | global g => cases hy
theorem gG {r : Root} (hr : r ≠ .sl d) : zA (xU d x S) r = zA S r := by
 cases r with
 | sl e => simp only [zA, bP (show e ≠ d from fun h => hr (by rw [h]))]
 | ex j => rfl
theorem rT (h : Off d S) {r : Root} {cs : List CU} (hc : zA S r = some cs) : Root.sl d ∉ zP true cs := by
 cases r with
 | sl e =>
  have hs := h.rf e
  simp only [zA] at hc
  revert hs hc
  generalize S.s e = z
  intro hc hs hm
  cases z with
  | c y => simp only [Option.some.injEq] at hc; subst hc; simp only [zP, List.append_nil] at hm; exact hs hm
  | agg ys => simp only [Option.some.injEq] at hc; subst hc; exact hs hm
  | box a ys => simp only [Option.some.injEq] at hc; subst hc; exact hs hm
  | tup ys => simp only [Option.some.injEq] at hc; subst hc; exact hs (kQ hm)
  | undef => cases hc
 | ex j => exact h.re cs (List.mem_of_getElem? hc)
theorem zAm {r : Root} (hr : r ≠ .sl d) {p : List Nat} {i : Nat} : at_ (xU d x S) r p i = at_ S r p i := by simp only [at_, gG hr]
theorem zJ1 {r : Root} (hr : r ≠ .sl d) {p : List Nat} {i off m : Nat} : qF (xU d x S) r p i off m = qF S r p i off m := by simp only [qF, zAm hr]
theorem mO {r : Root} (hr : r ≠ .sl d) {p : List Nat} {off : Nat} {c : CU} : z9 (xU d x S) r p off c = (z9 S r p off c).map (xU d x) := by
 simp only [z9, gG hr]
 cases zA S r with
 | none => rfl
 | some cs =>
  simp only [Option.bind_some]
  cases wJ cs p off c with
  | none => rfl
  | some ds =>
   simp only [Option.map_some, Option.some.injEq]
   cases r with
   | sl e =>
    have he : e ≠ d := fun h => hr (by rw [h])
    simp only [zM, bP he]
    simp only [xU]
    congr 1
    funext t
    by_cases h1 : t = e
    ·subst h1; simp [upd, he]
    ·by_cases h2 : t = d
     ·subst h2; simp [upd, h1]
     ·simp [upd, h1, h2]
   | ex j => rfl
theorem zU4 {k : Root} {cs ds : List CU} {p : List Nat} {off : Nat} {c : CU} (h : wJ cs p off c = some ds) (hk : k ∈ zP true ds) : k ∈ zP true cs ∨ k ∈ yB true c := by
 cases p with
 | nil =>
  simp only [wJ] at h
  split at h
  ·simp only [Option.some.injEq] at h; subst h
   obtain ⟨c', hc, hm⟩ := qZ.1 hk
   rcases List.mem_or_eq_of_mem_set hc with hc | rfl
   ·exact .inl (qZ.2 ⟨c', hc, hm⟩)
   ·exact .inr hm
  ·cases h
 | cons i p =>
  cases c with
  | t y =>
   simp only [wJ] at h
   split at h
   ·simp only [Option.map_eq_some_iff] at h
    obtain ⟨ts, _, rfl⟩ := h
    obtain ⟨c', hc, hm⟩ := qZ.1 hk
    rcases List.mem_or_eq_of_mem_set hc with hc | rfl
    ·exact .inl (qZ.2 ⟨c', hc, hm⟩)
    ·simp [yB] at hm
   ·cases h
  | _ => simp [wJ] at h
theorem uD {k : Root} : ∀ {xs : List XU} {cs : List CU}, k ∈ bQ (yH xs cs) → k ∈ bQ xs ∨ k ∈ zP true cs
 | [], _, h => by simp [yH, bQ] at h
 | .c y :: xs, cs, h => by
  simp only [yH, bQ, List.mem_append, rfX] at h ⊢
  rcases h with h | h
  ·cases cs with
   | nil => exact .inl (.inl h)
   | cons z zs => simp only [List.head?_cons, Option.getD_some] at h; simp only [zP, List.mem_append]; exact .inr (.inl h)
  ·rcases uD h with h | h
   ·exact .inl (.inr h)
   ·refine .inr ?_
    obtain ⟨c, hc, hm⟩ := qZ.1 h
    exact qZ.2 ⟨c, List.mem_of_mem_tail hc, hm⟩
 | .agg ds :: xs, cs, h => by
  simp only [yH, bQ, List.mem_append, rfX] at h ⊢
  rcases h with h | h
  ·refine .inr ?_
   obtain ⟨c, hc, hm⟩ := qZ.1 h
   exact qZ.2 ⟨c, List.mem_of_mem_take hc, hm⟩
  ·rcases uD h with h | h
   ·exact .inl (.inr h)
   ·refine .inr ?_
    obtain ⟨c, hc, hm⟩ := qZ.1 h
    exact qZ.2 ⟨c, List.mem_of_mem_drop hc, hm⟩
 | .box a ds :: xs, cs, h => by
  simp only [yH, bQ, List.mem_append] at h ⊢
  rcases h with h | h
  ·exact .inl (.inl h)
  ·exact (uD h).imp .inr id
 | .tup ys :: xs, cs, h => by
  simp only [yH, bQ, List.mem_append] at h ⊢
  rcases h with h | h
  ·exact .inl (.inl h)
  ·exact (uD h).imp .inr id
 | .undef :: xs, cs, h => by
  simp only [yH, bQ, List.mem_append] at h ⊢
  rcases h with h | h
  ·exact .inl (.inl h)
  ·exact (uD h).imp .inr id
theorem zU6 {k : Root} {y : XU} {cs : List CU} (h : k ∈ rfX (qH y cs)) : k ∈ rfX y ∨ k ∈ zP true cs := by
 cases y with
 | c z =>
  rcases cs with _ | ⟨c, _ | ⟨c', cs⟩⟩
  ·exact .inl h
  ·simp only [qH, rfX] at h; simp only [zP, List.append_nil]; exact .inr h
  ·exact .inl h
 | agg ds => exact .inr h
 | box a ds => exact .inr h
 | tup xs => simp only [qH, rfX] at h ⊢; exact uD h
 | undef => exact .inl h
theorem eN (h : Off d S) {r : Root} (hr : r ≠ .sl d) {p : List Nat} {off : Nat} {c : CU} (hc : Root.sl d ∉ yB true c) {S' : SU} (hp : z9 S r p off c = some S') : Off d S' := by
 simp only [z9, Option.bind_eq_some_iff, Option.map_eq_some_iff] at hp
 obtain ⟨cs, h1, ds, h2, rfl⟩ := hp
 have hds : Root.sl d ∉ zP true ds := fun hm => (zU4 h2 hm).elim (rT h h1) hc
 cases r with
 | sl e =>
  have he : e ≠ d := fun h => hr (by rw [h])
  refine ⟨by simp [zM, upd, Ne.symm he, h.un], fun t hm => ?_, h.re⟩
  by_cases ht : t = e
  ·subst ht
   simp only [zM, upd, if_true] at hm
   rcases zU6 hm with h' | h'
   ·exact h.rf t h'
   ·exact hds h'
  ·simp only [zM, upd, ht, if_false] at hm
   exact h.rf t hm
 | ex j =>
  refine ⟨h.un, h.rf, fun cs hc hm => ?_⟩
  simp only [zM] at hc
  rcases List.mem_or_eq_of_mem_set hc with hc | rfl
  ·exact h.re cs hc hm
  ·exact hds hm
theorem zL3 (hx : ∀ r q, z7 r q x = x) {a : Unit} {r : Root} (hr : r ≠ .sl d) {p : List Nat} {i off sz n : Nat} : xP (xU d x S) a r p i off sz n = (xP S a r p i off sz n).map fun q => (q.1, xU d x q.2) := by
 unfold xP
 rw [zAm hr]
 generalize at_ S r p i = o
 rcases o with _ | c
 ·rfl
 ·cases c with
  | t y => cases y with
   | sl b tag sz' m ds => cases tag with
    | zero =>
     by_cases hc : off + n * sz ≤ ds.length ∧ sz = sz' ∧ 0 < sz
     ·simp only [if_pos hc, mO hr]
      cases z9 S r p i (.t (.dead b)) with
      | none => rfl
      | some S' => simp only [Option.map_some, zFw (hx _ _)]
     ·simp only [if_neg hc]; rfl
    | succ g => rfl
   | _ => rfl
  | _ => rfl
theorem zNy (h : Off d S) {a : Unit} {r : Root} (hr : r ≠ .sl d) {p : List Nat} {i off sz n : Nat} {q : TU × SU} (hq : xP S a r p i off sz n = some q) : Off d q.2 := by
 unfold xP at hq
 split at hq
 ·split at hq
  ·simp only [Option.map_eq_some_iff] at hq
   obtain ⟨S', h1, rfl⟩ := hq
   exact (eN h hr (by simp [yB]) h1).kill _ _
  ·cases hq
 ·cases hq
mutual
theorem eV (hx : ∀ r q, z7 r q x = x) : ∀ {c : CU} {S : SU}, Off d S → Root.sl d ∉ yB true c → yU c (xU d x S) = (yU c S).map (fun q => (q.1, xU d x q.2)) ∧ ∀ q, yU c S = some q → Off d q.2
 | .t y, S, h, _ => ⟨rfl, fun q hq => by simp only [yU, Option.some.injEq] at hq; subst hq; exact h⟩
 | .bor a (.sl e) p i off sz n, S, h, hc => by
  have hr : Root.sl e ≠ .sl d := fun e' => hc (by simp [yB, e'])
  simp only [yU]
  exact ⟨zL3 hx hr, fun q hq => zNy h hr hq⟩
 | .bor a (.ex j) p i off sz n, S, h, _ => ⟨rfl, fun q hq => by simp [yU] at hq⟩
 | .lst a sz n cs, S, h, hc => by
  obtain ⟨h1, h2⟩ := cN hx (cs := cs) h (by simpa [yB] using hc)
  simp only [yU, h1]
  refine ⟨by cases x7 cs S <;> rfl, fun q hq => ?_⟩
  simp only [Option.map_eq_some_iff] at hq
  obtain ⟨r, hr, rfl⟩ := hq
  exact h2 r hr
 | .ptr _ _ _ _, S, h, _ => ⟨rfl, fun q hq => by simp [yU] at hq⟩
 | .rptr _ _, S, h, _ => ⟨rfl, fun q hq => by simp [yU] at hq⟩
 | .nilp, S, h, _ => ⟨rfl, fun q hq => by simp [yU] at hq⟩
 | .nilf, S, h, _ => ⟨rfl, fun q hq => by simp [yU] at hq⟩
 | .fn _ _, S, h, _ => ⟨rfl, fun q hq => by simp [yU] at hq⟩
theorem cN (hx : ∀ r q, z7 r q x = x) : ∀ {cs : List CU} {S : SU}, Off d S → Root.sl d ∉ zP true cs → x7 cs (xU d x S) = (x7 cs S).map (fun q => (q.1, xU d x q.2)) ∧ ∀ q, x7 cs S = some q → Off d q.2
 | [], S, h, _ => ⟨rfl, fun q hq => by simp only [x7, Option.some.injEq] at hq; subst hq; exact h⟩
 | c :: cs, S, h, hc => by
  simp only [zP, List.mem_append, not_or] at hc
  obtain ⟨h1, h2⟩ := eV hx (c := c) h hc.1
  simp only [x7, h1]
  cases hs : yU c S with
  | none => exact ⟨rfl, fun q hq => by cases hq⟩
  | some r =>
   obtain ⟨h3, h4⟩ := cN hx (cs := cs) (h2 r hs) hc.2
   simp only [Option.map_some, Option.bind_some, h3]
   refine ⟨by cases x7 cs r.2 <;> rfl, fun q hq => ?_⟩
   simp only [Option.map_eq_some_iff] at hq
   obtain ⟨r', hr, rfl⟩ := hq
   exact h4 r' hr
end
theorem zIa (hx : ∀ r q, z7 r q x = x) (h : Off d S) {r : Root} (hr : r ≠ .sl d) {p : List Nat} {i : Nat} : jM (xU d x S) r p i = (jM S r p i).map (fun q => (q.1, xU d x q.2)) ∧ ∀ q, jM S r p i = some q → Off d q.2 := by
 unfold jM
 rw [zAm hr]
 generalize at_ S r p i = o
 rcases o with _ | c
 ·exact ⟨rfl, fun q hq => by cases hq⟩
 ·cases c with
  | t y => cases y with
   | sl b tag sz' m ds => cases tag with
    | zero =>
     simp only [mO hr]
     cases hp : z9 S r p i (.t (.dead b)) with
     | none => exact ⟨rfl, fun q hq => by cases hq⟩
     | some S' =>
      refine ⟨by simp only [Option.map_some, zFw (hx _ _)], fun q hq => ?_⟩
      simp only [Option.map_some, Option.some.injEq] at hq
      subst hq
      exact (eN h hr (by simp [yB]) hp).kill _ _
    | succ g => exact ⟨rfl, fun q hq => by cases hq⟩
   | _ => exact ⟨rfl, fun q hq => by cases hq⟩
  | _ => exact ⟨rfl, fun q hq => by cases hq⟩
def onU (d : Nat) (x : XU) {β γ : Type} (u : β × γ × SU) : β × γ × SU := (u.1, u.2.1, xU d x u.2.2)
theorem s8 (hx : ∀ r q, z7 r q x = x) : ∀ {cs : List CU} {k : Nat} {S : SU}, Off d S → Root.sl d ∉ zP true cs → xT k cs (xU d x S) = (xT k cs S).map (onU d x) ∧
  ∀ u, xT k cs S = some u → Off d u.2.2 ∧ Root.sl d ∉ zP true u.1 ∧ ∀ w ∈ u.2.1, w.r ≠ .sl d
 | [], k, S, h, _ => ⟨rfl, fun u hu => by simp only [xT, Option.some.injEq] at hu; subst hu; exact ⟨h, by simp [zP], by simp⟩⟩
 | .bor a r p i off sz n :: cs, k, S, h, hc => by
  simp only [zP, yB, if_true, List.mem_append, List.mem_singleton, not_or] at hc
  have hr : r ≠ .sl d := fun e => hc.1 e.symm
  obtain ⟨h1, h2⟩ := zIa hx h hr (p := p) (i := i)
  simp only [xT, h1]
  cases ht : jM S r p i with
  | none => exact ⟨rfl, fun u hu => by cases hu⟩
  | some q =>
   obtain ⟨h3, h4⟩ := s8 hx (cs := cs) (k := k + 1) (h2 q ht) hc.2
   simp only [Option.map_some, Option.bind_some, h3]
   refine ⟨by cases xT (k + 1) cs q.2 <;> rfl, fun u hu => ?_⟩
   simp only [Option.map_eq_some_iff] at hu
   obtain ⟨v, hv, rfl⟩ := hu
   obtain ⟨g1, g2, g3⟩ := h4 v hv
   refine ⟨g1, by simp only [zP, yB, if_true, List.mem_append, List.mem_singleton, not_or]; exact ⟨by simp, g2⟩, fun w hw => ?_⟩
   rcases List.mem_cons.1 hw with rfl | hw
   ·exact hr
   ·exact g3 w hw
 | .t y :: cs, k, S, h, hc => by
  simp only [zP, yB, List.nil_append] at hc
  obtain ⟨h3, h4⟩ := s8 hx (cs := cs) (k := k) h hc
  simp only [xT]
  split
  ·simp only [h3]
   refine ⟨by cases xT k cs S <;> rfl, fun u hu => ?_⟩
   simp only [Option.map_eq_some_iff] at hu
   obtain ⟨v, hv, rfl⟩ := hu
   obtain ⟨g1, g2, g3⟩ := h4 v hv
   exact ⟨g1, by simpa only [zP, yB, List.nil_append] using g2, g3⟩
  ·exact ⟨rfl, fun u hu => by cases hu⟩
 | .ptr _ _ _ _ :: cs, k, S, h, _ => ⟨rfl, fun u hu => by simp [xT] at hu⟩
 | .rptr _ _ :: cs, k, S, h, _ => ⟨rfl, fun u hu => by simp [xT] at hu⟩
 | .nilp :: cs, k, S, h, _ => ⟨rfl, fun u hu => by simp [xT] at hu⟩
 | .nilf :: cs, k, S, h, _ => ⟨rfl, fun u hu => by simp [xT] at hu⟩
 | .fn _ _ :: cs, k, S, h, _ => ⟨rfl, fun u hu => by simp [xT] at hu⟩
 | .lst _ _ _ _ :: cs, k, S, h, _ => ⟨rfl, fun u hu => by simp [xT] at hu⟩
theorem zG1 {e : Nat} (he : e ≠ d) : ({ xU d x S with s := upd (xU d x S).s e .undef } : SU) = xU d x { S with s := upd S.s e .undef } := by
 simp only [xU]
 congr 1
 funext t
 by_cases h1 : t = e
 ·subst h1; simp [upd, he]
 ·by_cases h2 : t = d
  ·subst h2; simp [upd, h1]
  ·simp [upd, h1, h2]
theorem zL6 (h : Off d S) (e : Nat) : Off d { S with s := upd S.s e .undef } := by
 refine ⟨?_, fun t => ?_, h.re⟩
 ·simp only [upd]; split
  ·rfl
  ·exact h.un
 ·simp only [upd]; split
  ·simp [rfX]
  ·exact h.rf t
theorem zSs {o : Operand} (ho : o ≠ .tmp d) : V.clr cx f (xU d x S) o = xU d x (V.clr cx f S o) := by
 cases o with
 | tmp e =>
  have he : e ≠ d := fun h => ho (by rw [h])
  simp only [V.clr, bP he]
  split
  ·rfl
  ·split
   ·exact zG1 he
   ·rfl
 | _ => rfl
theorem zV6 (h : Off d S) (o : Operand) : Off d (V.clr cx f S o) := by
 cases o with
 | tmp e =>
  simp only [V.clr]
  split
  ·exact h
  ·split
   ·exact zL6 h e
   ·exact h
 | _ => exact h
theorem zS5 {o : Operand} (ho : o ≠ .tmp d) : eat cx f (xU d x S) o = xU d x (eat cx f S o) := by
 cases o with
 | tmp e =>
  have he : e ≠ d := fun h => ho (by rw [h])
  simp only [eat]
  split
  ·rfl
  ·exact zG1 he
 | _ => rfl
theorem zWb (h : Off d S) (o : Operand) : Off d (eat cx f S o) := by
 cases o with
 | tmp e =>
  simp only [eat]
  split
  ·exact h
  ·exact zL6 h e
 | _ => exact h
end
end Go.Proofs.Ytlkjnlfddadlmaa.V
namespace Go.Proofs.Ytlkjnlfddadlmaa.V
section
variable {cx : Ctx} {f : Nat} {call : zW} {d : Nat} {x : XU} {S : SU}
theorem zFn {α : Type} (S : St α) : hide [] S = S := by cases S; simp [hide]
def NoM (d : Nat) (ms : List (Option XU)) : Prop := ∀ y, some y ∈ ms → Root.sl d ∉ rfX y
theorem wX (hx : ∀ r q, z7 r q x = x) {g : Nat} : ∀ {os : List Operand} {i k : Nat} {ts : List Nat} {S : SU}, Off d S → (∀ o ∈ os, o ≠ .tmp d) → yM cx f g i k os ts (xU d x S) = (yM cx f g i k os ts S).map (onU d x) ∧
  ∀ u, yM cx f g i k os ts S = some u → Off d u.2.2 ∧ NoM d u.1 ∧ ∀ w ∈ u.2.1, w.r ≠ .sl d
 | [], i, k, ts, S, h, _ => ⟨rfl, fun u hu => by simp only [yM, Option.some.injEq] at hu; subst hu; exact ⟨h, by simp [NoM], by simp⟩⟩
 | o :: os, i, k, ts, S, h, ho => by
  have ho1 := ho o List.mem_cons_self
  have ho2 : ∀ o ∈ os, o ≠ .tmp d := fun o h => ho o (List.mem_cons_of_mem _ h)
  have hcons : ∀ {m : Option XU} {ms : List (Option XU)}, (∀ y, m = some y → Root.sl d ∉ rfX y) → NoM d ms → NoM d (m :: ms) := fun h1 h2 y hy => by
   rcases List.mem_cons.1 hy with e | e
   ·exact h1 y e.symm
   ·exact h2 y e
  simp only [yM]
  split
  ·rw [nX ho1]
   cases hv : opv cx f S (ts.head?.getD 0) o with
   | none => exact ⟨rfl, fun u hu => by cases hu⟩
   | some y =>
    have hy := aZ h ho1 hv
    simp only [Option.bind_some]
    cases y with
    | c c =>
     simp only [zSs ho1]
     obtain ⟨h1, h2⟩ := eV hx (c := c) (zV6 h o) (by simpa [rfX] using hy)
     rw [h1]
     cases hs : yU c (V.clr cx f S o) with
     | none => exact ⟨rfl, fun u hu => by cases hu⟩
     | some q =>
      obtain ⟨h3, h4⟩ := wX hx (g := g) (os := os) (i := i + 1) (k := k) (ts := ts.tail) (h2 q hs) ho2
      simp only [Option.map_some, Option.bind_some, h3]
      refine ⟨by cases yM cx f g (i + 1) k os ts.tail q.2 <;> rfl, fun u hu => ?_⟩
      simp only [Option.map_eq_some_iff] at hu
      obtain ⟨v, hv, rfl⟩ := hu
      obtain ⟨g1, g2, g3⟩ := h4 v hv
      exact ⟨g1, hcons (fun y e => by simp only [Option.some.injEq] at e; subst e; simp [rfX, yB]) g2, g3⟩
    | _ => exact ⟨rfl, fun u hu => by cases hu⟩
  ·split
   ·rw [nX ho1]
    cases hv : opv cx f S (ts.head?.getD 0) o with
    | none => exact ⟨rfl, fun u hu => by cases hu⟩
    | some y =>
     have hy := aZ h ho1 hv
     simp only [Option.bind_some]
     have main : ∀ (cs : List CU) (F : List CU → XU), Root.sl d ∉ zP true cs → (∀ ds, Root.sl d ∉ zP true ds → Root.sl d ∉ rfX (F ds)) →
       ((xT k cs (eat cx f (xU d x S) o)).bind fun q => (yM cx f g (i + 1) (k + q.2.1.length) os ts.tail q.2.2).map fun u => (some (F q.1) :: u.1, q.2.1 ++ u.2.1, u.2.2)) =
        ((xT k cs (eat cx f S o)).bind fun q => (yM cx f g (i + 1) (k + q.2.1.length) os ts.tail q.2.2).map fun u => (some (F q.1) :: u.1, q.2.1 ++ u.2.1, u.2.2)).map (onU d x) ∧
       ∀ u, ((xT k cs (eat cx f S o)).bind fun q => (yM cx f g (i + 1) (k + q.2.1.length) os ts.tail q.2.2).map fun u => (some (F q.1) :: u.1, q.2.1 ++ u.2.1, u.2.2)) = some u → Off d u.2.2 ∧ NoM d u.1 ∧ ∀ w ∈ u.2.1, w.r ≠ .sl d := by
      intro cs F hcs hF
      rw [zS5 ho1]
      obtain ⟨h1, h2⟩ := s8 hx (cs := cs) (k := k) (zWb h o) hcs
      rw [h1]
      cases hp : xT k cs (eat cx f S o) with
      | none => exact ⟨rfl, fun u hu => by cases hu⟩
      | some q =>
       obtain ⟨e1, e2, e3⟩ := h2 q hp
       obtain ⟨h3, h4⟩ := wX hx (g := g) (os := os) (i := i + 1) (k := k + q.2.1.length) (ts := ts.tail) e1 ho2
       simp only [Option.map_some, Option.bind_some, onU, h3]
       refine ⟨by cases yM cx f g (i + 1) (k + q.2.1.length) os ts.tail q.2.2 <;> rfl, fun u hu => ?_⟩
       simp only [Option.map_eq_some_iff] at hu
       obtain ⟨v, hv, rfl⟩ := hu
       obtain ⟨g1, g2, g3⟩ := h4 v hv
       refine ⟨g1, hcons (fun y e => by simp only [Option.some.injEq] at e; subst e; exact hF _ e2) g2, fun w hw => ?_⟩
       rcases List.mem_append.1 hw with hw | hw
       ·exact e3 w hw
       ·exact g3 w hw
     cases y with
     | c c =>
      refine main [c] (fun ds => .c (ds.head?.getD c)) (by simpa [rfX, zP] using hy) (fun ds hds => ?_)
      cases ds with
      | nil => simpa [rfX] using hy
      | cons z zs => simp only [zP, List.mem_append, not_or] at hds; simpa [rfX] using hds.1
     | agg cs => exact main cs (fun ds => .agg ds) (by simpa [rfX] using hy) (fun ds hds => by simpa [rfX] using hds)
     | _ => exact ⟨rfl, fun u hu => by cases hu⟩
   ·obtain ⟨h3, h4⟩ := wX hx (g := g) (os := os) (i := i + 1) (k := k) (ts := ts.tail) h ho2
    rw [h3]
    refine ⟨by cases yM cx f g (i + 1) k os ts.tail S <;> rfl, fun u hu => ?_⟩
    simp only [Option.map_eq_some_iff] at hu
    obtain ⟨v, hv, rfl⟩ := hu
    obtain ⟨g1, g2, g3⟩ := h4 v hv
    exact ⟨g1, hcons (fun y e => by cases e) g2, g3⟩
theorem uK (h : Off d S) : ∀ {ms : List (Option XU)} {os : List Operand} {ts : List Nat}, (∀ o ∈ os, o ≠ .tmp d) → xH cx f (xU d x S) ms os ts = xH cx f S ms os ts ∧ ∀ xs, xH cx f S ms os ts = some xs → NoM d xs
 | none :: ms, o :: os, ts, ho => by
  have ho1 := ho o List.mem_cons_self
  obtain ⟨h1, h2⟩ := uK h (ms := ms) (os := os) (ts := ts.tail) fun o h => ho o (List.mem_cons_of_mem _ h)
  simp only [xH, nX ho1, h1]
  refine ⟨trivial, fun xs hxs => ?_⟩
  simp only [Option.bind_eq_some_iff, Option.map_eq_some_iff] at hxs
  obtain ⟨y, hy, ys, hys, rfl⟩ := hxs
  intro z hz
  rcases List.mem_cons.1 hz with e | e
  ·simp only [Option.some.injEq] at e; subst e; exact aZ h ho1 hy
  ·exact h2 ys hys z e
 | some _ :: ms, o :: os, ts, ho => by
  obtain ⟨h1, h2⟩ := uK h (ms := ms) (os := os) (ts := ts.tail) fun o h => ho o (List.mem_cons_of_mem _ h)
  simp only [xH, h1]
  refine ⟨trivial, fun xs hxs => ?_⟩
  simp only [Option.map_eq_some_iff] at hxs
  obtain ⟨ys, hys, rfl⟩ := hxs
  intro z hz
  rcases List.mem_cons.1 hz with e | e
  ·cases e
  ·exact h2 ys hys z e
 | [], os, ts, _ => ⟨by simp [xH], fun xs hxs => by simp only [xH, Option.some.injEq] at hxs; subst hxs; simp [NoM]⟩
 | none :: ms, [], ts, _ => ⟨by simp [xH], fun xs hxs => by simp only [xH, Option.some.injEq] at hxs; subst hxs; simp [NoM]⟩
 | some _ :: ms, [], ts, _ => ⟨by simp [xH], fun xs hxs => by simp only [xH, Option.some.injEq] at hxs; subst hxs; simp [NoM]⟩
mutual
theorem vN : ∀ {c : CU}, Root.sl d ∉ yB true c → qR (xU d x S) c = qR S c
 | .bor _ r p i off sz n, hc => by
  have hr : r ≠ .sl d := fun e => hc (by simp [yB, e])
  simp only [qR, zJ1 hr]
 | .lst _ sz n cs, hc => by simp only [qR]; rw [eY (by simpa [yB] using hc)]
 | .t _, _ => rfl
 | .ptr _ _ _ _, _ => rfl
 | .rptr _ _, _ => rfl
 | .nilp, _ => rfl
 | .nilf, _ => rfl
 | .fn _ [], _ => rfl
 | .fn _ (_ :: _), _ => rfl
theorem eY : ∀ {cs : List CU}, Root.sl d ∉ zP true cs → jY (xU d x S) cs = jY S cs
 | [], _ => rfl
 | c :: cs, hc => by
  simp only [zP, List.mem_append, not_or] at hc
  simp only [jY, vN hc.1, eY hc.2]
end
theorem zEw {L : List Root} {k : Nat} : ∀ {c : CU}, Root.sl d ∉ yB true c → gL (xU d x S) L k c = gL S L k c
 | .ptr _ _ _ _, _ => rfl
 | .fn _ _, _ => rfl
 | .bor a r p i off sz n, hc => by simp only [gL, vN hc]
 | .t y, hc => by simp only [gL, vN hc]
 | .rptr _ _, hc => by simp only [gL, vN hc]
 | .nilp, hc => by simp only [gL, vN hc]
 | .nilf, hc => by simp only [gL, vN hc]
 | .lst _ _ _ _, hc => by simp only [gL, vN hc]
theorem r9 {L : List Root} {k : Nat} : ∀ {cs : List CU}, Root.sl d ∉ zP true cs → dF (xU d x S) L k cs = dF S L k cs
 | [], _ => rfl
 | c :: cs, hc => by
  simp only [zP, List.mem_append, not_or] at hc
  simp only [dF, zEw hc.1, r9 hc.2]
theorem zQs {L : List Root} {k : Nat} {y : XU} (hy : Root.sl d ∉ rfX y) : sA (xU d x S) L k y = sA S L k y := by
 cases y with
 | c c => simp only [sA, zEw (show Root.sl d ∉ yB true c from hy)]
 | agg cs => simp only [sA, r9 (show Root.sl d ∉ zP true cs from hy)]
 | _ => rfl
theorem mA {L : List Root} {k : Nat} : ∀ {ms xs : List (Option XU)}, NoM d xs → qM (xU d x S) L k ms xs = qM S L k ms xs
 | some y :: ms, m :: xs, h => by simp only [qM]; rw [mA fun y hy => h y (List.mem_cons_of_mem _ hy)]
 | none :: ms, some y :: xs, h => by
  simp only [qM]
  rw [zQs (h y List.mem_cons_self), mA fun y hy => h y (List.mem_cons_of_mem _ hy)]
 | none :: ms, none :: xs, h => by simp [qM]
 | [], xs, h => by simp [qM]
 | some _ :: ms, [], h => by simp [qM]
 | none :: ms, [], h => by simp [qM]
theorem bK {k : Root} : ∀ {rs L : List Root}, k ∈ fQ L rs → k ∈ L ∨ k ∈ rs
 | [], L, h => .inl h
 | r :: rs, L, h => by
  simp only [fQ] at h
  split at h
  ·exact (bK h).imp id (List.mem_cons_of_mem _)
  ·rcases bK h with h | h
   ·rcases List.mem_append.1 h with h | h
    ·exact .inl h
    ·simp only [List.mem_singleton] at h; subst h; exact .inr List.mem_cons_self
   ·exact .inr (List.mem_cons_of_mem _ h)
theorem cJ (h : Off d S) : ∀ {L : List Root}, Root.sl d ∉ L → mU (xU d x S) L = mU S L ∧ Root.sl d ∉ mU S L
 | [], _ => ⟨rfl, by simp [mU]⟩
 | r :: L, hL => by
  simp only [List.mem_cons, not_or] at hL
  have hr : r ≠ .sl d := Ne.symm hL.1
  obtain ⟨h1, h2⟩ := cJ h hL.2
  simp only [mU, gG hr, h1, true_and, List.mem_append, not_or]
  refine ⟨fun hm => ?_, h2⟩
  cases hc : zA S r with
  | none => rw [hc] at hm; simp [zP] at hm
  | some cs => rw [hc] at hm; exact rT h hc (uA hm)
theorem mW (h : Off d S) : ∀ {n : Nat} {L : List Root}, Root.sl d ∉ L → gR (xU d x S) n L = gR S n L ∧ Root.sl d ∉ gR S n L
 | 0, L, hL => ⟨rfl, hL⟩
 | n + 1, L, hL => by
  obtain ⟨h1, h2⟩ := cJ (x := x) h hL
  simp only [gR, h1]
  exact mW h fun hm => (bK hm).elim hL h2
theorem i0 (h : Off d S) {xs : List (Option XU)} {caps : List CU} (hxs : NoM d xs) (hc : Root.sl d ∉ zP true caps) : jU cx f (xU d x S) xs caps = jU cx f S xs caps ∧ Root.sl d ∉ jU cx f S xs caps := by
 simp only [jU]
 refine mW h fun hm => ?_
 rcases bK hm with hm | hm
 ·cases hm
 ·rw [pD] at hm
  rcases List.mem_append.1 hm with hm | hm
  ·obtain ⟨y, hy, hr⟩ := zKb.1 (kQ (uA hm))
   rw [List.mem_filterMap] at hy
   obtain ⟨m, hm, e⟩ := hy
   simp only [id] at e
   subst e
   exact hxs y hm hr
  ·exact hc (uA hm)
theorem s7 {q : Root} : ∀ {L : List Root} {j : Nat}, q ∉ L → y5 L q j = none
 | [], _, _ => rfl
 | r :: L, j, h => by
  simp only [List.mem_cons, not_or] at h
  simp only [y5, if_neg (Ne.symm h.1)]
  exact s7 h.2
theorem zFz : ∀ {L : List Root}, Root.sl d ∉ L → L.mapM (zA (xU d x S)) = L.mapM (zA S)
 | [], _ => rfl
 | r :: L, hL => by
  simp only [List.mem_cons, not_or] at hL
  simp only [List.mapM_cons, gG (Ne.symm hL.1), zFz hL.2]
theorem rU {r : Root} (hr : r ≠ .sl d) : gH cx f (xU d x S) r = gH cx f S r := by
 cases r with
 | sl e => simp only [gH, bP (show e ≠ d from fun h => hr (by rw [h]))]
 | ex j => rfl
theorem zMf {L : List Root} {k : Nat} {es : List (List CU)} (hL : Root.sl d ∉ L) (hx : j0 L x = x) : wN L k es (xU d x S) = xU d x (wN L k es S) := by
 simp only [wN, xU]
 congr 1
 funext t
 by_cases h : t = d
 ·subst h; simp only [upd, if_true, fY, s7 hL, hx]
 ·simp only [upd, if_neg h]
theorem zHe {w : Row} (hw : w.r ≠ .sl d) {es : List CU} : k8 (xU d x S) w es = (k8 S w es).map (xU d x) := by
 unfold k8
 split
 ·rw [zAm hw, mO hw]
  split <;> rfl
 ·rfl
 ·rfl
theorem rN : ∀ {ws : List Row} {ess : List (List CU)} {S : SU}, (∀ w ∈ ws, w.r ≠ .sl d) → qD ws ess (xU d x S) = (qD ws ess S).map (xU d x)
 | w :: ws, e :: ess, S, h => by
  simp only [qD, zHe (h w List.mem_cons_self)]
  cases k8 S w e with
  | none => rfl
  | some S' => simp only [Option.map_some, Option.bind_some]; exact rN fun w hw => h w (List.mem_cons_of_mem _ hw)
 | [], _, S, _ => by simp [qD]
 | w :: ws, [], S, _ => by simp [qD]
theorem zAh (hx : ∀ r q, z7 r q x = x) (hcx : ∀ L, j0 L x = x) (h : Off d S) {fo : Operand} {args : List Operand} {ts : List Nat} (hf : fo ≠ .tmp d) (ha : ∀ o ∈ args, o ≠ .tmp d) :
  activeCall cx f call (xU d x S) fo args ts = (activeCall cx f call S fo args ts).map fun r => (r.1, xU d x r.2) := by
 unfold activeCall
 rw [nX hf]
 split
 ·next g caps0 _ =>
  obtain ⟨h1, h2⟩ := wX hx (cx := cx) (f := f) (g := g) (os := args) (i := 0) (k := 0) (ts := ts) h ha
  rw [h1]
  cases hp : yM cx f g 0 0 args ts S with
  | none => rfl
  | some u =>
   obtain ⟨u1, u2, u3⟩ := u
   obtain ⟨e1, e2, e3⟩ := h2 _ hp
   simp only at e1 e2 e3
   simp only [Option.map_some, Option.bind_some, onU, nX hf]
   cases hv : opv cx f u3 0 fo with
   | none => rfl
   | some y =>
    cases y with
    | c c => cases c with
     | fn g' caps =>
      have hcaps : Root.sl d ∉ zP true caps := by simpa [rfX, yB] using aZ e1 hf hv
      obtain ⟨r1, r2⟩ := uK (cx := cx) (f := f) (x := x) e1 (ms := u1) (os := args) (ts := ts) ha
      simp only [r1]
      cases hr : xH cx f u3 u1 args ts with
      | none => rfl
      | some xs =>
       have hxs := r2 xs hr
       obtain ⟨l1, l2⟩ := i0 (cx := cx) (f := f) (x := x) e1 hxs hcaps
       simp only [Option.bind_some, l1, mA hxs, r9 hcaps, zFz l2]
       cases qM u3 (jU cx f u3 xs caps) u2.length u1 xs with
       | none => rfl
       | some ys =>
        simp only [Option.bind_some]
        cases dF u3 (jU cx f u3 xs caps) u2.length caps with
        | none => rfl
        | some cs =>
         simp only [Option.bind_some]
         cases (jU cx f u3 xs caps).mapM (zA u3) with
         | none => rfl
         | some bs =>
          simp only [Option.bind_some]
          have hg : (jU cx f u3 xs caps).all (gH cx f (xU d x u3)) = (jU cx f u3 xs caps).all (gH cx f u3) := by
           rw [Bool.eq_iff_iff, List.all_eq_true, List.all_eq_true]
           constructor
           ·intro h r hr; rw [← rU (x := x) (fun e => l2 (e ▸ hr))]; exact h r hr
           ·intro h r hr; rw [rU (fun e => l2 (e ▸ hr))]; exact h r hr
          rw [hg]
          split
          ·cases call g _ _ with
           | none => rfl
           | some r =>
            simp only [Option.bind_some]
            cases j7 r.1 with
            | none => rfl
            | some z =>
             simp only [Option.bind_some]
             cases r.2.mapM y8 with
             | none => rfl
             | some es =>
              simp only [Option.bind_some]
              split
              ·rw [zMf l2 (hcx _), rN e3]
               cases qD _ _ _ <;> rfl
              ·rfl
          ·rfl
     | _ => rfl
    | _ => rfl
 ·rfl
theorem zEt (hx : ∀ r q, z7 r q x = x) (hcx : ∀ L, j0 L x = x) (h : Off d S) {ops : Array Oper} {o : Oper} {fo : Operand} {c : Call} (ho : o.op = .call c) (hc : c.callee = .value fo) (ha : yY cx o.op = true) (hl : d ∉ o.looksAt ops) (hd : o.dst ≠ some d) :
  stepOp cx f call (xU d x S) ops o = (stepOp cx f call S ops o).map (xU d x) := by
 have hl' : ∀ e, Operand.tmp e ∈ o.op.operands.toList → e ≠ d := fun e he hh => hl (hh ▸ wB he)
 have hw : y6 (xU d x S) ops o = y6 S ops o := by
  unfold y6
  split
  ·rfl
  ·next j want hg =>
   split
   ·next t ht =>
    have hne : t ≠ d := fun e => hl (by
     subst e
     simp only [Oper.looksAt, hg, List.mem_append]
     right; rw [ht]; simp)
    rw [bP hne]
   ·rfl
 have hput : ∀ (S : SU) (y : XU), wY cx f (xU d x S) o.dst y = (wY cx f S o.dst y).map (xU d x) := by
  intro S y
  unfold wY
  cases hdo : o.dst with
  | none => rfl
  | some e =>
   have he : e ≠ d := fun h => hd (by rw [hdo, h])
   simp only [bP he]
   split
   ·rfl
   ·simp only [Option.map_some, Option.some.injEq, xU]
    congr 1
    funext t
    by_cases h1 : t = e
    ·subst h1; simp [upd, he]
    ·by_cases h2 : t = d
     ·subst h2; simp [upd, h1]
     ·simp [upd, h1, h2]
 unfold stepOp
 rw [hw]
 cases y6 S ops o with
 | none => rfl
 | some b => cases b with
  | false => exact hput S _
  | true =>
   simp only [ho] at ha hl' ⊢
   rw [if_pos ha, if_pos ha]
   obtain ⟨callee, args, argTypes⟩ := c
   simp only at hc
   subst hc
   have hop : ∀ o', o' = fo ∨ o' ∈ args.toList → o' ≠ .tmp d := by
    intro o' h' e
    subst e
    refine hl' d ?_ rfl
    simp only [Op.operands, Call.operands, Array.toList_append, List.mem_append]
    rcases h' with h' | h'
    ·subst h'; left; simp
    ·right; exact h'
   have key := zAh (call := call) hx hcx h (cx := cx) (f := f) (ts := argTypes.toList) (hop fo (.inl rfl)) (fun o' h' => hop o' (.inr h'))
   show ((activeCall cx f call (xU d x S) fo args.toList argTypes.toList).bind fun r => wY cx f r.2 o.dst r.1) = ((activeCall cx f call S fo args.toList argTypes.toList).bind fun r => wY cx f r.2 o.dst r.1).map (xU d x)
   rw [key]
   cases activeCall cx f call S fo args.toList argTypes.toList with
   | none => rfl
   | some r => simp only [Option.map_some, Option.bind_some]; exact hput _ _
structure Plain (x : XU) : Prop where
 kl : ∀ r q, z7 r q x = x
 ct : ∀ L, j0 L x = x
 rf : rfX x = []
structure NR (d : Nat) (S : SU) : Prop where
 rf : ∀ t, Root.sl d ∉ rfX (S.s t)
 re : ∀ cs ∈ S.e, Root.sl d ∉ zP true cs
theorem zTp {Z : List Nat} {d : Nat} {S : SU} (h : NR d S) (hd : d ∈ Z) : Off d (hide Z S) := by
 refine ⟨by simp [hide, hd], fun t => ?_, h.re⟩
 simp only [hide]
 split
 ·simp [rfX]
 ·exact h.rf t
theorem zMw {w : Row} (hw : w.r ≠ .sl d) {es : List CU} {S' : SU} (h : k8 S w es = some S') : S'.s d = S.s d := by
 have put : ∀ {c : CU}, z9 S w.r w.p w.i c = some S' → S'.s d = S.s d := by
  intro c hp
  simp only [z9, Option.bind_eq_some_iff, Option.map_eq_some_iff] at hp
  obtain ⟨cs, _, ds, _, rfl⟩ := hp
  cases hr : w.r with
  | sl e =>
   have he : d ≠ e := fun h => hw (by rw [hr, h])
   simp [zM, upd, he]
  | ex j => rfl
 unfold k8 at h
 split at h
 ·split at h
  ·exact put h
  ·cases h
 ·simp only [Option.some.injEq] at h; subst h; rfl
 ·cases h
theorem iZ : ∀ {ws : List Row} {ess : List (List CU)} {S S' : SU}, (∀ w ∈ ws, w.r ≠ .sl d) → qD ws ess S = some S' → S'.s d = S.s d
 | w :: ws, e :: ess, S, S', hw, h => by
  simp only [qD, Option.bind_eq_some_iff] at h
  obtain ⟨S1, h1, h2⟩ := h
  rw [iZ (fun w h => hw w (List.mem_cons_of_mem _ h)) h2, zMw (hw w List.mem_cons_self) h1]
 | [], _, S, S', _, h => by simp only [qD, Option.some.injEq] at h; subst h; rfl
 | w :: ws, [], S, S', _, h => by simp [qD] at h
theorem zEk (h : Off d S) {fo : Operand} {args : List Operand} {ts : List Nat} (hf : fo ≠ .tmp d) (ha : ∀ o ∈ args, o ≠ .tmp d) {r : XU × SU} (hr : activeCall cx f call S fo args ts = some r) : r.2.s d = .undef := by
 unfold activeCall at hr
 split at hr
 ·next g caps0 _ =>
  simp only [Option.bind_eq_some_iff] at hr
  obtain ⟨⟨u1, u2, u3⟩, hp, hr⟩ := hr
  obtain ⟨_, h2⟩ := wX (x := .undef) (fun _ _ => rfl) (cx := cx) (f := f) (g := g) (os := args) (i := 0) (k := 0) (ts := ts) h ha
  obtain ⟨e1, e2, e3⟩ := h2 _ hp
  simp only at e1 e2 e3 hr
  split at hr
  ·next g' caps hv =>
   have hcaps : Root.sl d ∉ zP true caps := by simpa [rfX, yB] using aZ e1 hf hv
   simp only [Option.bind_eq_some_iff] at hr
   obtain ⟨xs, hxs, ys, _, cs, _, bs, _, hr⟩ := hr
   have hn := (uK (cx := cx) (f := f) (x := .undef) e1 (ms := u1) (os := args) (ts := ts) ha).2 xs hxs
   have hl := (i0 (cx := cx) (f := f) (x := .undef) e1 hn hcaps).2
   split at hr
   ·simp only [Option.bind_eq_some_iff] at hr
    obtain ⟨q, _, z, _, es, _, hr⟩ := hr
    split at hr
    ·simp only [Option.map_eq_some_iff] at hr
     obtain ⟨S', h1, rfl⟩ := hr
     rw [show (wD (jU cx f u3 xs caps) u2.length z, S').2 = S' from rfl, iZ e3 h1]
     simp only [wN, fY, s7 hl, e1.un, j0]
    ·cases hr
   ·cases hr
  ·cases hr
 ·cases hr
theorem pJ {S S1 : SU} {ops : Array Oper} {o : Oper} {fo : Operand} {c : Call} (ho : o.op = .call c) (hc : c.callee = .value fo) (ha : yY cx o.op = true) (hs : stepOp cx f call S ops o = some S1) (hl : d ∉ o.looksAt ops) (hd : o.dst ≠ some d) (hp : Plain (S.s d)) (hn : NR d S) :
  stepOp cx f call (hide [d] S) ops o = some (hide [d] S1) ∧ S1.s d = S.s d := by
 have hoff := zTp (Z := [d]) hn (by simp)
 have e0 : xU d (S.s d) (hide [d] S) = S := by
  refine St.ext' (fun t => ?_) rfl
  by_cases h : t = d
  ·subst h; exact zPz
  ·rw [bP h]; simp [hide, h]
 have key := zEt (call := call) (cx := cx) (f := f) hp.kl hp.ct hoff ho hc ha hl hd
 rw [e0, hs] at key
 cases hh : stepOp cx f call (hide [d] S) ops o with
 | none => rw [hh] at key; cases key
 | some H =>
  rw [hh] at key
  simp only [Option.map_some, Option.some.injEq] at key
  have hun : H.s d = .undef := by
   unfold stepOp at hh
   have hput : ∀ {T T' : SU} {y : XU}, T.s d = .undef → wY cx f T o.dst y = some T' → T'.s d = .undef := by
    intro T T' y hT hq
    unfold wY at hq
    split at hq
    ·next e he =>
     split at hq
     ·cases hq
     ·simp only [Option.some.injEq] at hq; subst hq
      have hne : d ≠ e := fun h => hd (by rw [he, h])
      simp [upd, hne, hT]
    ·simp only [Option.some.injEq] at hq; subst hq; exact hT
   have hl' : ∀ e, Operand.tmp e ∈ o.op.operands.toList → e ≠ d := fun e he hh => hl (hh ▸ wB he)
   split at hh
   ·cases hh
   ·exact hput hoff.un hh
   ·simp only [ho] at ha hl' hh
    rw [if_pos ha] at hh
    obtain ⟨callee, args, argTypes⟩ := c
    simp only at hc
    subst hc
    have hop : ∀ o', o' = fo ∨ o' ∈ args.toList → o' ≠ .tmp d := by
     intro o' h' e
     subst e
     refine hl' d ?_ rfl
     simp only [Op.operands, Call.operands, Array.toList_append, List.mem_append]
     rcases h' with h' | h'
     ·subst h'; left; simp
     ·right; exact h'
    have hh : ((activeCall cx f call (hide [d] S) fo args.toList argTypes.toList).bind fun r => wY cx f r.2 o.dst r.1) = some H := hh
    simp only [Option.bind_eq_some_iff] at hh
    obtain ⟨r, h1, h2⟩ := hh
    exact hput (zEk hoff (hop fo (.inl rfl)) (fun o' h' => hop o' (.inr h')) h1) h2
  have e1 : H = hide [d] S1 := by
   rw [key]
   refine St.ext' (fun t => ?_) rfl
   by_cases h : t = d
   ·subst h; simp [hide, hun]
   ·simp [hide, h, bP h]
  exact ⟨by rw [e1], by rw [key]; exact zPz⟩
theorem zFm (Z : List Nat) (S : SU) : hide (d :: Z) S = hide [d] (hide Z S) := by
 refine St.ext' (fun t => ?_) rfl
 simp only [hide, List.mem_cons, List.not_mem_nil, or_false]
 by_cases h : t = d <;> simp [h]
theorem rZ {S S1 : SU} {ops : Array Oper} {o : Oper} {fo : Operand} {c : Call} (ho : o.op = .call c) (hc : c.callee = .value fo) (ha : yY cx o.op = true) (hs : stepOp cx f call S ops o = some S1) : ∀ {Z : List Nat},
  (∀ d ∈ Z, d ∉ o.looksAt ops ∧ o.dst ≠ some d ∧ Plain (S.s d) ∧ NR d S) → stepOp cx f call (hide Z S) ops o = some (hide Z S1) ∧ ∀ d ∈ Z, S1.s d = S.s d
 | [], _ => ⟨by rw [zFn, zFn]; exact hs, by simp⟩
 | d :: Z, hz => by
  obtain ⟨ih, ih2⟩ := rZ ho hc ha hs (Z := Z) fun d h => hz d (List.mem_cons_of_mem _ h)
  obtain ⟨h1, h2, h3, h4⟩ := hz d List.mem_cons_self
  have hp : Plain ((hide Z S).s d) := by
   simp only [hide]
   split
   ·exact ⟨fun _ _ => rfl, fun _ => rfl, rfl⟩
   ·exact h3
  have hn : NR d (hide Z S) := ⟨fun t => by simp only [hide]; split <;> first | exact h4.rf t | simp [rfX], h4.re⟩
  rw [zFm Z S, zFm Z S1]
  refine ⟨(pJ ho hc ha ih h1 h2 hp hn).1, fun e he => ?_⟩
  rcases List.mem_cons.1 he with rfl | he
  ·exact (pJ ho hc ha hs h1 h2 h3 h4).2
  ·exact ih2 e he
end
end Go.Proofs.Ytlkjnlfddadlmaa.V
namespace Go.Proofs.Ytlkjnlfddadlmaa.V
def zHu (π : List Nat) (n : Nat) : Bool := π.length == n && π.all (fun i => decide (i < n)) && (List.range n).all fun k => π.contains k && π.idxOf (π.getD k 0) == k
structure Perm (π : List Nat) (n : Nat) : Prop where
 len : π.length = n
 lt : ∀ i ∈ π, i < n
 mem : ∀ i, i < n → i ∈ π
 idx : ∀ k i, π[k]? = some i → π.idxOf i = k
theorem zKs {π : List Nat} {n : Nat} (h : zHu π n = true) : Perm π n := by
 simp only [zHu, Bool.and_eq_true, beq_iff_eq, List.all_eq_true, decide_eq_true_eq, List.mem_range, List.contains_iff_mem] at h
 refine ⟨h.1.1, h.1.2, fun i hi => (h.2 i hi).1, fun k i hk => ?_⟩
 have hlt : k < π.length := (List.getElem?_eq_some_iff.1 hk).1
 have := (h.2 k (by omega)).2
 rwa [List.getD_eq_getElem?_getD, hk, Option.getD_some] at this
theorem zCc {j : Nat} : ∀ {π : List Nat}, j ∉ π → π.length ≤ π.idxOf j
 | [], _ => by simp
 | i :: π, h => by
  simp only [List.mem_cons, not_or] at h
  have := zCc h.2
  have hb : (i == j) = false := by simp only [beq_eq_false_iff_ne, ne_eq]; exact fun e => h.1 e.symm
  simp only [List.idxOf_cons, hb, List.length_cons, cond_false]
  omega
section
variable {π : List Nat} {ops : Array Oper}
theorem Perm.at (h : Perm π ops.size) {i : Nat} (hi : i < ops.size) : π[π.idxOf i]? = some i := by
 obtain ⟨k, hk⟩ := List.getElem?_of_mem (h.mem i hi)
 rw [h.idx k i hk]; exact hk
theorem zDh (hne : π.isEmpty = false) : (xX π ops).size = π.length := by simp [xX, hne]
theorem cC (hne : π.isEmpty = false) {k i : Nat} (hk : π[k]? = some i) {o : Oper} (ho : ops[i]? = some o) : (xX π ops)[k]? = some (eP π o) := by
 simp only [xX, hne, Bool.false_eq_true, if_false, List.getElem?_toArray, List.getElem?_map, hk, Option.map_some, ho, Option.getD_some]
theorem zUk (h : Perm π ops.size) (hne : π.isEmpty = false) {k : Nat} {o' : Oper} (hk : (xX π ops)[k]? = some o') : ∃ i o, π[k]? = some i ∧ ops[i]? = some o ∧ o' = eP π o := by
 have hlt : k < π.length := by rw [← zDh hne]; exact (Array.getElem?_eq_some_iff.1 hk).1
 obtain ⟨i, hi⟩ : ∃ i, π[k]? = some i := ⟨_, List.getElem?_eq_getElem hlt⟩
 have hin := h.lt i (List.mem_of_getElem? hi)
 have ho : ops[i]? = some ops[i] := Array.getElem?_eq_getElem hin
 refine ⟨i, _, hi, ho, ?_⟩
 rw [cC hne hi ho] at hk
 simpa using hk.symm
def zSa (π : List Nat) (l l' : Array Bool) : Prop := ∀ i ∈ π, l.getD i false = l'.getD (π.idxOf i) false
theorem zL7 (h : Perm π ops.size) (hne : π.isEmpty = false) (tmps : Array Value) (j : Nat) : yielded (xX π ops) tmps (π.idxOf j) = yielded ops tmps j := by
 unfold yielded
 by_cases hj : j < ops.size
 ·have ho : ops[j]? = some ops[j] := Array.getElem?_eq_getElem hj
  rw [cC hne (h.at hj) ho, ho]; rfl
 ·have hn : j ∉ π := fun hm => hj (h.lt j hm)
  have h1 : ops[j]? = none := Array.getElem?_eq_none (by omega)
  have h2 : (xX π ops)[π.idxOf j]? = none := Array.getElem?_eq_none (by rw [zDh hne]; exact zCc hn)
  rw [h1, h2]
theorem zVs (h : Perm π ops.size) (hne : π.isEmpty = false) {P : Program} {Q : Exit → Act → World → Prop} {i : Nat} (hi : i < ops.size) {K : Act → World → Prop} {a : Act} {w : World} (hw : wpOp P (xX π ops) Q (π.idxOf i) K a w) : wpOp P ops Q i K a w := by
 have ho : ops[i]? = some ops[i] := Array.getElem?_eq_getElem hi
 unfold wpOp at hw ⊢
 rw [cC hne (h.at hi) ho] at hw
 rw [ho]
 generalize ops[i] = o at hw
 have hwt : Region.wanted (eP π o) (yielded (xX π ops) a.tmps) = Region.wanted o (yielded ops a.tmps) := by
  unfold Region.wanted
  cases hg : o.guard with
  | none => simp only [eP, hg, Option.map_none]
  | some q => simp only [eP, hg, Option.map_some, zL7 h hne]
 simp only [hwt] at hw
 cases o
 exact hw
theorem oX (h : Perm π ops.size) (hne : π.isEmpty = false) {md : Region.Mode} {l l' : Array Bool} (hs : l.size = ops.size) (hs' : l'.size = ops.size) (hl : zSa π l l') {i : Nat} (hi : i < ops.size) : i ∈ Region.ready md ops l ↔ π.idxOf i ∈ Region.ready md (xX π ops) l' := by
 have ho : ops[i]? = some ops[i] := Array.getElem?_eq_getElem hi
 have hd : ∀ (a : Array Bool) (j : Nat), j < a.size → a.getD j true = a.getD j false := fun a j hj => by simp [hj]
 have hix : π.idxOf i < ops.size := by rw [← h.len]; exact (List.getElem?_eq_some_iff.1 (h.at hi)).1
 rw [mem_ready, mem_ready, hd l i (by omega), hd l' _ (by omega), hl i (h.mem i hi)]
 refine and_congr_right fun _ => ?_
 have edge : ∀ j, l.getD j false = true ↔ l'.getD (π.idxOf j) false = true := by
  intro j
  by_cases hj : j < ops.size
  ·rw [hl j (h.mem j hj)]
  ·have hn : j ∉ π := fun hm => hj (h.lt j hm)
   have := zCc hn
   have e1 : l.getD j false = false := by
    have : ¬ j < l.size := by omega
    simp [this]
   have e2 : l'.getD (π.idxOf j) false = false := by
    have : ¬ π.idxOf j < l'.size := by rw [hs', ← h.len]; omega
    simp [this]
   rw [e1, e2]
 constructor
 ·rintro ⟨o, h1, h2⟩
  refine ⟨_, cC hne (h.at hi) h1, fun e he hb => ?_⟩
  simp only [eP, Array.mem_map] at he
  obtain ⟨e0, he0, rfl⟩ := he
  exact (edge _).1 (h2 e0 he0 hb)
 ·rintro ⟨o', h1, h2⟩
  rw [cC hne (h.at hi) ho] at h1
  simp only [Option.some.injEq] at h1
  subst h1
  refine ⟨_, ho, fun e he hb => (edge _).2 (h2 { e with on := π.idxOf e.on } ?_ hb)⟩
  simp only [eP, Array.mem_map]
  exact ⟨e, he, rfl⟩
theorem zK0 {md : Region.Mode} {l : Array Bool} {i : Nat} (h : i ∈ Region.ready md ops l) : i < ops.size := by
 obtain ⟨_, o, ho, _⟩ := mem_ready.1 h
 exact (Array.getElem?_eq_some_iff.1 ho).1
theorem zR3 (h : Perm π ops.size) (hne : π.isEmpty = false) {P : Program} {md : Region.Mode} {Q : Exit → Act → World → Prop} : ∀ {fuel : Nat} {l l' : Array Bool} {a : Act} {w : World}, l.size = ops.size → l'.size = ops.size → zSa π l l' →
  wpAny P md (xX π ops) Q fuel l' a w → wpAny P md ops Q fuel l a w := by
 have nil : ∀ {l l' : Array Bool}, l.size = ops.size → l'.size = ops.size → zSa π l l' → (Region.ready md ops l = [] ↔ Region.ready md (xX π ops) l' = []) := by
  intro l l' hs hs' hl
  rw [List.eq_nil_iff_forall_not_mem, List.eq_nil_iff_forall_not_mem]
  constructor
  ·intro hn k hk
   obtain ⟨_, o', ho', _⟩ := mem_ready.1 hk
   obtain ⟨i, o, hi, ho, _⟩ := zUk h hne ho'
   refine hn i ((oX h hne hs hs' hl (Array.getElem?_eq_some_iff.1 ho).1).2 ?_)
   rw [h.idx k i hi]; exact hk
  ·intro hn i hi
   exact hn _ ((oX h hne hs hs' hl (zK0 hi)).1 hi)
 intro fuel
 induction fuel with
 | zero =>
  intro l l' a w hs hs' hl hw
  exact ⟨(nil hs hs' hl).2 hw.1, hw.2⟩
 | succ fuel ih =>
  intro l l' a w hs hs' hl hw
  refine ⟨fun hn => hw.1 ((nil hs hs' hl).1 hn), fun i hi => ?_⟩
  have hlt := zK0 hi
  refine zVs h hne hlt (wpOp_mono (fun a w h' => ?_) (hw.2 _ ((oX h hne hs hs' hl hlt).1 hi)))
  refine ih (by simpa using hs) (by simpa using hs') (fun j hj => ?_) h'
  by_cases e : j = i
  ·subst e
   have hix : π.idxOf j < ops.size := by rw [← h.len]; exact (List.getElem?_eq_some_iff.1 (h.at hlt)).1
   simp [hs, hs', hlt, hix]
  ·have hne' : π.idxOf j ≠ π.idxOf i := fun e' => by
    have h1 := h.at (h.lt j hj)
    have h2 := h.at hlt
    rw [e', h2] at h1
    exact e (by simpa using h1.symm)
   rw [getD_set_ne false (Ne.symm e), getD_set_ne false (Ne.symm hne')]
   exact hl j hj
theorem zNd (h : Perm π ops.size) (hne : π.isEmpty = false) {id : Nat} {P : Program} {Q : Exit → Act → World → Prop} {a : Act} {w : World} (hm : P.follows .mixedOrders = true)
  (hw : wpAny P .any (xX π ops) Q ops.size (Array.replicate ops.size false) a { w with drawn := w.drawn + 1 }) : (Code.region id ops true).wp P Q a w := by
 refine wp_region_any hm (zR3 h hne (by simp) (by simp) (fun i hi => ?_) hw)
 have hlt := h.lt i hi
 have hix : π.idxOf i < ops.size := by rw [← h.len]; exact (List.getElem?_eq_some_iff.1 (h.at hlt)).1
 simp [hlt, hix]
end
end Go.Proofs.Ytlkjnlfddadlmaa.V
namespace Go.Proofs.Ytlkjnlfddadlmaa.V
section
variable {cx : Ctx} {f : Nat} {call : zW} {eff : Nat → Eff} {L : Nat → Bool} {b : Nat} {B : SU}
theorem gK {d : Nat} : ∀ {m : Nat}, (∀ k, b ≤ k → k < b + m → d ∉ (eff k).L) → (∀ k, b ≤ k → k < b + m → L k = true → (eff k).dst ≠ some d) → (yN eff L b m B).s d = B.s d
 | 0, _, _ => rfl
 | m + 1, hv, hn => by
  have ih := gK (m := m) (fun k h1 h2 => hv k h1 (by omega)) (fun k h1 h2 => hn k h1 (by omega))
  simp only [yN]
  split
  ·rename_i hl
   rw [dE, if_neg (hn _ (by omega) (by omega) hl), if_neg (hv _ (by omega) (by omega))]; exact ih
  ·exact ih
theorem zA9 {d k0 : Nat} (hL : L k0 = true) (hd : (eff k0).dst = some d) (hb : b ≤ k0) : ∀ {m : Nat}, k0 < b + m → (∀ k, b ≤ k → k < b + m → d ∉ (eff k).L) → (∀ k, b ≤ k → k < b + m → k ≠ k0 → (eff k).dst ≠ some d) → (yN eff L b m B).s d = (eff k0).x
 | 0, h, _, _ => by omega
 | m + 1, h, hv, hn => by
  simp only [yN]
  by_cases e : b + m = k0
  ·subst e
   rw [if_pos hL, dE, if_pos hd]
  ·have ih := zA9 hL hd hb (m := m) (by omega) (fun k h1 h2 => hv k h1 (by omega)) (fun k h1 h2 => hn k h1 (by omega))
   split
   ·rw [dE, if_neg (hn _ (by omega) (by omega) e), if_neg (hv _ (by omega) (by omega))]; exact ih
   ·exact ih
theorem zGh {i t : Nat} (hun : ∀ k, b ≤ k → k < i → L k = false → (eff k).dst ≠ some t) : ∀ {m : Nat}, b + m ≤ i → (yN eff (fun _ => true) b m B).s t = .undef ∨ (yN eff (fun _ => true) b m B).s t = (yN eff L b m B).s t
 | 0, _ => .inr rfl
 | m + 1, h => by
  have ih := zGh hun (m := m) (by omega)
  simp only [yN, if_true]
  cases hl : L (b + m) with
  | true =>
   simp only [if_true, dE]
   by_cases h1 : (eff (b + m)).dst = some t
   ·simp [h1]
   ·by_cases h2 : t ∈ (eff (b + m)).L
    ·simp [h1, h2]
    ·simp only [h1, h2, if_false]; exact ih
  | false =>
   have hne := hun (b + m) (by omega) (by omega) hl
   simp only [Bool.false_eq_true, if_false, dE, if_neg hne]
   by_cases h2 : t ∈ (eff (b + m)).L
   ·simp [h2]
   ·simp only [h2, if_false]; exact ih
theorem zL1 {i t : Nat} (hb : b ≤ i) : ∀ {m : Nat}, i ≤ b + m → (∀ k, i ≤ k → k < b + m → L k = true → (eff k).dst ≠ some t ∧ t ∉ (eff k).L) → (yN eff L b m B).s t = (yN eff L b (i - b) B).s t
 | 0, h, _ => by
  have : i - b = 0 := by omega
  rw [this]
 | m + 1, h, hk => by
  by_cases e : i = b + m + 1
  ·have : i - b = m + 1 := by omega
   rw [this]
  ·have ih := zL1 hb (m := m) (by omega) (fun k h1 h2 => hk k h1 (by omega))
   simp only [yN]
   split
   ·rename_i hl
    obtain ⟨h1, h2⟩ := hk (b + m) (by omega) (by omega) hl
    rw [dE, if_neg h1, if_neg h2]; exact ih
   ·exact ih
def jT (L : Nat → Bool) (i : Nat) : Nat → Bool := fun k => k == i || L k
theorem zOa {i : Nat} (hb : b ≤ i) (hi : L i = false) : ∀ {m : Nat}, i < b + m → (∀ k, i < k → k < b + m → L k = true → (∀ d, (eff i).dst = some d → (eff k).dst ≠ some d ∧ d ∉ (eff k).L) ∧ ∀ d, (eff k).dst = some d → d ∉ (eff i).L) →
  yN eff (jT L i) b m B = (eff i).app (yN eff L b m B)
 | 0, h, _ => by omega
 | m + 1, h, hk => by
  by_cases e : i = b + m
  ·subst e
   have e1 : yN eff (jT L (b + m)) b m B = yN eff L b m B := jA (fun k h1 h2 => by
    have : k ≠ b + m := by omega
    simp [jT, this])
   simp only [yN, hi, jT, beq_self_eq_true, Bool.true_or, if_true, Bool.false_eq_true, if_false]
   rw [← e1]
  ·have ih := zOa hb hi (m := m) (by omega) (fun k h1 h2 => hk k h1 (by omega))
   have hw : jT L i (b + m) = L (b + m) := by
    have : ¬ b + m = i := Ne.symm e
    simp [jT, this]
   simp only [yN, hw, ih]
   split
   ·rename_i hl
    obtain ⟨h1, h2⟩ := hk (b + m) (by omega) (by omega) hl
    exact (zSf (fun d hd => (h1 d hd).1) (fun d hd => (h1 d hd).2) h2).symm
   ·rfl
end
section
variable {cx : Ctx} {f : Nat} {w0 : World} {E0 : Nat → Prop} {P : Nat → Nat → Prop} {R : Nat → Prop} {ea : List EA} {w w' : World} {a : Act} {call : zW} {Pr : Program}
theorem At.wf {n : Nat} {Su : SU} (h : At cx f w0 E0 P R ea n Su a w) : ∀ t d, Root.sl d ∈ xY (Su.s t) → zB cx f d = true ∧ Su.s d ≠ .undef := by
 obtain ⟨S, hr, rfl, _, _⟩ := h
 intro t d hd
 have hm : Root.sl d ∈ zD (S.s t) := by
  have e : xY ((V.erS S).s t) = xY (erX (S.s t)) := rfl
  rw [e] at hd
  by_cases ht : ∃ ys, S.s t = .tup ys
  ·obtain ⟨ys, ht⟩ := ht
   rw [ht] at hd; simp [erX, zV, xY] at hd
  ·rwa [zGn (fun ys e => ht ⟨ys, e⟩)] at hd
 refine ⟨hr.refS t d hm, fun hu => ?_⟩
 obtain ⟨cs, hc⟩ := lM hr.eaL (hr.okS t) _ hm
 have : S.s d = .undef := by
  have hu' : erX (S.s d) = .undef := hu
  cases hs : S.s d <;> simp [hs, erX, zV] at hu'
  rfl
 simp [zA, this] at hc
mutual
theorem zUx : ∀ x : XV, rfX (erX x) = zD x
 | .c c => by simp only [erX, zV, rfX, zD]; exact d9 c
 | .agg cs => by simp only [erX, zV, rfX, zD]; exact jB cs
 | .box v cs => by simp only [erX, zV, rfX, zD]; exact jB cs
 | .tup ys => by
  have := zP5 ys
  simp only [erX, zV, rfX, zD]; exact this
 | .undef => rfl
theorem zP5 : ∀ xs : List XV, bQ (wV er0 xs) = yR xs
 | [] => rfl
 | x :: xs => by
  have h1 := zUx x
  have h2 := zP5 xs
  simp only [wV, bQ, yR, ← h1, ← h2]
end
theorem At.wf2 {n : Nat} {Su : SU} (h : At cx f w0 E0 P R ea n Su a w) : (∀ t d, Root.sl d ∈ rfX (Su.s t) → Su.s d ≠ .undef) ∧ ∀ cs d, cs ∈ Su.e → Root.sl d ∈ zP true cs → Su.s d ≠ .undef := by
 obtain ⟨S, hr, rfl, _, _⟩ := h
 have nz : ∀ d cs, zA S (.sl d) = some cs → (V.erS S).s d ≠ .undef := by
  intro d cs hc hu
  have : S.s d = .undef := by
   have hu' : erX (S.s d) = .undef := hu
   cases hs : S.s d <;> simp [hs, erX, zV] at hu'
   rfl
  simp [zA, this] at hc
 refine ⟨fun t d hd => ?_, fun cs d hc hd => ?_⟩
 ·have e : rfX ((V.erS S).s t) = zD (S.s t) := zUx _
  rw [e] at hd
  obtain ⟨cs, hc⟩ := lM hr.eaL (hr.okS t) _ hd
  exact nz d cs hc
 ·simp only [V.erS, jW, List.mem_map] at hc
  obtain ⟨ds, hds, rfl⟩ := hc
  obtain ⟨j, hj⟩ := List.getElem?_of_mem hds
  have e : zP true (yZ er0 ds) = zL ds := jB ds
  rw [e] at hd
  obtain ⟨cs, hc⟩ := g0 hr.eaL (hr.okE j ds hj).1 _ hd
  exact nz d cs hc
structure EffP (cx : Ctx) (f : Nat) (call : zW) (ops : Array Oper) (S1 S1' : SU) (o : Oper) (e : Eff) : Prop where
 dst : e.dst = o.dst
 app : S1' = e.app S1
 L : ∀ t ∈ e.L, Operand.tmp t ∈ o.op.operands.toList ∧ zB cx f t = false ∧ yO (S1.s t) = true
 new : ∀ d, o.dst = some d → zB cx f d = true → S1.s d = .undef
 mono : ∀ S2, (∀ d ∈ o.looksAt ops, S1.s d = .undef ∨ S1.s d = S2.s d) → Agr S1 S2 o.op.operands.toList → HR cx f S1 S2 o.op.operands.toList → (∀ d, o.dst = some d → zB cx f d = true → S2.s d = .undef) →
  stepOp cx f call S2 ops o = some (e.app S2) ∧ vX cx f ops S2 o = true
theorem uF {id k : Nat} {ops : Array Oper} {S S' : SU} {o : Oper} (h : dQ cx f call id ops k S o = some S') : (cx.ord f id k = true ∨ vX cx f ops S o = true) ∧ (∀ t ∈ cx.shr f id k, zB cx f t = true ∨ yO (S.s t) = false) ∧ stepOp cx f call S ops o = some S' ∧ zGl cx f id ops S' (zGg cx f id k) := by
 unfold dQ at h
 split at h
 ·rename_i hc
  simp only [Bool.and_eq_true, Bool.or_eq_true, List.all_eq_true, Bool.not_eq_true'] at hc
  cases hs : stepOp cx f call S ops o with
  | none => simp [hs] at h
  | some S1 =>
   simp only [hs, Option.bind_some] at h
   unfold zMi at h
   split at h
   ·next he => simp only [Option.some.injEq] at h; subst h; exact ⟨hc.1, hc.2, rfl, by rw [he]; trivial⟩
   ·next y Y he =>
    split at h
    ·next hr => simp only [Option.some.injEq] at h; subst h; exact ⟨hc.1, hc.2, rfl, by rw [he]; exact hr⟩
    ·cases h
 ·cases h
def Eff.nil : Eff := ⟨none, .undef, []⟩
theorem zOe (S : SU) : Eff.nil.app S = S := St.ext' (fun t => by rw [dE]; simp [Eff.nil]) (zOd _ _)
structure TRun (cx : Ctx) (f : Nat) (call : zW) (id : Nat) (ops : Array Oper) (S : Nat → SU) (L0 : Nat → Bool) (eff : Nat → Eff) : Prop where
 done : ∀ k, L0 k = true → S (k + 1) = S k ∧ eff k = Eff.nil
 step : ∀ k o, ops[k]? = some o → L0 k = false → dQ cx f call id ops k (S k) o = some (S (k + 1))
 soft : ∀ k o, ops[k]? = some o → L0 k = false → vX cx f ops (S k) o = true → EffP cx f call ops (S k) (S (k + 1)) o (eff k)
theorem effs (id : Nat) (ops : Array Oper) (S : Nat → SU) (L0 : Nat → Bool) (hD : ∀ k, L0 k = true → S (k + 1) = S k) (hS : ∀ k o, ops[k]? = some o → L0 k = false → dQ cx f call id ops k (S k) o = some (S (k + 1))) :
  ∃ eff : Nat → Eff, TRun cx f call id ops S L0 eff := by
 have : ∀ k, ∃ e : Eff, (L0 k = true → e = Eff.nil) ∧ ∀ o, ops[k]? = some o → L0 k = false → vX cx f ops (S k) o = true → EffP cx f call ops (S k) (S (k + 1)) o e := by
  intro k
  cases hl : L0 k with
  | true => exact ⟨Eff.nil, fun _ => rfl, fun o _ h => by cases h⟩
  | false =>
   cases ho : ops[k]? with
   | none => exact ⟨Eff.nil, (fun h => by cases h), (fun o h => by cases h)⟩
   | some o =>
    by_cases hs : vX cx f ops (S k) o = true
    ·obtain ⟨e, h1, h2, h3, h4, h5⟩ := zLs hs (uF (hS k o ho hl)).2.2.1
     exact ⟨e, (fun h => by cases h), fun o' h' _ _ => by simp only [Option.some.injEq] at h'; subst h'; exact ⟨h1, h2, h3, h4, h5⟩⟩
    ·exact ⟨Eff.nil, (fun h => by cases h), fun o' h' _ hs' => by simp only [Option.some.injEq] at h'; subst h'; exact absurd hs' hs⟩
 obtain ⟨eff, h⟩ := Classical.axiomOfChoice this
 exact ⟨eff, ⟨fun k hk => ⟨hD k hk, (h k).1 hk⟩, hS, fun k => (h k).2⟩⟩
section seg
variable {id : Nat} {ops : Array Oper} {T : List Nat} {S : Nat → SU} {eff : Nat → Eff} {b c : Nat} {L0 : Nat → Bool}
theorem uX (hT : TRun cx f call id ops S L0 eff) (hc : c ≤ ops.size)
  (hsoft : ∀ k o, b ≤ k → k < c → L0 k = false → ops[k]? = some o → vX cx f ops (S k) o = true) : ∀ m, b + m ≤ c → S (b + m) = yN eff (fun _ => true) b m (S b)
 | 0, _ => rfl
 | m + 1, h => by
  have ih := uX hT hc hsoft m (by omega)
  have ho : ops[b + m]? = some (ops[b + m]'(by omega)) := Array.getElem?_eq_getElem (by omega)
  simp only [yN, if_true]
  rw [← ih]
  cases hl : L0 (b + m) with
  | true =>
   obtain ⟨h1, h2⟩ := hT.done _ hl
   rw [h2, zOe]; exact h1
  | false => exact (hT.soft (b + m) _ ho hl (hsoft (b + m) _ (by omega) (by omega) hl ho)).app
theorem zLc (hd : DrawOk cx f id ops T) (hT : TRun cx f call id ops S L0 eff) (hc : c ≤ ops.size)
  (hsoft : ∀ k o, b ≤ k → k < c → L0 k = false → ops[k]? = some o → vX cx f ops (S k) o = true) (hno : ∀ k, b ≤ k → k < c → L0 k = false → cx.ord f id k = false) {L : Nat → Bool} (hL0 : ∀ k, k < c → L0 k = true → L k = true) (hcl : m4 ops L) {n : Nat} {cur : SU} (hat : At cx f w0 E0 P R ea n cur a w)
  (hcur : cur = yN eff L b (c - b) (S b)) {i : Nat} {o : Oper} (hbi : b ≤ i) (hic : i < c) (hi : ops[i]? = some o) (hLi : L i = false) (hrd : ∀ e ∈ o.after, Region.binds .any e = true → L e.on = true) :
  stepOp cx f call cur ops o = some ((eff i).app cur) ∧ vX cx f ops cur o = true ∧ (eff i).app cur = yN eff (jT L i) b (c - b) (S b) := by
 have hget : ∀ k (hk : k < c), ops[k]? = some (ops[k]'(Nat.lt_of_lt_of_le hk hc)) := fun k hk => Array.getElem?_eq_getElem (by omega)
 have hun : ∀ k, k < c → L k = false → L0 k = false := fun k hkc hk => by
  cases h : L0 k with
  | false => rfl
  | true => rw [hL0 k hkc h] at hk; cases hk
 have hE : ∀ k (hk1 : b ≤ k) (hk2 : k < c), L0 k = false → EffP cx f call ops (S k) (S (k + 1)) (ops[k]'(by omega)) (eff k) := fun k hk1 hk2 hk3 => hT.soft k _ (hget k hk2) hk3 (hsoft k _ hk1 hk2 hk3 (hget k hk2))
 have hEi : EffP cx f call ops (S i) (S (i + 1)) o (eff i) := hT.soft i o hi (hun i hic hLi) (hsoft i o hbi hic (hun i hic hLi) hi)
 have hdn : ∀ k (hk1 : b ≤ k) (hk2 : k < c) d, (eff k).dst = some d → L0 k = false ∧ (ops[k]'(by omega)).dst = some d := fun k hk1 hk2 d hk => by
  cases h : L0 k with
  | false => exact ⟨rfl, by rw [← (hE k hk1 hk2 h).dst]; exact hk⟩
  | true => rw [(hT.done k h).2] at hk; cases hk
 -- what is not ordered with i
 have hlow : ∀ k, b ≤ k → k < i → L k = false → (ops[k]?.getD o).apart ops o = true := by
  intro k h1 h2 h3
  have hk := hget k (by omega)
  rw [hk]
  refine hd.apart k i _ o h2 hk hi ?_
  cases hb : (T.getD i 0).testBit k with
  | false => rfl
  | true =>
   have := (hd.closed hcl (i + 1) i o (by omega) hi hrd k hb).1
   rw [h3] at this; cases this
 have hunk : ∀ k, i < k → k < c → L k = true → (T.getD k 0).testBit i = false := by
  intro k h1 h2 h3
  have hk := hget k h2
  cases hb : (T.getD k 0).testBit i with
  | false => rfl
  | true =>
   have := (hd.closed hcl (k + 1) k _ (by omega) hk (fun e he hb' => hcl k _ h3 hk e he hb') i hb).1
   rw [hLi] at this; cases this
 have hhigh : ∀ k (h1 : i < k) (h2 : k < c), L k = true → o.apart ops (ops[k]'(Nat.lt_of_lt_of_le h2 hc)) = true ∧ ∀ t ∈ o.looksAt ops, t ∉ (eff k).L := by
  intro k h1 h2 h3
  have hk := hget k h2
  have hu := hunk k h1 h2 h3
  refine ⟨hd.apart i k o _ h1 hi hk hu, fun t ht hL => ?_⟩
  cases h0 : L0 k with
  | true => rw [(hT.done k h0).2] at hL; simp [Eff.nil] at hL
  | false =>
   obtain ⟨g1, g2, g3⟩ := (hE k (by omega) h2 h0).L t hL
   have hsh := hd.shr i k o _ h1 hi hk hu (hno k (by omega) h2 h0) t ht g1
   rcases (uF (hT.step k _ hk h0)).2.1 t hsh with h' | h'
   ·rw [g2] at h'; cases h'
   ·rw [g3] at h'; cases h'
 have htext : S i = yN eff (fun _ => true) b (i - b) (S b) := by
  have := uX hT hc hsoft (i - b) (by omega)
  rwa [show b + (i - b) = i by omega] at this
 -- the slots that the operation looks at
 have hslot : ∀ t ∈ o.looksAt ops, (S i).s t = .undef ∨ (S i).s t = cur.s t := by
  intro t ht
  have h1 := zGh (eff := eff) (L := L) (B := S b) (b := b) (i := i) (t := t) (fun k h1 h2 h3 => by
   have hap := hlow k h1 h2 h3
   have hk := hget k (by omega)
   rw [hk, Option.getD_some] at hap
   rw [(hE k h1 (by omega) (hun k (by omega) h3)).dst]
   intro e
   exact (Oper.apart_spec hap).1 t e ht) (m := i - b) (by omega)
  have h2 := zL1 (eff := eff) (L := L) (B := S b) (t := t) hbi (m := c - b) (by omega) (fun k h1 h2 h3 => by
   have hne : k ≠ i := fun e => by rw [e, hLi] at h3; cases h3
   obtain ⟨g1, g2⟩ := hhigh k (by omega) (by omega) h3
   refine ⟨?_, g2 t ht⟩
   intro e
   exact (Oper.apart_spec g1).2.2 t (hdn k (by omega) (by omega) t e).2 ht)
  rw [← htext] at h1
  rw [hcur, h2]
  exact h1
 -- who writes a name
 have hvL : ∀ d, zB cx f d = true → ∀ k, b ≤ k → k < c → d ∉ (eff k).L := by
  intro d hv k h1 h2 hd'
  cases h0 : L0 k with
  | true => rw [(hT.done k h0).2] at hd'; simp [Eff.nil] at hd'
  | false =>
   have := ((hE k h1 h2 h0).L d hd').2.1
   rw [hv] at this; cases this
 have huniq : ∀ d k0 k, b ≤ k0 → k0 < c → b ≤ k → k < c → (eff k0).dst = some d → k ≠ k0 → (eff k).dst ≠ some d := by
  intro d k0 k h1 h2 h3 h4 hk0 hne hk
  obtain ⟨u0, hk0⟩ := hdn k0 h1 h2 d hk0
  obtain ⟨u1, hk⟩ := hdn k h3 h4 d hk
  rcases hd.dst k k0 _ _ d hne (hget k h4) (hget k0 h2) hk hk0 with h' | h'
  ·rw [hno k h3 h4 u1] at h'; cases h'
  ·rw [hno k0 h1 h2 u0] at h'; cases h'
 have hfresh : ∀ d, zB cx f d = true → ∀ k0, b ≤ k0 → k0 < c → (eff k0).dst = some d → (S b).s d = .undef := by
  intro d hv k0 h1 h2 hk0
  obtain ⟨u0, hk0'⟩ := hdn k0 h1 h2 d hk0
  have h3 := (hE k0 h1 h2 u0).new d hk0' hv
  have h4 := uX hT hc hsoft (k0 - b) (by omega)
  rw [show b + (k0 - b) = k0 by omega] at h4
  rw [h4, gK (fun k g1 g2 => hvL d hv k g1 (by omega)) (fun k g1 g2 _ => huniq d k0 k h1 h2 g1 (by omega) hk0 (by omega))] at h3
  exact h3
 have hroot : ∀ d, zB cx f d = true → cur.s d ≠ .undef → (S i).s d = .undef ∨ (S i).s d = cur.s d := by
  intro d hv hne
  by_cases hw : ∃ k0, b ≤ k0 ∧ k0 < c ∧ (eff k0).dst = some d
  ·obtain ⟨k0, h1, h2, h3⟩ := hw
   have hf := hfresh d hv k0 h1 h2 h3
   by_cases hL : L k0 = true
   ·have e1 : cur.s d = (eff k0).x := by
     rw [hcur]
     exact zA9 hL h3 h1 (by omega) (fun k g1 g2 => hvL d hv k g1 (by omega)) (fun k g1 g2 g3 => huniq d k0 k h1 h2 g1 (by omega) h3 g3)
    by_cases hlt : k0 < i
    ·right
     rw [e1, htext]
     exact zA9 (L := fun _ => true) rfl h3 h1 (by omega) (fun k g1 g2 => hvL d hv k g1 (by omega)) (fun k g1 g2 g3 => huniq d k0 k h1 h2 g1 (by omega) h3 g3)
    ·left
     rw [htext, gK (fun k g1 g2 => hvL d hv k g1 (by omega)) (fun k g1 g2 _ => huniq d k0 k h1 h2 g1 (by omega) h3 (by omega))]
     exact hf
   ·exfalso
    apply hne
    rw [hcur, gK (fun k g1 g2 => hvL d hv k g1 (by omega)) (fun k g1 g2 g3 => huniq d k0 k h1 h2 g1 (by omega) h3 (fun e => hL (e ▸ g3)))]
    exact hf
  ·right
   have hn : ∀ k, b ≤ k → k < c → (eff k).dst ≠ some d := fun k h1 h2 h3 => hw ⟨k, h1, h2, h3⟩
   rw [hcur, htext, gK (fun k g1 g2 => hvL d hv k g1 (by omega)) (fun k g1 g2 _ => hn k g1 (by omega)), gK (fun k g1 g2 => hvL d hv k g1 (by omega)) (fun k g1 g2 _ => hn k g1 (by omega))]
 have hwf := hat.wf
 have hrefs : ∀ t ∈ o.looksAt ops, ∀ d, Root.sl d ∈ xY ((S i).s t) → zB cx f d = true ∧ cur.s d ≠ .undef := by
  intro t ht d hr
  rcases hslot t ht with e | e
  ·rw [e] at hr; simp [xY] at hr
  ·rw [e] at hr; exact hwf t d hr
 have hagr : Agr (S i) cur o.op.operands.toList := by
  refine ⟨fun t ht => hslot t (wB ht), fun t ht r hr => ?_⟩
  cases r with
  | sl d =>
   obtain ⟨h1, h2⟩ := hrefs t (wB ht) d hr
   rcases hroot d h1 h2 with e | e
   ·left; simp [zA, e]
   ·right; simp only [zA, e]
  | ex j =>
   right
   have e : (S i).e = cur.e := by rw [htext, hcur, lP, lP]
   simp only [zA, e]
 have hnew : ∀ d, o.dst = some d → zB cx f d = true → cur.s d = .undef := by
  intro d hdst hv
  have hk : (eff i).dst = some d := by rw [hEi.dst]; exact hdst
  rw [hcur, gK (fun k g1 g2 => hvL d hv k g1 (by omega)) (fun k g1 g2 g3 => huniq d i k hbi hic g1 (by omega) hk (fun e => by rw [e, hLi] at g3; cases g3))]
  exact hfresh d hv i hbi hic hk
 obtain ⟨h1, h2⟩ := hEi.mono cur hslot hagr (.inr fun t ht k hk => (hrefs t (wB ht) k hk).1) hnew
 refine ⟨h1, h2, ?_⟩
 rw [hcur]
 refine (zOa hbi hLi (by omega) (fun k g1 g2 g3 => ?_)).symm
 obtain ⟨hap, _⟩ := hhigh k g1 (by omega) g3
 have hsp := Oper.apart_spec hap
 refine ⟨fun d hd' => ?_, fun d hd' hL => ?_⟩
 ·rw [hEi.dst] at hd'
  refine ⟨fun e => hsp.2.1 d hd' (hdn k (by omega) (by omega) d e).2, fun hL => ?_⟩
  cases h0 : L0 k with
  | true => rw [(hT.done k h0).2] at hL; simp [Eff.nil] at hL
  | false => exact hsp.1 d hd' (wB ((hE k (by omega) (by omega) h0).L d hL).1)
 ·exact hsp.2.2 d (hdn k (by omega) (by omega) d hd').2 (wB (hEi.L d hL).1)
end seg
def m7 (cx : Ctx) (f : Nat) (call : zW) (Pr : Program) (w0 : World) (E0 : Nat → Prop) (P : Nat → Nat → Prop) (R : Nat → Prop) (ea : List EA) (n : Nat) : Prop :=
 ∀ (ops : Array Oper) (o : Oper) (i : Nat) (Su Su' : SU) (a : Act) (w : World), At cx f w0 E0 P R ea n Su a w → ops[i]? = some o → (∀ d, o.dst = some d → d < n) → stepOp cx f call Su ops o = some Su' →
  ∀ (K : Act → World → Prop) (Q : Exit → Act → World → Prop), (∀ a' w', At cx f w0 E0 P R ea n Su' a' w' → K a' w') → wpOp Pr ops Q i K a w
theorem zC2 (g : Nat → Bool) (n : Nat) : ∀ (m b : Nat), b + m = n → ∃ c, b ≤ c ∧ c ≤ n ∧ (∀ k, b ≤ k → k < c → g k = false) ∧ (c = n ∨ g c = true)
 | 0, b, h => ⟨b, Nat.le_refl _, by omega, fun k h1 h2 => by omega, .inl (by omega)⟩
 | m + 1, b, h => by
  by_cases hg : g b = true
  ·exact ⟨b, Nat.le_refl _, by omega, fun k h1 h2 => by omega, .inr hg⟩
  ·obtain ⟨c, h1, h2, h3, h4⟩ := zC2 g n m (b + 1) (by omega)
   refine ⟨c, by omega, h2, fun k h5 h6 => ?_, h4⟩
   by_cases e : k = b
   ·subst e; simpa using hg
   ·exact h3 k (by omega) h6
def left (n : Nat) (listed : Array Bool) : Nat := ((List.range n).filter fun i => !listed.getD i false).length
theorem zFf {β : Type} {p q : β → Bool} : ∀ {l : List β}, (∀ x ∈ l, q x = true → p x = true) → (∃ x ∈ l, p x = true ∧ q x = false) → (l.filter q).length < (l.filter p).length
 | [], _, h => by obtain ⟨x, hx, _⟩ := h; cases hx
 | y :: l, h1, h2 => by
  have hle : (l.filter q).length ≤ (l.filter p).length := by
   clear h2
   induction l with
   | nil => simp
   | cons z l ih =>
    have ih := ih (fun x hx => h1 x (by rcases List.mem_cons.1 hx with rfl | hx <;> simp [*]))
    have hz := h1 z (by simp)
    simp only [List.filter_cons]
    cases hq : q z <;> cases hp : p z <;> simp_all <;> omega
  by_cases hy : p y = true ∧ q y = false
  ·simp only [List.filter_cons, hy.1, hy.2, if_true, List.length_cons, Bool.false_eq_true, if_false]
   omega
  ·obtain ⟨x, hx, hx1, hx2⟩ := h2
   rcases List.mem_cons.1 hx with rfl | hx
   ·exact absurd ⟨hx1, hx2⟩ hy
   ·have ih := zFf (fun x hx => h1 x (List.mem_cons_of_mem _ hx)) ⟨x, hx, hx1, hx2⟩
    have hyy := h1 y (List.mem_cons_self)
    simp only [List.filter_cons]
    cases hq : q y <;> cases hp : p y <;> simp_all
theorem zJ0 {n i : Nat} {listed : Array Bool} (hi : i < n) (hs : listed.size = n) (hl : listed.getD i false = false) : left n (listed.setIfInBounds i true) < left n listed := by
 unfold left
 refine zFf (fun x hx h => ?_) ⟨i, List.mem_range.2 hi, by simp [hl], ?_⟩
 ·simp only [Bool.not_eq_true'] at h ⊢
  cases hx' : listed.getD x false with
  | false => rfl
  | true => rw [getD_set_true hx'] at h; cases h
 ·have : i < listed.size := by omega
  simp [this]
theorem xF {ops : Array Oper} {Y : List Nat} {t : Nat} : t ∈ qT ops Y ↔ ∃ y ∈ Y, ∃ o, ops[y]? = some o ∧ o.dst = some t := by
 simp only [qT, List.mem_filterMap, Option.bind_eq_some_iff]
def bE (Z : List Nat) (a b : Act) : Prop := a.defers = b.defers ∧ a.tmps.size = b.tmps.size ∧ ∀ t, t ∉ Z → a.tmps[t]? = b.tmps[t]?
theorem bE.refl {Z : List Nat} {a : Act} : bE Z a a := ⟨rfl, rfl, fun _ _ => rfl⟩
theorem bE.put {Z : List Nat} {a b : Act} (h : bE Z a b) (d : Option Nat) (v : Value) : bE Z (a.put d v) (b.put d v) := by
 cases d with
 | none => exact h
 | some d =>
  refine ⟨h.1, by simp only [Act.put, Array.size_setIfInBounds]; exact h.2.1, fun t ht => ?_⟩
  simp only [Act.put, Array.getElem?_setIfInBounds, h.2.1, h.2.2 t ht]
theorem bE.later {Z : List Nat} {a b : Act} (h : bE Z a b) {d : Nat} (hd : d ∈ Z) (v : Value) : bE Z a (b.put (some d) v) := by
 refine ⟨h.1, by simp only [Act.put, Array.size_setIfInBounds]; exact h.2.1, fun t ht => ?_⟩
 have : d ≠ t := fun e => ht (e ▸ hd)
 simp only [Act.put, Array.getElem?_setIfInBounds, if_neg this]
 exact h.2.2 t ht
theorem bE.eval {Z : List Nat} {a b : Act} (h : bE Z a b) {x : Operand} (hx : ∀ t, x = .tmp t → t ∉ Z) : a.eval x = b.eval x := by
 cases x with
 | tmp t =>
  have := h.2.2 t (hx t rfl)
  simp only [Act.eval, Array.getD_eq_getD_getElem?, this]
 | _ => rfl
theorem zR2 {Z : List Nat} {o : Oper} {a b : Act} {K : Act → World → Prop} {Q : Exit → Act → World → Prop} {r : Result Next} (hs : bE Z a b) (h : o.upon Pr b (fun b w => ∀ a, bE Z a b → K a w) (fun e b w => ∀ a, bE Z a b → Q e a w) r) : o.upon Pr a K Q r := by
 cases r with
 | ok n w' =>
  cases n <;> simp only [Oper.upon] at h ⊢
  case value v => exact h _ (hs.put _ _)
  case skip => exact h _ (hs.put _ _)
  case defer d => exact h _ (bE.put (a := { a with defers := d :: a.defers }) (b := { b with defers := d :: b.defers }) ⟨by simp only [hs.1], hs.2.1, hs.2.2⟩ _ _)
  case enter f args =>
   refine Calls.mono h fun e w'' he => ?_
   cases e with
   | returned v => exact he _ (hs.put _ _)
   | panicked c => exact he _ hs
   | outgrown => obtain ⟨b', w3, h'⟩ := he; exact ⟨b', w3, h' b' bE.refl⟩
  case row r args => exact Rows.mono h fun v w'' he => he _ (hs.put _ _)
 | halt x w' =>
  cases x <;> simp only [Oper.upon] at h ⊢
  case panic v => exact h _ hs
theorem nM {o : Oper} (h3 : sP o.op = true) {ρ ρ' : Operand → Value} (h : ∀ x ∈ o.op.operands.toList, ρ x = ρ' x) : execOp ρ o = execOp ρ' o := by
 cases ho : o.op with
 | assign x =>
  rw [ho] at h
  simp only [execOp, ho, h x (by simp [Op.operands])]
 | store t a x =>
  rw [ho] at h
  simp only [execOp, ho, h a (by simp [Op.operands]), h x (by simp [Op.operands])]
 | call c =>
  rw [ho] at h
  have hc : ∀ x ∈ c.operands.toList, ρ x = ρ' x := by simpa [Op.operands] using h
  have ha : c.args.map ρ = c.args.map ρ' := by
   apply Array.map_congr_left
   intro x hx
   refine hc x ?_
   cases hcal : c.callee <;> simp [Call.operands, hcal, hx]
  have hr : resolve ρ c o.type = resolve ρ' c o.type := by
   unfold resolve
   rw [ha]
   cases hcal : c.callee with
   | builtin b => rfl
   | invoke recv name => simp only [hc recv (by simp [Call.operands, hcal])]
   | value f => simp only [hc f (by simp [Call.operands, hcal])]
  simp only [execOp, ho, hr]
 | _ => rw [ho] at h3; simp [sP] at h3
theorem zR4 {Z : List Nat} {ops : Array Oper} {o : Oper} {i : Nat} {a b : Act} {w : World} {K : Act → World → Prop} {Q : Exit → Act → World → Prop} (hi : ops[i]? = some o) (h3 : sP o.op = true) (hl : ∀ t ∈ o.looksAt ops, t ∉ Z) (hs : bE Z a b)
  (h : wpOp Pr ops (fun e b w => ∀ a, bE Z a b → Q e a w) i (fun b w => ∀ a, bE Z a b → K a w) b w) : wpOp Pr ops Q i K a w := by
 simp only [wpOp, hi] at h ⊢
 have e1 : execOp a.eval o = execOp b.eval o := nM h3 fun x hx => hs.eval fun t ht => hl t (wB (ht ▸ hx))
 have e2 : Region.wanted o (yielded ops a.tmps) = Region.wanted o (yielded ops b.tmps) := by
  unfold Region.wanted
  cases hg : o.guard with
  | none => rfl
  | some g =>
   obtain ⟨j, want⟩ := g
   simp only [yielded]
   cases hd : (ops[j]?).bind (·.dst) with
   | none => rfl
   | some d =>
    have hm : d ∈ o.looksAt ops := by
     simp only [Oper.looksAt, hg, hd, List.mem_append]
     right; simp
    simp only [Option.bind_some, hs.2.2 d (hl d hm)]
 rw [e2]
 split
 ·rename_i hw
  simp only [hw, if_true] at h
  rcases h with h | ⟨h1, h2⟩
  ·left
   unfold Oper.wp at h ⊢
   rw [e1]
   exact zR2 hs h
  ·right
   obtain ⟨b', w3, h'⟩ := h2
   exact ⟨by unfold Oper.asks at h1 ⊢; rw [e1]; exact h1, b', w3, h' b' bE.refl⟩
 ·rename_i hw
  simp only [hw] at h
  exact h _ (hs.put _ _)
theorem kB {α : Type} (Z : List Nat) (S : St α) (t : Nat) : (hide Z S).s t = if t ∈ Z then .undef else S.s t := rfl
theorem aJ {α : Type} (S : St α) : hide [] S = S := by cases S; simp [hide]
theorem Rel.hide {S : SV} {tmps : Array Value} (h : Rel (zB cx f) w0 E0 P R ea w S tmps) : ∀ {Z : List Nat}, (∀ d ∈ Z, zB cx f d = false) → Rel (zB cx f) w0 E0 P R ea w (V.hide Z S) tmps
 | [], _ => by rw [aJ]; exact h
 | d :: Z, hZ => by
  have ih := h.hide (Z := Z) (fun d hd => hZ d (List.mem_cons_of_mem _ hd))
  have hv := hZ d List.mem_cons_self
  have := ih.clear (ih.noMen (d := d) (fun h' => by rw [hv] at h'; cases h'))
  have e : V.hide (d :: Z) S = { V.hide Z S with s := upd (V.hide Z S).s d .undef } := by
   simp only [V.hide]
   congr 1
   funext t
   simp only [upd, List.mem_cons]
   by_cases h1 : t = d
   ·simp [h1]
   ·simp [h1]
  rw [e]; exact this
theorem At.hide {n : Nat} {Su : SU} {b : Act} {Z : List Nat} (h : At cx f w0 E0 P R ea n Su b w) (hZ : ∀ d ∈ Z, zB cx f d = false) (hs : bE Z a b) : At cx f w0 E0 P R ea n (V.hide Z Su) a w := by
 obtain ⟨S, hr, rfl, hd, hsz⟩ := h
 have hr' := hr.hide hZ
 refine ⟨V.hide Z S, { hr' with val := fun d hd' => ?_, hi := fun d hd' => hr'.hi d (by rw [← hs.2.1]; exact hd') }, ?_, by rw [hs.1]; exact hd, by rw [hs.2.1]; exact hsz⟩
 ·by_cases hm : d ∈ Z
  ·left; simp [V.hide, hm]
  ·rw [hs.2.2 d hm]
   exact hr'.val d (by rw [← hs.2.1]; exact hd')
 ·simp only [V.erS, jW, V.hide]
  congr 1
  funext t
  split
  ·simp [zV]
  ·rfl
theorem pA {id : Nat} {ops : Array Oper} {S1 : SU} {k : Nat} : ∀ {Y : List Nat}, zGl cx f id ops S1 Y → k ∈ Y → ∃ Y2, (∀ z ∈ Y, k ≤ z → z = k ∨ z ∈ Y2) ∧ (∀ z ∈ Y2, z ∈ Y ∧ k < z) ∧
  ∃ o d, ops[k]? = some o ∧ o.dst = some d ∧ kJ o.op = true ∧ zB cx f d = false ∧ cx.ord f id k = false ∧ (∀ t ∈ cx.shr f id k, zB cx f t = true ∨ yO (S1.s t) = false) ∧ stepOp cx f mJ (V.hide (qT ops (k :: Y2)) S1) ops o = some (V.hide (qT ops Y2) S1)
 | y :: Y, h, hk => by
  obtain ⟨⟨hs, o, d, h1⟩, h2⟩ := h
  rcases List.mem_cons.1 hk with rfl | hk
  ·exact ⟨Y, fun z hz hkz => (List.mem_cons.1 hz), fun z hz => ⟨List.mem_cons_of_mem _ hz, hs z hz⟩, o, d, h1⟩
  ·obtain ⟨Y2, g1, g2, g3⟩ := pA h2 hk
   refine ⟨Y2, fun z hz hkz => ?_, fun z hz => ⟨List.mem_cons_of_mem _ (g2 z hz).1, (g2 z hz).2⟩, g3⟩
   rcases List.mem_cons.1 hz with e | hz
   ·have := hs k hk; omega
   ·exact g1 z hz hkz
theorem zGm {id : Nat} {ops : Array Oper} {T : List Nat} {S1 : SU} (hd : DrawOk cx f id ops T) {Y : List Nat} (hr : zGl cx f id ops S1 Y) {M : List Nat} (hM : ∀ y ∈ M, y ∈ Y) (hwf : ∀ t d, Root.sl d ∈ xY (S1.s t) → zB cx f d = true ∧ S1.s d ≠ .undef) {k : Nat} (hk : k ∈ M) {o : Oper} (ho : ops[k]? = some o) :
  kJ o.op = true ∧ cx.ord f id k = false ∧ (∃ d, o.dst = some d ∧ zB cx f d = false) ∧ dQ cx f call id ops k (V.hide (qT ops (M.filter fun y => decide (k ≤ y))) S1) o = some (V.hide (qT ops (M.filter fun y => decide (k + 1 ≤ y))) S1) := by
 obtain ⟨Y2, g1, g2, o', d, k1, k2, k3, k4, k5, k6, k7⟩ := pA hr (hM k hk)
 rw [ho] at k1
 simp only [Option.some.injEq] at k1
 subst k1
 refine ⟨k3, k5, ⟨d, k2, k4⟩, ?_⟩
 have hord : ∀ y ∈ Y, cx.ord f id y = false := fun y hy => by
  obtain ⟨_, _, _, _, _, _, _, _, _, h5, _⟩ := pA hr hy
  exact h5
 have hsub : ∀ t, t ∈ qT ops (M.filter fun y => decide (k ≤ y)) → t ∈ qT ops (k :: Y2) := by
  intro t ht
  obtain ⟨y, hy, oy, h1, h2⟩ := xF.1 ht
  simp only [List.mem_filter, decide_eq_true_eq] at hy
  refine xF.2 ⟨y, ?_, oy, h1, h2⟩
  rcases g1 y (hM y hy.1) hy.2 with e | e
  ·rw [e]; exact List.mem_cons_self
  ·exact List.mem_cons_of_mem _ e
 have hdn : ∀ Z : List Nat, (∀ z ∈ Z, z ∈ Y ∧ k < z) → d ∉ qT ops Z := by
  intro Z hZ hm
  obtain ⟨y, hy, oy, h1, h2⟩ := xF.1 hm
  obtain ⟨h3, h4⟩ := hZ y hy
  rcases hd.dst y k oy o d (by omega) h1 ho h2 k2 with h' | h'
  ·rw [hord y h3] at h'; cases h'
  ·rw [k5] at h'; cases h'
 have hd2 : d ∉ qT ops Y2 := hdn Y2 g2
 have hd3 : d ∉ qT ops (M.filter fun y => decide (k + 1 ≤ y)) := hdn _ fun z hz => by
  simp only [List.mem_filter, decide_eq_true_eq] at hz
  exact ⟨hM z hz.1, by omega⟩
 have hsoft : ∀ S, vX cx f ops S o = true := fun S => by simp only [vX, k9 k3, Bool.not_false, Bool.true_or]
 obtain ⟨e, e1, e2, e3, e4, e5⟩ := zLs (hsoft _) k7
 -- nothing is used up
 have hL : e.L = [] := by
  rw [List.eq_nil_iff_forall_not_mem]
  intro t ht
  obtain ⟨_, _, h3⟩ := e3 t ht
  have hn : t ∉ qT ops (k :: Y2) := fun hm => by simp [kB, hm, yO] at h3
  have hne : S1.s t ≠ .undef := fun hu => by simp [kB, hu, yO] at h3
  have hn2 : t ∉ qT ops Y2 := fun hm => hn (by
   obtain ⟨y, hy, r⟩ := xF.1 hm
   exact xF.2 ⟨y, List.mem_cons_of_mem _ hy, r⟩)
  have htd : some d ≠ some t := fun h => by
   simp only [Option.some.injEq] at h
   subst h
   exact hn (xF.2 ⟨k, List.mem_cons_self, o, ho, k2⟩)
  have := congrArg (fun S : SU => S.s t) e2
  simp only [kB, if_neg hn2, dE, e1, k2, if_neg htd, if_pos ht] at this
  exact hne this
 have hx : e.x = S1.s d := by
  have := congrArg (fun S : SU => S.s d) e2
  simp only [kB, if_neg hd2, dE, e1, k2, if_true] at this
  exact this.symm
 have hsl : ∀ t, (V.hide (qT ops (k :: Y2)) S1).s t = .undef ∨ (V.hide (qT ops (k :: Y2)) S1).s t = (V.hide (qT ops (M.filter fun y => decide (k ≤ y))) S1).s t := by
  intro t
  by_cases h1 : t ∈ qT ops (k :: Y2)
  ·left; simp [kB, h1]
  ·right
   have : t ∉ qT ops (M.filter fun y => decide (k ≤ y)) := fun h => h1 (hsub t h)
   simp only [kB, if_neg h1, if_neg this]
 have hrt : ∀ t q, Root.sl q ∈ xY ((V.hide (qT ops (k :: Y2)) S1).s t) → zB cx f q = true := by
  intro t q hq
  by_cases h1 : t ∈ qT ops (k :: Y2)
  ·simp [kB, h1, xY] at hq
  ·simp only [kB, if_neg h1] at hq
   exact (hwf t q hq).1
 obtain ⟨m1, _⟩ := e5 (V.hide (qT ops (M.filter fun y => decide (k ≤ y))) S1) (fun t _ => hsl t)
  ⟨fun t _ => hsl t, fun t _ r hr => by
   cases r with
   | sl q =>
    rcases hsl q with h | h
    ·left; simp [zA, h]
    ·right; simp only [zA, h]
   | ex j => right; rfl⟩
  (.inr fun t _ q hq => hrt t q hq) (fun d' hd' hv => by rw [k2] at hd'; simp only [Option.some.injEq] at hd'; subst hd'; rw [k4] at hv; cases hv)
 have happ : e.app (V.hide (qT ops (M.filter fun y => decide (k ≤ y))) S1) = V.hide (qT ops (M.filter fun y => decide (k + 1 ≤ y))) S1 := by
  refine St.ext' (fun t => ?_) (by rw [zOd]; rfl)
  rw [dE, e1, k2, hL, hx]
  by_cases h1 : t = d
  ·subst h1
   simp only [if_true, kB, if_neg hd3]
  ·have h2 : ¬ some d = some t := fun h => h1 (by simpa using h.symm)
   simp only [if_neg h2, List.not_mem_nil, if_false, kB]
   have : t ∈ qT ops (M.filter fun y => decide (k ≤ y)) ↔ t ∈ qT ops (M.filter fun y => decide (k + 1 ≤ y)) := by
    constructor
    ·intro h
     obtain ⟨y, hy, oy, h3, h4⟩ := xF.1 h
     simp only [List.mem_filter, decide_eq_true_eq] at hy
     refine xF.2 ⟨y, ?_, oy, h3, h4⟩
     have : y ≠ k := fun e => by
      subst e
      rw [ho] at h3
      simp only [Option.some.injEq] at h3
      subst h3
      rw [k2] at h4
      exact h1 (by simpa using h4.symm)
     simp only [List.mem_filter, decide_eq_true_eq]
     exact ⟨hy.1, by omega⟩
    ·intro h
     obtain ⟨y, hy, oy, h3, h4⟩ := xF.1 h
     simp only [List.mem_filter, decide_eq_true_eq] at hy
     refine xF.2 ⟨y, ?_, oy, h3, h4⟩
     simp only [List.mem_filter, decide_eq_true_eq]
     exact ⟨hy.1, by omega⟩
   simp only [this]
 have k6' : (cx.shr f id k).all (fun t => zB cx f t || !yO ((V.hide (qT ops (M.filter fun y => decide (k ≤ y))) S1).s t)) = true := by
  rw [List.all_eq_true]
  intro t ht
  rcases k6 t ht with h | h
  ·simp [h]
  ·by_cases h1 : t ∈ qT ops (M.filter fun y => decide (k ≤ y))
   ·simp [kB, h1, yO]
   ·simp only [kB, if_neg h1, h, Bool.not_false, Bool.or_true]
 unfold dQ
 rw [if_pos (by rw [hsoft, Bool.or_true, Bool.true_and]; exact k6'), eZ k3, m1, happ]
 simp only [Option.bind_some, zMi, zGg, k5, Bool.false_eq_true, if_false]
theorem s9 {eff : Nat → Eff} {L : Nat → Bool} {b : Nat} {S : SU} : ∀ {m : Nat}, (∀ k, b ≤ k → k < b + m → L k = true → eff k = Eff.nil) → yN eff L b m S = S
 | 0, _ => rfl
 | m + 1, h => by
  have ih := s9 (m := m) (eff := eff) (L := L) (b := b) (S := S) (fun k h1 h2 => h k h1 (by omega))
  simp only [yN]
  split
  ·next hl => rw [h _ (by omega) (by omega) hl, zOe]; exact ih
  ·exact ih
theorem eR {eff : Nat → Eff} {L : Nat → Bool} {b t : Nat} {S : SU} : ∀ {m : Nat}, (∀ k, b ≤ k → k < b + m → L k = false → (eff k).dst ≠ some t ∧ t ∉ (eff k).L) → (yN eff L b m S).s t = (yN eff (fun _ => true) b m S).s t
 | 0, _ => rfl
 | m + 1, h => by
  have ih := eR (m := m) (eff := eff) (L := L) (b := b) (S := S) (t := t) (fun k h1 h2 => h k h1 (by omega))
  simp only [yN, if_true]
  split
  ·rw [dE, dE, ih]
  ·next hl =>
   obtain ⟨h1, h2⟩ := h (b + m) (by omega) (by omega) (by simpa using hl)
   rw [dE, if_neg h1, if_neg h2, ih]
theorem zKw {zs : List CU} (h : zs.all isZ = true) : Plain (.box () zs) := by
 have key : ∀ zs : List CU, zs.all isZ = true → (∀ r q, yV r q zs = zs) ∧ (∀ L, jC L zs = zs) ∧ zP true zs = [] := by
  intro zs
  induction zs with
  | nil => intro _; exact ⟨fun _ _ => rfl, fun _ => rfl, rfl⟩
  | cons c zs ih =>
   intro h
   simp only [List.all_cons, Bool.and_eq_true] at h
   obtain ⟨h1, h2, h3⟩ := ih h.2
   have hc : (∀ r q, zT r q c = c) ∧ (∀ L, kA L c = c) ∧ yB true c = [] := by
    cases c <;> first
     | exact ⟨fun _ _ => rfl, fun _ => rfl, rfl⟩
     | (have := h.1; simp [isZ] at this)
   exact ⟨fun r q => by simp only [yV, hc.1, h1], fun L => by simp only [jC, hc.2.1, h2], by simp only [zP, hc.2.2, h3, List.nil_append]⟩
 obtain ⟨h1, h2, h3⟩ := key zs h
 exact ⟨fun r q => by simp only [z7, h1], fun L => by simp only [j0, h2], h3⟩
theorem zKr {id : Nat} {ops : Array Oper} {y : Nat} (h : zDd cx f id ops y = true) : ∃ o d e, ops[y]? = some o ∧ o.guard = none ∧ o.dst = some d ∧ o.op = .alloc e ∧ zB cx f d = true ∧ cx.ord f id y = false ∧ (cx.ty e).ok = true ∧ (cx.ty e).zs.all isZ = true ∧ cx.shr f id y = [] := by
 unfold zDd at h
 split at h
 ·next o ho =>
  split at h
  ·next d e hg hd hop =>
   simp only [Bool.and_eq_true, Bool.not_eq_true', List.isEmpty_iff] at h
   exact ⟨o, d, e, ho, hg, hd, hop, h.1.1.1.1, h.1.1.1.2, h.1.1.2, h.1.2, h.2⟩
  ·cases h
 ·cases h
theorem cS {ops : Array Oper} {o : Oper} {e d : Nat} {S : SU} (hg : o.guard = none) (hd : o.dst = some d) (hop : o.op = .alloc e) (hty : (cx.ty e).ok = true) : stepOp cx f call S ops o = if zB cx f d && !bJ (S.s d) then none else some { S with s := upd S.s d (.box () (cx.ty e).zs) } := by
 unfold stepOp
 simp only [y6, hg, hop, qval, hty, if_true, Option.bind_some, wY, hd]
theorem zS4 {id : Nat} {ops : Array Oper} {T : List Nat} {n : Nat} (hd : DrawOk cx f id ops T) (hstep : m7 cx f call Pr w0 E0 P R ea n) (hpure : zBc cx f w0 E0 P R ea n)
  (hdst : ∀ (k : Nat) (o : Oper) (d : Nat), ops[k]? = some o → o.dst = some d → d < n) {Sn : SU}
  {Q : Exit → Act → World → Prop} {m : Nat} (hm : m ≤ ops.size) (hmo : m < ops.size → 0 < m ∧ cx.ord f id (m - 1) = true ∧ cx.pnd f id (m - 1) = [] ∧ cx.pal f id (m - 1) = []) (hQ : m = ops.size → ∀ a w, At cx f w0 E0 P R ea n Sn a w → Q .normal a w)
  (hend : m < ops.size → ∀ (fuel : Nat) (listed : Array Bool) (a : Act) (w : World), left ops.size listed ≤ fuel → listed.size = ops.size → (∀ k, listed.getD k false = decide (k < m)) → At cx f w0 E0 P R ea n Sn a w → wpAny Pr .any ops Q fuel listed a w) :
  ∀ (fuel : Nat) (S : Nat → SU) (eff : Nat → Eff) (L0 : Nat → Bool) (listed : Array Bool) (c : Nat) (cur : SU) (a : Act) (w : World), TRun cx f call id ops S L0 eff → S m = Sn →
   left ops.size listed ≤ fuel → listed.size = ops.size → c ≤ m → (m < ops.size → c < m) → (∀ k, m ≤ k → L0 k = true) → (∀ k, k < m → L0 k = true → listed.getD k false = true) → (∀ k, c ≤ k → listed.getD k false = false) →
   (∀ k, k < c → L0 k = false → cx.ord f id k = false) → (c = m ∨ cx.ord f id c = true) → m4 ops (fun k => listed.getD k false) → At cx f w0 E0 P R ea n cur a w → cur = yN eff (fun k => listed.getD k false) 0 c (S 0) →
   wpAny Pr .any ops Q fuel listed a w := by
 intro fuel
 induction fuel with
 | zero =>
  intro S eff L0 listed c cur a w hT hSn hleft hsz hcm hcl2 hLm hL0 hhi hno hc hcl hat hcur
  have hcn : c ≤ ops.size := Nat.le_trans hcm hm
  have hall : ∀ k, k < ops.size → listed.getD k false = true := by
   intro k hk
   have h0 : left ops.size listed = 0 := by omega
   simp only [left, List.length_eq_zero_iff, List.filter_eq_nil_iff, List.mem_range] at h0
   simpa using h0 k hk
  have hcc : c = ops.size := by
   rcases Nat.lt_or_ge c ops.size with h | h
   ·have := hhi c (Nat.le_refl _); rw [hall c h] at this; cases this
   ·omega
  have hsoft : ∀ k o, 0 ≤ k → k < c → L0 k = false → ops[k]? = some o → vX cx f ops (S k) o = true := fun k o _ h1 h2 ho => by
   rcases (uF (hT.step k o ho h2)).1 with h' | h'
   ·rw [hno k h1 h2] at h'; cases h'
   ·exact h'
  refine ⟨?_, hQ ?_ a w ?_⟩
  ·rw [List.eq_nil_iff_forall_not_mem]
   intro j hj
   obtain ⟨h1, o, ho, _⟩ := mem_ready.1 hj
   have hlt := (Array.getElem?_eq_some_iff.1 ho).1
   have := hall j hlt
   have h2 : j < listed.size := by omega
   simp [h2] at h1 this
   rw [h1] at this; cases this
  ·have hme : m = ops.size := by omega
   exact hme
  ·have := uX hT hcn hsoft c (by omega)
   rw [Nat.zero_add] at this
   rw [← hSn, show m = c by omega, this]
   have e : yN eff (fun k => listed.getD k false) 0 c (S 0) = yN eff (fun _ => true) 0 c (S 0) := jA (fun k h1 h2 => hall k (by omega))
   rw [← e, ← hcur]; exact hat
 | succ fuel ih =>
  intro S eff L0 listed c cur a w hT hSn hleft hsz hcm hcl2 hLm hL0 hhi hno hc hcl hat hcur
  have hcn : c ≤ ops.size := Nat.le_trans hcm hm
  have hsoft : ∀ k o, 0 ≤ k → k < c → L0 k = false → ops[k]? = some o → vX cx f ops (S k) o = true := fun k o _ h1 h2 ho => by
   rcases (uF (hT.step k o ho h2)).1 with h' | h'
   ·rw [hno k h1 h2] at h'; cases h'
   ·exact h'
  -- where all are listed
  have fin : (∀ k, k < ops.size → listed.getD k false = true) → Q .normal a w := by
   intro hall
   have hcc : c = ops.size := by
    rcases Nat.lt_or_ge c ops.size with h | h
    ·have := hhi c (Nat.le_refl _); rw [hall c h] at this; cases this
    ·omega
   refine hQ (by omega) a w ?_
   have := uX hT hcn hsoft c (by omega)
   rw [Nat.zero_add] at this
   rw [← hSn, show m = c by omega, this]
   have e : yN eff (fun k => listed.getD k false) 0 c (S 0) = yN eff (fun _ => true) 0 c (S 0) := jA (fun k h1 h2 => hall k (by omega))
   rw [← e, ← hcur]; exact hat
  refine ⟨fun hnil => fin fun k hk => ?_, fun i hi => ?_⟩
  ·-- the first that is not listed is ready
   cases hl : listed.getD k false with
   | true => rfl
   | false =>
    exfalso
    have : ∀ m, ∀ k, k < m → k < ops.size → listed.getD k false = false → False := by
     intro m
     induction m with
     | zero => intro k hk; omega
     | succ m ihm =>
      intro k hkm hk hlk
      have ho : ops[k]? = some ops[k] := Array.getElem?_eq_getElem hk
      have hr : k ∈ Region.ready .any ops listed := by
       refine mem_ready.2 ⟨?_, _, ho, fun e he hb => ?_⟩
       ·have h2 : k < listed.size := by omega
        simp [h2] at hlk ⊢; exact hlk
       ·cases hle : listed.getD e.on false with
        | true => rfl
        | false =>
         have hlt := hd.on k _ ho e he hb
         exact (ihm e.on (by omega) (by omega) hle).elim
      rw [hnil] at hr; cases hr
    exact this (k + 1) k (by omega) hk hl
  ·obtain ⟨h1, o, ho, hrd⟩ := mem_ready.1 hi
   have hlt := (Array.getElem?_eq_some_iff.1 ho).1
   have hLi : listed.getD i false = false := by
    have h2 : i < listed.size := by omega
    simp [h2] at h1 ⊢; exact h1
   have hset : ∀ k, (listed.setIfInBounds i true).getD k false = jT (fun k => listed.getD k false) i k := by
    intro k
    by_cases e : k = i
    ·subst e
     have h2 : k < listed.size := by omega
     simp [jT, h2]
    ·rw [getD_set_ne false (Ne.symm e)]; simp [jT, e]
   have hcl' : m4 ops (fun k => (listed.setIfInBounds i true).getD k false) := by
    intro k o' hk ho' e he hb
    simp only [hset, jT, Bool.or_eq_true, beq_iff_eq] at hk ⊢
    right
    rcases hk with rfl | hk
    ·rw [ho] at ho'; simp only [Option.some.injEq] at ho'; subst ho'; exact hrd e he hb
    ·exact hcl k o' hk ho' e he hb
   have hleft' : left ops.size (listed.setIfInBounds i true) ≤ fuel := by
    have := zJ0 hlt hsz hLi; omega
   have hL0i : i < m → L0 i = false := fun him => by
    cases h : L0 i with
    | false => rfl
    | true => rw [hL0 i him h] at hLi; cases hLi
   rcases Nat.lt_or_ge i c with hic | hic
   ·-- a soft one
    obtain ⟨g1, g2, g3⟩ := zLc hd hT (b := 0) hcn hsoft (fun k _ h => hno k h) (fun k h => hL0 k (by omega)) hcl hat hcur (Nat.zero_le i) hic ho hLi hrd
    refine hstep ops o i cur _ a w hat ho (fun d hd' => hdst i o d ho hd') g1 _ Q (fun a' w' hat' => ?_)
    refine ih S eff L0 (listed.setIfInBounds i true) c _ a' w' hT hSn hleft' (by simpa using hsz) hcm hcl2 hLm ?_ ?_ hno hc hcl' hat' ?_
    ·intro k hkm hk; rw [hset]; simp only [jT, hL0 k hkm hk, Bool.or_true]
    ·intro k hk; rw [hset]
     have : k ≠ i := by omega
     simp only [jT, hhi k hk, Bool.or_false, beq_eq_false_iff_ne]; exact this
    ·rw [g3]; exact jA (fun k _ _ => (hset k).symm)
   ·-- an active one
    have hco : cx.ord f id c = true := by
     rcases hc with h | h
     ·rcases Nat.lt_or_ge m ops.size with h2 | h2
      ·have := hcl2 h2; omega
      ·omega
     ·exact h
    have hcltm : c < m := by
     rcases Nat.lt_or_ge m ops.size with h2 | h2
     ·exact hcl2 h2
     ·have : c < ops.size := by omega
      omega
    have hici : i = c := by
     rcases Nat.lt_or_ge c i with h | h
     ·exfalso
      have hoc : ops[c]? = some (ops[c]'(by omega)) := Array.getElem?_eq_getElem (by omega)
      rcases hd.ord c i _ o h hoc ho (.inl hco) with hb | ⟨_, hb, _⟩
      ·have := (hd.closed hcl (i + 1) i o (by omega) ho hrd c hb).1
       rw [hhi c (Nat.le_refl _)] at this; cases this
      ·rw [hco] at hb; cases hb
     ·omega
    subst hici
    have hbit : ∀ k, k < i → listed.getD k false = false → (T.getD i 0).testBit k = false := by
     intro k hk hl
     cases hb : (T.getD i 0).testBit k with
     | false => rfl
     | true =>
      have := (hd.closed hcl (i + 1) i o (by omega) ho hrd k hb).1
      rw [hl] at this; cases this
    have hpn : ∀ k, k < i → listed.getD k false = false → k ∈ cx.pnd f id i ∨ k ∈ cx.pal f id i := by
     intro k hk hl
     have hok : ops[k]? = some (ops[k]'(by omega)) := Array.getElem?_eq_getElem (by omega)
     rcases hd.ord k i _ o hk hok ho (.inr hco) with hb | ⟨_, _, hb⟩
     ·rw [hbit k hk hl] at hb; cases hb
     ·exact hb
    obtain ⟨_, _, hsi, hredo⟩ := uF (hT.step i o ho (hL0i hcltm))
    rw [show zGg cx f id i = cx.pnd f id i from if_pos hco] at hredo
    obtain ⟨M, hM⟩ : ∃ M, M = (List.range i).filter fun k => !listed.getD k false := ⟨_, rfl⟩
    have hMm : ∀ k, k ∈ M ↔ k < i ∧ listed.getD k false = false := by
     intro k; rw [hM]; simp only [List.mem_filter, List.mem_range, Bool.not_eq_true']
    -- what comes behind
    have cont : (∀ k ∈ M, ∀ o', ops[k]? = some o' → cx.ord f id k = false ∧ dQ cx f call id ops k (V.hide (qT ops (M.filter fun y => decide (k ≤ y))) (S (i + 1))) o' = some (V.hide (qT ops (M.filter fun y => decide (k + 1 ≤ y))) (S (i + 1)))) →
      ∀ a' w', At cx f w0 E0 P R ea n (V.hide (qT ops M) (S (i + 1))) a' w' → wpAny Pr .any ops Q fuel (listed.setIfInBounds i true) a' w' := by
     intro hre a' w' hb'
     obtain ⟨S', hS'⟩ : ∃ S' : Nat → SU, S' = fun k => if k ≤ i + 1 then V.hide (qT ops (M.filter fun y => decide (k ≤ y))) (S (i + 1)) else S k := ⟨_, rfl⟩
     have hlo : ∀ k, k ≤ i + 1 → S' k = V.hide (qT ops (M.filter fun y => decide (k ≤ y))) (S (i + 1)) := fun k hk => by rw [hS']; exact if_pos hk
     have hgt : ∀ k, i + 1 ≤ k → S' k = S k := by
      intro k hk
      by_cases e : k = i + 1
      ·subst e
       rw [hlo _ (Nat.le_refl _)]
       have : (M.filter fun y => decide (i + 1 ≤ y)) = [] := by
        rw [List.filter_eq_nil_iff]
        intro y hy
        have := ((hMm y).1 hy).1
        simp only [decide_eq_true_eq]; omega
       rw [this]; exact aJ _
      ·rw [hS']; exact if_neg (by omega)
     have hLk : ∀ k, (listed.setIfInBounds i true).getD k false = true → k ≤ i ∧ k ∉ M := by
      intro k hk
      rw [hset] at hk
      simp only [jT, Bool.or_eq_true, beq_iff_eq] at hk
      rcases hk with rfl | hk
      ·exact ⟨Nat.le_refl _, fun h => by have := ((hMm k).1 h).1; omega⟩
      ·refine ⟨?_, fun h => by rw [((hMm k).1 h).2] at hk; cases hk⟩
       rcases Nat.lt_or_ge k i with h | h
       ·omega
       ·rw [hhi k h] at hk; cases hk
     have hLn : ∀ k, (listed.setIfInBounds i true).getD k false = false → k ≠ i ∧ listed.getD k false = false := by
      intro k hk
      rw [hset] at hk
      simp only [jT, Bool.or_eq_false_iff, beq_eq_false_iff_ne] at hk
      exact hk
     obtain ⟨eff', hT'⟩ := effs (cx := cx) (f := f) (call := call) id ops S' (fun k => (listed.setIfInBounds i true).getD k false || decide (m ≤ k)) (fun k hk => by
      simp only [Bool.or_eq_true, decide_eq_true_eq] at hk
      rcases Nat.lt_or_ge k m with hkm | hkm
      case inr => rw [hgt k (by omega), hgt (k + 1) (by omega)]; exact (hT.done k (hLm k hkm)).1
      obtain ⟨h1, h2⟩ := hLk k (hk.resolve_right (by omega))
      rw [hlo k (by omega), hlo (k + 1) (by omega)]
      congr 2
      refine List.filter_congr fun y hy => ?_
      have : y ≠ k := fun e => h2 (e ▸ hy)
      rw [decide_eq_decide]; omega) (fun k o' ho' hk => by
      simp only [Bool.or_eq_false_iff, decide_eq_false_iff_not] at hk
      obtain ⟨hk, hkm⟩ := hk
      obtain ⟨h1, h2⟩ := hLn k hk
      rcases Nat.lt_or_ge k i with h | h
      ·rw [hlo k (by omega), hlo (k + 1) (by omega)]
       exact (hre k ((hMm k).2 ⟨h, h2⟩) o' ho').2
      ·rw [hgt k (by omega), hgt (k + 1) (by omega)]
       refine hT.step k o' ho' ?_
       cases h0 : L0 k with
       | false => rfl
       | true => rw [hL0 k (by omega) h0] at h2; cases h2)
     by_cases hfin : m < ops.size ∧ i + 1 = m
     ·-- the tail
      obtain ⟨q1, q2, q3, q4⟩ := hmo hfin.1
      have hM0 : M = [] := by
       rw [List.eq_nil_iff_forall_not_mem]
       intro y hy
       have e : m - 1 = i := by omega
       rw [e] at q3 q4
       rcases hpn y ((hMm y).1 hy).1 ((hMm y).1 hy).2 with h | h
       ·rw [q3] at h; cases h
       ·rw [q4] at h; cases h
      refine hend hfin.1 fuel _ a' w' hleft' (by simpa using hsz) (fun k => ?_) ?_
      ·rw [hset]
       rcases Nat.lt_trichotomy k i with h | h | h
       ·have : listed.getD k false = true := by
         cases hl : listed.getD k false with
         | true => rfl
         | false => have := (hMm k).2 ⟨h, hl⟩; rw [hM0] at this; cases this
        simp only [jT, this, Bool.or_true, show k < m by omega, decide_true]
       ·subst h; simp only [jT, beq_self_eq_true, Bool.true_or, show k < m by omega, decide_true]
       ·have h9 : k ≠ i := by omega
        have h8 : (k == i) = false := by simpa using h9
        simp only [jT, h8, hhi k (by omega), Bool.or_false, show ¬ k < m by omega, decide_false]
      ·rw [hM0] at hb'
       simp only [qT, List.filterMap_nil] at hb'
       rw [aJ] at hb'
       rw [← hSn, ← hfin.2]; exact hb'
     obtain ⟨c', k1, k2, k3, k4⟩ := zC2 (fun k => cx.ord f id k) m (m - (i + 1)) (i + 1) (by omega)
     refine ih S' eff' (fun k => (listed.setIfInBounds i true).getD k false || decide (m ≤ k)) (listed.setIfInBounds i true) c' (V.hide (qT ops M) (S (i + 1))) a' w' hT' ?_ hleft' (by simpa using hsz) k2 (fun h => ?_) (fun k h => by simp [h]) (fun k hkm h => by simpa [show ¬ m ≤ k by omega] using h) ?_ ?_ k4 hcl' hb' ?_
     ·rw [hgt _ (by omega)]; exact hSn
     ·rcases Nat.lt_or_ge c' m with h2 | h2
      ·exact h2
      ·exfalso
       obtain ⟨q1, q2, _⟩ := hmo h
       have := k3 (m - 1) (by omega) (by omega)
       rw [q2] at this; cases this
     ·intro k hk
      rw [hset]
      have : k ≠ i := by omega
      simp only [jT, hhi k (by omega), Bool.or_false, beq_eq_false_iff_ne]; exact this
     ·intro k hk hl
      simp only [Bool.or_eq_false_iff] at hl
      obtain ⟨h1, h2⟩ := hLn k hl.1
      rcases Nat.lt_or_ge k i with h | h
      ·exact (hre k ((hMm k).2 ⟨h, h2⟩) _ (Array.getElem?_eq_getElem (by omega))).1
      ·exact k3 k (by omega) hk
     ·rw [s9 (fun k _ _ h => (hT'.done k (by simp [h])).2), hlo 0 (by omega)]
      congr 2
      exact (List.filter_eq_self.2 fun y _ => by simp).symm
    by_cases hpe : cx.pal f id i = []
    ·-- only such as look
     have hMp : ∀ y ∈ M, y ∈ cx.pnd f id i := fun y hy => by
      rcases hpn y ((hMm y).1 hy).1 ((hMm y).1 hy).2 with h | h
      ·exact h
      ·rw [hpe] at h; cases h
     have hZ : ∀ d ∈ qT ops M, zB cx f d = false := by
      intro d hd'
      obtain ⟨y, hy, oy, h3, h4⟩ := xF.1 hd'
      obtain ⟨_, _, _, o', d', k1, k2, _, k4, _⟩ := pA hredo (hMp y hy)
      rw [h3] at k1
      simp only [Option.some.injEq] at k1
      subst k1
      rw [h4] at k2
      simp only [Option.some.injEq] at k2
      subst k2; exact k4
     -- those that are not listed yet, done where nobody sees it
     have comp : ∀ m, m ≤ i → ∃ b, At cx f w0 E0 P R ea n (yN eff (fun k => listed.getD k false || decide (k < m)) 0 i (S 0)) b w ∧ bE (qT ops M) a b := by
      intro m
      induction m with
      | zero =>
       intro _
       refine ⟨a, ?_, bE.refl⟩
       have e : yN eff (fun k => listed.getD k false || decide (k < 0)) 0 i (S 0) = cur := by
        rw [hcur]; exact jA (fun k _ _ => by simp)
       rw [e]; exact hat
      | succ m ihm =>
       intro hm
       obtain ⟨b, hb1, hb2⟩ := ihm (by omega)
       have hmask : ∀ k, (listed.getD k false || decide (k < m + 1)) = jT (fun k => listed.getD k false || decide (k < m)) m k := by
        intro k
        simp only [jT]
        by_cases e : k = m
        ·subst e; simp
        ·have : decide (k < m + 1) = decide (k < m) := by rw [decide_eq_decide]; omega
         rw [this]; simp [e]
       cases hl : listed.getD m false with
       | true =>
        refine ⟨b, ?_, hb2⟩
        have e : yN eff (fun k => listed.getD k false || decide (k < m + 1)) 0 i (S 0) = yN eff (fun k => listed.getD k false || decide (k < m)) 0 i (S 0) := jA (fun k _ _ => by
         rw [hmask]
         simp only [jT]
         by_cases e : k = m
         ·subst e; simp only [beq_self_eq_true, Bool.true_or, hl]
         ·simp [e])
        rw [e]; exact hb1
       | false =>
        have hom : ops[m]? = some (ops[m]'(by omega)) := Array.getElem?_eq_getElem (by omega)
        have hmM : m ∈ M := (hMm m).2 ⟨by omega, hl⟩
        have hclm : m4 ops (fun k => listed.getD k false || decide (k < m)) := by
         intro k o' hk ho' e he hb
         simp only [Bool.or_eq_true, decide_eq_true_eq] at hk ⊢
         rcases hk with hk | hk
         ·exact .inl (hcl k o' hk ho' e he hb)
         ·right; have := hd.on k o' ho' e he hb; omega
        obtain ⟨g1, _, g3⟩ := zLc hd hT (b := 0) hcn hsoft (fun k _ h => hno k h) (L := fun k => listed.getD k false || decide (k < m)) (fun k hkc hk => by simp only [hL0 k (by omega) hk, Bool.true_or]) hclm hb1 rfl (Nat.zero_le m) (by omega) hom (by simp only [hl, Nat.lt_irrefl, decide_false, Bool.or_false]) (fun e he hb => by
         have := hd.on m _ hom e he hb
         simp only [this, decide_true, Bool.or_true])
        obtain ⟨_, _, _, o', d', k1, k2, k3, _⟩ := pA hredo (hMp m hmM)
        rw [hom] at k1
        simp only [Option.some.injEq] at k1
        subst k1
        rw [eZ k3] at g1
        obtain ⟨v, hv⟩ := hpure ops _ _ _ b w hb1 k3 (fun d hd' => hdst m _ d hom hd') g1
        rw [g3] at hv
        refine ⟨b.put (ops[m]'(by omega)).dst v, ?_, ?_⟩
        ·have e : yN eff (fun k => listed.getD k false || decide (k < m + 1)) 0 i (S 0) = yN eff (jT (fun k => listed.getD k false || decide (k < m)) m) 0 (i - 0) (S 0) := jA (fun k _ _ => hmask k)
         rw [e]; exact hv
        ·rw [k2]; exact hb2.later (xF.2 ⟨m, hmM, _, hom, k2⟩) v
     obtain ⟨b, hb1, hb2⟩ := comp i (Nat.le_refl i)
     have hcS : yN eff (fun k => listed.getD k false || decide (k < i)) 0 i (S 0) = S i := by
      have := uX hT hcn hsoft i (by omega)
      rw [Nat.zero_add] at this
      rw [this]
      exact jA (fun k _ h2 => by simp only [show k < i by omega, decide_true, Bool.or_true])
     rw [hcS] at hb1
     have cont : ∀ b' w', At cx f w0 E0 P R ea n (S (i + 1)) b' w' → ∀ a', bE (qT ops M) a' b' → wpAny Pr .any ops Q fuel (listed.setIfInBounds i true) a' w' := by
      intro b' w' hb' a' hs
      have hwf := hb'.wf
      exact cont (fun k hk o' ho' => ⟨(zGm (call := call) hd hredo hMp hwf hk ho').2.1, (zGm (call := call) hd hredo hMp hwf hk ho').2.2.2⟩) a' w' (hb'.hide hZ hs)
     by_cases hM0 : M = []
     ·have hab : a = b := by
       obtain ⟨h1, _, h3⟩ := hb2
       rw [hM0] at h3
       have h4 : a.tmps = b.tmps := Array.ext_getElem? fun t => h3 t (by simp [qT])
       cases a; cases b; simp only at h1 h4; subst h1 h4; rfl
      subst hab
      exact hstep ops o i _ _ a w hb1 ho (fun d hd' => hdst i o d ho hd') hsi _ Q (fun a' w' hat' => cont a' w' hat' a' bE.refl)
     ·have h3 : sP o.op = true := by
       obtain ⟨y, hy⟩ := List.exists_mem_of_ne_nil M hM0
       exact hd.act i o ho hco (List.ne_nil_of_mem (hMp y hy))
      refine zR4 ho h3 (fun t ht hm => ?_) hb2 (hstep ops o i _ _ b w hb1 ho (fun d hd' => hdst i o d ho hd') hsi _ _ (fun b' w' hat' a' hs => cont b' w' hat' a' hs))
      obtain ⟨y, hy, oy, h4, h5⟩ := xF.1 hm
      obtain ⟨h6, h7⟩ := (hMm y).1 hy
      exact (Oper.apart_spec (hd.apart y i oy o h6 h4 ho (hbit y h6 h7))).1 t h5 ht
    ·-- places that are made
     obtain ⟨_, hcv, hpo⟩ := hd.pal i o ho hco hpe
     obtain ⟨hact, fo, cc, hop, hcal⟩ : yY cx o.op = true ∧ ∃ fo cc, o.op = .call cc ∧ cc.callee = .value fo := by
      simp only [zAx, Bool.and_eq_true] at hcv
      refine ⟨hcv.1, ?_⟩
      have h2 := hcv.2
      split at h2
      ·next cc hcc =>
       split at h2
       ·next fo hfo => exact ⟨fo, cc, hcc, hfo⟩
       ·cases h2
      ·cases h2
     have hMp : ∀ y ∈ M, y ∈ cx.pal f id i := fun y hy => by
      rcases hpn y ((hMm y).1 hy).1 ((hMm y).1 hy).2 with h | h
      ·rw [(hd.pal i o ho hco hpe).1] at h; cases h
      ·exact h
     have hsp : ∀ y ∈ M, ∃ o d e, ops[y]? = some o ∧ o.guard = none ∧ o.dst = some d ∧ o.op = .alloc e ∧ zB cx f d = true ∧ cx.ord f id y = false ∧ (cx.ty e).ok = true ∧ (cx.ty e).zs.all isZ = true ∧ cx.shr f id y = [] := fun y hy => zKr (hpo y (hMp y hy))
     have hcS : yN eff (fun _ => true) 0 i (S 0) = S i := by
      have := uX hT hcn hsoft i (by omega)
      rw [Nat.zero_add] at this
      exact this.symm
     have hefs : ∀ k, k < i → (∀ t ∈ (eff k).L, zB cx f t = false) ∧ (L0 k = false → ∀ ok, ops[k]? = some ok → EffP cx f call ops (S k) (S (k + 1)) ok (eff k)) := by
      intro k hk
      have hok : ops[k]? = some (ops[k]'(by omega)) := Array.getElem?_eq_getElem (by omega)
      cases hl0 : L0 k with
      | true => rw [(hT.done k hl0).2]; exact ⟨by simp [Eff.nil], (fun h => by cases h)⟩
      | false =>
       have hef := hT.soft k _ hok hl0 (hsoft k _ (Nat.zero_le _) hk hl0 hok)
       refine ⟨fun t ht => (hef.L t ht).2.1, fun _ ok' h' => ?_⟩
       rw [hok] at h'
       simp only [Option.some.injEq] at h'
       subst h'; exact hef
     have hML0 : ∀ y ∈ M, L0 y = false := fun y hy => by
      cases h : L0 y with
      | false => rfl
      | true => have := hL0 y (by have := ((hMm y).1 hy).1; omega) h; rw [((hMm y).1 hy).2] at this; cases this
     -- who else writes such a slot
     have huq : ∀ y ∈ M, ∀ oy d, ops[y]? = some oy → oy.dst = some d → ∀ k, k < i → k ≠ y → (eff k).dst ≠ some d := by
      intro y hy oy d hoy hdy k hk hne hdk
      cases hl0 : L0 k with
      | true => rw [(hT.done k hl0).2] at hdk; cases hdk
      | false =>
       have hok : ops[k]? = some (ops[k]'(by omega)) := Array.getElem?_eq_getElem (by omega)
       have := ((hefs k hk).2 hl0 _ hok).dst
       rw [hdk] at this
       obtain ⟨o2, d2, e2, a1, _, _, _, _, a6, _⟩ := hsp y hy
       rcases hd.dst k y _ oy d hne hok hoy this.symm hdy with h | h
       ·rw [hno k hk hl0] at h; cases h
       ·rw [a6] at h; cases h
     have hS0 : ∀ y ∈ M, ∀ oy d, ops[y]? = some oy → oy.dst = some d → zB cx f d = true → (S 0).s d = .undef := by
      intro y hy oy d hoy hdy hv
      have hyi := ((hMm y).1 hy).1
      have h1 := ((hefs y hyi).2 (hML0 y hy) oy hoy).new d hdy hv
      have h2 := uX hT hcn hsoft y (by omega)
      rw [Nat.zero_add] at h2
      rw [h2, gK (d := d) (fun k _ hk hm => by have := (hefs k (by omega)).1 d hm; rw [hv] at this; cases this) (fun k _ hk _ => huq y hy oy d hoy hdy k (by omega) (by omega))] at h1
      exact h1
     have hSi : ∀ y ∈ M, ∀ oy d e, ops[y]? = some oy → oy.dst = some d → oy.guard = none → oy.op = .alloc e → zB cx f d = true → (cx.ty e).ok = true → (S i).s d = .box () (cx.ty e).zs := by
      intro y hy oy d e hoy hdy hg hope hv hty
      have hyi := ((hMm y).1 hy).1
      have hef := (hefs y hyi).2 (hML0 y hy) oy hoy
      have hst := (uF (hT.step y oy hoy (hML0 y hy))).2.2.1
      rw [cS hg hdy hope hty] at hst
      split at hst
      ·cases hst
      ·simp only [Option.some.injEq] at hst
       have hx : (eff y).x = .box () (cx.ty e).zs := by
        have h1 : (S (y + 1)).s d = (eff y).x := by rw [hef.app, dE, hef.dst, hdy, if_pos rfl]
        rw [← h1, ← hst]; simp [upd]
       rw [← hcS, zA9 (k0 := y) rfl (by rw [hef.dst, hdy]) (Nat.zero_le _) (by omega) (fun k _ hk hm => by have := (hefs k (by omega)).1 d hm; rw [hv] at this; cases this) (fun k _ hk hne => huq y hy oy d hoy hdy k (by omega) hne), hx]
     have hcurH : cur = V.hide (qT ops M) (S i) := by
      refine St.ext' (fun t => ?_) ?_
      ·rw [kB, hcur]
       by_cases ht : t ∈ qT ops M
       ·rw [if_pos ht]
        obtain ⟨y, hy, oy, h3, h4⟩ := xF.1 ht
        obtain ⟨o2, d2, e2, a1, _, a3, _, a5, _⟩ := hsp y hy
        rw [h3] at a1; simp only [Option.some.injEq] at a1; subst a1
        rw [h4] at a3; simp only [Option.some.injEq] at a3; subst a3
        rw [gK (d := t) (fun k _ hk hm => by have := (hefs k (by omega)).1 t hm; rw [a5] at this; cases this) (fun k _ hk hl => huq y hy oy t h3 h4 k (by omega) (fun e => by subst e; rw [((hMm k).1 hy).2] at hl; cases hl))]
        exact hS0 y hy oy t h3 h4 a5
       ·rw [if_neg ht, ← hcS]
        refine eR fun k _ hk hl => ?_
        have hkM : k ∈ M := (hMm k).2 ⟨by omega, hl⟩
        obtain ⟨oy, d, e, a1, _, a3, a4, _⟩ := hsp k hkM
        have hef := (hefs k (by omega)).2 (hML0 k hkM) oy a1
        refine ⟨fun h => ht (xF.2 ⟨k, hkM, oy, a1, by rw [← hef.dst]; exact h⟩), fun hm => ?_⟩
        have := (hef.L t hm).1
        rw [a4] at this
        simp [Op.operands] at this
      ·rw [hcur, lP, ← hcS]
       show _ = (yN eff (fun _ => true) 0 i (S 0)).e
       rw [lP]
     have hwf := hat.wf2
     have hzz : ∀ d ∈ qT ops M, d ∉ o.looksAt ops ∧ o.dst ≠ some d ∧ Plain ((S i).s d) ∧ NR d (S i) := by
      intro d hdz
      obtain ⟨y, hy, oy, h3, h4⟩ := xF.1 hdz
      obtain ⟨h6, h7⟩ := (hMm y).1 hy
      obtain ⟨o2, d2, e2, a1, a2, a3, a4, a5, a6, a7, a8, _⟩ := hsp y hy
      rw [h3] at a1; simp only [Option.some.injEq] at a1; subst a1
      rw [h4] at a3; simp only [Option.some.injEq] at a3; subst a3
      obtain ⟨q1, q2, q3⟩ := Oper.apart_spec (hd.apart y i oy o h6 h3 ho (hbit y h6 h7))
      refine ⟨q1 d h4, q2 d h4, by rw [hSi y hy oy d e2 h3 h4 a2 a4 a5 a7]; exact zKw a8, fun t hm => ?_, fun cs hcs hm => ?_⟩
      ·by_cases ht : t ∈ qT ops M
       ·obtain ⟨y', hy', oy', g3, g4⟩ := xF.1 ht
        obtain ⟨o3, d3, e3, b1, b2, b3, b4, b5, b6, b7, b8, _⟩ := hsp y' hy'
        rw [g3] at b1; simp only [Option.some.injEq] at b1; subst b1
        rw [g4] at b3; simp only [Option.some.injEq] at b3; subst b3
        rw [hSi y' hy' oy' t e3 g3 g4 b2 b4 b5 b7, (zKw b8).rf] at hm
        cases hm
       ·have h8 := hwf.1 t d (by rw [hcurH, kB, if_neg ht]; exact hm)
        rw [hcurH, kB, if_pos hdz] at h8
        exact h8 rfl
      ·have h8 := hwf.2 cs d (by rw [hcurH]; exact hcs) hm
       rw [hcurH, kB, if_pos hdz] at h8
       exact h8 rfl
     obtain ⟨hstp, hkeep⟩ := rZ hop hcal hact hsi hzz
     refine hstep ops o i cur _ a w hat ho (fun d hd' => hdst i o d ho hd') (by rw [hcurH]; exact hstp) _ Q (fun a' w' hat' => cont (fun k hk o' ho' => ?_) a' w' hat')
     obtain ⟨oy, d, e, a1, a2, a3, a4, a5, a6, a7, a8, a9⟩ := hsp k hk
     rw [ho'] at a1; simp only [Option.some.injEq] at a1; subst a1
     refine ⟨a6, ?_⟩
     have hdk : d ∈ qT ops (M.filter fun y => decide (k ≤ y)) := xF.2 ⟨k, by simp only [List.mem_filter, decide_eq_true_eq]; exact ⟨hk, Nat.le_refl _⟩, o', ho', a3⟩
     have hdn : d ∉ qT ops (M.filter fun y => decide (k + 1 ≤ y)) := by
      intro hm
      obtain ⟨y, hy, oy, g3, g4⟩ := xF.1 hm
      simp only [List.mem_filter, decide_eq_true_eq] at hy
      obtain ⟨o3, d3, e3, b1, _, b3, _, _, b6, _⟩ := hsp y hy.1
      rcases hd.dst k y o' oy d (by omega) ho' g3 a3 g4 with h | h
      ·rw [a6] at h; cases h
      ·rw [b6] at h; cases h
     have hSd : (S (i + 1)).s d = .box () (cx.ty e).zs := by
      rw [hkeep d (xF.2 ⟨k, hk, o', ho', a3⟩)]
      exact hSi k hk o' d e ho' a3 a2 a4 a5 a7
     unfold dQ
     rw [if_pos (by simp only [vX, a4, yY, a9, List.all_nil, Bool.not_false, Bool.true_or, Bool.or_true, Bool.true_and]), cS a2 a3 a4 a7]
     have hu : bJ ((V.hide (qT ops (M.filter fun y => decide (k ≤ y))) (S (i + 1))).s d) = true := by rw [kB, if_pos hdk]; rfl
     rw [if_neg (by rw [hu]; simp)]
     simp only [Option.bind_some, zMi, zGg, a6, Bool.false_eq_true, if_false, Option.some.injEq]
     refine St.ext' (fun t => ?_) rfl
     by_cases ht : t = d
     ·subst ht
      simp only [upd, if_true, kB, if_neg hdn, hSd]
     ·simp only [upd, if_neg ht, kB]
      have : t ∈ qT ops (M.filter fun y => decide (k ≤ y)) ↔ t ∈ qT ops (M.filter fun y => decide (k + 1 ≤ y)) := by
       constructor
       ·intro h
        obtain ⟨y, hy, oy, h3, h4⟩ := xF.1 h
        simp only [List.mem_filter, decide_eq_true_eq] at hy
        refine xF.2 ⟨y, ?_, oy, h3, h4⟩
        have : y ≠ k := fun e' => by
         subst e'
         rw [ho'] at h3
         simp only [Option.some.injEq] at h3
         subst h3
         rw [a3] at h4
         exact ht (by simpa using h4.symm)
        simp only [List.mem_filter, decide_eq_true_eq]
        exact ⟨hy.1, by omega⟩
       ·intro h
        obtain ⟨y, hy, oy, h3, h4⟩ := xF.1 h
        simp only [List.mem_filter, decide_eq_true_eq] at hy
        refine xF.2 ⟨y, ?_, oy, h3, h4⟩
        simp only [List.mem_filter, decide_eq_true_eq]
        exact ⟨hy.1, by omega⟩
      simp only [this]
end
end Go.Proofs.Ytlkjnlfddadlmaa.V
namespace Go.Proofs.Ytlkjnlfddadlmaa.V
open Go.RowKit
theorem zH2 (w : World) {x y : Addr} (h : x.block ≠ y.block) (u v : Value) : (w.setCell x u).setCell y v = (w.setCell y v).setCell x u := by
 simp only [World.setCell]
 congr 1
 refine Array.ext_getElem? fun k => ?_
 simp only [Array.getElem?_modify]
 by_cases h1 : y.block = k
 ·by_cases h2 : x.block = k
  ·exact absurd (h2.trans h1.symm) h
  ·simp [h1, h2]
 ·by_cases h2 : x.block = k
  ·simp [h1, h2]
  ·simp [h1, h2]
theorem lU {b : Nat} : ∀ (vs : List Value) (i : Nat) (w : World) {y : Addr} (_ : b ≠ y.block) (v : Value), (w.setCells b i vs).setCell y v = (w.setCell y v).setCells b i vs
 | [], _, _, _, _, _ => rfl
 | u :: vs, i, w, y, h, v => by
  simp only [World.setCells]
  rw [lU vs (i + 1) _ h v, zH2 w (x := ⟨b, i, none⟩) h]
theorem rV {b b' : Nat} (h : b ≠ b') (vs : List Value) (i : Nat) : ∀ (us : List Value) (j : Nat) (w : World), (w.setCells b i vs).setCells b' j us = (w.setCells b' j us).setCells b i vs
 | [], _, _ => rfl
 | u :: us, j, w => by
  simp only [World.setCells]
  rw [lU vs i w (y := ⟨b', j, none⟩) h u, rV h vs i us (j + 1)]
section
variable {cx : Ctx} {f : Nat} {w0 : World} {E0 : Nat → Prop} {P : Nat → Nat → Prop} {R : Nat → Prop} {ea : List EA} {w w' : World} {S : SV} {tmps : Array Value} {Pr : Program} {a : Act} {call : zW}
theorem nD {b b' : Nat} (h : b ≠ b') {vs : List Value} {i k : Nat} : (w.setCells b i vs).cell? ⟨b', k, none⟩ = w.cell? ⟨b', k, none⟩ :=
 World.cell?_setCells_out b vs i w ⟨b', k, none⟩ (fun e => absurd e.symm h)
theorem zB7 {x y : Addr} {v : Value} : (w.setCell x v).frozen? y = w.frozen? y := by
 simp only [World.frozen?, World.setCell, Array.getElem?_modify]
 by_cases h : x.block = y.block
 ·simp only [h, if_true]
  cases w.heap[y.block]? with
  | none => rfl
  | some o => cases o <;> rfl
 ·simp only [h, if_false]
theorem vA {b : Nat} {y : Addr} : ∀ {vs : List Value} {i : Nat} {w : World}, (w.setCells b i vs).frozen? y = w.frozen? y
 | [], _, _ => rfl
 | v :: vs, i, w => by simp only [World.setCells]; rw [vA, zB7]
theorem zKv {r : Root} {p : List Nat} {ad : Addr} (h : yW S ea r p = some ad) : ad.block ∈ zO S ea r := by
 simp only [yW] at h
 by_cases hp : p = []
 ·subst hp
  simp only [if_true] at h
  cases r with
  | sl d =>
   simp only [rootAd] at h
   split at h
   ·next ad' cs heq =>
    simp only [Option.some.injEq] at h; subst h
    simp [zO, heq, zE, hdr]
   ·cases h
  | ex j => exact sC h
 ·rw [if_neg hp] at h
  split at h
  ·next ad' l c heq =>
   simp only [Option.some.injEq] at h; subst h
   simp only [wO] at heq
   split at heq
   ·next v sz n cs hat =>
    simp only [Option.some.injEq] at heq; subst heq
    exact zMe hat _ (by simp [zQ, zY, hdr])
   ·cases heq
  ·cases h
structure TailOk (cx : Ctx) (f id : Nat) (ops : Array Oper) (T : List Nat) (m : Nat) : Prop where
 pos : 0 < m
 sz : m + 2 ≤ ops.size
 ord : cx.ord f id (m - 1) = true
 pnd : cx.pnd f id (m - 1) = []
 pal : cx.pal f id (m - 1) = []
 aft : ∀ k, m ≤ k → k < ops.size → (T.getD k 0).testBit (m - 1) = true
 no : ∀ k, m ≤ k → k < ops.size → cx.ord f id k = false
 gd : ∀ k o, m ≤ k → ops[k]? = some o → o.guard = none
 pur : ∀ k o, m ≤ k → k + 2 < ops.size → ops[k]? = some o → uJ o.op = true ∧ ∃ d, o.dst = some d
 sto : ∀ k o, ops.size ≤ k + 2 → ops[k]? = some o → o.dst = none ∧ ∃ t x y, o.op = .store t (.tmp x) y
def stOp : Op → Bool
 | .store _ (.tmp _) _ => true
 | _ => false
def zNv (cx : Ctx) (f id : Nat) (ops : Array Oper) (T : List Nat) : Bool :=
 match cx.tl f id with
 | none => true
 | some m => decide (0 < m) && decide (m + 2 ≤ ops.size) && cx.ord f id (m - 1) && (cx.pnd f id (m - 1)).isEmpty && (cx.pal f id (m - 1)).isEmpty &&
  (List.range ops.size).all fun k => decide (k < m) || ((T.getD k 0).testBit (m - 1) && match ops[k]? with
   | some o => o.guard.isNone && (if k + 2 < ops.size then uJ o.op && o.dst.isSome else o.dst.isNone && stOp o.op)
   | none => false)
def zNu (cx : Ctx) (f id n : Nat) : Bool :=
 match cx.tl f id with
 | none => true
 | some m => (List.range n).all fun k => decide (k < m) || !cx.ord f id k
theorem zL2 {id : Nat} {ops : Array Oper} {T : List Nat} {m : Nat} (hm : cx.tl f id = some m) (hno : zNu cx f id ops.size = true) (h : zNv cx f id ops T = true) : TailOk cx f id ops T m := by
 simp only [zNv, hm, Bool.and_eq_true, decide_eq_true_eq, List.isEmpty_iff, List.all_eq_true, List.mem_range, Bool.or_eq_true] at h
 obtain ⟨⟨⟨⟨⟨h1, h2⟩, h3⟩, h4⟩, h5⟩, h6⟩ := h
 have key : ∀ k o, m ≤ k → ops[k]? = some o → (T.getD k 0).testBit (m - 1) = true ∧ o.guard = none ∧ (if k + 2 < ops.size then uJ o.op && o.dst.isSome else o.dst.isNone && stOp o.op) = true := by
  intro k o hk ho
  have hlt := (Array.getElem?_eq_some_iff.1 ho).1
  have := (h6 k hlt).resolve_left (by omega)
  rw [ho] at this
  simp only [Bool.and_eq_true, Option.isNone_iff_eq_none] at this
  exact ⟨this.1, this.2.1, this.2.2⟩
 refine ⟨h1, h2, h3, h4, h5, fun k hk hlt => (key k _ hk (Array.getElem?_eq_getElem hlt)).1, fun k hk hlt => ?_, fun k o hk ho => (key k o hk ho).2.1, fun k o hk hlt ho => ?_, fun k o hlt ho => ?_⟩
 ·simp only [zNu, hm, List.all_eq_true, List.mem_range, Bool.or_eq_true, decide_eq_true_eq, Bool.not_eq_true'] at hno
  exact (hno k hlt).resolve_left (by omega)
 ·have := (key k o hk ho).2.2
  rw [if_pos hlt, Bool.and_eq_true, Option.isSome_iff_exists] at this
  exact this
 ·have hlt' := (Array.getElem?_eq_some_iff.1 ho).1
  have := (key k o (by omega) ho).2.2
  rw [if_neg (by omega), Bool.and_eq_true, Option.isNone_iff_eq_none] at this
  refine ⟨this.1, ?_⟩
  have h2 := this.2
  unfold stOp at h2
  split at h2
  ·next t x y he => exact ⟨t, x, y, he⟩
  ·cases h2
def jO (ops : Array Oper) (m : Nat) (v : Nat → Value) (a : Act) : Nat → Act
 | 0 => a
 | j + 1 => (jO ops m v a j).put ((ops[m + j]?).bind (·.dst)) (v (m + j))
theorem iQ {ops : Array Oper} {m : Nat} {v u : Nat → Value} {a : Act} : ∀ {j : Nat}, (∀ k, k < m + j → v k = u k) → jO ops m v a j = jO ops m u a j
 | 0, _ => rfl
 | j + 1, h => by simp only [jO]; rw [iQ (fun k hk => h k (by omega)), h (m + j) (by omega)]
theorem zHw {a : Act} {d t : Nat} {v : Value} (hd : d < a.tmps.size) : (a.put (some d) v).tmps[t]? = if t = d then some v else a.tmps[t]? := by
 simp only [Act.put]
 by_cases h : t = d
 ·subst h; simp [hd]
 ·simp only [if_neg h]; rw [Array.getElem?_setIfInBounds_ne (Ne.symm h)]
theorem pM {ops : Array Oper} {m : Nat} {v : Nat → Value} {a : Act} {n : Nat} (hn : a.tmps.size = n) (hdst : ∀ (k : Nat) (o : Oper) (d : Nat), ops[k]? = some o → o.dst = some d → d < n) : ∀ {j t : Nat}, (jO ops m v a j).tmps.size = n ∧
  ((∃ k o, m ≤ k ∧ k < m + j ∧ ops[k]? = some o ∧ o.dst = some t ∧ (∀ k' o', m ≤ k' → k' < m + j → ops[k']? = some o' → o'.dst = some t → k' ≤ k) ∧ (jO ops m v a j).tmps[t]? = some (v k)) ∨
   ((∀ k o, m ≤ k → k < m + j → ops[k]? = some o → o.dst ≠ some t) ∧ (jO ops m v a j).tmps[t]? = a.tmps[t]?))
 | 0, t => ⟨hn, .inr ⟨fun k o h1 h2 => by omega, rfl⟩⟩
 | j + 1, t => by
  obtain ⟨i1, i2⟩ := pM hn hdst (m := m) (v := v) (j := j) (t := t)
  refine ⟨by simp only [jO]; rw [zDi]; exact i1, ?_⟩
  cases ho : ops[m + j]? with
  | none =>
   simp only [jO, ho, Option.bind_none]
   rcases i2 with ⟨k, o, h1, h2, h3, h4, h5, h6⟩ | ⟨h1, h2⟩
   ·refine .inl ⟨k, o, h1, by omega, h3, h4, fun k' o' g1 g2 g3 g4 => h5 k' o' g1 ?_ g3 g4, h6⟩
    rcases Nat.lt_or_ge k' (m + j) with h | h
    ·exact h
    ·obtain rfl : k' = m + j := by omega
     rw [ho] at g3; cases g3
   ·refine .inr ⟨fun k o g1 g2 g3 => ?_, h2⟩
    rcases Nat.lt_or_ge k (m + j) with h | h
    ·exact h1 k o g1 h g3
    ·obtain rfl : k = m + j := by omega
     rw [ho] at g3; cases g3
  | some o =>
   simp only [jO, ho, Option.bind_some]
   cases hd : o.dst with
   | none =>
    rcases i2 with ⟨k, o2, h1, h2, h3, h4, h5, h6⟩ | ⟨h1, h2⟩
    ·refine .inl ⟨k, o2, h1, by omega, h3, h4, fun k' o' g1 g2 g3 g4 => h5 k' o' g1 ?_ g3 g4, h6⟩
     rcases Nat.lt_or_ge k' (m + j) with h | h
     ·exact h
     ·obtain rfl : k' = m + j := by omega
      rw [ho] at g3; simp only [Option.some.injEq] at g3; subst g3; rw [hd] at g4; cases g4
    ·refine .inr ⟨fun k o2 g1 g2 g3 => ?_, h2⟩
     rcases Nat.lt_or_ge k (m + j) with h | h
     ·exact h1 k o2 g1 h g3
     ·obtain rfl : k = m + j := by omega
      rw [ho] at g3; simp only [Option.some.injEq] at g3; subst g3; rw [hd]; simp
   | some d =>
    have hdn := hdst _ o d ho hd
    rw [zHw (by omega)]
    by_cases ht : t = d
    ·subst ht
     exact .inl ⟨m + j, o, by omega, by omega, ho, hd, fun k' o' g1 g2 _ _ => by omega, by simp⟩
    ·simp only [if_neg ht]
     rcases i2 with ⟨k, o2, h1, h2, h3, h4, h5, h6⟩ | ⟨h1, h2⟩
     ·refine .inl ⟨k, o2, h1, by omega, h3, h4, fun k' o' g1 g2 g3 g4 => h5 k' o' g1 ?_ g3 g4, h6⟩
      rcases Nat.lt_or_ge k' (m + j) with h | h
      ·exact h
      ·obtain rfl : k' = m + j := by omega
       rw [ho] at g3; simp only [Option.some.injEq] at g3; subst g3; rw [hd] at g4; exact absurd (by simpa using g4.symm) ht
     ·refine .inr ⟨fun k o2 g1 g2 g3 => ?_, h2⟩
      rcases Nat.lt_or_ge k (m + j) with h | h
      ·exact h1 k o2 g1 h g3
      ·obtain rfl : k = m + j := by omega
       rw [ho] at g3; simp only [Option.some.injEq] at g3; subst g3; rw [hd]; simpa using fun e => ht e.symm
end
end Go.Proofs.Ytlkjnlfddadlmaa.V
namespace Go.Proofs.Ytlkjnlfddadlmaa.V
open Go.RowKit
section
variable {cx : Ctx} {f : Nat} {w0 : World} {E0 : Nat → Prop} {P : Nat → Nat → Prop} {R : Nat → Prop} {ea : List EA} {w w' : World} {S : SV} {tmps : Array Value} {Pr : Program} {a : Act} {call : zW}
theorem zHd {o : Oper} (h3 : uJ o.op = true) {ρ ρ' : Operand → Value} (h : ∀ x ∈ o.op.operands.toList, ρ x = ρ' x) : execOp ρ o = execOp ρ' o := by
 cases ho : o.op with
 | move x => rw [ho] at h; simp only [execOp, ho, h x (by simp [Op.operands])]
 | fieldAddr e x i => rw [ho] at h; simp only [execOp, ho, h x (by simp [Op.operands])]
 | indexAddr e x i => rw [ho] at h; simp only [execOp, ho, h x (by simp [Op.operands]), h i (by simp [Op.operands])]
 | nilCheck x => rw [ho] at h; simp only [execOp, ho, h x (by simp [Op.operands])]
 | _ => rw [ho] at h3; simp [uJ] at h3
theorem zQ4 {a b : Act} {x : Operand} (h : ∀ t, x = .tmp t → a.tmps[t]? = b.tmps[t]?) : a.eval x = b.eval x := by
 cases x with
 | tmp t => simp only [Act.eval, Array.getD_eq_getD_getElem?, h t rfl]
 | _ => rfl
theorem zAd (hty : jQ Pr cx.ty) {n : Nat} {ops : Array Oper} {o : Oper} {Su Su' : SU} {t : Nat} {x y : Operand} (hat : At cx f w0 E0 P R ea n Su a w) (ho : o.op = .store t x y) (hg : o.guard = none) (hd : o.dst = none) (hq : stepOp cx f call Su ops o = some Su') :
  ∃ w' b i vs, At cx f w0 E0 P R ea n Su' a w' ∧ a.eval x = .pointer (some ⟨b, i, none⟩) ∧ tK Pr a o w w' b i vs := by
 obtain ⟨S, hr, rfl, hdf, hsz⟩ := hat
 unfold stepOp at hq
 simp only [y6, hg, ho] at hq
 cases hv : pK cx f (V.erS S) t x y with
 | none => simp [hv] at hq
 | some r =>
  simp only [hv, Option.bind_some, wY, hd, Option.some.injEq] at hq
  subst hq
  obtain ⟨w', S2, b, i, vs, e1, e2, e3, e4⟩ := zEa hty hr rfl ho hv
  exact ⟨w', b, i, vs, ⟨S2, e2, e1, hdf, hsz⟩, e3, e4⟩
theorem zW4 {n : Nat} {Su : SU} (hat : At cx f w0 E0 P R ea n Su a w) : ∃ S, Rel (zB cx f) w0 E0 P R ea w S a.tmps ∧ ∀ x r, zA5 (Su.s x) = some r → ∃ (ad : Addr) (off : Nat), a.eval (.tmp x) = .pointer (some ⟨ad.block, ad.off + off, none⟩) ∧ ad.block ∈ zO S ea r := by
 obtain ⟨S, hr, rfl, hdf, hsz⟩ := hat
 refine ⟨S, hr, fun x r hx => ?_⟩
 have hop : ∃ p off, opv cx f (V.erS S) 0 (.tmp x) = some (.c (.ptr () r p off)) := by
  unfold zA5 at hx
  split at hx
  ·next q r' p off he =>
   simp only [Option.some.injEq] at hx; subst hx
   refine ⟨p, off, ?_⟩
   simp only [opv, he]
   cases zB cx f x <;> rfl
  ·cases hx
 obtain ⟨p, off, hop⟩ := hop
 obtain ⟨cG, h1, h2, h3, h4⟩ := kO hr rfl hop
 obtain ⟨v, rfl⟩ := nL h1
 simp only [okC] at h3
 obtain ⟨ad, had, rfl⟩ := h3
 exact ⟨ad, off, by rw [h2]; rfl, zKv had⟩
theorem zVq (hty : jQ Pr cx.ty) {id : Nat} {ops : Array Oper} {T : List Nat} {m n : Nat} (hd : DrawOk cx f id ops T) (ht : TailOk cx f id ops T m) (hdst : ∀ (k : Nat) (o : Oper) (d : Nat), ops[k]? = some o → o.dst = some d → d < n)
  {S : Nat → SU} (hS : ∀ k o, m ≤ k → ops[k]? = some o → stepOp cx f call (S k) ops o = some (S (k + 1))) (hck : iM (S (ops.size - 2)) ops = true)
  {Q : Exit → Act → World → Prop} (hQ : ∀ a w, At cx f w0 E0 P R ea n (S ops.size) a w → Q .normal a w) (hat : At cx f w0 E0 P R ea n (S m) a w) :
  ∀ (fuel : Nat) (listed : Array Bool), left ops.size listed ≤ fuel → listed.size = ops.size → (∀ k, listed.getD k false = decide (k < m)) → wpAny Pr .any ops Q fuel listed a w := by
 have hsz := ht.sz
 have hpos := ht.pos
 -- what is reckoned
 have runs : ∀ j, m + j ≤ ops.size - 2 → ∃ v : Nat → Value, At cx f w0 E0 P R ea n (S (m + j)) (jO ops m v a j) w ∧ ∀ i, i < j → ∀ o, ops[m + i]? = some o → ∀ w', (execOp (jO ops m v a i).eval o).run Pr w' = .ok (.value (v (m + i))) w' := by
  intro j
  induction j with
  | zero => intro _; exact ⟨fun _ => undef, hat, fun i hi => by omega⟩
  | succ j ih =>
   intro hj
   obtain ⟨v, h1, h2⟩ := ih (by omega)
   have ho : ops[m + j]? = some (ops[m + j]'(by omega)) := Array.getElem?_eq_getElem (by omega)
   obtain ⟨hp, d, hdd⟩ := ht.pur (m + j) _ (by omega) (by omega) ho
   obtain ⟨u, h3, h4⟩ := zNe hty h1 hp (ht.gd _ _ (by omega) ho) (fun d hd' => hdst _ _ d ho hd') (hS _ _ (by omega) ho)
   have hc : ∀ i, i ≤ j → jO ops m (fun k => if k = m + j then u else v k) a i = jO ops m v a i := fun i hi => iQ fun k hk => by rw [if_neg (by omega)]
   refine ⟨fun k => if k = m + j then u else v k, ?_, fun i hi o ho' w' => ?_⟩
   ·simp only [jO, hc j (Nat.le_refl _), ho, Option.bind_some, if_true]
    exact h3
   ·rw [hc i (by omega)]
    simp only
    rcases Nat.lt_or_ge i j with h | h
    ·rw [if_neg (by omega)]; exact h2 i h o ho' w'
    ·obtain rfl : i = j := by omega
     rw [ho] at ho'; simp only [Option.some.injEq] at ho'; subst ho'
     rw [if_pos rfl]; exact h4 w'
 obtain ⟨q, hq⟩ : ∃ q, m + q = ops.size - 2 := ⟨ops.size - 2 - m, by omega⟩
 obtain ⟨v, hA, hrun⟩ := runs q (by omega)
 rw [hq] at hA
 obtain ⟨p, hp⟩ : ∃ p, p = ops.size - 2 := ⟨_, rfl⟩
 rw [← hp] at hA hck hq
 have hps : p + 2 = ops.size := by omega
 have o1e : ops[p]? = some (ops[p]'(by omega)) := Array.getElem?_eq_getElem (by omega)
 have o2e : ops[p + 1]? = some (ops[p + 1]'(by omega)) := Array.getElem?_eq_getElem (by omega)
 generalize ops[p]'(by omega) = o1 at o1e
 generalize ops[p + 1]'(by omega) = o2 at o2e
 obtain ⟨d1, t1, x1, y1, e1⟩ := ht.sto p o1 (by omega) o1e
 obtain ⟨d2, t2, x2, y2, e2⟩ := ht.sto (p + 1) o2 (by omega) o2e
 obtain ⟨w1, b1, i1, vs1, hA1, p1, s1, s1c, s1r⟩ := zAd hty hA e1 (ht.gd p o1 (by omega) o1e) d1 (hS p o1 (by omega) o1e)
 obtain ⟨w2, b2, i2, vs2, hA2, p2, s2, s2c, s2r⟩ := zAd hty hA1 e2 (ht.gd (p + 1) o2 (by omega) o2e) d2 (hS (p + 1) o2 (by omega) o2e)
 have hne : b1 ≠ b2 := by
  obtain ⟨SG, hr, hb⟩ := zW4 hA
  simp only [iM, show ops.size - 2 = p by omega, show ops.size - 1 = p + 1 by omega, o1e, o2e, e1, e2, zDt] at hck
  split at hck
  ·next r r' hr1 hr2 =>
   obtain ⟨ad, off, g1, g2⟩ := hb x1 r hr1
   obtain ⟨ad', off', g3, g4⟩ := hb x2 r' hr2
   rw [g1] at p1; rw [g3] at p2
   simp only [Value.pointer.injEq, Option.some.injEq, Addr.mk.injEq] at p1 p2
   intro e
   have := of_decide_eq_true hck
   exact this (hr.dis r r' ad.block g2 (by rw [p1.1, e, ← p2.1]; exact g4))
  ·cases hck
 have hsA : a.tmps.size = n := by obtain ⟨_, _, _, _, h⟩ := hat; exact h
 -- which temporaries an operation of the end sees
 have sees : ∀ (l : Nat → Bool), m4 ops l → ∀ i o, m ≤ i → i ≤ p + 1 → ops[i]? = some o → l i = false → (∀ e ∈ o.after, Region.binds .any e = true → l e.on = true) →
   ∀ a' : Act, (∀ k ok t, m ≤ k → k < p → ops[k]? = some ok → ok.dst = some t → l k = true → a'.tmps[t]? = some (v k)) → (∀ t, (∀ k ok, m ≤ k → k < p → ops[k]? = some ok → ok.dst = some t → l k = false) → a'.tmps[t]? = a.tmps[t]?) →
   ∀ j, m + j = min i p → ∀ x ∈ o.op.operands.toList, a'.eval x = (jO ops m v a j).eval x := by
  intro l hcl i o hmi hip ho hli hrd a' ha1 ha2 j hj x hx
  refine zQ4 fun t hxt => ?_
  subst hxt
  have hlook : t ∈ o.looksAt ops := wB hx
  rcases (pM hsA hdst (m := m) (v := v) (j := j) (t := t)).2 with ⟨k, ok, g1, g2, g3, g4, g5, g6⟩ | ⟨g1, g2⟩
  ·rw [g6]
   refine ha1 k ok t g1 (by omega) g3 g4 ?_
   cases hb : (T.getD i 0).testBit k with
   | true => exact (hd.closed hcl (i + 1) i o (by omega) ho hrd k hb).1
   | false => exact absurd hlook ((Oper.apart_spec (hd.apart k i ok o (by omega) g3 ho hb)).1 t g4)
  ·rw [g2]
   refine ha2 t fun k ok h1 h2 h3 h4 => ?_
   rcases Nat.lt_trichotomy k i with h | h | h
   ·exact absurd h4 (g1 k ok h1 (by omega) h3)
   ·subst h; exact hli
   ·cases hl : l k with
    | false => rfl
    | true =>
     cases hb : (T.getD k 0).testBit i with
     | true =>
      have := (hd.closed hcl (k + 1) k ok (by omega) h3 (fun e he hb' => hcl k ok hl h3 e he hb') i hb).1
      rw [hli] at this; cases this
     | false => exact absurd hlook ((Oper.apart_spec (hd.apart i k o ok h ho h3 hb)).2.2 t h4)
 have key : ∀ (fuel : Nat) (listed : Array Bool) (a' : Act) (w' : World), left ops.size listed ≤ fuel → listed.size = ops.size → (∀ k, k < m → listed.getD k false = true) → m4 ops (fun k => listed.getD k false) →
   a'.defers = a.defers → a'.tmps.size = n → (∀ k ok t, m ≤ k → k < p → ops[k]? = some ok → ok.dst = some t → listed.getD k false = true → a'.tmps[t]? = some (v k)) →
   (∀ t, (∀ k ok, m ≤ k → k < p → ops[k]? = some ok → ok.dst = some t → listed.getD k false = false) → a'.tmps[t]? = a.tmps[t]?) →
   w' = (fun u : World => if listed.getD (p + 1) false = true then u.setCells b2 i2 vs2 else u) (if listed.getD p false = true then w.setCells b1 i1 vs1 else w) → wpAny Pr .any ops Q fuel listed a' w' := by
  intro fuel
  induction fuel with
  | zero =>
   intro listed a' w' hleft hls hlo hcl hdf hsz' ha1 ha2 hw
   have hall : ∀ k, k < ops.size → listed.getD k false = true := by
    intro k hk
    have h0 : left ops.size listed = 0 := by omega
    simp only [left, List.length_eq_zero_iff, List.filter_eq_nil_iff, List.mem_range] at h0
    simpa using h0 k hk
   refine ⟨?_, ?_⟩
   ·rw [List.eq_nil_iff_forall_not_mem]
    intro k hk
    obtain ⟨h1, o, ho, _⟩ := mem_ready.1 hk
    have hlt := (Array.getElem?_eq_some_iff.1 ho).1
    have := hall k hlt
    have h2 : k < listed.size := by omega
    simp [h2] at h1 this
    rw [h1] at this; cases this
   ·have hfin : a' = jO ops m v a q ∧ w' = w2 := by
     refine ⟨?_, ?_⟩
     ·have hdA : (jO ops m v a q).defers = a.defers := by
       have : ∀ j, (jO ops m v a j).defers = a.defers := by
        intro j
        induction j with
        | zero => rfl
        | succ j ih => simp only [jO]; rw [mP]; exact ih
       exact this q
      have htm : a'.tmps = (jO ops m v a q).tmps := by
       refine Array.ext_getElem? fun t => ?_
       rcases (pM hsA hdst (m := m) (v := v) (j := q) (t := t)).2 with ⟨k, ok, g1, g2, g3, g4, g5, g6⟩ | ⟨g1, g2⟩
       ·rw [g6]; exact ha1 k ok t g1 (by omega) g3 g4 (hall k (by omega))
       ·rw [g2]; exact ha2 t fun k ok h1 h2 h3 h4 => absurd h4 (g1 k ok h1 (by omega) h3)
      cases a' with
      | mk t1 d1 => 
       cases hb : jO ops m v a q with
       | mk t2 d2 =>
        rw [hb] at hdA htm
        simp only at hdA htm hdf
        rw [htm, hdf, hdA]
     ·rw [hw, s2, s1]
      simp only [hall p (by omega), hall (p + 1) (by omega), if_true]
    rw [hfin.1, hfin.2]
    refine hQ _ _ ?_
    rw [show ops.size = p + 1 + 1 by omega]; exact hA2
  | succ fuel ih =>
   intro listed a' w' hleft hls hlo hcl hdf hsz' ha1 ha2 hw
   refine ⟨fun hnil => ?_, fun i hi => ?_⟩
   ·-- all are listed
    have hall : ∀ k, k < ops.size → listed.getD k false = true := by
     intro k hk
     cases hl : listed.getD k false with
     | true => rfl
     | false =>
      exfalso
      have : ∀ M, ∀ k, k < M → k < ops.size → listed.getD k false = false → False := by
       intro M
       induction M with
       | zero => intro k hk; omega
       | succ M ihm =>
        intro k hkm hk hlk
        have ho : ops[k]? = some ops[k] := Array.getElem?_eq_getElem hk
        have hr : k ∈ Region.ready .any ops listed := by
         refine mem_ready.2 ⟨?_, _, ho, fun e he hb => ?_⟩
         ·have h2 : k < listed.size := by omega
          simp [h2] at hlk ⊢; exact hlk
         ·cases hle : listed.getD e.on false with
          | true => rfl
          | false =>
           have hlt := hd.on k _ ho e he hb
           exact (ihm e.on (by omega) (by omega) hle).elim
        rw [hnil] at hr; cases hr
      exact this (k + 1) k (by omega) hk hl
    have hdA : (jO ops m v a q).defers = a.defers := by
     have : ∀ j, (jO ops m v a j).defers = a.defers := by
      intro j
      induction j with
      | zero => rfl
      | succ j ih => simp only [jO]; rw [mP]; exact ih
     exact this q
    have htm : a'.tmps = (jO ops m v a q).tmps := by
     refine Array.ext_getElem? fun t => ?_
     rcases (pM hsA hdst (m := m) (v := v) (j := q) (t := t)).2 with ⟨k, ok, g1, g2, g3, g4, g5, g6⟩ | ⟨g1, g2⟩
     ·rw [g6]; exact ha1 k ok t g1 (by omega) g3 g4 (hall k (by omega))
     ·rw [g2]; exact ha2 t fun k ok h1 h2 h3 h4 => absurd h4 (g1 k ok h1 (by omega) h3)
    have e3 : a' = jO ops m v a q := by
     cases a' with
     | mk t1 d1 =>
      cases hb : jO ops m v a q with
      | mk t2 d2 =>
       rw [hb] at hdA htm
       simp only at hdA htm hdf
       rw [htm, hdf, hdA]
    have e4 : w' = w2 := by
     rw [hw, s2, s1]
     simp only [hall p (by omega), hall (p + 1) (by omega), if_true]
    rw [e3, e4]
    refine hQ _ _ ?_
    rw [show ops.size = p + 1 + 1 by omega]; exact hA2
   ·obtain ⟨h1, o, ho, hrd⟩ := mem_ready.1 hi
    have hlt := (Array.getElem?_eq_some_iff.1 ho).1
    have hLi : listed.getD i false = false := by
     have h2 : i < listed.size := by omega
     simp [h2] at h1 ⊢; exact h1
    have hmi : m ≤ i := by
     rcases Nat.lt_or_ge i m with h | h
     ·rw [hlo i h] at hLi; cases hLi
     ·exact h
    have hset : ∀ k, (listed.setIfInBounds i true).getD k false = jT (fun k => listed.getD k false) i k := by
     intro k
     by_cases e : k = i
     ·subst e
      have h2 : k < listed.size := by omega
      simp [jT, h2]
     ·rw [getD_set_ne false (Ne.symm e)]; simp [jT, e]
    have hset1 : (listed.setIfInBounds i true).getD i false = true := by rw [hset]; simp [jT]
    have hset2 : ∀ k, k ≠ i → (listed.setIfInBounds i true).getD k false = listed.getD k false := fun k hk => by rw [hset]; simp [jT, hk]
    have hcl' : m4 ops (fun k => (listed.setIfInBounds i true).getD k false) := by
     intro k o' hk ho' e he hb
     simp only [hset, jT, Bool.or_eq_true, beq_iff_eq] at hk ⊢
     right
     rcases hk with rfl | hk
     ·rw [ho] at ho'; simp only [Option.some.injEq] at ho'; subst ho'; exact hrd e he hb
     ·exact hcl k o' hk ho' e he hb
    have hleft' : left ops.size (listed.setIfInBounds i true) ≤ fuel := by
     have := zJ0 hlt hls hLi; omega
    have hlo' : ∀ k, k < m → (listed.setIfInBounds i true).getD k false = true := fun k hk => by rw [hset2 k (by omega)]; exact hlo k hk
    have hgd := ht.gd i o hmi ho
    have hwant : Region.wanted o (yielded ops a'.tmps) = true := by simp only [Region.wanted, hgd]
    simp only [wpOp, ho]
    rw [if_pos hwant]
    refine .inl ?_
    have hsee := sees (fun k => listed.getD k false) hcl i o hmi (by omega) ho hLi hrd a' ha1 ha2
    rcases Nat.lt_trichotomy i p with hip | hip | hip
    ·-- a place is reckoned
     obtain ⟨hpu, d, hdd⟩ := ht.pur i o hmi (by omega) ho
     obtain ⟨j, rfl⟩ : ∃ j, i = m + j := ⟨i - m, by omega⟩
     have hex := hrun j (by omega) o ho w'
     rw [← zHd hpu (hsee j (by omega))] at hex
     refine cZ hex ?_
     rw [hdd]
     have hdn := hdst _ o d ho hdd
     refine ih _ _ _ hleft' (by simpa using hls) hlo' hcl' (by rw [mP]; exact hdf) (by rw [zDi]; exact hsz') (fun k ok t g1 g2 g3 g4 g5 => ?_) (fun t g => ?_) ?_
     ·rw [zHw (by omega)]
      by_cases hk : k = m + j
      ·subst hk
       rw [ho] at g3; simp only [Option.some.injEq] at g3; subst g3
       rw [hdd] at g4; simp only [Option.some.injEq] at g4; subst g4
       simp
      ·have htd : t ≠ d := fun e => by
        subst e
        rcases hd.dst k (m + j) ok o t hk g3 ho g4 hdd with h | h
        ·rw [ht.no k g1 (by omega)] at h; cases h
        ·rw [ht.no (m + j) hmi hlt] at h; cases h
       rw [if_neg htd]
       rw [hset2 k hk] at g5
       exact ha1 k ok t g1 g2 g3 g4 g5
     ·have htd : t ≠ d := fun e => by
       subst e
       have := g (m + j) o hmi hip ho hdd
       rw [hset1] at this; cases this
      rw [zHw (by omega), if_neg htd]
      refine ha2 t fun k ok g1 g2 g3 g4 => ?_
      have h5 := g k ok g1 g2 g3 g4
      by_cases hk : k = m + j
      ·subst hk; exact hLi
      ·rwa [hset2 k hk] at h5
     ·rw [hset2 p (by omega), hset2 (p + 1) (by omega)]; exact hw
    ·-- the first store
     subst hip
     rw [o1e] at ho; simp only [Option.some.injEq] at ho; subst ho
     have hj := hsee q (by omega)
     have hexec : execOp a'.eval o1 = execOp (jO ops m v a q).eval o1 := nM (by rw [e1]; rfl) hj
     have hcond : ∀ j, j < vs1.length → (w'.cell? ⟨b1, i1 + j, none⟩).isSome = true ∧ w'.frozen? ⟨b1, i1 + j, none⟩ = false := by
      intro j hj
      have := s1c j hj
      rw [hw]
      simp only [hLi, Bool.false_eq_true, if_false]
      split
      ·rw [nD (Ne.symm hne), vA]; exact this
      ·exact this
     have hr := s1r w' hcond
     rw [← hexec] at hr
     refine zEg hr ?_
     rw [d1]
     refine ih _ _ _ hleft' (by simpa using hls) hlo' hcl' hdf hsz' (fun k ok t g1 g2 g3 g4 g5 => ha1 k ok t g1 g2 g3 g4 (by rwa [hset2 k (by omega)] at g5)) (fun t g => ha2 t fun k ok g1 g2 g3 g4 => by have := g k ok g1 g2 g3 g4; rwa [hset2 k (by omega)] at this) ?_
     rw [hset1, hset2 (i + 1) (by omega), hw]
     simp only [hLi, Bool.false_eq_true, if_false, if_true]
     split
     ·exact rV (Ne.symm hne) vs2 i2 vs1 i1 w
     ·rfl
    ·-- the second one
     obtain rfl : i = p + 1 := by omega
     rw [o2e] at ho; simp only [Option.some.injEq] at ho; subst ho
     have hj := hsee q (by omega)
     have hexec : execOp a'.eval o2 = execOp (jO ops m v a q).eval o2 := nM (by rw [e2]; rfl) hj
     have hcond : ∀ j, j < vs2.length → (w'.cell? ⟨b2, i2 + j, none⟩).isSome = true ∧ w'.frozen? ⟨b2, i2 + j, none⟩ = false := by
      intro j hj
      have := s2c j hj
      rw [s1, nD hne, vA] at this
      rw [hw]
      simp only [hLi, Bool.false_eq_true, if_false]
      split
      ·rw [nD hne, vA]; exact this
      ·exact this
     have hr := s2r w' hcond
     rw [← hexec] at hr
     refine zEg hr ?_
     rw [d2]
     refine ih _ _ _ hleft' (by simpa using hls) hlo' hcl' hdf hsz' (fun k ok t g1 g2 g3 g4 g5 => ha1 k ok t g1 g2 g3 g4 (by rwa [hset2 k (by omega)] at g5)) (fun t g => ha2 t fun k ok g1 g2 g3 g4 => by have := g k ok g1 g2 g3 g4; rwa [hset2 k (by omega)] at this) ?_
     rw [hset1, hset2 p (by omega), hw]
     simp only [hLi, Bool.false_eq_true, if_false, if_true]
 intro fuel listed hleft hls hl
 refine key fuel listed a w hleft hls (fun k hk => by rw [hl]; simp [hk]) (fun k o hk ho e he hb => ?_) rfl hsA (fun k ok t g1 g2 g3 g4 g5 => ?_) (fun t _ => rfl) ?_
 ·simp only [hl, decide_eq_true_eq] at hk ⊢
  have := hd.on k o ho e he hb
  omega
 ·rw [hl] at g5; simp only [decide_eq_true_eq] at g5; omega
 ·simp only [hl, show ¬ p < m by omega, show ¬ p + 1 < m by omega, decide_false, Bool.false_eq_true, if_false]
theorem At.drew {n : Nat} {Su : SU} (h : At cx f w0 E0 P R ea n Su a w) : At cx f w0 E0 P R ea n Su a w.drew := by
 obtain ⟨S, hr, h1, h2, h3⟩ := h
 exact ⟨S, hr.grow (Grow.drew w), h1, h2, h3⟩
theorem zD9 {id : Nat} {ops : Array Oper} : ∀ {l : List Oper} {k : Nat} {S0 S1 : SU}, stepsD cx f call id ops k l S0 = some S1 → ∃ S : Nat → SU, S k = S0 ∧ S (k + l.length) = S1 ∧ ∀ j o, l[j]? = some o → cR cx f call id ops (k + j) (S (k + j)) o = some (S (k + j + 1))
 | [], k, S0, S1, h => by
  simp only [stepsD, Option.some.injEq] at h
  exact ⟨fun _ => S0, rfl, by simp [h], by simp⟩
 | o :: l, k, S0, S1, h => by
  simp only [stepsD] at h
  cases hs : cR cx f call id ops k S0 o with
  | none => simp [hs] at h
  | some S' =>
   simp only [hs, Option.bind_some] at h
   obtain ⟨S, h1, h2, h3⟩ := zD9 h
   refine ⟨fun j => if j = k then S0 else S j, by simp, ?_, fun j o' hj => ?_⟩
   ·have : k + (o :: l).length ≠ k := by simp
    simp only [this, if_false]
    rw [← h2]; congr 1; simp; omega
   ·cases j with
    | zero =>
     simp only [List.getElem?_cons_zero, Option.some.injEq] at hj
     subst hj
     have : ¬ (k + 0 + 1 = k) := by omega
     simp only [Nat.add_zero, if_true, Nat.add_eq_left, Nat.succ_ne_self, if_false]
     rw [hs, h1]
    | succ j =>
     simp only [List.getElem?_cons_succ] at hj
     have e1 : ¬ (k + (j + 1) = k) := by omega
     have e2 : ¬ (k + (j + 1) + 1 = k) := by omega
     simp only [e1, e2, if_false]
     have := h3 j o' hj
     rw [show k + 1 + j = k + (j + 1) by omega] at this
     exact this
theorem zI7 (hty : jQ Pr cx.ty) {id : Nat} {ops : Array Oper} {T : List Nat} {S0 S1 : SU} {n : Nat} (hd : DrawOk cx f id ops T) (htl : ∀ m, cx.tl f id = some m → TailOk cx f id ops T m) (hstep : m7 cx f call Pr w0 E0 P R ea n) (hpure : zBc cx f w0 E0 P R ea n) (hdst : ∀ (k : Nat) (o : Oper) (d : Nat), ops[k]? = some o → o.dst = some d → d < n)
  (hq : stepsD cx f call id ops 0 ops.toList S0 = some S1) (hat : At cx f w0 E0 P R ea n S0 a w) {Q : Exit → Act → World → Prop} (hQ : ∀ a w, At cx f w0 E0 P R ea n S1 a w → Q .normal a w) : wpAny Pr .any ops Q ops.size (Array.replicate ops.size false) a { w with drawn := w.drawn + 1 } := by
 obtain ⟨S, h1, h2, h3⟩ := zD9 hq
 have h2 : S ops.size = S1 := by
  have : (0 : Nat) + ops.toList.length = ops.size := by simp
  rw [this] at h2; exact h2
 have h3 : ∀ k o, ops[k]? = some o → cR cx f call id ops k (S k) o = some (S (k + 1)) := by
  intro k o ho
  have := h3 k o (by simpa using ho)
  simpa using this
 have hrep : ∀ k, (Array.replicate ops.size false).getD k false = false := by
  intro k
  rcases Nat.lt_or_ge k ops.size with h | h <;> simp [h]
 have hleft0 : left ops.size (Array.replicate ops.size false) ≤ ops.size := by
  have := List.length_filter_le (fun i => !(Array.replicate ops.size false).getD i false) (List.range ops.size)
  simpa [left] using this
 -- where the end begins
 obtain ⟨m, hm, hlo, hhi⟩ : ∃ m, m ≤ ops.size ∧ (∀ k, k < m → nO cx f id k = false) ∧ (m < ops.size → TailOk cx f id ops T m ∧ ∀ k, m ≤ k → nO cx f id k = true) := by
  cases ht : cx.tl f id with
  | none => exact ⟨ops.size, Nat.le_refl _, fun k _ => by simp [nO, ht], fun h => absurd h (Nat.lt_irrefl _)⟩
  | some m =>
   have hk := htl m ht
   exact ⟨m, by have := hk.sz; omega, fun k hk => by simp [nO, ht]; omega, fun _ => ⟨hk, fun k hk => by simp [nO, ht]; omega⟩⟩
 obtain ⟨S', hS'⟩ : ∃ S' : Nat → SU, S' = fun k => if k ≤ m then S k else S m := ⟨_, rfl⟩
 have hSlo : ∀ k, k ≤ m → S' k = S k := fun k hk => by rw [hS']; exact if_pos hk
 have hShi : ∀ k, m ≤ k → S' k = S m := fun k hk => by
  rcases Nat.eq_or_lt_of_le hk with rfl | h
  ·exact hSlo _ (Nat.le_refl _)
  ·rw [hS']; exact if_neg (by omega)
 obtain ⟨eff, hT⟩ := effs (cx := cx) (f := f) (call := call) id ops S' (fun k => decide (m ≤ k)) (fun k hk => by
  have := of_decide_eq_true hk
  rw [hShi k this, hShi (k + 1) (by omega)]) (fun k o ho hk => by
  have := of_decide_eq_false hk
  have h4 := h3 k o ho
  unfold cR at h4
  rw [hlo k (by omega)] at h4
  rw [hSlo k (by omega), hSlo (k + 1) (by omega)]
  simpa using h4)
 obtain ⟨c, k1, k2, k3, k4⟩ := zC2 (fun k => cx.ord f id k) m m 0 (by omega)
 refine zS4 (m := m) hd hstep hpure hdst hm (fun h => ⟨(hhi h).1.pos, (hhi h).1.ord, (hhi h).1.pnd, (hhi h).1.pal⟩) (Sn := S m) (fun h a w ha => hQ a w (by rw [← h2, ← h]; exact ha)) (fun h fuel listed a w g1 g2 g3 g4 => ?_) ops.size S' eff (fun k => decide (m ≤ k)) _ c (S' 0) a _ hT (hSlo m (Nat.le_refl _)) hleft0 (by simp) k2 (fun h => ?_) (fun k hk => by simp [hk]) (fun k hk h => by simp at h; omega) (fun k _ => hrep k) (fun k hk _ => k3 k (Nat.zero_le k) hk) k4 ?_ (by rw [hSlo 0 (Nat.zero_le _), h1]; exact hat.drew) ?_
 ·obtain ⟨ht, hin⟩ := hhi h
  have hsz := ht.sz
  have hst : ∀ k o, m ≤ k → ops[k]? = some o → stepOp cx f call (S k) ops o = some (S (k + 1)) ∧ (k + 2 = ops.size → iM (S k) ops = true) := by
   intro k o hk ho
   have h4 := h3 k o ho
   unfold cR at h4
   rw [hin k hk, if_pos rfl] at h4
   split at h4
   ·cases h4
   ·next hc =>
    refine ⟨h4, fun he => ?_⟩
    cases h5 : iM (S k) ops with
    | true => rfl
    | false => rw [h5] at hc; exact absurd (by simp [he]) hc
  refine zVq hty hd ht hdst (fun k o hk ho => (hst k o hk ho).1) ((hst (ops.size - 2) _ (by omega) (Array.getElem?_eq_getElem (by omega))).2 (by omega)) (fun a w ha => hQ a w (by rw [← h2]; exact ha)) g4 fuel listed g1 g2 g3
 ·rcases Nat.lt_or_ge c m with h5 | h5
  ·exact h5
  ·exfalso
   have ht := (hhi h).1
   have := k3 (m - 1) (Nat.zero_le _) (by have := ht.pos; omega)
   rw [ht.ord] at this; cases this
 ·intro k o hk; have hk' : (Array.replicate ops.size false).getD k false = true := hk; rw [hrep k] at hk'; cases hk'
 ·refine (s9 (fun k _ _ hk => ?_)).symm
  rw [hrep k] at hk; cases hk
theorem zV8 {id : Nat} {ops : Array Oper} {π T : List Nat} {S0 S1 : SU} {n : Nat} (hm : Pr.follows .mixedOrders = true) (hty : jQ Pr cx.ty) (hπ : π.isEmpty = true ∨ zHu π ops.size = true) (hd : DrawOk cx f id (xX π ops) T) (htl : ∀ m, cx.tl f id = some m → TailOk cx f id (xX π ops) T m) (hstep : m7 cx f call Pr w0 E0 P R ea n) (hpure : zBc cx f w0 E0 P R ea n) (hdst : ∀ (k : Nat) (o : Oper) (d : Nat), ops[k]? = some o → o.dst = some d → d < n)
  (hq : stepsD cx f call id (xX π ops) 0 (xX π ops).toList S0 = some S1) (hat : At cx f w0 E0 P R ea n S0 a w) {Q : Exit → Act → World → Prop} (hQ : ∀ a w, At cx f w0 E0 P R ea n S1 a w → Q .normal a w) : (Code.region id ops true).wp Pr Q a w := by
 cases he : π.isEmpty with
 | true =>
  have e : xX π ops = ops := by simp only [xX, he, if_true]
  rw [e] at hd hq htl
  exact wp_region_any hm (zI7 hty hd htl hstep hpure hdst hq hat hQ)
 | false =>
  have hp := zKs (hπ.resolve_left (by rw [he]; simp))
  have hsz : (xX π ops).size = ops.size := by rw [zDh he, hp.len]
  have := zI7 hty hd htl hstep hpure (fun k o d ho hdo => by
   obtain ⟨i, o0, _, h2, rfl⟩ := zUk hp he ho
   exact hdst i o0 d h2 hdo) hq hat hQ
  rw [hsz] at this
  exact zNd hp he hm this
end
end Go.Proofs.Ytlkjnlfddadlmaa.V
namespace Go.Proofs.Ytlkjnlfddadlmaa.V
open Go.RowKit
section
variable {cx : Ctx} {f : Nat} {w0 : World} {E0 : Nat → Prop} {P : Nat → Nat → Prop} {R : Nat → Prop} {ea : List EA} {w w' : World} {a : Act} {call : zW} {Pr : Program}
theorem zJ8 {c : Code} {Q : Exit → Act → World → Prop} (I : Nat → Act → World → Prop) (h0 : ∀ a w, ¬ I 0 a w) (round : ∀ n a w, I (n + 1) a w → c.wp Pr (Exit.then (I n) Q) a w) {n : Nat} (h : I n a w) : (Code.loop c).wp Pr Q a w := by
 intro b k cs
 have key : ∀ n a w, I n a w → ∃ e a' w', Q e a' w' ∧ Arrives Pr (lone (b.at a (.code c :: .inLoop c :: k)) cs w) b k cs e a' w' := by
  intro n
  induction n with
  | zero => intro a w hI; exact absurd hI (h0 a w)
  | succ n ih =>
   intro a w hI
   obtain ⟨e, a₁, w₁, hq, harr⟩ := round n a w hI b (.inLoop c :: k) cs
   cases e with
   | normal =>
    obtain ⟨e₂, a₂, w₂, hq₂, harr₂⟩ := ih a₁ w₁ hq
    exact ⟨e₂, a₂, w₂, hq₂, .of_steps (Steps.trans harr (.one step_inLoop)) harr₂⟩
   | exit id => exact ⟨_, a₁, w₁, hq, .pass (x := .inLoop c) rfl (fun _ _ => .inl (by simp)) harr⟩
   | goto l => exact ⟨_, a₁, w₁, hq, .pass (x := .inLoop c) rfl (fun _ _ => .inl (by simp)) harr⟩
   | ret => exact ⟨_, a₁, w₁, hq, .pass (x := .inLoop c) rfl (fun _ _ => .inl (by simp)) harr⟩
   | panic ch => exact ⟨_, a₁, w₁, hq, .pass (x := .inLoop c) rfl (fun _ _ => .inl (by simp)) harr⟩
   | outgrown => exact ⟨_, a₁, w₁, hq, .pass (x := .inLoop c) rfl (fun _ _ => .inl (by simp)) harr⟩
 obtain ⟨e, a', w', hq, harr⟩ := key n a w h
 exact ⟨e, a', w', hq, .of_steps (.one step_loop) harr⟩
theorem zA4 {n : Nat} : ∀ {l : List Oper} {Su : SU}, At cx f w0 E0 P R ea n Su a w → At cx f w0 E0 P R ea n (zDf cx f Su l) a w
 | [], Su, h => h
 | o :: os, Su, h => by
  have key : ∀ d, At cx f w0 E0 P R ea n { kill (.sl d) [] Su with s := upd (kill (.sl d) [] Su).s d .undef } a w := by
   intro d
   obtain ⟨S, hr, rfl, h2, h3⟩ := h
   have h5 := (hr.kill (.sl d) []).clear (sZ d)
   refine ⟨_, h5, ?_, h2, h3⟩
   have hk : kill (.sl d) [] (V.erS S) = V.erS (kill (.sl d) [] S) := lE er0 S (.sl d) []
   rw [hk]
   simp only [V.erS, jW]
   congr 1
   funext i
   by_cases e : i = d <;> simp [upd, e, zV]
  simp only [zDf]
  cases o.dst with
  | none => exact zA4 h
  | some d =>
   simp only
   split
   ·exact zA4 (key _)
   ·exact zA4 h
theorem zAf {n : Nat} (hstep : m7 cx f call Pr w0 E0 P R ea n) {ops : Array Oper} (hdst : ∀ (k : Nat) (o : Oper) (d : Nat), ops[k]? = some o → o.dst = some d → d < n) {Q : Exit → Act → World → Prop} {S1 : SU}
  (hQ : ∀ a w, At cx f w0 E0 P R ea n S1 a w → Q .normal a w) : ∀ {m k : Nat} {Su : SU} {a : Act} {w : World}, k + m = ops.size → At cx f w0 E0 P R ea n Su a w → stepOps cx f call ops (ops.toList.drop k) Su = some S1 → wpOps Pr ops Q (List.range' k m) a w
 | 0, k, Su, a, w, hk, hat, hq => by
  rw [List.drop_eq_nil_of_le (by simp; omega)] at hq
  simp only [stepOps, Option.some.injEq] at hq
  subst hq
  exact hQ a w hat
 | m + 1, k, Su, a, w, hk, hat, hq => by
  have hlt : k < ops.size := by omega
  rw [List.drop_eq_getElem_cons (by simpa using hlt)] at hq
  simp only [stepOps, Array.getElem_toList] at hq
  cases hs : stepOp cx f call Su ops (ops[k]'hlt) with
  | none => simp [hs] at hq
  | some S' =>
   simp only [hs, Option.bind_some] at hq
   have ho : ops[k]? = some (ops[k]'hlt) := Array.getElem?_eq_getElem hlt
   rw [List.range'_succ, wpOps_cons]
   exact hstep ops _ k Su S' a w hat ho (fun d hd => hdst k _ d ho hd) hs _ Q (fun a' w' hat' => zAf hstep hdst hQ (by omega) hat' hq)
def vH (cx : Ctx) (f n : Nat) : Code → Bool
 | .region id ops draw => ops.toList.all (fun o => match o.dst with | some d => decide (d < n) | none => true) && (!draw || (((cx.prm f id).isEmpty || zHu (cx.prm f id) ops.size) && zMp cx f id (xX (cx.prm f id) ops) (befT (xX (cx.prm f id) ops).toList []) && zNu cx f id (xX (cx.prm f id) ops).size && zNv cx f id (xX (cx.prm f id) ops) (befT (xX (cx.prm f id) ops).toList [])))
 | .seq a b => vH cx f n a && vH cx f n b
 | .cond _ a b => vH cx f n a && vH cx f n b
 | .block _ c => vH cx f n c
 | .loop c => vH cx f n c
 | _ => true
def zMs : Ex → Exit
 | .nrm => .normal
 | .exit id => .exit id
 | .ret => .ret
theorem zWf {n lf : Nat} (hm : Pr.follows .mixedOrders = true) (hty : jQ Pr cx.ty) (hstep : m7 cx f call Pr w0 E0 P R ea n) (hpure : zBc cx f w0 E0 P R ea n) : ∀ (c : Code) {Su Su' : SU} {ex : Ex} {a : Act} {w : World} {Q : Exit → Act → World → Prop}, vH cx f n c = true → At cx f w0 E0 P R ea n Su a w → y9 cx f call lf c Su = some (ex, Su') →
  (∀ a' w', At cx f w0 E0 P R ea n Su' a' w' → Q (zMs ex) a' w') → c.wp Pr Q a w := by
 intro c
 induction c with
 | skip =>
  intro Su Su' ex a w Q _ hat hq hQ
  simp only [y9, Option.some.injEq, Prod.mk.injEq] at hq
  obtain ⟨rfl, rfl⟩ := hq
  exact wp_skip (hQ a w hat)
 | region id ops draw =>
  intro Su Su' ex a w Q hck hat hq hQ
  simp only [vH, Bool.and_eq_true, List.all_eq_true, Bool.or_eq_true, Bool.not_eq_true'] at hck
  have hdst : ∀ (k : Nat) (o : Oper) (d : Nat), ops[k]? = some o → o.dst = some d → d < n := by
   intro k o d ho hd
   have := hck.1 o (List.mem_of_getElem? (by simpa using ho : ops.toList[k]? = some o))
   rw [hd] at this
   simpa using this
  have hat' := zA4 (l := ops.toList) hat
  cases draw with
  | false =>
   simp only [y9, Bool.false_eq_true, if_false] at hq
   cases hs : stepOps cx f call ops ops.toList (zDf cx f Su ops.toList) with
   | none => simp [hs] at hq
   | some S1 =>
    simp only [hs, Option.map_some, Option.some.injEq, Prod.mk.injEq] at hq
    obtain ⟨rfl, rfl⟩ := hq
    refine wp_region ?_
    rw [List.range_eq_range']
    exact zAf hstep hdst hQ (by omega) hat' (by simpa using hs)
  | true =>
   simp only [y9, if_true] at hq
   cases hs : stepsD cx f call id (xX (cx.prm f id) ops) 0 (xX (cx.prm f id) ops).toList (zDf cx f Su ops.toList) with
   | none => simp [hs] at hq
   | some S1 =>
    simp only [hs, Option.map_some, Option.some.injEq, Prod.mk.injEq] at hq
    obtain ⟨rfl, rfl⟩ := hq
    have h2 := hck.2.resolve_left (by simp)
    exact zV8 hm hty h2.1.1.1 (zI6 h2.1.1.2) (fun m hm => zL2 hm h2.1.2 h2.2) hstep hpure hdst hs hat' hQ
 | seq x y ihx ihy =>
  intro Su Su' ex a w Q hck hat hq hQ
  simp only [vH, Bool.and_eq_true] at hck
  simp only [y9] at hq
  split at hq
  ·rename_i S1 h1
   exact wp_seq (ihx hck.1 hat h1 (fun a' w' hat' => ihy hck.2 hat' hq hQ))
  ·rename_i h1
   refine wp_seq (ihx hck.1 hat hq (fun a' w' hat' => ?_))
   cases ex with
   | nrm => exact absurd hq (h1 Su')
   | exit id => exact hQ a' w' hat'
   | ret => exact hQ a' w' hat'
 | cond o x y ihx ihy =>
  intro Su Su' ex a w Q hck hat hq hQ
  simp only [vH, Bool.and_eq_true] at hck
  simp only [y9] at hq
  have hb : ∀ b, gQ (opv cx f Su 0 o) = some b → a.eval o = .bool b := by
   intro b hb
   obtain ⟨S, hr, rfl, _, _⟩ := hat
   exact zDb hr rfl hb
  split at hq
  ·rename_i h1
   exact wp_cond_true (hb _ h1) (ihx hck.1 hat hq hQ)
  ·rename_i h1
   exact wp_cond_false (hb _ h1) (ihy hck.2 hat hq hQ)
  ·cases hq
 | block id x ih =>
  intro Su Su' ex a w Q hck hat hq hQ
  simp only [vH] at hck
  simp only [y9] at hq
  split at hq
  ·rename_i id' S1 h1
   refine wp_block (ih hck hat h1 (fun a' w' hat' => ?_))
   split at hq
   ·rename_i e
    simp only [Option.some.injEq, Prod.mk.injEq] at hq
    obtain ⟨rfl, rfl⟩ := hq
    simp only [zMs, Exit.inBlock, e, if_true]
    exact hQ a' w' hat'
   ·rename_i e
    simp only [Option.some.injEq, Prod.mk.injEq] at hq
    obtain ⟨rfl, rfl⟩ := hq
    simp only [zMs, Exit.inBlock, e, if_false]
    exact hQ a' w' hat'
  ·rename_i h1
   refine wp_block (ih hck hat hq (fun a' w' hat' => ?_))
   cases ex with
   | nrm => exact hQ a' w' hat'
   | exit id' => exact absurd hq (h1 id' Su')
   | ret => exact hQ a' w' hat'
 | loop x ih =>
  intro Su Su' ex a w Q hck hat hq hQ
  simp only [vH] at hck
  simp only [y9] at hq
  refine zJ8 (n := lf) (fun m a w => ∃ S, At cx f w0 E0 P R ea n S a w ∧ sQ m (y9 cx f call lf x) S = some (ex, Su')) (fun a w h => ?_) (fun m a w h => ?_) ⟨Su, hat, hq⟩
  ·obtain ⟨S, _, h⟩ := h
   simp [sQ] at h
  ·obtain ⟨S, hat, h⟩ := h
   simp only [sQ] at h
   split at h
   ·rename_i S1 h1
    exact ih hck hat h1 (fun a' w' hat' => ⟨S1, hat', h⟩)
   ·rename_i h1
    refine ih hck hat h (fun a' w' hat' => ?_)
    cases ex with
    | nrm => exact absurd h (h1 Su')
    | exit id' => exact hQ a' w' hat'
    | ret => exact hQ a' w' hat'
 | exit id =>
  intro Su Su' ex a w Q _ hat hq hQ
  simp only [y9, Option.some.injEq, Prod.mk.injEq] at hq
  obtain ⟨rfl, rfl⟩ := hq
  exact wp_exit (hQ a w hat)
 | ret =>
  intro Su Su' ex a w Q _ hat hq hQ
  simp only [y9, Option.some.injEq, Prod.mk.injEq] at hq
  obtain ⟨rfl, rfl⟩ := hq
  exact wp_ret (hQ a w hat)
 | rangeFunc => intro Su Su' ex a w Q _ _ hq; simp [y9] at hq
 | scope => intro Su Su' ex a w Q _ _ hq; simp [y9] at hq
 | label => intro Su Su' ex a w Q _ _ hq; simp [y9] at hq
 | goto => intro Su Su' ex a w Q _ _ hq; simp [y9] at hq
 | refuse => intro Su Su' ex a w Q _ _ hq; simp [y9] at hq
end
end Go.Proofs.Ytlkjnlfddadlmaa.V
namespace Go.Proofs.Ytlkjnlfddadlmaa.V
open Go.RowKit
section
variable {cx : Ctx} {f : Nat} {w0 : World} {E0 : Nat → Prop} {P : Nat → Nat → Prop} {R : Nat → Prop} {ea : List EA} {w w' : World} {a : Act} {call : zW} {Pr : Program} {S S0 S1 S2 S3 : SV} {tmps : Array Value}
structure EmpE (ea : List EA) (S S2 : SV) : Prop where
 ok : ∀ (w : World) (P : Nat → Nat → Prop) (R : Nat → Prop) (c : CV), (∀ r ∈ zF c, qB r = true) → okC w P R S ea c → yL S2 c = true → okC w P R S2 ea c
 al : ∀ c : CV, (∀ r ∈ zF c, qB r = true) → yL S2 c = true → yL S c = true
 blk : ∀ k, ∀ b ∈ zO S2 ea k, b ∈ zO S ea k
theorem EmpE.refl : EmpE ea S S := ⟨fun _ _ _ _ _ h _ => h, fun _ _ h => h, fun _ _ h => h⟩
theorem EmpE.trans (h : EmpE ea S S2) (k : EmpE ea S2 S3) : EmpE ea S S3 :=
 ⟨fun w P R c hr hc ha => k.ok w P R c hr (h.ok w P R c hr hc (k.al c hr ha)) ha, fun c hr hc => h.al c hr (k.al c hr hc), fun r b hb => h.blk r b (k.blk r b hb)⟩
theorem EmpE.of (h : Emp ea S S2) : EmpE ea S S2 := ⟨fun w P R c _ hc ha => h.ok w P R c hc ha, fun c _ hc => h.al c hc, h.blk⟩
def zAg (w : World) (P : Nat → Nat → Prop) (R : Nat → Prop) (ea : List EA) (S2 : SV) (c : CV) : Prop :=
 (∀ r ∈ zF c, qB r = true) ∧ ∀ S3, EmpE ea S2 S3 → yL S3 c = true → okC w P R S3 ea c
theorem zAg.t {x : TV} (h : okT w P R x) : zAg w P R ea S2 (.t x) := ⟨by simp [zF], fun S3 _ _ => by simpa only [okC] using h⟩
theorem zAg.emp {c : CV} (h : zAg w P R ea S2 c) (he : EmpE ea S2 S3) : zAg w P R ea S3 c := ⟨h.1, fun S4 h4 ha => h.2 S4 (he.trans h4) ha⟩
theorem zFp {cs : List CV} : ((zP true (cs.map erC)).all qB = true) ↔ ∀ r ∈ zL cs, qB r = true := by
 have : zP true (cs.map erC) = zL cs := by rw [← jB cs, zR]
 rw [this, List.all_eq_true]
theorem zO1 {isv : Nat → Bool} {c : CV} (h : Rel isv w0 E0 P R ea w S tmps) (he : Emp ea S0 S) (hok : okC w P R S0 ea c) (hb : Bk w0 E0 R ea w S (zQ c)) {d : CU} {Su : SU} (hq : hO (erC c) (V.erS S) = some (d, Su)) :
  ∃ (cG : CV) (S2 : SV), erC cG = d ∧ V.erS S2 = Su ∧ zN cG = zN c ∧ Rel isv w0 E0 P R ea w S2 tmps ∧ Emp ea S S2 ∧ zAg w P R ea S2 cG ∧ Bk w0 E0 R ea w S2 (zQ cG) ∧ (∀ b ∈ zQ cG, b ∈ zQ c ∨ ∃ r, b ∈ zO S ea r) := by
 have same : ∀ {cG : CV}, erC cG = d → V.erS S = Su → zN cG = zN c → zAg w P R ea S cG → zQ cG = zQ c → ∃ (cG : CV) (S2 : SV), erC cG = d ∧ V.erS S2 = Su ∧ zN cG = zN c ∧ Rel isv w0 E0 P R ea w S2 tmps ∧ Emp ea S S2 ∧ zAg w P R ea S2 cG ∧ Bk w0 E0 R ea w S2 (zQ cG) ∧ (∀ b ∈ zQ cG, b ∈ zQ c ∨ ∃ r, b ∈ zO S ea r) := by
  intro cG h1 h2 h3 h4 h5
  exact ⟨cG, S, h1, h2, h3, h, Emp.refl, h4, by rw [h5]; exact hb, fun b hb' => .inl (by rwa [h5] at hb')⟩
 cases c with
 | t x =>
  simp only [erC, zJ, hO, Option.some.injEq, Prod.mk.injEq] at hq
  obtain ⟨rfl, rfl⟩ := hq
  simp only [okC] at hok
  exact same (cG := .t x) rfl rfl rfl (.t hok) rfl
 | ptr v r p off =>
  cases r with
  | sl k =>
   simp only [erC, zJ, hO, Option.some.injEq, Prod.mk.injEq] at hq
   obtain ⟨rfl, rfl⟩ := hq
   simp only [okC] at hok
   exact same (cG := .t (.dead v)) rfl rfl rfl (.t (by simp only [okT]; exact .inr hok.slice)) rfl
  | ex j =>
   simp only [erC, zJ, hO, Option.some.injEq, Prod.mk.injEq] at hq
   obtain ⟨rfl, rfl⟩ := hq
   exact same (cG := .ptr v (.ex j) p off) rfl rfl rfl ⟨by simp [zF, qB], fun S3 h3 ha => h3.ok w P R _ (by simp [zF, qB]) (he.ok w P R _ hok (h3.al _ (by simp [zF, qB]) ha)) ha⟩ rfl
 | bor v r p i off sz n =>
  cases r with
  | sl k =>
   simp only [erC, zJ, hO, er0] at hq
   cases ht : xP (V.erS S) () (.sl k) p i off sz n with
   | none => rw [ht] at hq; simp at hq
   | some q =>
    obtain ⟨t, Sq⟩ := q
    rw [ht] at hq
    simp only [Option.map_some, Option.some.injEq, Prod.mk.injEq] at hq
    obtain ⟨rfl, rfl⟩ := hq
    obtain ⟨cG, S2, e1, e2, e3, e4, e5, e6, e7, e8, e9⟩ := oA.take h he hok ht
    refine ⟨cG, S2, e1, e2, e3, e4, e5, ?_, e7, e8⟩
    obtain ⟨y, rfl, _⟩ := vZ e1
    simp only [okC] at e6
    exact .t e6
  | ex j =>
   simp only [erC, zJ, hO, Option.some.injEq, Prod.mk.injEq] at hq
   obtain ⟨rfl, rfl⟩ := hq
   exact same (cG := .bor v (.ex j) p i off sz n) rfl rfl rfl ⟨by simp [zF, qB], fun S3 h3 ha => h3.ok w P R _ (by simp [zF, qB]) (he.ok w P R _ hok (h3.al _ (by simp [zF, qB]) ha)) ha⟩ rfl
 | rptr v cs =>
  simp only [erC, zJ, hO, Option.some.injEq, Prod.mk.injEq] at hq
  obtain ⟨rfl, rfl⟩ := hq
  exact same (cG := .rptr v cs) rfl rfl rfl ⟨by simp [zF], fun S3 _ _ => by simpa only [okC] using hok⟩ rfl
 | nilp =>
  simp only [erC, zJ, hO, Option.some.injEq, Prod.mk.injEq] at hq
  obtain ⟨rfl, rfl⟩ := hq
  exact same (cG := .nilp) rfl rfl rfl ⟨by simp [zF], fun S3 _ _ => by simp [okC]⟩ rfl
 | nilf =>
  simp only [erC, zJ, hO, Option.some.injEq, Prod.mk.injEq] at hq
  obtain ⟨rfl, rfl⟩ := hq
  exact same (cG := .nilf) rfl rfl rfl ⟨by simp [zF], fun S3 _ _ => by simp [okC]⟩ rfl
 | fn g caps =>
  simp only [erC, zJ, hO] at hq
  split at hq
  ·rename_i hall
   simp only [Option.some.injEq, Prod.mk.injEq] at hq
   obtain ⟨rfl, rfl⟩ := hq
   have hall' : ∀ r ∈ zL caps, qB r = true := by
    rw [← zFp, ← zR]; exact hall
   exact same (cG := .fn g caps) rfl rfl rfl ⟨by simpa only [zF] using hall', fun S3 h3 ha => h3.ok w P R _ (by simpa only [zF] using hall') (he.ok w P R _ hok (h3.al _ (by simpa only [zF] using hall') ha)) ha⟩ rfl
  ·cases hq
 | lst v sz n cs =>
  simp only [erC, zJ, hO] at hq
  cases ht : yU (C.lst (er0 v) sz n (yZ er0 cs)) (V.erS S) with
  | none => rw [ht] at hq; simp at hq
  | some q =>
   obtain ⟨t, Sq⟩ := q
   rw [ht] at hq
   simp only [Option.map_some, Option.some.injEq, Prod.mk.injEq] at hq
   obtain ⟨rfl, rfl⟩ := hq
   obtain ⟨tG, S2, e1, e2, e3, e4, e5, e6, e7, e8⟩ := lW (c := .lst v sz n cs) h he hok hb ht
   exact ⟨.t tG, S2, by simp only [erC, zJ]; rw [← e1], e2, e3, e4, e5, .t e6, by simpa only [zQ] using e7, by simpa only [zQ] using e8⟩
theorem zB0 {isv : Nat → Bool} : ∀ {cs : List CV} {S : SV} {ds : List CU} {Su : SU}, Rel isv w0 E0 P R ea w S tmps → Emp ea S0 S → yF w P R S0 ea cs → Bk w0 E0 R ea w S (zH cs) → dV (cs.map erC) (V.erS S) = some (ds, Su) →
  ∃ (us : List CV) (S2 : SV), us.map erC = ds ∧ V.erS S2 = Su ∧ us.map zN = cs.map zN ∧ Rel isv w0 E0 P R ea w S2 tmps ∧ Emp ea S S2 ∧ (∀ u ∈ us, zAg w P R ea S2 u) ∧ Bk w0 E0 R ea w S2 (zH us) ∧ (∀ b ∈ zH us, b ∈ zH cs ∨ ∃ r, b ∈ zO S ea r)
 | [], S, ds, Su, h, he, hok, hb, hq => by
  simp only [List.map_nil, dV, Option.some.injEq, Prod.mk.injEq] at hq
  obtain ⟨rfl, rfl⟩ := hq
  exact ⟨[], S, rfl, rfl, rfl, h, Emp.refl, by simp, by simpa [zH] using hb, by simp [zH]⟩
 | c :: cs, S, ds, Su, h, he, hok, hb, hq => by
  simp only [List.map_cons, dV] at hq
  simp only [yF] at hok
  simp only [zH] at hb
  cases h1 : hO (erC c) (V.erS S) with
  | none => rw [h1] at hq; simp at hq
  | some r =>
   obtain ⟨d, Sd⟩ := r
   rw [h1] at hq
   simp only [Option.bind_some] at hq
   obtain ⟨cG, S1, a1, a2, a3, a4, a5, a6, a7, a8⟩ := zO1 h he hok.1 (hb.sub (List.sublist_append_left _ _)) h1
   subst a2
   cases h2 : dV (cs.map erC) (V.erS S1) with
   | none => rw [h2] at hq; simp at hq
   | some q =>
    obtain ⟨es, Se⟩ := q
    rw [h2] at hq
    simp only [Option.map_some, Option.some.injEq, Prod.mk.injEq] at hq
    obtain ⟨rfl, rfl⟩ := hq
    obtain ⟨us, S2, b1, b2, b3, b4, b5, b6, b7, b8⟩ := zB0 a4 (he.trans a5) hok.2 ((hb.sub (List.sublist_append_right _ _)).emp a5) h2
    have hnd := List.nodup_append.1 hb.nd
    refine ⟨cG :: us, S2, by simp [a1, b1], b2, by simp [a3, b3], b4, a5.trans b5, ?_, ?_, ?_⟩
    ·intro u hu
     rcases List.mem_cons.1 hu with rfl | hu
     ·exact a6.emp (EmpE.of b5)
     ·exact b6 u hu
    ·simp only [zH]
     refine (a7.emp b5).append b7 (fun b hb1 hb2 => ?_)
     rcases b8 b hb2 with h' | ⟨k, h'⟩
     ·rcases a8 b hb1 with g | ⟨k, g⟩
      ·exact hnd.2.2 b g b h' rfl
      ·exact (hb.sub (List.sublist_append_right _ _)).sep k b h' g
     ·exact a7.sep k b hb1 h'
    ·intro b hb'
     simp only [zH, List.mem_append] at hb' ⊢
     rcases hb' with hb' | hb'
     ·exact (a8 b hb').imp .inl id
     ·rcases b8 b hb' with g | ⟨k, g⟩
      ·exact .inl (.inr g)
      ·exact .inr ⟨k, a5.blk k b g⟩
mutual
theorem zIl {k : Nat} : ∀ {c : CV}, (∀ r ∈ zF c, qB r = true) → yL { kill (.sl k) [] S with s := upd (kill (.sl k) [] S).s k .undef } c = true → yL S c = true
 | .t x, _, _ => by simp [yL]
 | .rptr v cs, _, _ => by simp [yL]
 | .nilp, _, _ => by simp [yL]
 | .nilf, _, _ => by simp [yL]
 | .ptr v r p off, hr, ha => by
  cases r with
  | sl d => have := hr (.sl d) (by simp [zF]); simp [qB] at this
  | ex j =>
   simp only [yL, Bool.or_eq_true] at ha ⊢
   refine ha.imp (fun h => h) fun h => ?_
   have e : ∀ (p : List Nat) (i : Nat), at_ { kill (.sl k) [] S with s := upd (kill (.sl k) [] S).s k .undef } (.ex j) p i = at_ (kill (.sl k) [] S) (.ex j) p i := fun p i => rfl
   rw [e, bF, dY] at h
   exact h
 | .bor v r p i off sz n, hr, ha => by
  cases r with
  | sl d => have := hr (.sl d) (by simp [zF]); simp [qB] at this
  | ex j =>
   simp only [yL] at ha ⊢
   have e : ∀ (p : List Nat) (i : Nat), at_ { kill (.sl k) [] S with s := upd (kill (.sl k) [] S).s k .undef } (.ex j) p i = at_ (kill (.sl k) [] S) (.ex j) p i := fun p i => rfl
   rw [e, bF, dY] at ha
   exact ha
 | .fn g caps, hr, ha => by simp only [yL, zF] at hr ha ⊢; exact oB hr ha
 | .lst v sz n cs, hr, ha => by simp only [yL, zF] at hr ha ⊢; exact oB hr ha
theorem oB {k : Nat} : ∀ {cs : List CV}, (∀ r ∈ zL cs, qB r = true) → xR { kill (.sl k) [] S with s := upd (kill (.sl k) [] S).s k .undef } cs = true → xR S cs = true
 | [], _, _ => by simp [xR]
 | c :: cs, hr, ha => by
  simp only [xR, Bool.and_eq_true, zL, List.mem_append] at hr ha ⊢
  exact ⟨zIl (fun r h => hr r (.inl h)) ha.1, oB (fun r h => hr r (.inr h)) ha.2⟩
end
def zAp : XV → List CV
 | .c c => [c]
 | .agg cs => cs
 | .box _ cs => cs
 | _ => []
structure Res (isv : Nat → Bool) (w0 : World) (E0 : Nat → Prop) (P : Nat → Nat → Prop) (R : Nat → Prop) (ea : List EA) (w : World) (S2 : SV) (y : XV) : Prop where
 good : ∀ c ∈ zAp y, zAg w P R ea S2 c
 kind : (∃ c, y = .c c) ∨ (∃ cs, y = .agg cs) ∨ ∃ ad cs, y = .box (.pointer (some ad)) cs ∧ vQ w ad cs
 bk : Bk w0 E0 R ea w S2 (zE y)
theorem EmpE.bk {l : List Nat} (he : EmpE ea S S2) (h : Bk w0 E0 R ea w S l) : Bk w0 E0 R ea w S2 l := ⟨h.nd, fun r b hb hb' => h.sep r b hb (he.blk r b hb'), h.lt, h.own, h.notR⟩
theorem zWh {isv : Nat → Bool} {x : XV} (h : Rel isv w0 E0 P R ea w S tmps) (hn : New isv w0 E0 P R ea w S x) {y : XU} {Su : SU} (hq : aE (erX x) (V.erS S) = some (y, Su)) :
  ∃ (yG : XV) (S2 : SV), erX yG = y ∧ V.erS S2 = Su ∧ zS yG = zS x ∧ Rel isv w0 E0 P R ea w S2 tmps ∧ EmpE ea S S2 ∧ Res isv w0 E0 P R ea w S2 yG ∧ ∀ b ∈ zE yG, b ∈ zE x ∨ ∃ r, b ∈ zO S ea r := by
 have hok := hn.ok
 have hb := hn.bk
 have box_case : ∀ {S1 : SV} {v : Value} {cs : List CV} {ds : List CU} {Sd : SU}, Rel isv w0 E0 P R ea w S1 tmps → EmpE ea S S1 → yF w P R S1 ea cs → (∃ ad, v = .pointer (some ad) ∧ vQ w ad cs) → Bk w0 E0 R ea w S1 (hdr v ++ zH cs) → dV (cs.map erC) (V.erS S1) = some (ds, Sd) →
   ∃ (us : List CV) (S2 : SV), us.map erC = ds ∧ V.erS S2 = Sd ∧ Rel isv w0 E0 P R ea w S2 tmps ∧ EmpE ea S S2 ∧ Res isv w0 E0 P R ea w S2 (.box v us) ∧ ∀ b ∈ hdr v ++ zH us, b ∈ hdr v ++ zH cs ∨ ∃ r, b ∈ zO S ea r := by
  intro S1 v cs ds Sd h1 he1 hok1 hbox hb1 hq1
  obtain ⟨us, S2, e1, e2, e3, e4, e5, e6, e7, e8⟩ := zB0 h1 Emp.refl hok1 (hb1.sub (List.sublist_append_right _ _)) hq1
  obtain ⟨ad, rfl, g1, g2, cur, e, g3, g4⟩ := hbox
  refine ⟨us, S2, e1, e2, e4, he1.trans (EmpE.of e5), ⟨e6, .inr (.inr ⟨ad, us, rfl, g1, g2, cur, e, g3, by rw [g4, z8, z8, e3]⟩), ?_⟩, fun b hb' => ?_⟩
  ·simp only [zE]
   refine ((hb1.sub (List.sublist_append_left _ _)).emp e5).append e7 (fun b hb2 hb3 => ?_)
   rcases e8 b hb3 with h' | ⟨k, h'⟩
   ·exact (List.nodup_append.1 hb1.nd).2.2 b hb2 b h' rfl
   ·exact (hb1.sub (List.sublist_append_left _ _)).sep k b hb2 h'
  ·rcases List.mem_append.1 hb' with hb' | hb'
   ·exact .inl (List.mem_append_left _ hb')
   ·rcases e8 b hb' with g | ⟨k, g⟩
    ·exact .inl (List.mem_append_right _ g)
    ·exact .inr ⟨k, he1.blk k b g⟩
 have c_case : ∀ {c : CV} {d : CU} {Sd : SU}, x = .c c → hO (erC c) (V.erS S) = some (d, Sd) → ∃ (yG : XV) (S2 : SV), erX yG = .c d ∧ V.erS S2 = Sd ∧ zS yG = zS x ∧ Rel isv w0 E0 P R ea w S2 tmps ∧ EmpE ea S S2 ∧ Res isv w0 E0 P R ea w S2 yG ∧ ∀ b ∈ zE yG, b ∈ zE x ∨ ∃ r, b ∈ zO S ea r := by
  rintro c d Sd rfl hq1
  simp only [okX] at hok
  simp only [zE] at hb
  obtain ⟨cG, S2, e1, e2, e3, e4, e5, e6, e7, e8⟩ := zO1 h Emp.refl hok hb hq1
  exact ⟨.c cG, S2, by simp only [erX, zV]; rw [← e1], e2, by simp only [zS, e3], e4, EmpE.of e5, ⟨by simpa [zAp] using e6, .inl ⟨cG, rfl⟩, by simpa only [zE] using e7⟩, by simpa only [zE] using e8⟩
 cases x with
 | c c =>
  simp only [erX, zV] at hq
  unfold aE at hq
  split at hq
  ·rename_i _ k heq
   simp only [X.c.injEq] at heq
   obtain ⟨v, rfl⟩ := nL (show erC c = .ptr _ (.sl k) [] 0 from heq)
   have hk : kill (.sl k) [] (V.erS S) = V.erS (kill (.sl k) [] S) := lE er0 S (.sl k) []
   rw [hk] at hq
   have h1 := h.kill (.sl k) []
   have hnm := sZ (S := S) k
   have h2 := h1.clear hnm
   split at hq
   ·rename_i _ cs heq2
    obtain ⟨v2, ds, hs, hds⟩ : ∃ v2 ds, (kill (.sl k) [] S).s k = .box v2 ds ∧ ds.map erC = cs := by
     have h0 : erX ((kill (.sl k) [] S).s k) = .box _ cs := heq2
     cases hx : (kill (.sl k) [] S).s k <;> rw [hx] at h0 <;> simp [erX, zV, zR] at h0
     exact ⟨_, _, rfl, h0⟩
    subst hds
    cases hf : dV (ds.map erC) { V.erS (kill (.sl k) [] S) with s := upd (V.erS (kill (.sl k) [] S)).s k .undef } with
    | none => rw [hf] at hq; simp at hq
    | some q =>
     obtain ⟨es, Se⟩ := q
     rw [hf] at hq
     simp only [Option.map_some, Option.some.injEq, Prod.mk.injEq] at hq
     obtain ⟨rfl, rfl⟩ := hq
     have hst : ({ V.erS (kill (.sl k) [] S) with s := upd (V.erS (kill (.sl k) [] S)).s k .undef } : SU) = V.erS { kill (.sl k) [] S with s := upd (kill (.sl k) [] S).s k .undef } := by
      simp only [V.erS, jW]
      congr 1
      funext i
      by_cases e : i = k <;> simp [upd, e, zV]
     rw [hst] at hf
     have hokb := h1.okS k
     rw [hs] at hokb
     simp only [okX] at hokb
     obtain ⟨hokc, ad, rfl, hbox⟩ := hokb
     have hnr : ∀ c ∈ ds, Root.sl k ∉ zF c := by
      intro c hc hr
      refine hnm.s k ?_
      rw [hs]; simp only [zD, yI, List.mem_flatMap]; exact ⟨c, hc, hr⟩
     have hokd : yF w P R { kill (.sl k) [] S with s := upd (kill (.sl k) [] S).s k .undef } ea ds :=
      z0.2 fun c hc => lJ (fun _ _ _ => rfl) (fun _ _ => rfl) (z0.1 hokc c hc) (fun _ _ => rfl) (fun r hr => wH (fun e => hnr c hc (e ▸ hr)))
     have hbk : Bk w0 E0 R ea w { kill (.sl k) [] S with s := upd (kill (.sl k) [] S).s k .undef } (hdr (.pointer (some ad)) ++ zH ds) := by
      have hB : zO (kill (.sl k) [] S) ea (.sl k) = hdr (.pointer (some ad)) ++ zH ds := by simp only [zO, hs, zE]
      refine ⟨by rw [← hB]; exact h1.nd _, fun r b hb1 hb2 => ?_, fun b hb1 => h1.lt (.sl k) b (by rw [hB]; exact hb1), fun b hb1 => h1.own (.sl k) b (by rw [hB]; exact hb1), fun b hb1 => h1.notR (.sl k) b (by rw [hB]; exact hb1)⟩
      by_cases e : r = .sl k
      ·subst e; simp [zO, upd, zE] at hb2
      ·rw [qN e] at hb2
       exact e (h1.dis r (.sl k) b hb2 (by rw [hB]; exact hb1))
     have hemp : EmpE ea S { kill (.sl k) [] S with s := upd (kill (.sl k) [] S).s k .undef } := by
      have hne : ∀ {c : CV}, (∀ r ∈ zF c, qB r = true) → Root.sl k ∉ zF c := fun hr hm => by have := hr _ hm; simp [qB] at this
      refine ⟨fun w' P' R' c hr hc _ => ?_, fun c hr ha => ?_, fun r b hb' => ?_⟩
      ·have g := zC6 (.sl k) [] hc
       rw [zCl (hne hr)] at g
       exact lJ (fun _ _ _ => rfl) (fun _ _ => rfl) g (fun _ _ => rfl) (fun r hr' => wH (fun e => hne hr (e ▸ hr')))
      ·exact zIl hr ha
      ·by_cases e : r = .sl k
       ·subst e; simp [zO, upd, zE] at hb'
       ·rw [qN e, j2] at hb'; exact hb'
     obtain ⟨us, S2, e1, e2, e4, e5, e6, e7⟩ := box_case h2 hemp hokd ⟨ad, rfl, hbox⟩ hbk hf
     -- the pointer is the box's own address
     have hv : v = .pointer (some ad) := by
      simp only [okX, okC, vR] at hok
      obtain ⟨ad', had, rfl⟩ := hok
      simp only [yW, if_true] at had
      have hra : rootAd (kill (.sl k) [] S) ea (.sl k) = some ad := by simp only [rootAd, hs]
      rw [eT] at hra
      rw [hra] at had
      simp only [Option.some.injEq] at had
      subst had
      obtain ⟨g1, g2, _⟩ := hbox
      cases ad with
      | mk blk off spot => simp only at g1 g2; subst g1; subst g2; rfl
     subst hv
     refine ⟨.box (.pointer (some ad)) us, S2, by simp only [erX, zV, zR]; rw [← e1], e2, rfl, e4, e5, e6, fun b hb' => ?_⟩
     rcases e7 b (by simpa only [zE] using hb') with g | g
     ·right
      refine ⟨.sl k, ?_⟩
      have : b ∈ zO (kill (.sl k) [] S) ea (.sl k) := by simp only [zO, hs, zE]; exact g
      rwa [j2] at this
     ·exact .inr g
   ·cases hq
  ·rename_i x' _ heq
   simp only [X.c.injEq] at heq
   subst heq
   cases hf : hO (zJ er0 c) (V.erS S) with
   | none => rw [hf] at hq; simp at hq
   | some q =>
    obtain ⟨d, Sd⟩ := q
    rw [hf] at hq
    simp only [Option.map_some, Option.some.injEq, Prod.mk.injEq] at hq
    obtain ⟨rfl, rfl⟩ := hq
    exact c_case rfl hf
  all_goals (first | cases hq | (rename_i heq; cases heq))
 | agg cs =>
  simp only [erX, zV, zR, aE] at hq
  cases hf : dV (cs.map (zJ er0)) (V.erS S) with
  | none => rw [hf] at hq; simp at hq
  | some q =>
   obtain ⟨ds, Sd⟩ := q
   rw [hf] at hq
   simp only [Option.map_some, Option.some.injEq, Prod.mk.injEq] at hq
   obtain ⟨rfl, rfl⟩ := hq
   simp only [okX] at hok
   simp only [zE] at hb
   obtain ⟨us, S2, e1, e2, e3, e4, e5, e6, e7, e8⟩ := zB0 h Emp.refl hok hb hf
   exact ⟨.agg us, S2, by simp only [erX, zV, zR]; rw [← e1], e2, by simp only [zS, z8, e3], e4, EmpE.of e5, ⟨e6, .inr (.inl ⟨us, rfl⟩), by simpa only [zE] using e7⟩, by simpa only [zE] using e8⟩
 | box v cs =>
  simp only [erX, zV, zR, aE] at hq
  cases hf : dV (cs.map (zJ er0)) (V.erS S) with
  | none => rw [hf] at hq; simp at hq
  | some q =>
   obtain ⟨ds, Sd⟩ := q
   rw [hf] at hq
   simp only [Option.map_some, Option.some.injEq, Prod.mk.injEq] at hq
   obtain ⟨rfl, rfl⟩ := hq
   simp only [okX] at hok
   simp only [zE] at hb
   obtain ⟨us, S2, e1, e2, e4, e5, e6, e7⟩ := box_case h EmpE.refl hok.1 hok.2 hb hf
   exact ⟨.box v us, S2, by simp only [erX, zV, zR, er0]; rw [← e1], e2, rfl, e4, e5, e6, by simpa only [zE] using e7⟩
 | tup xs => simp [erX, zV, aE] at hq
 | undef => simp [erX, zV, aE] at hq
end
end Go.Proofs.Ytlkjnlfddadlmaa.V
namespace Go.Proofs.Ytlkjnlfddadlmaa.V
open Go.RowKit
section
variable {cx : Ctx} {f : Nat} {w0 : World} {E0 : Nat → Prop} {P : Nat → Nat → Prop} {R : Nat → Prop} {ea : List EA} {w w' : World} {a : Act} {call : zW} {Pr : Program} {S S0 S1 S2 S3 : SV} {tmps : Array Value}
def oZ (tmps : Array Value) : ResultVar → Sem Value
 | .tmp t => pure (tmps.getD t undef)
 | .cell a t => do loadVar t (← asAddr (tmps.getD a undef))
mutual
theorem zEu {o : Operand} : ∀ {c : CV}, (∀ r ∈ zF c, qB r = true) → yL (V.clr cx f S o) c = yL S c
 | .t x, _ => by simp [yL]
 | .rptr v cs, _ => by simp [yL]
 | .nilp, _ => by simp [yL]
 | .nilf, _ => by simp [yL]
 | .ptr v r p off, hr => by
  cases r with
  | sl d => have := hr (.sl d) (by simp [zF]); simp [qB] at this
  | ex j =>
   have e : (V.clr cx f S o).e = S.e := by cases o <;> simp only [V.clr]; split <;> (try split) <;> rfl
   simp only [yL, at_, zA, e]
 | .bor v r p i off sz n, hr => by
  cases r with
  | sl d => have := hr (.sl d) (by simp [zF]); simp [qB] at this
  | ex j =>
   have e : (V.clr cx f S o).e = S.e := by cases o <;> simp only [V.clr]; split <;> (try split) <;> rfl
   simp only [yL, at_, zA, e]
 | .fn g caps, hr => by simp only [yL, zF] at hr ⊢; exact r7 hr
 | .lst v sz n cs, hr => by simp only [yL, zF] at hr ⊢; exact r7 hr
theorem r7 {o : Operand} : ∀ {cs : List CV}, (∀ r ∈ zL cs, qB r = true) → xR (V.clr cx f S o) cs = xR S cs
 | [], _ => by simp [xR]
 | c :: cs, hr => by
  simp only [xR, zL, List.mem_append] at hr ⊢
  rw [zEu (fun r h => hr r (.inl h)), r7 (fun r h => hr r (.inr h))]
end
theorem zW8 (hty : jQ Pr cx.ty) (h : Rel (zB cx f) w0 E0 P R ea w S tmps) {r : ResultVar} {x : XU} {Su : SU} (hq : zHz cx f (V.erS S) r = some (x, Su)) :
  ∃ (xG : XV) (S2 : SV), erX xG = x ∧ V.erS S2 = Su ∧ Rel (zB cx f) w0 E0 P R ea w S2 tmps ∧ EmpE ea S S2 ∧ New (zB cx f) w0 E0 P R ea w S2 xG ∧ (∀ b ∈ zE xG, ∃ k, b ∈ zO S ea k) ∧ (oZ tmps r).run Pr w = .ok (zS xG) w := by
 cases r with
 | tmp t =>
  simp only [zHz] at hq
  cases hx : opv cx f (V.erS S) 0 (.tmp t) with
  | none => rw [hx] at hq; simp at hq
  | some y =>
   rw [hx] at hq
   simp only [Option.map_some, Option.some.injEq, Prod.mk.injEq] at hq
   obtain ⟨rfl, rfl⟩ := hq
   obtain ⟨xG, hxG⟩ := h.opv (a := { tmps := tmps, defers := [] }) rfl hx
   refine ⟨xG, V.clr cx f S (.tmp t), hxG.er, uH _, h.clr _, ?_, hxG.new, hxG.src, ?_⟩
   ·have hne : ∀ {c : CV}, (∀ r ∈ zF c, qB r = true) → ∀ d, Root.sl d ∉ zF c := fun hr d hm => by have := hr _ hm; simp [qB] at this
    refine ⟨fun w' P' R' c hr hc _ => zPo hc (fun d hd => absurd hd (hne hr d)), fun c hr ha => ?_, fun k b hb => ?_⟩
    ·rw [zEu hr] at ha; exact ha
    ·simp only [V.clr] at hb
     split at hb
     ·exact hb
     ·split at hb
      ·by_cases e : k = .sl t
       ·subst e; simp [zO, upd, zE] at hb
       ·rwa [qN e] at hb
      ·exact hb
   ·have := hxG.val
    simp only [Act.eval] at this
    simp [oZ, this]
 | cell b t =>
  simp only [zHz] at hq
  split at hq
  ·rename_i _ r p off hx
   split at hq
   ·rename_i hok
    obtain ⟨aG, haG, hav, haok, har⟩ := kO h (a := { tmps := tmps, defers := [] }) rfl hx
    obtain ⟨v, rfl⟩ := nL haG
    simp only [okC, vR] at haok
    obtain ⟨ad, had, rfl⟩ := haok
    rw [show V.erS S = jW er0 S from rfl, oR] at hq
    cases hl : j8 S r p off (cx.ty t).sz with
    | none => simp [hl] at hq
    | some cs =>
     simp only [hl, Option.map_some, Option.bind_some] at hq
     cases hm : mkX cx t (cs.map erC) with
     | none => simp [hm] at hq
     | some x' =>
      simp only [hm, Option.map_some, Option.some.injEq, Prod.mk.injEq] at hq
      obtain ⟨rfl, rfl⟩ := hq
      obtain ⟨l1, l2, l3, l4, l5⟩ := zCy h (fun d' e' => har d' (by simp [zF, e'])) hl
      obtain ⟨xG, hx1, hx2⟩ := zHp hm
      have hxp : okX w P R S ea xG ∧ zE xG = [] ∧ zD xG = zL cs := by
       rcases hx2 with ⟨_, _, rfl⟩ | ⟨_, c, rfl, rfl⟩
       ·exact ⟨by simpa [okX] using l2, by simpa [zE] using l3, by simp [zD]⟩
       ·exact ⟨by simpa [okX] using l2.1, by simpa [zE, zH] using l3, by simp [zD, zL]⟩
      obtain ⟨p1, p2, p3⟩ := hxp
      refine ⟨xG, S, hx1, rfl, h, EmpE.refl, ⟨p1, fun d' hd' => l4 d' (p3 ▸ hd'), by rw [p2]; exact List.nodup_nil, fun r b hb => by rw [p2] at hb; simp at hb, fun b hb => by rw [p2] at hb; simp at hb, fun b hb => by rw [p2] at hb; simp at hb, fun b hb => by rw [p2] at hb; simp at hb⟩, fun b hb => by rw [p2] at hb; simp at hb, ?_⟩
      have hav' : tmps.getD b undef = .pointer (some ⟨ad.block, ad.off + off, none⟩) := by simpa [Act.eval, zN] using hav
      have hr := dO (Pr := Pr) (w := w) hty hok l1 (fun j c hj => l5 ad had j c hj) hx2
      simp only [Instr.loadAt, Instr.sureAddr, Sem.run_bind, Sem.run_pure, Result.andThen_ok] at hr
      simp only [oZ, hav', asAddr, Sem.run_bind, Sem.run_pure, Result.andThen_ok]
      exact hr
   ·cases hq
  ·cases hq
theorem zK3 (hty : jQ Pr cx.ty) : ∀ {rs : List ResultVar} {S : SV} {xs : List XU} {Su : SU}, Rel (zB cx f) w0 E0 P R ea w S tmps → pC cx f (V.erS S) rs = some (xs, Su) →
  ∃ (ys : List XV) (S2 : SV), ys.map erX = xs ∧ V.erS S2 = Su ∧ Rel (zB cx f) w0 E0 P R ea w S2 tmps ∧ EmpE ea S S2 ∧ (∀ y ∈ ys, Res (zB cx f) w0 E0 P R ea w S2 y) ∧ Bk w0 E0 R ea w S2 (xN ys) ∧ (∀ b ∈ xN ys, ∃ k, b ∈ zO S ea k) ∧
   (rs.mapM (oZ tmps)).run Pr w = .ok (ys.map zS) w
 | [], S, xs, Su, h, hq => by
  simp only [pC, Option.some.injEq, Prod.mk.injEq] at hq
  obtain ⟨rfl, rfl⟩ := hq
  exact ⟨[], S, rfl, rfl, h, EmpE.refl, by simp, ⟨by simp [xN], by simp [xN], by simp [xN], by simp [xN], by simp [xN]⟩, by simp [xN], rfl⟩
 | r :: rs, S, xs, Su, h, hq => by
  simp only [pC] at hq
  cases h1 : zHz cx f (V.erS S) r with
  | none => rw [h1] at hq; simp at hq
  | some q =>
   obtain ⟨x, Sx⟩ := q
   rw [h1] at hq
   simp only [Option.bind_some] at hq
   obtain ⟨xG, S1, rfl, rfl, a3, a4, a5, a6, a7⟩ := zW8 hty h h1
   cases h2 : aE (erX xG) (V.erS S1) with
   | none => rw [h2] at hq; simp at hq
   | some q =>
    obtain ⟨y, Sy⟩ := q
    rw [h2] at hq
    simp only [Option.bind_some] at hq
    obtain ⟨yG, S2, rfl, rfl, b3, b4, b5, b6, b7⟩ := zWh a3 a5 h2
    cases h3 : pC cx f (V.erS S2) rs with
    | none => rw [h3] at hq; simp at hq
    | some q =>
     obtain ⟨zs, Sz⟩ := q
     rw [h3] at hq
     simp only [Option.map_some, Option.some.injEq, Prod.mk.injEq] at hq
     obtain ⟨rfl, rfl⟩ := hq
     obtain ⟨ys, S3, rfl, rfl, c3, c4, c5, c6, c7, c8⟩ := zK3 hty b4 h3
     refine ⟨yG :: ys, S3, rfl, rfl, c3, a4.trans (b5.trans c4), ?_, ?_, ?_, ?_⟩
     ·intro z hz
      rcases List.mem_cons.1 hz with rfl | hz
      ·exact ⟨fun c hc => (b6.good c hc).emp c4, b6.kind, c4.bk b6.bk⟩
      ·exact c5 z hz
     ·simp only [xN]
      refine (c4.bk b6.bk).append c6 (fun b hb1 hb2 => ?_)
      obtain ⟨k, hk⟩ := c7 b hb2
      exact b6.bk.sep k b hb1 hk
     ·intro b hb
      simp only [xN, List.mem_append] at hb
      rcases hb with hb | hb
      ·rcases b7 b hb with g | ⟨k, g⟩
       ·exact a6 b g
       ·exact ⟨k, a4.blk k b g⟩
      ·obtain ⟨k, g⟩ := c7 b hb
       exact ⟨k, a4.blk k b (b5.blk k b g)⟩
     ·simp only [List.mapM_cons, Sem.run_bind, a7, Result.andThen_ok, c8, Sem.run_pure, List.map_cons, b3]
end
end Go.Proofs.Ytlkjnlfddadlmaa.V
namespace Go.Proofs.Ytlkjnlfddadlmaa.V
open Go.RowKit
section
variable {cx : Ctx} {f : Nat} {w0 : World} {E0 : Nat → Prop} {P : Nat → Nat → Prop} {R : Nat → Prop} {ea : List EA} {w w' : World} {a : Act} {call : zW} {Pr : Program} {S S0 S1 S2 S3 : SV} {tmps : Array Value}
theorem zH0 (fn : Func) (tmps : Array Value) (w : World) {vs : List Value} (h : (fn.results.toList.mapM (oZ tmps)).run Pr w = .ok vs w) : (results fn tmps).run Pr w = .ok (if _ : vs.length = 1 then vs[0] else .tuple vs.toArray) w := by
 have e : results fn tmps = (do
   let vs ← fn.results.mapM (oZ tmps)
   pure (if h : vs.size = 1 then vs[0] else .tuple vs)) := by
  unfold results
  congr 1
 rw [e, Array.mapM_eq_mapM_toList]
 simp only [Sem.run_bind, map_eq_pure_bind, h, Result.andThen_ok, Sem.run_pure]
 simp
def kE : List XV → XV
 | [y] => y
 | ys => .tup ys
theorem zUh (ys : List XV) : erX (kE ys) = eK (ys.map erX) := by
 cases ys with
 | nil => simp [kE, eK, erX, zV, wV]
 | cons y ys => cases ys with
  | nil => simp [kE, eK]
  | cons z zs => simp [kE, eK, erX, zV, wW]
theorem zRe (ys : List XV) : (if _ : (ys.map zS).length = 1 then (ys.map zS)[0] else .tuple (ys.map zS).toArray) = zS (kE ys) := by
 cases ys with
 | nil => simp [kE, zS, kG]
 | cons y ys => cases ys with
  | nil => simp [kE]
  | cons z zs => simp [kE, zS, kG, cY]
theorem zGf (ys : List XV) : zE (kE ys) = xN ys := by
 cases ys with
 | nil => simp [kE, zE]
 | cons y ys => cases ys with
  | nil => simp [kE, xN]
  | cons z zs => simp [kE, zE]
theorem zNb (ys : List XV) : zD (kE ys) = yR ys := by
 cases ys with
 | nil => simp [kE, zD]
 | cons y ys => cases ys with
  | nil => simp [kE, yR]
  | cons z zs => simp [kE, zD]
theorem zUi {ys : List XV} (h : ∀ y ∈ ys, okX w P R S ea y) : okX w P R S ea (kE ys) := by
 cases ys with
 | nil => simp [kE, okX, x9]
 | cons y ys => cases ys with
  | nil => exact h y (by simp)
  | cons z zs => simp only [kE, okX]; exact nW.2 h
theorem Res.ex {isv : Nat → Bool} {y : XV} (h : Res isv w0 E0 P R ea w S y) : ∀ r ∈ zD y, qB r = true := by
 intro r hr
 have key : ∀ cs : List CV, (∀ c ∈ cs, zAg w P R ea S c) → r ∈ zL cs → qB r = true := by
  intro cs hc hr
  rw [yI, List.mem_flatMap] at hr
  obtain ⟨c, hc', hr⟩ := hr
  exact (hc c hc').1 r hr
 rcases h.kind with ⟨c, rfl⟩ | ⟨cs, rfl⟩ | ⟨ad, cs, rfl, _⟩
 ·exact (h.good c (by simp [zAp])).1 r (by simpa [zD] using hr)
 ·exact key cs h.good (by simpa [zD] using hr)
 ·exact key cs h.good (by simpa [zD] using hr)
theorem Res.ok {isv : Nat → Bool} {y : XV} (h : Res isv w0 E0 P R ea w S y) (ha : l9 (V.erS S) (erX y) = true) : okX w P R S ea y := by
 have key : ∀ cs : List CV, (∀ c ∈ cs, zAg w P R ea S c) → xR (V.erS S) (cs.map erC) = true → yF w P R S ea cs := by
  intro cs hc ha
  have ha' : xR S cs = true := by
   have h0 := gO er0 S cs
   rw [zR] at h0
   rw [← h0]; exact ha
  exact z0.2 fun c hc' => (hc c hc').2 S EmpE.refl (zBe.1 ha' c hc')
 rcases h.kind with ⟨c, rfl⟩ | ⟨cs, rfl⟩ | ⟨ad, cs, rfl, hb⟩
 ·simp only [erX, zV, l9] at ha
  have ha' : yL S c = true := by rw [← fS er0 S c]; exact ha
  simp only [okX]
  exact (h.good c (by simp [zAp])).2 S EmpE.refl ha'
 ·simp only [erX, zV, zR, l9] at ha
  simp only [okX]; exact key cs h.good ha
 ·simp only [erX, zV, zR, l9] at ha
  simp only [okX]; exact ⟨key cs h.good ha, ad, rfl, hb⟩
theorem In.at {n : Nat} {args : List XV} {ext : List (List CV)} (h : In w E0 P R ea args ext) (hn : args.length ≤ n) :
  At cx f w E0 P R ea n (V.erS ⟨xM args, ext⟩) { tmps := (args.map zS).toArray ++ Array.replicate (n - (args.map zS).toArray.size) undef, defers := [] } w := by
 refine ⟨⟨xM args, ext⟩, ?_, rfl, rfl, by simp; omega⟩
 constructor
 case val =>
  intro d hd
  rcases Nat.lt_or_ge d args.length with h' | h'
  ·rcases h.val d (by simpa using h') with e | e
   ·exact .inl e
   ·right; rw [Array.getElem?_append_left (by simpa using h')]; exact e
  ·exact .inl (h.hi d (by simpa using h'))
 case hi => exact fun d hd => h.hi d (by simp at hd ⊢; omega)
 case okS => exact h.okS
 case okE => exact h.okE
 case eaL => exact h.eaL
 case row => exact h.row
 case refS => intro d d' hd; have := h.refS d d' hd; cases this
 case refE => intro j cs d' hj hd; have := h.refE j cs d' hj hd; cases this
 case dis => exact h.dis
 case nd => exact h.nd
 case lt => exact h.lt
 case own => exact h.own
 case notR => exact h.notR
 case PR => exact h.PR
 case ltR => exact h.ltR
 case frm => exact h.frm
theorem zNq (args : List XV) : (V.erS ⟨xM args, []⟩ : SU).s = xM (args.map erX) := by
 funext i
 simp only [V.erS, jW, xM, List.getD_eq_getElem?_getD, List.getElem?_map]
 cases args[i]? <;> rfl
theorem zQ3 (args : List XV) (ext : List (List CV)) : (V.erS ⟨xM args, ext⟩ : SU) = ⟨xM (args.map erX), ext.map (·.map erC)⟩ := by
 have := zNq args
 simp only [V.erS, jW] at this ⊢
 rw [this]
 congr 1
 exact List.map_congr_left fun cs _ => zR er0 cs
theorem zY8 {isv : Nat → Bool} (h : Rel isv w0 E0 P R ea w S tmps) {ys : List XV} (hres : ∀ y ∈ ys, Res isv w0 E0 P R ea w S y) (hbk : Bk w0 E0 R ea w S (xN ys)) (hal : ∀ y ∈ ys, l9 (V.erS S) (erX y) = true) (hex : ∀ (j : Nat) cs, S.e[j]? = some cs → ∀ r ∈ zL cs, qB r = true) :
  Out w0 E0 P R ea w (kE ys) S.e := by
 have hT : ∀ r, qB r = true → zA (⟨upd (fun _ => .undef) 0 (kE ys), S.e⟩ : SV) r = zA S r ∧ rootAd (⟨upd (fun _ => .undef) 0 (kE ys), S.e⟩ : SV) ea r = rootAd S ea r := by
  intro r hr
  cases r with
  | sl d => simp [qB] at hr
  | ex j => exact ⟨rfl, rfl⟩
 have hrx : ∀ r ∈ zD (kE ys), qB r = true := by
  intro r hr
  rw [zNb, oY, List.mem_flatMap] at hr
  obtain ⟨y, hy, hr⟩ := hr
  exact (hres y hy).ex r hr
 have hb0 : ∀ r b, b ∈ zO (⟨upd (fun _ => .undef) 0 (kE ys), S.e⟩ : SV) ea r → (r = .sl 0 ∧ b ∈ xN ys) ∨ (qB r = true ∧ b ∈ zO S ea r) := by
  intro r b hb
  cases r with
  | sl d =>
   by_cases e : d = 0
   ·subst e; left; simp only [zO, upd, if_true, zGf] at hb; exact ⟨rfl, hb⟩
   ·simp [zO, upd, e, zE] at hb
  | ex j => right; exact ⟨rfl, hb⟩
 constructor
 case val =>
  intro d hd
  have : d = 0 := by simp at hd; exact hd
  subst this
  right; simp [upd]
 case hi =>
  intro d hd
  have : d ≠ 0 := by simp at hd; omega
  simp [upd, this]
 case okS =>
  intro d
  by_cases e : d = 0
  ·subst e
   simp only [upd, if_true]
   refine kD (fun _ _ _ => rfl) (fun _ _ => rfl) (zUi (fun y hy => (hres y hy).ok (hal y hy))) (fun _ _ => rfl) (fun r hr => hT r (hrx r hr))
  ·simp [upd, e, okX]
 case okE =>
  intro j cs hj
  exact ⟨jF (fun _ _ _ => rfl) (fun _ _ => rfl) (h.okE j cs hj).1 (fun _ _ => rfl) (fun r hr => hT r (hex j cs hj r hr)), (h.okE j cs hj).2⟩
 case eaL => exact h.eaL
 case row => exact h.row
 case refS =>
  intro d d' hd
  by_cases e : d = 0
  ·subst e
   simp only [upd, if_true] at hd
   have := hrx _ hd; simp [qB] at this
  ·simp [upd, e, zD] at hd
 case refE => intro j cs d' hj hd; have := hex j cs hj _ hd; simp [qB] at this
 case dis =>
  intro r r' b hb hb'
  rcases hb0 r b hb with ⟨rfl, h1⟩ | ⟨h1, h2⟩ <;> rcases hb0 r' b hb' with ⟨rfl, h3⟩ | ⟨h3, h4⟩
  ·rfl
  ·exact absurd h4 (hbk.sep r' b h1)
  ·exact absurd h2 (hbk.sep r b h3)
  ·exact h.dis r r' b h2 h4
 case nd =>
  intro r
  cases r with
  | sl d =>
   by_cases e : d = 0
   ·subst e; simp only [zO, upd, if_true, zGf]; exact hbk.nd
   ·simp [zO, upd, e, zE]
  | ex j => exact h.nd (.ex j)
 case lt => exact fun r b hb => (hb0 r b hb).elim (fun g => hbk.lt b g.2) (fun g => h.lt r b g.2)
 case own => exact fun r b hb => (hb0 r b hb).elim (fun g => hbk.own b g.2) (fun g => h.own r b g.2)
 case notR => exact fun r b hb => (hb0 r b hb).elim (fun g => hbk.notR b g.2) (fun g => h.notR r b g.2)
 case PR => exact h.PR
 case ltR => exact h.ltR
 case frm => exact h.frm
theorem zV2 {lf : Nat} {fn : Func} {c : Code} (hm : Pr.follows .mixedOrders = true) (hty : jQ Pr cx.ty) (hf : Pr.funcs[f]? = some fn) (hb : fn.body = some c) (hck : vH cx f fn.ntmps c = true)
  {args : List XU} {ext : List (List CU)} {res : XU} {ext' : List (List CU)} (hq : bR cx f call lf fn c args ext = some (res, ext')) {w : World} {E : Nat → Prop} {P : Nat → Nat → Prop} {R : Nat → Prop} {ea : List EA} {argsG : List XV} {extG : List (List CV)} (hstep : ∀ P R ea, m7 cx f call Pr w E P R ea fn.ntmps)
  (ha : argsG.map erX = args) (he : extG.map (·.map erC) = ext) (hin : In w E P R ea argsG extG) :
  Calls Pr f (argsG.map zS).toArray w (fun
    | .returned v, w' => ∃ resG extG', erX resG = res ∧ extG'.map (·.map erC) = ext' ∧ v = zS resG ∧ Out w E P R ea w' resG extG'
    | _, _ => False) := by
 subst ha; subst he
 unfold bR at hq
 split at hq
 ·rename_i hlen
  have hat := In.at (cx := cx) (f := f) (n := fn.ntmps) hin (by simpa using hlen)
  rw [zQ3] at hat
  have fin : ∀ {S1 : SU} {ex : Ex}, y9 cx f call lf c ⟨xM (argsG.map erX), extG.map (·.map erC)⟩ = some (ex, S1) → (ex = .nrm ∨ ex = .ret) → ((pC cx f S1 fn.results.toList).bind fun r => if r.1.all (l9 r.2) && r.2.e.all (fun cs => (zP true cs).all qB) then some (eK r.1, r.2.e) else none) = some (res, ext') →
    Calls Pr f (argsG.map zS).toArray w (fun
    | .returned v, w' => ∃ resG extG', erX resG = res ∧ extG'.map (·.map erC) = ext' ∧ v = zS resG ∧ Out w E P R ea w' resG extG'
    | _, _ => False) := by
   intro S1 ex hex hk hr
   refine calls_of_wp hf hb (zWf hm hty (hstep _ _ _) (zRg hty) c hck hat hex (fun a' w' hat' => ?_))
   have main : bodyPost Pr fn (fun
    | .returned v, w' => ∃ resG extG', erX resG = res ∧ extG'.map (·.map erC) = ext' ∧ v = zS resG ∧ Out w E P R ea w' resG extG'
    | _, _ => False) .ret a' w' := by
    obtain ⟨S, hrel, rfl, hd, hsz⟩ := hat'
    cases hrs : pC cx f (V.erS S) fn.results.toList with
    | none => rw [hrs] at hr; simp at hr
    | some q =>
     obtain ⟨xs, Sx⟩ := q
     rw [hrs] at hr
     simp only [Option.bind_some] at hr
     split at hr
     ·rename_i hc
      simp only [Bool.and_eq_true, List.all_eq_true] at hc
      simp only [Option.some.injEq, Prod.mk.injEq] at hr
      obtain ⟨rfl, rfl⟩ := hr
      obtain ⟨ys, S2, rfl, rfl, c3, c4, c5, c6, c7, c8⟩ := zK3 (Pr := Pr) hty hrel hrs
      refine ⟨hd, _, zH0 fn a'.tmps w' c8, kE ys, S2.e, zUh ys, (List.map_congr_left fun cs _ => (zR er0 cs).symm), zRe ys, ?_⟩
      refine zY8 c3 c5 c6 (fun y hy => hc.1 _ (List.mem_map_of_mem hy)) (fun j cs hj => ?_)
      have hm' : (cs.map erC) ∈ (V.erS S2).e := by
       simp only [V.erS, jW]
       exact List.mem_map.2 ⟨cs, List.mem_of_getElem? hj, zR er0 cs⟩
      have := hc.2 _ hm'
      exact zFp.1 (List.all_eq_true.2 this)
     ·cases hr
   rcases hk with rfl | rfl
   ·exact main
   ·exact main
  split at hq
  ·rename_i S1 h1; exact fin h1 (.inl rfl) hq
  ·rename_i S1 h1; exact fin h1 (.inr rfl) hq
  ·cases hq
 ·cases hq
def iP (T : World → Prop) (w : World) (E : Nat → Prop) : Prop := ∀ w', Frm E w w' → T w'
theorem iP.on {T : World → Prop} {w0 w : World} {E0 E : Nat → Prop} (h : iP T w0 E0) (hf : Frm E0 w0 w) (hE : ∀ b, E b → E0 b ∨ w0.heap.size ≤ b) : iP T w E :=
 fun w' h' => h w' (hf.trans (h'.mono hE))
structure CtxOk (Pr : Program) (cx : Ctx) (T : World → Prop) : Prop where
 mixed : Pr.follows .mixedOrders = true
 ty : jQ Pr cx.ty
 name : ∀ g fn, cx.good g = true → Pr.funcs[g]? = some fn → (fn.name == "runtime.NumGoroutine") = false
 code : ∀ g fn c, cx.good g = true → Pr.funcs[g]? = some fn → fn.body = some c → vH cx g fn.ntmps c = true
 orc : ∀ g h args x, cx.orc g = some h → h args = some x → m5 Pr g ∧
  ∀ (w : World) (E : Nat → Prop) (P : Nat → Nat → Prop) (R : Nat → Prop) (ea : List EA) (argsG : List XV), iP T w E → argsG.map erX = args → In w E P R ea argsG [] →
   Calls Pr g (argsG.map zS).toArray w (fun
    | .returned v, w' => ∃ resG, erX resG = x ∧ v = zS resG ∧ Out w E P R ea w' resG []
    | _, _ => False)
 step : ∀ call w0 E0, l6 Pr call w0 E0 → ∀ g n P R ea, m7 cx g call Pr w0 E0 P R ea n
theorem zFc {fn : Func} {g : Nat} {c : Code} (hf : Pr.funcs[g]? = some fn) (hb : fn.body = some c) (hn : (fn.name == "runtime.NumGoroutine") = false) : m5 Pr g := by
 intro args w
 simp only [beq_eq_false_iff_ne, ne_eq] at hn
 simp [callFunc, hf, hb, hn]
theorem zUz {T : World → Prop} (hcx : CtxOk Pr cx T) : ∀ k w0 E0, iP T w0 E0 → l6 Pr (run Pr cx k) w0 E0
 | 0, w0, E0, hT => by intro g args ext res ext' h; simp [run] at h
 | k + 1, w0, E0, hT => by
  have ih := zUz hcx k
  intro g args ext res ext' h
  simp only [run] at h
  split at h
  ·rename_i hh ho
   split at h
   ·cases hx : hh args with
    | none => simp [hx] at h
    | some x =>
     simp only [hx, Option.map_some, Option.some.injEq, Prod.mk.injEq] at h
     obtain ⟨rfl, rfl⟩ := h
     obtain ⟨h1, h2⟩ := hcx.orc g hh args x ho hx
     refine ⟨h1, fun w E P R ea argsG extG hf1 hf2 ha he hin => ?_⟩
     have : extG = [] := by simpa using he
     subst this
     refine (h2 w E P R ea argsG (hT.on hf1 hf2) ha hin).mono fun e w' he' => ?_
     cases e with
     | returned v => obtain ⟨resG, g1, g2, g3⟩ := he'; exact ⟨resG, [], g1, rfl, g2, g3⟩
     | panicked _ => exact he'
     | outgrown => exact he'
   ·cases h
  ·split at h
   ·rename_i fn hf
    split at h
    ·rename_i c hb
     split at h
     ·rename_i hg
      exact ⟨zFc hf hb (hcx.name g fn hg hf), fun w E P R ea argsG extG hf1 hf2 ha he hin => zV2 hcx.mixed hcx.ty hf hb (hcx.code g fn c hg hf hb) h (fun P R ea => hcx.step _ w E (ih w E (hT.on hf1 hf2)) g _ P R ea) ha he hin⟩
     ·cases h
    ·cases h
   ·cases h
end
end Go.Proofs.Ytlkjnlfddadlmaa.V
namespace Go.Proofs.Ytlkjnlfddadlmaa.V
open Go.RowKit
section
variable {cx : Ctx} {f : Nat} {w0 : World} {E0 : Nat → Prop} {P : Nat → Nat → Prop} {R : Nat → Prop} {ea : List EA} {w w' : World} {a : Act} {call : zW} {Pr : Program} {S S0 S1 S2 S3 : SV} {tmps : Array Value}
def r6 (w : World) (v : Value) (m : Nat) (vs : List Value) : Prop :=
 ∃ A cap, v = .slice A m cap ∧ (vs = [] ∨ ∃ ad, A = some ad ∧ ad.spot = none ∧ v8 w ad.block ad.off vs)
theorem wM.behind {v : Value} {sz n : Nat} {vs : List Value} (h : wM w v sz n vs) (hl : vs.length = n * sz) : r6 w v n vs := by
 rcases h with ⟨rfl, rfl⟩ | ⟨b, o, cur, e, ⟨ad, cap, rfl, h1, h2, rfl, h3⟩, hh, hv⟩
 ·exact ⟨none, 0, rfl, .inl (by rw [Nat.zero_mul] at hl; exact List.length_eq_zero_iff.1 hl)⟩
 ·refine ⟨some ad, cap, rfl, ?_⟩
  by_cases hn : n = 0
  ·left; rw [hn, Nat.zero_mul] at hl; exact List.length_eq_zero_iff.1 hl
  ·right
   obtain ⟨rfl, h4⟩ := h3.resolve_left (by omega)
   refine ⟨ad, rfl, h2, fun j v hj => ?_⟩
   simp only [World.cell?, hh, Option.isSome_none, Bool.false_eq_true, if_false]
   exact hv j v hj
theorem tJ.behind {Q : Nat → Prop} {v : Value} {sz n : Nat} {vs : List Value} (h : tJ w Q v n vs) (hl : vs.length = n * sz) : r6 w v n vs := by
 obtain ⟨A, cap, rfl, _, h⟩ := h
 refine ⟨A, cap, rfl, ?_⟩
 rcases h with rfl | ⟨ad, rfl, h1, _, h2⟩
 ·left; rw [Nat.zero_mul] at hl; exact List.length_eq_zero_iff.1 hl
 ·exact .inr ⟨ad, rfl, h1, h2⟩
theorem r6.src {size tx : Nat} {v : Value} {m : Nat} {vs : List Value} (h : r6 w v m vs) (hk : (∃ e', Pr.underlying tx = some (.slice e')) ∨ Pr.underlying tx = some .string) (hl : vs.length = m * size) (h1 : ∀ u ∈ vs, u.oneCell' = true) : Src Pr size tx v m vs w := by
 obtain ⟨A, cap, rfl, h⟩ := h
 have hcell : ∀ w' : World, (∀ b o, w'.cell? ⟨b, o, none⟩ = w.cell? ⟨b, o, none⟩) → (Builtin.firstCells size m (.slice A m cap)).run Pr w' = .ok vs.toArray w' := by
  intro w' hw'
  rcases h with rfl | ⟨ad, rfl, hs, hc⟩
  ·cases A with
   | none => exact run_firstCells_none w' size m m cap
   | some ad => exact run_firstCells_some w' size m ad m cap [] (by simpa using hl) (by simp)
  ·refine run_firstCells_some w' size m ad m cap vs hl (fun j u hu => ?_)
   have e : ad.add j = ⟨ad.block, ad.off + j, none⟩ := by
    unfold Addr.add
    split
    ·cases ad; simp only at hs; subst hs; simp_all
    ·rfl
   rw [e, hw']
   exact hc j u hu
 exact ⟨hk, fun _ => rfl, hcell w (fun _ _ => rfl), hcell w.drew (fun _ _ => rfl), hl, h1⟩
theorem zPp {x : TV} (h : okT w P R x) : (zZ x).oneCell' = true := by
 have := rA (S := (⟨fun _ => .undef, []⟩ : SV)) (ea := []) (c := .t x) (by simpa only [okC] using h)
 simpa only [zN] using this
theorem zJp (h : Rel (zB cx f) w0 E0 P R ea w S tmps) (ha : a.tmps = tmps) {o : Operand} {t : Nat} {zs : List TU} {sz n : Nat} {Su : SU} (hq : gM cx f (V.erS S) o t = some (zs, sz, n, Su)) :
  ∃ (us : List TV) (S2 : SV), us.map erT = zs ∧ V.erS S2 = Su ∧ Rel (zB cx f) w0 E0 P R ea w S2 tmps ∧ (∀ k b, b ∈ zO S2 ea k → b ∈ zO S ea k) ∧ okT w P R (.sl (a.eval o) 0 sz n us) ∧ Bk w0 E0 R ea w S2 (zY (.sl (a.eval o) 0 sz n us)) ∧
   (∀ b ∈ zY (.sl (a.eval o) 0 sz n us), ∃ k, b ∈ zO S ea k) := by
 unfold gM at hq
 split at hq
 ·rename_i _ sz' n' cs hx
  simp only [Option.some.injEq, Prod.mk.injEq] at hq
  obtain ⟨rfl, rfl, rfl, rfl⟩ := hq
  obtain ⟨xG, hxG⟩ := h.opv ha hx
  obtain ⟨cG, rfl, hc⟩ := zEo hxG.er
  obtain ⟨y, rfl, hy⟩ := vZ hc
  obtain ⟨v, ds, rfl, hds⟩ := zJc hy
  have hv : a.eval o = v := by simpa [zS, zN, zZ] using hxG.val
  subst hv
  have hn := hxG.new
  refine ⟨ds, V.clr cx f S o, hds, uH o, h.clr o, ?_, by simpa only [okX, okC] using hn.ok, by simpa only [zE, zQ] using hn.bk, fun b hb => hxG.src b (by simpa only [zE, zQ] using hb)⟩
  intro k b hb
  cases o with
  | tmp d =>
   simp only [V.clr] at hb
   split at hb
   ·exact hb
   ·split at hb
    ·by_cases e : k = .sl d
     ·subst e; simp [zO, upd, zE] at hb
     ·rwa [qN e] at hb
    ·exact hb
  | _ => exact hb
 ·rename_i v r p i off sz' n' hx
  split at hq
  ·cases hq
  ·obtain ⟨cG, hcG, hval, hok, hrf⟩ := kO h ha hx
   obtain ⟨v', rfl⟩ := zMr hcG
   simp only [okC] at hok
   cases ht : xP (V.erS S) () r p i off sz' n' with
   | none =>
    change ((xP (V.erS S) () r p i off sz' n').bind _) = _ at hq
    rw [ht] at hq; simp at hq
   | some q =>
    obtain ⟨tt, Sq⟩ := q
    change ((xP (V.erS S) () r p i off sz' n').bind _) = _ at hq
    rw [ht] at hq
    simp only [Option.bind_some] at hq
    obtain ⟨tG, S2, e1, e2, e3, e4, e5, e6, e7⟩ := iN h hok ht
    have hsl : ∃ cs, tt = .sl () 0 sz' n' cs := by
     unfold xP at ht
     split at ht
     ·split at ht
      ·cases hp : z9 (V.erS S) r p i (.t (.dead _)) with
       | none => rw [hp] at ht; simp at ht
       | some S' => rw [hp] at ht; simp only [Option.map_some, Option.some.injEq, Prod.mk.injEq] at ht; exact ⟨_, ht.1.symm⟩
      ·cases ht
     ·cases ht
    obtain ⟨cs, rfl⟩ := hsl
    simp only [Option.some.injEq, Prod.mk.injEq] at hq
    obtain ⟨rfl, rfl, rfl, rfl⟩ := hq
    obtain ⟨v2, ds, rfl, hds⟩ := zJc e1
    have hv : a.eval o = v2 := by
     rw [hval]
     simpa only [zZ, zN] using e3.symm
    subst hv
    exact ⟨ds, S2, hds, e2, e4, e5.blk, by simpa only [okX, okC] using e6.ok, by simpa only [zE, zQ] using e6.bk, fun b hb => ⟨_, e7 b hb⟩⟩
 ·rename_i v sz' n' cs hx
  obtain ⟨xG, hxG⟩ := h.opv ha hx
  obtain ⟨cG, rfl, hc⟩ := zEo hxG.er
  obtain ⟨v', ds, rfl, hds⟩ := zYm hc
  subst hds
  have hn := hxG.new
  rw [← uH] at hq
  cases hs : x7 (ds.map erC) (V.erS (V.clr cx f S o)) with
  | none => rw [hs] at hq; simp at hq
  | some q =>
   obtain ⟨ts, Sq⟩ := q
   rw [hs] at hq
   simp only [Option.map_some, Option.some.injEq, Prod.mk.injEq] at hq
   obtain ⟨rfl, rfl, rfl, rfl⟩ := hq
   have hset : yU (erC (.lst v' sz' n' ds)) (V.erS (V.clr cx f S o)) = some (.sl (er0 v') 0 sz' n' ts, Sq) := by
    simp only [erC, zJ, zR, yU]
    rw [show (x7 (ds.map (zJ er0)) (V.erS (V.clr cx f S o))) = some (ts, Sq) from hs]
    rfl
   have hok : okC w P R (V.clr cx f S o) ea (.lst v' sz' n' ds) := by simpa only [okX] using hn.ok
   obtain ⟨tG, S2, e1, e2, e3, e4, e5, e6, e7, e8⟩ := lW (h.clr o) Emp.refl hok (by simpa only [zE] using hn.bk) hset
   obtain ⟨v2, us, rfl, hus⟩ := zJc e1
   have hv : a.eval o = v2 := by
    rw [hxG.val]
    simpa only [zZ, zN, zS] using e3.symm
   subst hv
   have hclr : ∀ k b, b ∈ zO (V.clr cx f S o) ea k → b ∈ zO S ea k := by
    intro k b hb
    cases o with
    | tmp d =>
     simp only [V.clr] at hb
     split at hb
     ·exact hb
     ·split at hb
      ·by_cases e : k = .sl d
       ·subst e; simp [zO, upd, zE] at hb
       ·rwa [qN e] at hb
      ·exact hb
    | _ => exact hb
   refine ⟨us, S2, hus, e2, e4, fun k b hb => hclr k b (e5.blk k b hb), e6, e7, fun b hb => ?_⟩
   rcases e8 b hb with g | ⟨k, g⟩
   ·exact hxG.src b (by simpa only [zE] using g)
   ·exact ⟨k, hclr k b g⟩
 ·cases hq
theorem zEq (h : Rel (zB cx f) w0 E0 P R ea w S tmps) {r : Root} {p : List Nat} {i off sz n : Nat} {v : Value} (hb : wQ S r p i off sz n v) (hsz : 0 < sz) {ds : List TV} (hl : qF S r p i off (n * sz) = some ds) :
  xS w P R ds ∧ ds.length = n * sz ∧ r6 w v n (ds.map zZ) := by
 obtain ⟨b, m, es, hat, hle, hok, hown, _⟩ := zAo h hb hsz
 unfold qF at hl
 rw [hat] at hl
 simp only [if_pos hle, Option.some.injEq] at hl
 subst hl
 have hlen : ((es.drop off).take (n * sz)).length = n * sz := by rw [List.length_take, List.length_drop]; omega
 exact ⟨lL (bX hok), hlen, hown.behind (by rw [List.length_map, hlen])⟩
theorem zVo (h : Rel (zB cx f) w0 E0 P R ea w S tmps) (ha : a.tmps = tmps) {o : Operand} {t : Nat} {fl : Bool} {ys : List TU} {sz m : Nat} {Su : SU} (hsz : 0 < sz) (hq : w8 cx f (V.erS S) o t fl = some (ys, sz, m, Su)) :
  ∃ (us : List TV) (S2 : SV), us.map erT = ys ∧ V.erS S2 = Su ∧ Rel (zB cx f) w0 E0 P R ea w S2 tmps ∧ xS w P R us ∧ Bk w0 E0 R ea w S2 (z6 us) ∧ us.length = m * sz ∧
   (r6 w (a.eval o) m (us.map zZ) ∨ ∃ s : List UInt8, sz = 1 ∧ m = s.length ∧ a.eval o = .string ⟨s.toArray⟩ ∧ us.map zZ = byteCells ⟨s.toArray⟩) := by
 have hnob : ∀ {us : List TV}, z6 us = [] → Bk w0 E0 R ea w S (z6 us) := fun e => by
  rw [e]; exact ⟨List.nodup_nil, fun _ _ h => (by cases h), fun _ h => (by cases h), fun _ h => (by cases h), fun _ h => (by cases h)⟩
 have head : gM cx f (V.erS S) o t = some (ys, sz, m, Su) → ∃ (us : List TV) (S2 : SV), us.map erT = ys ∧ V.erS S2 = Su ∧ Rel (zB cx f) w0 E0 P R ea w S2 tmps ∧ xS w P R us ∧ Bk w0 E0 R ea w S2 (z6 us) ∧ us.length = m * sz ∧
   (r6 w (a.eval o) m (us.map zZ) ∨ ∃ s : List UInt8, sz = 1 ∧ m = s.length ∧ a.eval o = .string ⟨s.toArray⟩ ∧ us.map zZ = byteCells ⟨s.toArray⟩) := by
  intro hq
  obtain ⟨us, S2, e1, e2, e3, _, e5, e6, _⟩ := zJp h ha hq
  simp only [okT, if_true] at e5
  refine ⟨us, S2, e1, e2, e3, e5.2.1, e6.sub (by simp only [zY, if_true]; exact List.sublist_append_right _ _), e5.1, .inl (e5.2.2.behind (by simpa using e5.1))⟩
 unfold w8 at hq
 split at hq
 ·rename_i _ tag sz' n' cs hx
  simp only [Option.some.injEq, Prod.mk.injEq] at hq
  obtain ⟨rfl, rfl, rfl, rfl⟩ := hq
  obtain ⟨cG, hcG, hval, hok, hrf⟩ := kO h ha hx
  obtain ⟨y, rfl, hy⟩ := vZ hcG
  obtain ⟨v, ds, rfl, hds⟩ := zJc hy
  simp only [okC, okT, Nat.succ_ne_zero, if_false] at hok
  obtain ⟨k1, k2, k3, k4, k5⟩ := hok
  have hv : a.eval o = v := by simpa [zN, zZ] using hval
  refine ⟨ds, S, hds, rfl, h, k2, hnob ?_, k1, .inl (by rw [hv]; exact k3.behind (by simpa using k1))⟩
  rw [xD, List.flatMap_eq_nil_iff]
  exact fun x hx => f0 (xQ.1 k5 x hx)
 ·rename_i s hx
  simp only [Option.some.injEq, Prod.mk.injEq] at hq
  obtain ⟨rfl, rfl, rfl, rfl⟩ := hq
  obtain ⟨cG, hcG, hval, hok, hrf⟩ := kO h ha hx
  obtain ⟨y, rfl, hy⟩ := vZ hcG
  have := zBw hy
  subst this
  have hv : a.eval o = .string ⟨s.toArray⟩ := by simpa [zN, zZ] using hval
  refine ⟨s.map fun b => .int .u8 b.toNat, S, by simp [zE0, erT, yA], rfl, h, ?_, hnob ?_, by simp, .inr ⟨s, rfl, rfl, hv, ?_⟩⟩
  ·exact yJ.2 fun x hx => by obtain ⟨b, _, rfl⟩ := List.mem_map.1 hx; simp [okT]
  ·rw [xD, List.flatMap_eq_nil_iff]
   intro x hx; obtain ⟨b, _, rfl⟩ := List.mem_map.1 hx; simp [zY]
  ·simp [byteCells, zZ]
 ·rename_i _ r p i off sz' n' hx
  split at hq
  ·obtain ⟨cG, hcG, hval, hok, hrf⟩ := kO h ha hx
   obtain ⟨v, rfl⟩ := zMr hcG
   simp only [okC] at hok
   cases hl : qF (V.erS S) r p i off (n' * sz') with
   | none => rw [hl] at hq; simp at hq
   | some cs =>
    rw [hl] at hq
    simp only [Option.bind_some] at hq
    split at hq
    ·rename_i hfl
     simp only [Option.some.injEq, Prod.mk.injEq] at hq
     obtain ⟨rfl, rfl, rfl, rfl⟩ := hq
     have hm : qF (V.erS S) r p i off (n' * sz') = (qF S r p i off (n' * sz')).map (·.map (yA er0)) := sY er0 S r p i off (n' * sz')
     rw [hm] at hl
     cases hg : qF S r p i off (n' * sz') with
     | none => rw [hg] at hl; simp at hl
     | some ds =>
      rw [hg] at hl
      simp only [Option.map_some, Option.some.injEq] at hl
      subst hl
      obtain ⟨g1, g2, g3⟩ := zEq h hok hsz hg
      have hv : a.eval o = v := by simpa [zN] using hval
      refine ⟨ds, S, rfl, rfl, h, g1, hnob ?_, g2, .inl (by rw [hv]; exact g3)⟩
      rw [xD, List.flatMap_eq_nil_iff]
      intro x hx
      have hf := List.all_eq_true.1 hfl (yA er0 x) (List.mem_map_of_mem hx)
      cases x with
      | sl v2 tag sz2 n2 cs2 => cases tag with
       | zero => simp [yA, zO3] at hf
       | succ g => simp [zY]
      | _ => simp [zY]
    ·cases hq
  ·exact head hq
 ·exact head hq
end
end Go.Proofs.Ytlkjnlfddadlmaa.V
namespace Go.Proofs.Ytlkjnlfddadlmaa.V
open Go.RowKit
section
variable {cx : Ctx} {f : Nat} {w0 : World} {E0 : Nat → Prop} {P : Nat → Nat → Prop} {R : Nat → Prop} {ea : List EA} {w w' : World} {a : Act} {call : zW} {Pr : Program} {S S0 S1 S2 S3 : SV} {tmps : Array Value}
theorem rW {b : Nat} {e : TypeId} : ∀ {vs : List Value} {o : Nat} {w : World} {cur : Array Value}, w.heap[b]? = some (.cells cur e (0, 0)) → o + vs.length ≤ cur.size →
  ∃ cur', (w.setCells b o vs).heap[b]? = some (.cells cur' e (0, 0)) ∧ cur'.size = cur.size ∧ (∀ j v, vs[j]? = some v → cur'[o + j]? = some v) ∧ (∀ k, k < o → cur'[k]? = cur[k]?)
 | [], o, w, cur, h, _ => ⟨cur, h, rfl, by simp, fun _ _ => rfl⟩
 | v :: vs, o, w, cur, h, hl => by
  simp only [List.length_cons] at hl
  obtain ⟨cur', h1, h2, h3, h4⟩ := rW (vs := vs) (o := o + 1) (heap_setCell (o := o) (v := v) h) (by simp; omega)
  refine ⟨cur', h1, by simpa using h2, fun j u hj => ?_, fun k hk => ?_⟩
  ·cases j with
   | zero =>
    simp only [List.getElem?_cons_zero, Option.some.injEq] at hj
    subst hj
    rw [Nat.add_zero, h4 o (by omega), Array.getElem?_setIfInBounds_self_of_lt (by omega)]
   | succ j =>
    simp only [List.getElem?_cons_succ] at hj
    rw [show o + (j + 1) = o + 1 + j by omega]
    exact h3 j u hj
  ·rw [h4 k (by omega), Array.getElem?_setIfInBounds_ne (by omega)]
theorem pF {b k : Nat} (hk : k ≠ b) : ∀ {vs : List Value} {o : Nat} {w : World}, (w.setCells b o vs).heap[k]? = w.heap[k]?
 | [], o, w => rfl
 | v :: vs, o, w => by
  simp only [World.setCells]
  rw [pF hk, gV hk]
theorem fO (b : Nat) : ∀ (vs : List Value) (o : Nat) (w : World), (w.setCells b o vs).os = w.os ∧ (w.setCells b o vs).tape = w.tape ∧ (w.setCells b o vs).output = w.output ∧ (w.setCells b o vs).heap.size = w.heap.size
 | [], _, _ => ⟨rfl, rfl, rfl, rfl⟩
 | v :: vs, o, w => by
  obtain ⟨h1, h2, h3, h4⟩ := fO b vs (o + 1) (w.setCell ⟨b, o, none⟩ v)
  exact ⟨h1, h2, h3, by rw [World.setCells, h4]; simp [World.setCell]⟩
theorem Rel.apart {isv : Nat → Bool} (h : Rel isv w0 E0 P R ea w S tmps) {B : Nat} (hB : ∀ r, B ∉ zO S ea r) (hR : ¬ R B) (hE : E0 B ∨ w0.heap.size ≤ B) (hw : ∀ k, k ≠ B → w'.heap[k]? = w.heap[k]?) (hr : w'.os = w.os ∧ w'.tape = w.tape ∧ w'.output = w.output ∧ w'.heap.size = w.heap.size) :
  Rel isv w0 E0 P R ea w' S tmps := by
 have hRB : ∀ b, R b → b ≠ B := fun b hb e => hR (e ▸ hb)
 have hPB : ∀ t b, P t b → b ≠ B := fun t b hb e => hR (e ▸ h.PR t b hb)
 constructor
 case val => exact h.val
 case hi => exact h.hi
 case okS => exact fun d => oW hw hPB hRB (h.okS d) (hB (.sl d))
 case okE =>
  intro j cs hj
  refine ⟨z0.2 fun c hc => gZ hw hPB hRB (z0.1 (h.okE j cs hj).1 c hc) (fun hb => hB (.ex j) (sD hj (by rw [yX, List.mem_flatMap]; exact ⟨c, hc, hb⟩))), fun ad had => ?_⟩
  exact ((h.okE j cs hj).2 ad had).same (hw _ (fun e => hB (.ex j) (e ▸ sC had)))
 case eaL => exact h.eaL
 case row => exact h.row
 case refS => exact h.refS
 case refE => exact h.refE
 case dis => exact h.dis
 case nd => exact h.nd
 case lt => intro r b hb; rw [hr.2.2.2]; exact h.lt r b hb
 case own => exact h.own
 case notR => exact h.notR
 case PR => exact h.PR
 case ltR => intro b hb; rw [hr.2.2.2]; exact h.ltR b hb
 case frm =>
  refine ⟨hr.1.trans h.frm.os, hr.2.1.trans h.frm.tape, hr.2.2.1.trans h.frm.output, by rw [hr.2.2.2]; exact h.frm.size, fun k hk hE' => ?_⟩
  have : k ≠ B := by
   rintro rfl
   rcases hE with g | g
   ·exact hE' g
   ·omega
  exact (hw k this).trans (h.frm.block k hk hE')
theorem zQr (hty : jQ Pr cx.ty) (h : Rel (zB cx f) w0 E0 P R ea w S tmps) (ha : a.tmps = tmps) {o : Oper} {c : Call} (ho : o.op = .call c) (hcal : c.callee = .builtin .append) {s x : Operand} (hargs : c.args.toList = [s, x]) {z : XU} {Su : SU}
  (hq : uG cx f (V.erS S) c.argTypes.toList s x = some (z, Su)) :
  ∃ w' S' xG, erX xG = z ∧ V.erS S' = Su ∧ Rel (zB cx f) w0 E0 P R ea w' S' tmps ∧ New (zB cx f) w0 E0 P R ea w' S' xG ∧ (execOp a.eval o).run Pr w = .ok (.value (zS xG)) w' := by
 unfold uG at hq
 split at hq
 ·rename_i t t' hts
  have hta : c.argTypes = #[t, t'] := by apply Array.ext'; simp [hts]
  split at hq
  ·rename_i el hel
   cases ht : w8 cx f (V.erS S) x t' (cx.ty el).flat with
   | none => simp [ht] at hq
   | some q =>
    obtain ⟨ys, sz', m, Su1⟩ := q
    simp only [ht, Option.bind_some] at hq
    cases hh : gM cx f Su1 s t with
    | none => simp [hh] at hq
    | some q =>
     obtain ⟨zs, sz, n, Su2⟩ := q
     simp only [hh, Option.bind_some] at hq
     split at hq
     ·rename_i hc
      obtain ⟨rfl, hsz', hsz, hok, htok, hty', hmax, hby⟩ := hc
      simp only [Option.some.injEq, Prod.mk.injEq] at hq
      obtain ⟨rfl, rfl⟩ := hq
      obtain ⟨us, S1, rfl, rfl, r1, u2, u3, u4, u5⟩ := zVo h ha (by omega) ht
      obtain ⟨hs, S2, rfl, rfl, r2, v2, v3, v4, v5⟩ := zJp r1 ha hh
      -- types
      obtain ⟨ti, d, zz, hf⟩ := hty.facts htok
      have hd := hf.slice hel
      subst hd
      obtain ⟨ti2, d2, zz2, hf2⟩ := hty.facts hok
      have hzs : zz2.cells.size = (cx.ty el).sz := by
       have := bT hf2.zs
       rw [Array.length_toList, hf2.zlen] at this
       exact this.symm
      have hkind : (∃ e', Pr.underlying t' = some (.slice e')) ∨ Pr.underlying t' = some .string := by
       simp only [zNw, Bool.and_eq_true, Bool.or_eq_true, beq_iff_eq] at hty'
       obtain ⟨g1, g2⟩ := hty'
       obtain ⟨ti', d', zz', hf'⟩ := hty.facts g1
       rcases g2 with g2 | g2
       ·obtain ⟨el', hel'⟩ := Option.isSome_iff_exists.mp g2
        have := hf'.slice hel'
        subst this
        exact .inl ⟨_, hf'.und⟩
       ·obtain ⟨d3, hd3, hk3⟩ := xW (t := t') hty (k := 3) (by omega) (by simp [jR, g1, g2])
        have : d3 = .string := by cases d3 <;> simp [kK] at hk3 <;> rfl
        subst this
        exact .inr hd3
      have hul : us.length = m * (cx.ty el).sz := by rw [← hsz']; exact u4
      have hunl : (us.map zZ).length = m * ti2.size := by rw [List.length_map, hf2.size]; exact hul
      have hone : ∀ u ∈ us.map zZ, u.oneCell' = true := by
       intro u hu
       obtain ⟨y, hy, rfl⟩ := List.mem_map.1 hu
       exact zPp (yJ.1 u2 y hy)
      have hsrc : Src Pr ti2.size t' (a.eval x) m (us.map zZ) w := by
       rcases u5 with u5 | ⟨b, g1, g2, g3, g4⟩
       ·exact u5.src hkind hunl hone
       ·rw [g3, g4]
        have hsb : (⟨b.toArray⟩ : ByteArray).size = b.length := by simp [ByteArray.size]
        have hs1 : ti2.size = 1 := by rw [hf2.size]; omega
        have hstr : Pr.underlying t' = some .string ∨ ∃ e', Pr.underlying t' = some (.slice e') := hkind.symm
        rw [g2, ← hsb, hs1]
        exact ⟨hkind, fun _ => rfl, firstCells_string _ w, firstCells_string _ w.drew, by rw [byteCells_length, Nat.mul_one], fun u hu => by
         obtain ⟨_, _, rfl⟩ := List.mem_map.1 hu
         rfl⟩
      simp only [okT, if_true] at v3
      obtain ⟨w1, w2, w3⟩ := v3
      simp only [zY, if_true] at v4 v5
      -- the parts' blocks
      have ubk : Bk w0 E0 R ea w S2 (z6 us) := ⟨u3.nd, fun r b hb hb' => u3.sep r b hb (v2 r b hb'), u3.lt, u3.own, u3.notR⟩
      have hdis : ∀ b ∈ hdr (a.eval s) ++ z6 hs, b ∉ z6 us := by
       intro b hb hb'
       obtain ⟨k, hk⟩ := v5 b hb
       exact u3.sep k b hb' hk
      have hlen : (hs ++ us).length = (n + m) * (cx.ty el).sz := by rw [List.length_append, w1, hul, Nat.add_mul]
      have hokall : xS w P R (hs ++ us) := yJ.2 fun y hy => by
       rcases List.mem_append.1 hy with hy | hy
       ·exact yJ.1 w2 y hy
       ·exact yJ.1 u2 y hy
      have hblk : z6 (hs ++ us) = z6 hs ++ z6 us := by rw [xD, xD, xD, List.flatMap_append]
      have hallbk : Bk w0 E0 R ea w S2 (z6 (hs ++ us)) := by
       rw [hblk]
       exact (v4.sub (List.sublist_append_right _ _)).append ubk (fun b hb => hdis b (List.mem_append_right _ hb))
      have hrunv : ∀ {v : Value} {w' : World}, (Builtin.append_ c.argTypes o.type #[a.eval s, a.eval x]).run Pr w = .ok v w' → (execOp a.eval o).run Pr w = .ok (.value v) w' := by
       intro v w' hr
       simp [execOp, ho, resolve, hcal, invoke, builtin, zOi hargs, hr]
      have hsmall : n + m ≤ 9223372036854775807 := by unfold maxLen at hmax; omega
      -- a new row
      have grow : ∀ {base : Option Addr} {cap : Nat}, a.eval s = .slice base n cap → cap < n + m →
        ∃ w' S' xG, erX xG = .c (.t (.sl () 0 (cx.ty el).sz (n + m) (hs.map erT ++ us.map erT))) ∧ V.erS S' = V.erS S2 ∧ Rel (zB cx f) w0 E0 P R ea w' S' tmps ∧ New (zB cx f) w0 E0 P R ea w' S' xG ∧ (execOp a.eval o).run Pr w = .ok (.value (zS xG)) w' := by
       intro base cap hbase hg
       have hsrc2 : Src Pr ti2.size t (a.eval s) n (hs.map zZ) w := (w3.behind (by rw [List.length_map]; exact w1)).src (.inl ⟨_, hf.und⟩) (by rw [List.length_map, hf2.size]; exact w1) (fun u hu => by
        obtain ⟨y, hy, rfl⟩ := List.mem_map.1 hu
        exact zPp (yJ.1 w2 y hy))
       have hfit : Builtin.nextslicecap (n + m) cap * ti2.bytes ≤ 281474976710656 := by
        rw [hf2.bytes]
        have h1 := nextslicecap_le hg
        have h2 : Builtin.nextslicecap (n + m) cap * (cx.ty el).bytes ≤ 2 * (n + m) * (cx.ty el).bytes := Nat.mul_le_mul_right _ h1
        have h3 : 2 * (n + m) * (cx.ty el).bytes = 2 * ((n + m) * (cx.ty el).bytes) := by rw [Nat.mul_assoc]
        omega
       have hr := run_append_grow_src w t t' o.type el ti2 zz2 hf.und hf2.info hf2.zero base n cap (hs.map zZ) (by have := hsrc2.cellsD; rwa [hbase] at this) (a.eval x) m (us.map zZ) hsrc hg (by omega) hfit
       rw [← hbase, ← hta] at hr
       have hcap := grownCap_ge w (n + m) cap el
       have hrD := r2.grow (Grow.drew w)
       have hn0 : New (zB cx f) w0 E0 P R ea w.drew S2 (.agg ((hs ++ us).map .t)) := by
        have hb1 : zH ((hs ++ us).map C.t) = z6 (hs ++ us) := by rw [yX, xD, List.flatMap_map]; rfl
        refine ⟨?_, ?_, ?_, ?_, ?_, ?_, ?_⟩
        ·simp only [okX]
         refine z0.2 fun c hc => ?_
         obtain ⟨y, hy, rfl⟩ := List.mem_map.1 hc
         simp only [okC]
         exact aY (w := w) (w' := w.drew) (fun _ _ _ => rfl) (fun _ _ => rfl) (yJ.1 hokall y hy) (fun _ _ => rfl)
        ·intro d' hd'
         simp only [zD, yI, List.mem_flatMap] at hd'
         obtain ⟨c, hc, hd'⟩ := hd'
         obtain ⟨y, _, rfl⟩ := List.mem_map.1 hc
         simp [zF] at hd'
        ·simp only [zE, hb1]; exact hallbk.nd
        ·intro r b hb; exact hallbk.sep r b (by simpa only [zE, hb1] using hb)
        ·intro b hb; exact hallbk.lt b (by simpa only [zE, hb1] using hb)
        ·intro b hb; exact hallbk.own b (by simpa only [zE, hb1] using hb)
        ·intro b hb; exact hallbk.notR b (by simpa only [zE, hb1] using hb)
       have hvc : yC ((hs ++ us).map C.t) = hs.map zZ ++ us.map zZ := by rw [z8, List.map_map, ← List.map_append]; rfl
       obtain ⟨k1, k2⟩ := New.row (cur := (hs.map zZ ++ us.map zZ).toArray ++ Builtin.zeroCells zz2.cells (grownCap w (n + m) cap el - (n + m))) (e := el) (sz := (cx.ty el).sz) (n := n + m) (cap := grownCap w (n + m) cap el) hrD hn0
        (by rw [List.length_map]; exact hlen) hcap (by
         have e1 : (Builtin.zeroCells zz2.cells (grownCap w (n + m) cap el - (n + m))).size = (grownCap w (n + m) cap el - (n + m)) * zz2.cells.size := by simp [Builtin.zeroCells]
         rw [Array.size_append, e1, hzs, List.size_toArray, ← List.map_append, List.length_map, hlen, ← Nat.add_mul]
         rw [show n + m + (grownCap w (n + m) cap el - (n + m)) = grownCap w (n + m) cap el by omega]
         exact Nat.le_refl _) (by
         intro j v hj
         rw [hvc] at hj
         have hlt := (List.getElem?_eq_some_iff.1 hj).1
         rw [Array.getElem?_append_left (by simpa using hlt)]
         simpa using hj)
       refine ⟨_, S2, _, ?_, rfl, k1, k2.lst_t, ?_⟩
       ·simp [erX, zV, zJ, yA, yQ, er0]
       ·have := hrunv hr
        simpa [zS, zN, zZ] using this
      rcases w3 with ⟨hnil, rfl⟩ | ⟨b, o', cur, e, ⟨ad, cap, hv, h1, h2, rfl, h3⟩, hhp, hcv⟩
      ·-- nil
       have hhs : hs = [] := by rw [Nat.zero_mul] at w1; exact List.length_eq_zero_iff.1 w1
       subst hhs
       by_cases hm : m = 0
       ·subst hm
        have hus : us = [] := by rw [Nat.zero_mul] at hul; exact List.length_eq_zero_iff.1 hul
        subst hus
        have hr := run_append_nothing (P := Pr) w t t' o.type el ti2 hf.und hf2.info none 0 0 (Nat.le_refl _) (a.eval x) (by simpa using hsrc)
        rw [← hnil, ← hta] at hr
        refine ⟨w, S2, .c (.t (.sl (a.eval s) 0 (cx.ty el).sz (0 + 0) [])), by simp [erX, zV, zJ, yA, kV, er0], rfl, r2, ?_, by simpa [zS, zN, zZ] using hrunv hr⟩
        refine ⟨?_, by simp [zD, zF], ?_, ?_, ?_, ?_, ?_⟩
        ·simp only [okX, okC, okT, if_true, xS, List.length_nil, Nat.zero_add, Nat.zero_mul, List.map_nil, true_and]
         exact .inl ⟨hnil, rfl⟩
        all_goals simp [zE, zQ, zY, hnil, hdr, z6]
       ·exact grow hnil (by omega)
      ·by_cases hroom : n + m ≤ cap
       ·-- there is room
        have had : ad = ⟨ad.block, ad.off, none⟩ := by cases ad; simp only at h2; subst h2; rfl
        have hin : m ≠ 0 → ad.off = o' ∧ o' + cap * (cx.ty el).sz ≤ cur.size := fun hm => h3.resolve_left (by omega)
        have hmul : (n + m) * (cx.ty el).sz ≤ cap * (cx.ty el).sz := Nat.mul_le_mul_right _ hroom
        have hmul' : (n + m) * (cx.ty el).sz = n * (cx.ty el).sz + m * (cx.ty el).sz := Nat.add_mul _ _ _
        have hcellj : ∀ j, j < (us.map zZ).length → ad.off + n * (cx.ty el).sz + j < cur.size := by
         intro j hj
         rw [List.length_map, hul] at hj
         have hm : m ≠ 0 := by rintro rfl; simp at hj
         obtain ⟨g1, g2⟩ := hin hm
         omega
        have hr := run_append_room_src (P := Pr) w t t' o.type el ti2 hf.und hf2.info ad.block ad.off n cap (a.eval x) m (us.map zZ) hsrc hroom
         (fun j hj => by
          rw [hf2.size]
          simp only [World.cell?, hhp, Option.isSome_none, Bool.false_eq_true, if_false]
          rw [Array.getElem?_eq_getElem (hcellj j hj)]; rfl)
         (fun j hj => by simp [World.frozen?, hhp])
        rw [← had, ← hv, ← hta, hf2.size] at hr
        have hB : ad.block ∈ hdr (a.eval s) ++ z6 hs := by rw [hv]; simp [hdr]
        have hBR : ¬ R ad.block := v4.notR _ hB
        have hBhs : ad.block ∉ z6 hs := by
         have := v4.nd
         rw [hv] at this
         simp only [hdr, List.cons_append, List.nil_append, List.nodup_cons] at this
         exact this.1
        have hBus : ad.block ∉ z6 us := hdis _ hB
        have hw : ∀ k, k ≠ ad.block → (w.setCells ad.block (ad.off + n * (cx.ty el).sz) (us.map zZ)).heap[k]? = w.heap[k]? := fun k hk => pF hk
        have hrel := r2.apart (w' := w.setCells ad.block (ad.off + n * (cx.ty el).sz) (us.map zZ)) (B := ad.block) (fun r => v4.sep r _ hB) hBR (v4.own _ hB) hw (fO _ _ _ _)
        have hPB : ∀ t b, P t b → b ≠ ad.block := fun t b hb e => hBR (e ▸ r2.PR t b hb)
        have hRB : ∀ b, R b → b ≠ ad.block := fun b hb e => hBR (e ▸ hb)
        refine ⟨_, S2, .c (.t (.sl (.slice (some ad) (n + m) cap) 0 (cx.ty el).sz (n + m) (hs ++ us))), by simp [erX, zV, zJ, yA, yQ, er0], rfl, hrel, ?_, by simpa [zS, zN, zZ] using hrunv hr⟩
        have hbb : zE (.c (.t (.sl (.slice (some ad) (n + m) cap) 0 (cx.ty el).sz (n + m) (hs ++ us)))) = hdr (a.eval s) ++ z6 (hs ++ us) := by
         rw [hv]; simp [zE, zQ, zY, hdr]
        have hbk2 : Bk w0 E0 R ea w S2 (hdr (a.eval s) ++ z6 (hs ++ us)) := by
         rw [hblk, ← List.append_assoc]
         exact v4.append ubk hdis
        refine ⟨?_, by simp [zD, zF], by rw [hbb]; exact hbk2.nd, fun r b hb => hbk2.sep r b (by rwa [hbb] at hb), fun b hb => ?_, fun b hb => hbk2.own b (by rwa [hbb] at hb), fun b hb => hbk2.notR b (by rwa [hbb] at hb)⟩
        ·simp only [okX, okC, okT, if_true]
         refine ⟨hlen, yJ.2 fun y hy => ?_, ?_⟩
         ·refine oV hw hPB hRB (yJ.1 hokall y hy) (fun hb => ?_)
          rcases List.mem_append.1 hy with hy | hy
          ·exact hBhs (by rw [xD, List.mem_flatMap]; exact ⟨y, hy, hb⟩)
          ·exact hBus (by rw [xD, List.mem_flatMap]; exact ⟨y, hy, hb⟩)
         ·by_cases hcap0 : cap = 0
          ·-- nothing there
           have hn0 : n = 0 := by omega
           have hm0 : m = 0 := by omega
           subst hn0; subst hm0
           have hus : us = [] := by rw [Nat.zero_mul] at hul; exact List.length_eq_zero_iff.1 hul
           have hhs : hs = [] := by rw [Nat.zero_mul] at w1; exact List.length_eq_zero_iff.1 w1
           subst hus; subst hhs
           refine .inr ⟨ad.block, o', cur, e, ⟨ad, cap, rfl, by omega, h2, rfl, .inl hcap0⟩, ?_, by simp⟩
           simp only [List.map_nil, World.setCells]; exact hhp
          ·obtain ⟨g1, g2⟩ := h3.resolve_left hcap0
           obtain ⟨cur', c1, c2, c3, c4⟩ := rW (vs := us.map zZ) (o := ad.off + n * (cx.ty el).sz) hhp (by rw [List.length_map, hul]; omega)
           refine .inr ⟨ad.block, o', cur', e, ⟨ad, cap, rfl, hroom, h2, rfl, .inr ⟨g1, by rw [c2]; exact g2⟩⟩, c1, fun j v hj => ?_⟩
           rw [List.map_append] at hj
           rcases Nat.lt_or_ge j (n * (cx.ty el).sz) with hlt | hge
           ·rw [List.getElem?_append_left (by rw [List.length_map, w1]; exact hlt)] at hj
            rw [c4 (o' + j) (by omega)]
            exact hcv j v hj
           ·rw [List.getElem?_append_right (by rw [List.length_map, w1]; exact hge), List.length_map, w1] at hj
            have := c3 _ v hj
            rwa [show ad.off + n * (cx.ty el).sz + (j - n * (cx.ty el).sz) = o' + j by omega] at this
        ·rw [(fO _ _ _ _).2.2.2]; exact hbk2.lt b (by rwa [hbb] at hb)
       ·exact grow hv (by omega)
     ·cases hq
  ·cases hq
 ·cases hq
end
end Go.Proofs.Ytlkjnlfddadlmaa.V
namespace Go.Proofs.Ytlkjnlfddadlmaa.V
open Go.RowKit
section
variable {cx : Ctx} {f : Nat} {w0 : World} {E0 : Nat → Prop} {P : Nat → Nat → Prop} {R : Nat → Prop} {ea : List EA} {w w' : World} {a : Act} {call : zW} {Pr : Program} {S S0 S1 S2 S3 : SV} {tmps : Array Value}
theorem zLw (hty : jQ Pr cx.ty) {ops : Array Oper} {o : Oper} {i n : Nat} {Su Su' : SU} {c : Call} {s x : Operand} (hat : At cx f w0 E0 P R ea n Su a w) (ho : o.op = .call c) (hcal : c.callee = .builtin .append) (hargs : c.args.toList = [s, x]) (hact : yY cx (.call c) = true) (hi : ops[i]? = some o)
  (hdst : ∀ d, o.dst = some d → d < n) (hq : stepOp cx f call Su ops o = some Su') {K : Act → World → Prop} {Q : Exit → Act → World → Prop} (hk : ∀ a' w', At cx f w0 E0 P R ea n Su' a' w' → K a' w') : wpOp Pr ops Q i K a w := by
 obtain ⟨S, hr, rfl, hd, hsz⟩ := hat
 simp only [wpOp, hi]
 unfold stepOp at hq
 cases hw : y6 (V.erS S) ops o with
 | none => simp [hw] at hq
 | some b =>
  have hwt := dC hr hw
  cases b with
  | false =>
   rw [if_neg (by rw [hwt]; simp)]
   simp only [hw] at hq
   exact hk _ _ (rG hr rfl hd hsz hdst hq)
  | true =>
   rw [if_pos hwt]
   refine .inl ?_
   simp only [hw, ho, hact, if_true, hcal, hargs] at hq
   cases hv : uG cx f (V.erS S) c.argTypes.toList s x with
   | none => simp [hv] at hq
   | some r =>
    obtain ⟨z, Sz⟩ := r
    simp only [hv, Option.bind_some] at hq
    obtain ⟨w', S', xG, e1, e2, e3, e4, e5⟩ := zQr hty hr rfl ho hcal hargs hv
    exact cZ e5 (hk _ _ (d8 e3 e4 e1 e2 hd hsz hdst hq))
end
end Go.Proofs.Ytlkjnlfddadlmaa.V
