/-
  Steps that change a frame's own: what is taken from where it stands. No conditions.
-/
import Derived.Test.YtlkjnlfddadlmaaGreatDoorM2
import Derived.Laws.IdiomCopy
set_option linter.unusedVariables false
set_option linter.unusedSimpArgs false
namespace Go.Proofs.YtlkjnlfddadlmaaGreatDoor.V
open Go.RowKit
structure Emp (ea : List EA) (S S2 : SV) : Prop where
 ok : ∀ (w : World) (P : Nat → Nat → Prop) (R : Nat → Prop) (c : CV), okC w P R S ea c → yL S2 c = true → okC w P R S2 ea c
 al : ∀ c : CV, yL S2 c = true → yL S c = true
 blk : ∀ k, ∀ b ∈ zL S2 ea k, b ∈ zL S ea k
 dd : ∀ r p i b, (at_ S r p i = some (.t (.dead b)) ∨ at_ S r p i = none) → (at_ S2 r p i = some (.t (.dead b)) ∨ at_ S2 r p i = none)
section
variable {cx : Ctx} {f : Nat} {isv : Nat → Bool} {w0 : World} {E0 : Nat → Prop} {P : Nat → Nat → Prop} {R R' : Nat → Prop} {ea : List EA} {w w' : World} {S S' S2 S3 : SV} {tmps : Array Value} {Pr : Program} {a : Act} {call : zX}
theorem Emp.refl : Emp ea S S := ⟨fun _ _ _ _ h _ => h, fun _ h => h, fun _ _ h => h, fun _ _ _ _ h => h⟩
theorem Emp.trans (h : Emp ea S S2) (k : Emp ea S2 S3) : Emp ea S S3 :=
 ⟨fun w P R c hc ha => k.ok w P R c (h.ok w P R c hc (k.al c ha)) ha, fun c hc => h.al c (k.al c hc), fun r b hb => h.blk r b (k.blk r b hb), fun r p i b hd => k.dd r p i b (h.dd r p i b hd)⟩
theorem zA2 {α β : Type} (g : α → β) (o : Option (C α)) : qJ (o.map (zI g)) = qJ o := by
 cases o with
 | none => rfl
 | some c => cases c with
  | t x => cases x with
   | sl v tag sz n cs => cases tag <;> rfl
   | _ => rfl
  | _ => rfl
mutual
theorem dW {α β : Type} (g : α → β) (S : St α) : ∀ c : C α, yL (jJ g S) (zI g c) = yL S c
 | .ptr v r p off => by simp only [zI, yL, lN, zA2]
 | .bor v r p i off sz n => by simp only [zI, yL, lN, zA2]
 | .fn f caps => by simp only [zI, yL]; exact vZ g S caps
 | .lst v sz n cs => by simp only [zI, yL]; exact vZ g S cs
 | .t _ => rfl
 | .rptr _ _ => rfl
 | .nilp => rfl
 | .nilf => rfl
theorem vZ {α β : Type} (g : α → β) (S : St α) : ∀ cs : List (C α), xN (jJ g S) (yY g cs) = xN S cs
 | [] => rfl
 | c :: cs => by simp only [yY, xN, dW g S c, vZ g S cs]
end
theorem zJw : ∀ {p q : List Nat} {cs : List TV} {i : Nat} {ds : List TV} {v : Value}, xJ cs p i (.dead v) = some ds → ∀ j, pre (p ++ [i]) (q ++ [j]) = true → ∀ x, atT ds q j = some x → x = .dead v
 | [], q, cs, i, ds, v, h, j, hp, x, hx => by
  simp only [xJ] at h
  split at h
  ·rename_i hl
   simp only [Option.some.injEq] at h
   subst h
   cases q with
   | nil =>
    simp only [List.nil_append, pre, beq_iff_eq, Bool.and_true] at hp
    subst hp
    simp only [atT, sub, Option.bind_some, List.getElem?_set_self hl, Option.some.injEq] at hx
    exact hx.symm
   | cons k q =>
    simp only [List.nil_append, List.cons_append, pre, beq_iff_eq, Bool.and_true] at hp
    subst hp
    simp [atT, sub, List.getElem?_set_self hl] at hx
  ·cases h
 | k :: p, q, cs, i, ds, v, h, j, hp, x, hx => by
  simp only [xJ] at h
  split at h
  ·rename_i v' sz n es hk
   cases hs : xJ es p i (.dead v) with
   | none => simp [hs] at h
   | some fs =>
    simp only [hs, Option.map_some, Option.some.injEq] at h
    subst h
    have hlt : k < cs.length := (List.getElem?_eq_some_iff.1 hk).1
    cases q with
    | nil =>
     simp only [List.cons_append, List.nil_append, pre, Bool.and_eq_true] at hp
     cases p <;> simp [pre] at hp
    | cons k' q =>
     simp only [List.cons_append, pre, Bool.and_eq_true, beq_iff_eq] at hp
     obtain ⟨rfl, hp⟩ := hp
     refine zJw hs j hp x ?_
     simpa [atT, sub, List.getElem?_set_self hlt] using hx
  ·cases h
theorem zPx {cs ds : List CV} {p q : List Nat} {i : Nat} {v : Value} (h : kU cs p i (.t (.dead v)) = some ds) (j : Nat) (hp : pre (p ++ [i]) (q ++ [j]) = true) : qJ (atC ds q j) = false := by
 rcases qY h with ⟨rfl, hl, rfl⟩ | ⟨k, p', y', v', sz, n, es, fs, rfl, hy, hk, hs, rfl⟩
 ·cases q with
  | nil =>
   simp only [List.nil_append, pre, beq_iff_eq, Bool.and_true] at hp
   subst hp
   simp [atC, y9, List.getElem?_set_self hl, qJ]
  | cons k q =>
   simp only [List.nil_append, List.cons_append, pre, beq_iff_eq, Bool.and_true] at hp
   subst hp
   simp [atC, y9, List.getElem?_set_self hl, qJ]
 ·cases hy
  have hlt : k < cs.length := (List.getElem?_eq_some_iff.1 hk).1
  cases q with
  | nil =>
   simp only [List.cons_append, List.nil_append, pre, Bool.and_eq_true] at hp
   cases p' <;> simp [pre] at hp
  | cons k' q =>
   simp only [List.cons_append, pre, Bool.and_eq_true, beq_iff_eq] at hp
   obtain ⟨rfl, hp⟩ := hp
   rw [gY (show (cs.set k (.t (.sl v' 0 sz n fs)))[k]? = some (.t (.sl v' 0 sz n fs)) by simp [hlt])]
   cases ha : atT fs q j with
   | none => rfl
   | some x =>
    have := zJw hs j hp x ha
    subst this
    rfl
theorem dF (r : Root) (q : List Nat) (o : Option CV) : qJ (o.map (zS r q)) = qJ o := by
 cases o with
 | none => rfl
 | some c => cases c with
  | t x => rfl
  | ptr v r' p off => by_cases hx : r = r' ∧ pre q p = true <;> simp [zS, hx, qJ]
  | bor v r' p i off sz n => by_cases hx : r = r' ∧ pre q (p ++ [i]) = true <;> simp [zS, hx, qJ]
  | _ => rfl
theorem zPd {x y : Option CV} (h : ShC x y) : qJ y = qJ x := by
 rcases h with rfl | ⟨b, sz, m, ds, es, rfl, rfl, _⟩ <;> rfl
theorem zIz {r : Root} {p : List Nat} {i : Nat} {v : Value} (h : z7 S r p i (.t (.dead v)) = some S') {q : List Nat} {j : Nat} (hp : pre (p ++ [i]) (q ++ [j]) = true) : qJ (at_ (kill r (p ++ [i]) S') r q j) = false := by
 rw [uL, dF]
 obtain ⟨cs, ds, hr, hs, rfl⟩ := bB h
 rw [sO, gX hr (vH hs), if_pos rfl]
 exact zPx hs j hp
theorem zGw {r : Root} {p : List Nat} {i : Nat} {v : Value} (h : z7 S r p i (.t (.dead v)) = some S') {k : Root} {q : List Nat} {j : Nat} (ha : qJ (at_ (kill r (p ++ [i]) S') k q j) = true) :
  ¬ (r = k ∧ pre (p ++ [i]) (q ++ [j]) = true) ∧ qJ (at_ S k q j) = true := by
 have hn : ¬ (r = k ∧ pre (p ++ [i]) (q ++ [j]) = true) := by
  rintro ⟨rfl, hp⟩
  rw [zIz h hp] at ha
  cases ha
 refine ⟨hn, ?_⟩
 rw [uL, dF] at ha
 have := (dO (ea := []) h).at hn
 rwa [zPd this] at ha
theorem zN3 {p : List Nat} {i : Nat} : pre (p ++ [i]) [] = false := by cases p <;> rfl
mutual
theorem bH {r : Root} {p : List Nat} {i : Nat} {v : Value} (h : z7 S r p i (.t (.dead v)) = some S') : ∀ {c : CV}, yL (kill r (p ++ [i]) S') c = true → zS r (p ++ [i]) c = c ∧ yL S c = true
 | .t _, _ => ⟨rfl, rfl⟩
 | .rptr _ _, _ => ⟨rfl, rfl⟩
 | .nilp, _ => ⟨rfl, rfl⟩
 | .nilf, _ => ⟨rfl, rfl⟩
 | .ptr u k q off, ha => by
  simp only [yL, Bool.or_eq_true] at ha ⊢
  cases q with
  | nil => exact ⟨by simp [zS, zN3], .inl rfl⟩
  | cons x q =>
   have hne : x :: q ≠ [] := by simp
   rcases ha with ha | ha
   ·simp at ha
   ·obtain ⟨h1, h2⟩ := zGw h ha
    rw [← j0 hne] at h1
    exact ⟨by simp only [zS, if_neg h1], .inr h2⟩
 | .bor u k q j off sz n, ha => by
  simp only [yL] at ha ⊢
  obtain ⟨h1, h2⟩ := zGw h ha
  exact ⟨by simp only [zS, if_neg h1], h2⟩
 | .fn g caps, ha => by
  simp only [yL] at ha ⊢
  obtain ⟨h1, h2⟩ := mO h ha
  exact ⟨by simp only [zS, h1], h2⟩
 | .lst u sz n cs, ha => by
  simp only [yL] at ha ⊢
  obtain ⟨h1, h2⟩ := mO h ha
  exact ⟨by simp only [zS, h1], h2⟩
theorem mO {r : Root} {p : List Nat} {i : Nat} {v : Value} (h : z7 S r p i (.t (.dead v)) = some S') : ∀ {cs : List CV}, xN (kill r (p ++ [i]) S') cs = true → yT r (p ++ [i]) cs = cs ∧ xN S cs = true
 | [], _ => ⟨rfl, rfl⟩
 | c :: cs, ha => by
  simp only [xN, Bool.and_eq_true] at ha ⊢
  obtain ⟨h1, h2⟩ := bH h ha.1
  obtain ⟨h3, h4⟩ := mO h ha.2
  exact ⟨by simp only [yT, h1, h3], h2, h4⟩
end
theorem zIx : ∀ {a b : List Nat} {j : Nat}, pre a (b ++ [j]) = true → a = b ++ [j] ∨ pre a b = true
 | [], b, j, _ => .inr rfl
 | x :: a, [], j, h => by
  simp only [List.nil_append, pre, Bool.and_eq_true, beq_iff_eq] at h
  obtain ⟨rfl, h⟩ := h
  cases a with
  | nil => exact .inl rfl
  | cons y a => simp [pre] at h
 | x :: a, y :: b, j, h => by
  simp only [List.cons_append, pre, Bool.and_eq_true, beq_iff_eq] at h
  obtain ⟨rfl, h⟩ := h
  rcases zIx h with e | e
  ·exact .inl (by rw [e]; rfl)
  ·exact .inr (by simp only [pre, beq_self_eq_true, e, Bool.and_self])
theorem zSo {r : Root} {p : List Nat} {i : Nat} {b : Value} {sz m : Nat} {ds : List TV} (hput : z7 S r p i (.t (.dead b)) = some S') (hat : at_ S r p i = some (.t (.sl b 0 sz m ds))) {k : Root} {q : List Nat} {j : Nat} {u : Value}
  (h : at_ S k q j = some (.t (.dead u)) ∨ at_ S k q j = none) : at_ (kill r (p ++ [i]) S') k q j = some (.t (.dead u)) ∨ at_ (kill r (p ++ [i]) S') k q j = none := by
 by_cases hk : r = k ∧ pre (p ++ [i]) (q ++ [j]) = true
 ·obtain ⟨rfl, hp⟩ := hk
  rcases zIx hp with e | e
  ·obtain ⟨rfl, e2⟩ := List.append_inj' e rfl
   simp only [List.cons.injEq, and_true] at e2
   subst e2
   rw [hat] at h
   rcases h with h | h <;> simp at h
  ·rcases List.eq_nil_or_concat q with rfl | ⟨q', x, rfl⟩
   ·rw [zN3] at e; cases e
   ·rw [List.concat_eq_append] at e ⊢
    have hl := zIz (q := q') (j := x) hput e
    right
    rw [iW]
    revert hl
    generalize at_ (kill r (p ++ [i]) S') r q' x = o
    intro hl
    rcases o with _ | c
    ·rfl
    ·cases c with
     | t y => cases y with
      | sl a tag sz n es => cases tag with
       | zero => simp [qJ] at hl
       | succ g => rfl
      | _ => rfl
     | _ => rfl
 ·have hem := dO (ea := []) hput
  rw [uL]
  rcases hem.at hk with e | ⟨b', sz', m', ds', es, e1, e2, _⟩
  ·rw [← e]
   exact h.imp (fun e => by rw [e]; rfl) (fun e => by rw [e]; rfl)
  ·rw [e1] at h
   rcases h with h | h <;> simp at h
theorem zUm {v b : Value} (h : ∀ k ∈ hdr v, k ∈ hdr b) : (hdr v).Sublist (hdr b) := by
 have : hdr v = [] ∨ ∃ k, hdr v = [k] := by
  cases v with
  | slice A n c => cases A <;> simp [hdr]
  | pointer A => cases A <;> simp [hdr]
  | _ => simp [hdr]
 rcases this with e | ⟨k, e⟩
 ·rw [e]; exact List.nil_sublist _
 ·rw [e] at h ⊢; exact List.singleton_sublist.2 (h k (List.mem_singleton_self _))
theorem oE (h : Rel isv w0 E0 P R ea w S tmps) {r : Root} {p : List Nat} {i off sz n : Nat} {v : Value} (hb : wD S r p i off sz n v) {t : TU} {Su : SU} (hq : xL (V.erS S) () r p i off sz n = some (t, Su)) :
  ∃ (tG : TV) (S2 : SV), erT tG = t ∧ V.erS S2 = Su ∧ zV tG = v ∧ Rel isv w0 E0 P R ea w S2 tmps ∧ Emp ea S S2 ∧ New isv w0 E0 P R ea w S2 (.c (.t tG)) ∧ (∀ b ∈ zU tG, b ∈ zL S ea r) := by
 have hm : xL (V.erS S) () r p i off sz n = (xL S v r p i off sz n).map fun q => (yA er0 q.1, jJ er0 q.2) := zLy er0 S v r p i off sz n
 rw [hm] at hq
 cases hg : xL S v r p i off sz n with
 | none => simp [hg] at hq
 | some q =>
  simp only [hg, Option.map_some, Option.some.injEq, Prod.mk.injEq] at hq
  obtain ⟨rfl, rfl⟩ := hq
  unfold xL at hg
  split at hg
  ·rename_i b sz' m ds hat
   split at hg
   ·rename_i hc
    obtain ⟨hl, rfl, hsz⟩ := hc
    cases hput : z7 S r p i (.t (.dead b)) with
    | none => simp [hput] at hg
    | some S' =>
     simp only [hput, Option.map_some, Option.some.injEq] at hg
     subst hg
     obtain ⟨b', m', ds', hat', hl', hok', hown', hhdr⟩ := iX h hb hsz
     rw [hat] at hat'
     simp only [Option.some.injEq, C.t.injEq, T.sl.injEq, true_and] at hat'
     obtain ⟨rfl, rfl, rfl⟩ := hat'
     have hval : (∃ A n c, b = .slice A n c) ∨ ∃ q, b = .pointer q := by
      have := h.at_ok hat
      simp only [okC, okT, if_true] at this
      exact .inl (lE this.2.2)
     obtain ⟨h1, h2, h3⟩ := h.empty hat hval hput
     have hem := dO (ea := ea) hput
     have hsub : (zU (.sl v 0 sz n ((ds.drop off).take (n * sz)))).Sublist (zP (.t (.sl b 0 sz m ds))) := by
      simp only [zU, zP, if_true]
      refine List.Sublist.append (zUm hhdr) ?_
      rw [xD, xD]
      exact wS _ ((List.take_sublist _ _).trans (List.drop_sublist _ _))
     have hmem : ∀ k b, b ∈ zL (kill r (p ++ [i]) S') ea k → b ∈ zL S ea k := by
      intro k b hb
      by_cases e : k = r
      ·subst e; exact h3.subset (List.mem_append_right _ hb)
      ·rwa [h2 k e] at hb
     have hin : ∀ k ∈ zU (.sl v 0 sz n ((ds.drop off).take (n * sz))), k ∈ zL S ea r := fun k hk => h3.subset (List.mem_append_left _ (hsub.subset hk))
     refine ⟨_, _, rfl, rfl, rfl, h1, ⟨fun w P R c hc ha => ?_, fun c ha => (bH hput ha).2, hmem, fun k q j u hd => zSo hput hat hd⟩, ?_, hin⟩
     ·have := rW hem hc
      rwa [(bH hput ha).1] at this
     ·have hnd := (h3.nodup_iff).2 (h.nd r)
      rw [List.nodup_append] at hnd
      constructor
      ·simp only [okX, okC, okT, if_true]
       exact ⟨by rw [List.length_take, List.length_drop]; omega, fU (u9 hok'), hown'⟩
      ·intro d' hd'; simp [zD, zF] at hd'
      ·exact hsub.nodup hnd.1
      ·intro k x hx hx'
       have hx1 := hsub.subset (show x ∈ zU (.sl v 0 sz n ((ds.drop off).take (n * sz))) from hx)
       by_cases e : k = r
       ·subst e; exact hnd.2.2 x hx1 x hx' rfl
       ·rw [h2 k e] at hx'
        exact e (h.dis k r x hx' (h3.subset (List.mem_append_left _ hx1)))
      ·exact fun x hx => h.lt r x (hin x hx)
      ·exact fun x hx => h.own r x (hin x hx)
      ·exact fun x hx => h.notR r x (hin x hx)
   ·cases hg
  ·cases hg
end
end Go.Proofs.YtlkjnlfddadlmaaGreatDoor.V
namespace Go.Proofs.YtlkjnlfddadlmaaGreatDoor.V
open Go.RowKit
structure Bk (w0 : World) (E0 : Nat → Prop) (R : Nat → Prop) (ea : List EA) (w : World) (S : SV) (l : List Nat) : Prop where
 nd : l.Nodup
 sep : ∀ r b, b ∈ l → b ∉ zL S ea r
 lt : ∀ b ∈ l, b < w.heap.size
 own : ∀ b ∈ l, E0 b ∨ w0.heap.size ≤ b
 notR : ∀ b ∈ l, ¬ R b
section
variable {cx : Ctx} {f : Nat} {isv : Nat → Bool} {w0 : World} {E0 : Nat → Prop} {P : Nat → Nat → Prop} {R R' : Nat → Prop} {ea : List EA} {w w' : World} {S0 S S' S2 S3 : SV} {tmps : Array Value} {Pr : Program} {a : Act} {call : zX}
theorem New.bk {x : XV} (h : New isv w0 E0 P R ea w S x) : Bk w0 E0 R ea w S (zE x) := ⟨h.nd, h.sep, h.lt, h.own, h.notR⟩
theorem Bk.emp {l : List Nat} (h : Bk w0 E0 R ea w S l) (he : Emp ea S S2) : Bk w0 E0 R ea w S2 l := ⟨h.nd, fun r b hb hb' => h.sep r b hb (he.blk r b hb'), h.lt, h.own, h.notR⟩
theorem Bk.sub {l m : List Nat} (h : Bk w0 E0 R ea w S l) (hs : m.Sublist l) : Bk w0 E0 R ea w S m := ⟨hs.nodup h.nd, fun r b hb => h.sep r b (hs.subset hb), fun b hb => h.lt b (hs.subset hb), fun b hb => h.own b (hs.subset hb), fun b hb => h.notR b (hs.subset hb)⟩
theorem Bk.append {l m : List Nat} (h : Bk w0 E0 R ea w S l) (k : Bk w0 E0 R ea w S m) (hd : ∀ b ∈ l, b ∉ m) : Bk w0 E0 R ea w S (l ++ m) where
 nd := List.nodup_append.2 ⟨h.nd, k.nd, fun x hx y hy e => hd x hx (e ▸ hy)⟩
 sep r b hb := (List.mem_append.1 hb).elim (h.sep r b) (k.sep r b)
 lt b hb := (List.mem_append.1 hb).elim (h.lt b) (k.lt b)
 own b hb := (List.mem_append.1 hb).elim (h.own b) (k.own b)
 notR b hb := (List.mem_append.1 hb).elim (h.notR b) (k.notR b)
theorem Bk.t {x : TV} (hok : okT w P R x) (h : Bk w0 E0 R ea w S (zU x)) : New isv w0 E0 P R ea w S (.c (.t x)) :=
 ⟨by simpa [okX, okC] using hok, by simp [zD, zF], h.nd, h.sep, h.lt, h.own, h.notR⟩
mutual
theorem lC : ∀ {c : CV} {S : SV} {t : TU} {Su : SU}, Rel isv w0 E0 P R ea w S tmps → Emp ea S0 S → okC w P R S0 ea c → Bk w0 E0 R ea w S (zP c) → yS (erC c) (V.erS S) = some (t, Su) →
  ∃ (tG : TV) (S2 : SV), erT tG = t ∧ V.erS S2 = Su ∧ zV tG = zJ c ∧ Rel isv w0 E0 P R ea w S2 tmps ∧ Emp ea S S2 ∧ okT w P R tG ∧ Bk w0 E0 R ea w S2 (zU tG) ∧ (∀ b ∈ zU tG, b ∈ zP c ∨ ∃ r, b ∈ zL S ea r)
 | .t x, S, t, Su, h, he, hok, hb, hq => by
  simp only [erC, zI, yS, Option.some.injEq, Prod.mk.injEq] at hq
  obtain ⟨rfl, rfl⟩ := hq
  exact ⟨x, S, rfl, rfl, rfl, h, Emp.refl, by simpa [okC] using hok, by simpa [zP] using hb, fun b hb => .inl (by simpa [zP] using hb)⟩
 | .bor v r p i off sz n, S, t, Su, h, he, hok, hb, hq => by
  cases r with
  | ex j => simp [erC, zI, yS] at hq
  | sl d =>
   simp only [erC, zI, yS] at hq
   have hal : yL S (.bor v (.sl d) p i off sz n) = true := by
    have : yL (V.erS S) (erC (.bor v (.sl d) p i off sz n)) = true := by
     simp only [erC, zI, yL]
     unfold xL at hq
     split at hq
     ·rename_i heq; rw [heq]; rfl
     ·cases hq
    rw [show yL (V.erS S) (erC (.bor v (.sl d) p i off sz n)) = yL S (.bor v (.sl d) p i off sz n) from dW er0 S _] at this
    exact this
   have hb := he.ok w P R _ hok hal
   simp only [okC] at hb
   obtain ⟨tG, S2, h1, h2, h3, h4, h5, h6, h7⟩ := oE h hb hq
   exact ⟨tG, S2, h1, h2, h3, h4, h5, by simpa [okX, okC] using h6.ok, by simpa [zE, zP] using h6.bk, fun b hb => .inr ⟨_, h7 b hb⟩⟩
 | .lst v sz n cs, S, t, Su, h, he, hok, hb, hq => by
  simp only [erC, zI, zR, yS] at hq
  simp only [okC] at hok
  simp only [zP] at hb
  rw [show cs.map (zI er0) = cs.map erC from rfl] at hq
  cases hs : xZ (cs.map erC) (V.erS S) with
  | none => rw [hs] at hq; simp at hq
  | some q =>
   obtain ⟨ts, Sq⟩ := q
   rw [hs] at hq
   simp only [Option.map_some, Option.some.injEq, Prod.mk.injEq] at hq
   obtain ⟨rfl, rfl⟩ := hq
   obtain ⟨us, S2, h1, h2, h3, h4, h5, h6, h7, h8⟩ := sC h he hok.2.1 (hb.sub (List.sublist_append_right _ _)) hs
   have hlen : us.length = cs.length := by
    have := congrArg List.length h3
    simpa using this
   refine ⟨.sl v 0 sz n us, S2, by simp [erT, yA, yO, er0]; exact h1, h2, rfl, h4, h5, ?_, ?_, ?_⟩
   ·simp only [okT, if_true]
    exact ⟨by omega, h6, by rw [h3, ← z8]; exact hok.2.2⟩
   ·simp only [zU, if_true]
    refine Bk.append ((hb.sub (List.sublist_append_left _ _)).emp h5) h7 ?_
    intro b hb1 hb2
    rcases h8 b hb2 with hb2 | ⟨r, hb2⟩
    ·exact (List.nodup_append.1 hb.nd).2.2 b hb1 b hb2 rfl
    ·exact hb.sep r b (List.mem_append_left _ hb1) hb2
   ·intro b hb'
    simp only [zU, if_true, List.mem_append] at hb'
    simp only [zP, List.mem_append]
    rcases hb' with hb' | hb'
    ·exact .inl (.inl hb')
    ·exact (h8 b hb').imp .inr id
 | .ptr v r p off, S, t, Su, h, he, hok, hb, hq => by simp [erC, zI, yS] at hq
 | .rptr v cs, S, t, Su, h, he, hok, hb, hq => by simp [erC, zI, yS] at hq
 | .nilp, S, t, Su, h, he, hok, hb, hq => by simp [erC, zI, yS] at hq
 | .nilf, S, t, Su, h, he, hok, hb, hq => by simp [erC, zI, yS] at hq
 | .fn g caps, S, t, Su, h, he, hok, hb, hq => by simp [erC, zI, yS] at hq
theorem sC : ∀ {cs : List CV} {S : SV} {ts : List TU} {Su : SU}, Rel isv w0 E0 P R ea w S tmps → Emp ea S0 S → yF w P R S0 ea cs → Bk w0 E0 R ea w S (zH cs) → xZ (cs.map erC) (V.erS S) = some (ts, Su) →
  ∃ (us : List TV) (S2 : SV), us.map erT = ts ∧ V.erS S2 = Su ∧ us.map zV = cs.map zJ ∧ Rel isv w0 E0 P R ea w S2 tmps ∧ Emp ea S S2 ∧ xP w P R us ∧ Bk w0 E0 R ea w S2 (zZ us) ∧ (∀ b ∈ zZ us, b ∈ zH cs ∨ ∃ r, b ∈ zL S ea r)
 | [], S, ts, Su, h, he, hok, hb, hq => by
  simp only [List.map_nil, xZ, Option.some.injEq, Prod.mk.injEq] at hq
  obtain ⟨rfl, rfl⟩ := hq
  exact ⟨[], S, rfl, rfl, rfl, h, Emp.refl, by simp [xP], by simpa [zZ, zH] using hb, by simp [zZ]⟩
 | c :: cs, S, ts, Su, h, he, hok, hb, hq => by
  simp only [List.map_cons, xZ] at hq
  simp only [yF] at hok
  simp only [zH] at hb
  cases h1 : yS (erC c) (V.erS S) with
  | none => rw [h1] at hq; simp at hq
  | some q =>
   obtain ⟨t, Sq⟩ := q
   rw [h1] at hq
   simp only [Option.bind_some] at hq
   cases h2 : xZ (cs.map erC) Sq with
   | none => rw [h2] at hq; simp at hq
   | some q2 =>
    obtain ⟨us', Sr⟩ := q2
    rw [h2] at hq
    simp only [Option.map_some, Option.some.injEq, Prod.mk.injEq] at hq
    obtain ⟨rfl, rfl⟩ := hq
    have hbc := hb.sub (List.sublist_append_left (zP c) (zH cs))
    have hbs := hb.sub (List.sublist_append_right (zP c) (zH cs))
    obtain ⟨tG, S2, a1, a2, a3, a4, a5, a6, a7, a8⟩ := lC h he hok.1 hbc h1
    subst a2
    obtain ⟨us, S3, b1, b2, b3, b4, b5, b6, b7, b8⟩ := sC a4 (he.trans a5) hok.2 (hbs.emp a5) h2
    refine ⟨tG :: us, S3, by simp [a1, b1], b2, by simp [a3, b3], b4, a5.trans b5, ⟨a6, b6⟩, ?_, ?_⟩
    ·simp only [zZ]
     refine Bk.append (a7.emp b5) b7 ?_
     intro b hb1 hb2
     rcases b8 b hb2 with hb2 | ⟨r, hb2⟩
     ·rcases a8 b hb1 with hb1 | ⟨r, hb1⟩
      ·exact (List.nodup_append.1 hb.nd).2.2 b hb1 b hb2 rfl
      ·exact hbs.sep r b hb2 hb1
     ·exact a7.sep r b hb1 hb2
    ·intro b hb'
     simp only [zZ, List.mem_append] at hb'
     simp only [zH, List.mem_append]
     rcases hb' with hb' | hb'
     ·exact (a8 b hb').imp .inl id
     ·rcases b8 b hb' with hb' | ⟨r, hb'⟩
      ·exact .inl (.inr hb')
      ·exact .inr ⟨r, a5.blk r b hb'⟩
end
end
end Go.Proofs.YtlkjnlfddadlmaaGreatDoor.V
namespace Go.Proofs.YtlkjnlfddadlmaaGreatDoor.V
open Go.RowKit
section
variable {cx : Ctx} {f : Nat} {isv : Nat → Bool} {w0 : World} {E0 : Nat → Prop} {P : Nat → Nat → Prop} {R R' : Nat → Prop} {ea : List EA} {w w' : World} {S0 S S' S2 S3 : SV} {tmps : Array Value} {Pr : Program} {a : Act} {call : zX}
theorem zL2 {v : Value} {r : Root} {p : List Nat} {i off sz n : Nat} {q : TU × SU} (hq : xL (V.erS S) () r p i off sz n = some q) : yL S (.bor v r p i off sz n) = true := by
 have : yL (V.erS S) (erC (.bor v r p i off sz n)) = true := by
  simp only [erC, zI, yL]
  unfold xL at hq
  split at hq
  ·rename_i heq; rw [heq]; rfl
  ·cases hq
 rw [show yL (V.erS S) (erC (.bor v r p i off sz n)) = yL S (.bor v r p i off sz n) from dW er0 S _] at this
 exact this
def aL (isv : Nat → Bool) (w0 : World) (E0 : Nat → Prop) (P : Nat → Nat → Prop) (R : Nat → Prop) (ea : List EA) (w : World) (tmps : Array Value) (S0 S : SV) (c : CV) (d : CU) (Su : SU) : Prop :=
 ∃ (cG : CV) (S2 : SV), erC cG = d ∧ V.erS S2 = Su ∧ zJ cG = zJ c ∧ Rel isv w0 E0 P R ea w S2 tmps ∧ Emp ea S S2 ∧ okC w P R S0 ea cG ∧ Bk w0 E0 R ea w S2 (zP cG) ∧ (∀ b ∈ zP cG, b ∈ zP c ∨ ∃ r, b ∈ zL S ea r) ∧ ∀ k ∈ zF cG, k ∈ zF c
theorem aL.same (h : Rel isv w0 E0 P R ea w S tmps) {c : CV} (hok : okC w P R S0 ea c) (hb : Bk w0 E0 R ea w S (zP c)) : aL isv w0 E0 P R ea w tmps S0 S c (erC c) (V.erS S) :=
 ⟨c, S, rfl, rfl, rfl, h, Emp.refl, hok, hb, fun _ h => .inl h, fun _ h => h⟩
theorem aL.take (h : Rel isv w0 E0 P R ea w S tmps) (he : Emp ea S0 S) {v : Value} {r : Root} {p : List Nat} {i off sz n : Nat} (hok : okC w P R S0 ea (.bor v r p i off sz n)) {t : TU} {Su : SU}
  (hq : xL (V.erS S) () r p i off sz n = some (t, Su)) : aL isv w0 E0 P R ea w tmps S0 S (.bor v r p i off sz n) (.t t) Su := by
 have hb := he.ok w P R _ hok (zL2 hq)
 simp only [okC] at hb
 obtain ⟨tG, S2, h1, h2, h3, h4, h5, h6, h7⟩ := oE h hb hq
 exact ⟨.t tG, S2, by simp [erC, zI]; exact h1, h2, by simp [zJ, h3], h4, h5, by simpa [okX, okC] using h6.ok, by simpa [zE] using h6.bk, fun b hb => .inr ⟨_, h7 b (by simpa [zP] using hb)⟩, by simp [zF]⟩
theorem zFp (h : Rel isv w0 E0 P R ea w S tmps) (he : Emp ea S0 S) {c : CV} (hok : okC w P R S0 ea c) (hb : Bk w0 E0 R ea w S (zP c)) {d : CU} {Su : SU} (hq : keep cx f (erC c) (V.erS S) = some (d, Su)) :
  aL isv w0 E0 P R ea w tmps S0 S c d Su := by
 cases c with
 | lst v sz n cs =>
  simp only [erC, zI, keep] at hq
  cases hs : yS (.lst () sz n (yY er0 cs)) (V.erS S) with
  | none => rw [show (C.lst (er0 v) sz n (yY er0 cs)) = .lst () sz n (yY er0 cs) from rfl, hs] at hq; simp at hq
  | some q =>
   obtain ⟨t, Sq⟩ := q
   rw [show (C.lst (er0 v) sz n (yY er0 cs)) = .lst () sz n (yY er0 cs) from rfl, hs] at hq
   simp only [Option.map_some, Option.some.injEq, Prod.mk.injEq] at hq
   obtain ⟨rfl, rfl⟩ := hq
   obtain ⟨tG, S2, a1, a2, a3, a4, a5, a6, a7, a8⟩ := lC h he hok hb hs
   exact ⟨.t tG, S2, by simp [erC, zI]; exact a1, a2, by simp [zJ, a3], a4, a5, by simpa [okC] using a6, by simpa [zP] using a7, fun b hb => a8 b (by simpa [zP] using hb), by simp [zF]⟩
 | bor v r p i off sz n =>
  cases r with
  | ex j =>
   simp only [erC, zI, keep] at hq
   split at hq
   ·cases ht : xL (V.erS S) () (.ex j) p i off sz n with
    | none => rw [show er0 v = () from rfl, ht] at hq; simp at hq
    | some q =>
     obtain ⟨t, Sq⟩ := q
     rw [show er0 v = () from rfl, ht] at hq
     simp only [Option.map_some, Option.some.injEq, Prod.mk.injEq] at hq
     obtain ⟨rfl, rfl⟩ := hq
     exact aL.take h he hok ht
   ·simp only [Option.some.injEq, Prod.mk.injEq] at hq
    obtain ⟨rfl, rfl⟩ := hq
    exact aL.same h hok hb
  | sl d' =>
   simp only [erC, zI, keep] at hq
   split at hq
   ·simp only [Option.some.injEq, Prod.mk.injEq] at hq
    obtain ⟨rfl, rfl⟩ := hq
    exact aL.same h hok hb
   ·cases ht : xL (V.erS S) () (.sl d') p i off sz n with
    | none => rw [show er0 v = () from rfl, ht] at hq; simp at hq
    | some q =>
     obtain ⟨t, Sq⟩ := q
     rw [show er0 v = () from rfl, ht] at hq
     simp only [Option.map_some, Option.some.injEq, Prod.mk.injEq] at hq
     obtain ⟨rfl, rfl⟩ := hq
     exact aL.take h he hok ht
 | _ =>
  simp only [erC, zI, keep, Option.some.injEq, Prod.mk.injEq] at hq
  obtain ⟨rfl, rfl⟩ := hq
  exact aL.same h hok hb
end
end Go.Proofs.YtlkjnlfddadlmaaGreatDoor.V
namespace Go.Proofs.YtlkjnlfddadlmaaGreatDoor.V
open Go.RowKit
section
variable {cx : Ctx} {f : Nat} {isv : Nat → Bool} {w0 : World} {E0 : Nat → Prop} {P : Nat → Nat → Prop} {R R' : Nat → Prop} {ea : List EA} {w w' : World} {S0 S S' S2 S3 : SV} {tmps : Array Value} {Pr : Program} {a : Act} {call : zX}
theorem zHz {d0 : Nat} (h : Rel isv w0 E0 P R ea w S tmps) (he : Emp ea S0 S) {c : CV} (hok : okC w P R S0 ea c) (hb : Bk w0 E0 R ea w S (zP c)) {d : CU} {Su : SU} (hq : vF cx f d0 (erC c) (V.erS S) = some (d, Su)) :
  aL isv w0 E0 P R ea w tmps S0 S c d Su := by
 cases c with
 | bor v r p i off sz n =>
  cases r with
  | ex j => exact zFp (cx := cx) (f := f) h he hok hb (by simpa only [erC, zI, vF] using hq)
  | sl d' =>
   simp only [erC, zI, vF] at hq
   split at hq
   ·cases ht : xL (V.erS S) () (.sl d') p i off sz n with
    | none => rw [show er0 v = () from rfl, ht] at hq; simp at hq
    | some q =>
     obtain ⟨t, Sq⟩ := q
     rw [show er0 v = () from rfl, ht] at hq
     simp only [Option.map_some, Option.some.injEq, Prod.mk.injEq] at hq
     obtain ⟨rfl, rfl⟩ := hq
     exact aL.take h he hok ht
   ·exact zFp (cx := cx) (f := f) h he hok hb hq
 | _ => exact zFp (cx := cx) (f := f) h he hok hb (by simpa only [erC, zI, vF] using hq)
theorem aZ {d0 : Nat} : ∀ {cs : List CV} {S : SV} {ds : List CU} {Su : SU}, Rel isv w0 E0 P R ea w S tmps → Emp ea S0 S → yF w P R S0 ea cs → Bk w0 E0 R ea w S (zH cs) → uF cx f d0 (cs.map erC) (V.erS S) = some (ds, Su) →
  ∃ (us : List CV) (S2 : SV), us.map erC = ds ∧ V.erS S2 = Su ∧ us.map zJ = cs.map zJ ∧ Rel isv w0 E0 P R ea w S2 tmps ∧ Emp ea S S2 ∧ yF w P R S0 ea us ∧ Bk w0 E0 R ea w S2 (zH us) ∧ (∀ b ∈ zH us, b ∈ zH cs ∨ ∃ r, b ∈ zL S ea r) ∧ ∀ k ∈ zK us, k ∈ zK cs
 | [], S, ds, Su, h, he, hok, hb, hq => by
  simp only [List.map_nil, uF, Option.some.injEq, Prod.mk.injEq] at hq
  obtain ⟨rfl, rfl⟩ := hq
  exact ⟨[], S, rfl, rfl, rfl, h, Emp.refl, by simp [yF], hb, fun _ h => .inl h, fun _ h => h⟩
 | c :: cs, S, ds, Su, h, he, hok, hb, hq => by
  simp only [List.map_cons, uF] at hq
  simp only [yF] at hok
  simp only [zH] at hb
  cases h1 : vF cx f d0 (erC c) (V.erS S) with
  | none => rw [h1] at hq; simp at hq
  | some q =>
   obtain ⟨t, Sq⟩ := q
   rw [h1] at hq
   simp only [Option.bind_some] at hq
   cases h2 : uF cx f d0 (cs.map erC) Sq with
   | none => rw [h2] at hq; simp at hq
   | some q2 =>
    obtain ⟨us', Sr⟩ := q2
    rw [h2] at hq
    simp only [Option.map_some, Option.some.injEq, Prod.mk.injEq] at hq
    obtain ⟨rfl, rfl⟩ := hq
    have hbc := hb.sub (List.sublist_append_left (zP c) (zH cs))
    have hbs := hb.sub (List.sublist_append_right (zP c) (zH cs))
    obtain ⟨cG, S2, a1, a2, a3, a4, a5, a6, a7, a8, a9⟩ := zHz h he hok.1 hbc h1
    subst a2
    obtain ⟨us, S3, b1, b2, b3, b4, b5, b6, b7, b8, b9⟩ := aZ a4 (he.trans a5) hok.2 (hbs.emp a5) h2
    refine ⟨cG :: us, S3, by simp [a1, b1], b2, by simp [a3, b3], b4, a5.trans b5, ⟨a6, b6⟩, ?_, ?_, ?_⟩
    ·simp only [zH]
     refine Bk.append (a7.emp b5) b7 ?_
     intro b hb1 hb2
     rcases b8 b hb2 with hb2 | ⟨r, hb2⟩
     ·rcases a8 b hb1 with hb1 | ⟨r, hb1⟩
      ·exact (List.nodup_append.1 hb.nd).2.2 b hb1 b hb2 rfl
      ·exact hbs.sep r b hb2 hb1
     ·exact a7.sep r b hb1 hb2
    ·intro b hb'
     simp only [zH, List.mem_append] at hb' ⊢
     rcases hb' with hb' | hb'
     ·exact (a8 b hb').imp .inl id
     ·rcases b8 b hb' with hb' | ⟨r, hb'⟩
      ·exact .inl (.inr hb')
      ·exact .inr ⟨r, a5.blk r b hb'⟩
    ·intro k hk
     simp only [zK, List.mem_append] at hk ⊢
     exact hk.imp (a9 k) (b9 k)
theorem eP {cs : List CV} : xN S cs = true ↔ ∀ c ∈ cs, yL S c = true := by
 induction cs with
 | nil => simp [xN]
 | cons c cs ih => simp [xN, ih]
theorem Emp.oks (h : Emp ea S0 S) {cs : List CV} (hok : yF w P R S0 ea cs) (ha : xN S cs = true) : yF w P R S ea cs :=
 zY.2 fun c hc => h.ok w P R c (zY.1 hok c hc) (eP.1 ha c hc)
theorem New.of_bk {x : XV} (hok : okX w P R S ea x) (hr : ∀ d', Root.sl d' ∈ zD x → isv d' = true) (hb : Bk w0 E0 R ea w S (zE x)) : New isv w0 E0 P R ea w S x := ⟨hok, hr, hb.nd, hb.sep, hb.lt, hb.own, hb.notR⟩
theorem zRz {d0 : Nat} (h : Rel isv w0 E0 P R ea w S tmps) {x : XV} (hn : New isv w0 E0 P R ea w S x) {y : XU} {Su : SU} (hq : vY cx f d0 (erX x) (V.erS S) = some (y, Su)) :
  ∃ (yG : XV) (S2 : SV), erX yG = y ∧ V.erS S2 = Su ∧ zQ yG = zQ x ∧ Rel isv w0 E0 P R ea w S2 tmps ∧ Emp ea S S2 ∧ New isv w0 E0 P R ea w S2 yG := by
 have hok := hn.ok
 have hb := hn.bk
 cases x with
 | c c =>
  simp only [okX, zE] at hok hb
  simp only [erX, zW, vY] at hq
  cases h1 : vF cx f d0 (erC c) (V.erS S) with
  | none => rw [show zI er0 c = erC c from rfl, h1] at hq; simp at hq
  | some q =>
   obtain ⟨t, Sq⟩ := q
   rw [show zI er0 c = erC c from rfl, h1] at hq
   simp only [Option.bind_some] at hq
   split at hq
   ·rename_i hal
    simp only [Option.some.injEq, Prod.mk.injEq] at hq
    obtain ⟨rfl, rfl⟩ := hq
    obtain ⟨cG, S2, a1, a2, a3, a4, a5, a6, a7, a8, a9⟩ := zHz h Emp.refl hok hb h1
    subst a1; subst a2
    rw [show yL (V.erS S2) (erC cG) = yL S2 cG from dW er0 S2 cG] at hal
    exact ⟨.c cG, S2, rfl, rfl, by simp [zQ, a3], a4, a5, New.of_bk (by simpa [okX] using a5.ok w P R _ a6 hal) (fun d' hd' => hn.refs d' (by simpa [zD] using a9 _ (by simpa [zD] using hd'))) (by simpa [zE] using a7)⟩
   ·cases hq
 | agg cs =>
  simp only [okX, zE] at hok hb
  simp only [erX, zW, zR, vY] at hq
  cases h1 : uF cx f d0 (cs.map erC) (V.erS S) with
  | none => rw [show cs.map (zI er0) = cs.map erC from rfl, h1] at hq; simp at hq
  | some q =>
   obtain ⟨t, Sq⟩ := q
   rw [show cs.map (zI er0) = cs.map erC from rfl, h1] at hq
   simp only [Option.bind_some] at hq
   split at hq
   ·rename_i hal
    simp only [Option.some.injEq, Prod.mk.injEq] at hq
    obtain ⟨rfl, rfl⟩ := hq
    obtain ⟨us, S2, a1, a2, a3, a4, a5, a6, a7, a8, a9⟩ := aZ h Emp.refl hok hb h1
    subst a1; subst a2
    rw [show us.map erC = yY er0 us from (zR er0 us).symm, show xN (V.erS S2) (yY er0 us) = xN S2 us from vZ er0 S2 us] at hal
    exact ⟨.agg us, S2, by simp [erX, zW, zR], rfl, by simp [zQ, z8, a3], a4, a5, New.of_bk (by simpa [okX] using a5.oks a6 hal) (fun d' hd' => hn.refs d' (by simpa [zD] using a9 _ (by simpa [zD] using hd'))) (by simpa [zE] using a7)⟩
   ·cases hq
 | box v cs =>
  simp only [erX, zW, vY] at hq
  split at hq
  ·simp only [Option.some.injEq, Prod.mk.injEq] at hq
   obtain ⟨rfl, rfl⟩ := hq
   exact ⟨.box v cs, S, rfl, rfl, rfl, h, Emp.refl, hn⟩
  ·cases hq
 | tup xs => simp [erX, zW, vY] at hq
 | undef => simp [erX, zW, vY] at hq
end
end Go.Proofs.YtlkjnlfddadlmaaGreatDoor.V
namespace Go.Proofs.YtlkjnlfddadlmaaGreatDoor.V
open Go.RowKit
section
variable {cx : Ctx} {f : Nat} {isv : Nat → Bool} {w0 : World} {E0 : Nat → Prop} {P : Nat → Nat → Prop} {R R' : Nat → Prop} {ea : List EA} {w w' : World} {S0 S S' S2 S3 : SV} {tmps : Array Value} {Pr : Program} {a : Act} {call : zX}
mutual
theorem zA5 {r : Root} {q : List Nat} : ∀ {c : CV}, r ∉ zF c → zS r q c = c
 | .t x, _ => rfl
 | .ptr v k p off, h => by
  simp only [zF, List.mem_singleton] at h
  simp [zS, h]
 | .bor v k p i off sz n, h => by
  simp only [zF, List.mem_singleton] at h
  simp [zS, h]
 | .rptr v cs, _ => rfl
 | .nilp, _ => rfl
 | .nilf, _ => rfl
 | .fn g caps, h => by simp only [zF] at h; simp only [zS, fO h]
 | .lst v sz n cs, h => by simp only [zF] at h; simp only [zS, fO h]
theorem fO {r : Root} {q : List Nat} : ∀ {cs : List CV}, r ∉ zK cs → yT r q cs = cs
 | [], _ => rfl
 | c :: cs, h => by
  simp only [zK, List.mem_append, not_or] at h
  simp only [yT, zA5 h.1, fO h.2]
end
mutual
theorem zA4 {r : Root} : ∀ c : CV, r ∉ zF (zS r [] c)
 | .t x => by simp [zS, zF]
 | .ptr v k p off => by
  by_cases e : r = k
  ·simp [zS, e, pre, zF]
  ·simp [zS, e, zF]
 | .bor v k p i off sz n => by
  by_cases e : r = k
  ·simp [zS, e, pre, zF]
  ·simp [zS, e, zF]
 | .rptr v cs => by simp [zS, zF]
 | .nilp => by simp [zS, zF]
 | .nilf => by simp [zS, zF]
 | .fn g caps => by simp only [zS, zF]; exact vG caps
 | .lst v sz n cs => by simp only [zS, zF]; exact vG cs
theorem vG {r : Root} : ∀ cs : List CV, r ∉ zK (yT r [] cs)
 | [] => by simp [yT, zK]
 | c :: cs => by simp only [yT, zK, List.mem_append, not_or]; exact ⟨zA4 c, vG cs⟩
end
mutual
theorem zA6 {r : Root} : ∀ x : XV, r ∉ zD (z6 r [] x)
 | .c x => by simp only [z6, zD]; exact zA4 x
 | .agg cs => by simp only [z6, zD]; exact vG cs
 | .box v cs => by simp only [z6, zD]; exact vG cs
 | .tup xs => by simp only [z6, zD]; exact oS xs
 | .undef => by simp [z6, zD]
theorem oS {r : Root} : ∀ xs : List XV, r ∉ yN (xC r [] xs)
 | [] => by simp [xC, yN]
 | x :: xs => by simp only [xC, yN, List.mem_append, not_or]; exact ⟨zA6 x, oS xs⟩
end
theorem rU (d : Nat) : NoMen (kill (.sl d) [] S) d :=
 ⟨fun i => zA6 _, fun j cs hj => by
  simp only [kill, List.getElem?_map] at hj
  cases hc : S.e[j]? with
  | none => simp [hc] at hj
  | some ds =>
   simp only [hc, Option.map_some, Option.some.injEq] at hj
   subst hj
   exact vG ds⟩
mutual
theorem dJ : ∀ c : CV, yB true (erC c) = zF c
 | .t x => rfl
 | .ptr v k p off => rfl
 | .bor v k p i off sz n => rfl
 | .rptr v cs => rfl
 | .nilp => rfl
 | .nilf => rfl
 | .fn g caps => by simp only [erC, zI, yB, zF]; exact qQ caps
 | .lst v sz n cs => by simp only [erC, zI, yB, zF]; exact qQ cs
theorem qQ : ∀ cs : List CV, zN true (yY er0 cs) = zK cs
 | [] => rfl
 | c :: cs => by simp only [yY, zN, zK]; rw [show zI er0 c = erC c from rfl, dJ c, qQ cs]
end
theorem New.kill {r : Root} {q : List Nat} {x : XV} (hn : New isv w0 E0 P R ea w S x) (hr : z6 r q x = x) : New isv w0 E0 P R ea w (V.kill r q S) x := by
 have hok := zBs r q hn.ok
 rw [hr] at hok
 exact ⟨hok, hn.refs, hn.nd, fun k b hb hb' => hn.sep k b hb (by rwa [jM] at hb'), hn.lt, hn.own, hn.notR⟩
theorem New.cleared {d : Nat} {x : XV} (hn : New isv w0 E0 P R ea w S x) (hr : Root.sl d ∉ zD x) : New isv w0 E0 P R ea w { S with s := upd S.s d .undef } x := by
 refine ⟨jY (fun _ _ _ => rfl) (fun _ _ => rfl) hn.ok (fun _ _ => rfl) (fun r hr' => kT (fun e => hr (e ▸ hr'))), hn.refs, hn.nd, fun r b hb hb' => hn.sep r b hb ?_, hn.lt, hn.own, hn.notR⟩
 by_cases e : r = .sl d
 ·subst e; simp [zL, upd, zE] at hb'
 ·rwa [qD e] at hb'
end
end Go.Proofs.YtlkjnlfddadlmaaGreatDoor.V
namespace Go.Proofs.YtlkjnlfddadlmaaGreatDoor.V
open Go.RowKit
section
variable {cx : Ctx} {f : Nat} {isv : Nat → Bool} {w0 : World} {E0 : Nat → Prop} {P : Nat → Nat → Prop} {R R' : Nat → Prop} {ea : List EA} {w w' : World} {S0 S S' S2 S3 : SV} {tmps : Array Value} {Pr : Program} {a : Act} {call : zX}
mutual
theorem zH2 {r : Root} {q : List Nat} : ∀ {x : XV}, r ∉ zD x → z6 r q x = x
 | .c x, h => by simp only [zD] at h; simp only [z6, zA5 h]
 | .agg cs, h => by simp only [zD] at h; simp only [z6, fO h]
 | .box v cs, h => by simp only [zD] at h; simp only [z6, fO h]
 | .tup xs, h => by simp only [zD] at h; simp only [z6, zD0 h]
 | .undef, _ => rfl
theorem zD0 {r : Root} {q : List Nat} : ∀ {xs : List XV}, r ∉ yN xs → xC r q xs = xs
 | [], _ => rfl
 | x :: xs, h => by
  simp only [yN, List.mem_append, not_or] at h
  simp only [xC, zH2 h.1, zD0 h.2]
end
theorem zEn {x : XV} : (∀ ys, x ≠ .tup ys) → xX (erX x) = zD x := by
 intro hne
 cases x with
 | c c => simp only [erX, zW, xX, zD]; exact dJ c
 | agg cs => simp only [erX, zW, xX, zD]; exact qQ cs
 | box v cs => simp only [erX, zW, xX, zD]; exact qQ cs
 | tup ys => exact absurd rfl (hne ys)
 | undef => rfl
theorem zPf {d0 : Nat} {x : XU} {S : SU} {ys : List XU} {Su : SU} (h : vY cx f d0 x S = some (.tup ys, Su)) : False := by
 cases x with
 | c c =>
  simp only [vY] at h
  cases h1 : vF cx f d0 c S with
  | none => rw [h1] at h; simp at h
  | some q => rw [h1] at h; simp only [Option.bind_some] at h; split at h <;> simp at h
 | agg cs =>
  simp only [vY] at h
  cases h1 : uF cx f d0 cs S with
  | none => rw [h1] at h; simp at h
  | some q => rw [h1] at h; simp only [Option.bind_some] at h; split at h <;> simp at h
 | box v cs => simp only [vY] at h; split at h <;> simp at h
 | tup xs => simp [vY] at h
 | undef => simp [vY] at h
theorem zOy {n d : Nat} {Su Su' : SU} {x : Operand} {t : Nat} (hat : At cx f w0 E0 P R ea n Su a w) (hd : d < n) (hq : sN cx f Su t d x = some Su') : At cx f w0 E0 P R ea n Su' (a.put (some d) (a.eval x)) w := by
 obtain ⟨S, h, rfl, hdef, hsz⟩ := hat
 unfold sN at hq
 cases hx : opv cx f (V.erS S) t x with
 | none => simp [hx] at hq
 | some y =>
  simp only [hx, Option.bind_some] at hq
  obtain ⟨xG, hxG⟩ := h.opv rfl hx
  rw [← gT] at hq
  cases hk : vY cx f d y (V.erS (V.clr cx f S x)) with
  | none => rw [hk] at hq; simp at hq
  | some q =>
   obtain ⟨z, Sz⟩ := q
   rw [hk] at hq
   simp only [Option.bind_some] at hq
   have hnt : ∀ ys, z ≠ .tup ys := fun ys e => zPf (e ▸ hk)
   rw [← hxG.er] at hk
   obtain ⟨yG, S2, k1, k2, k3, k4, k5, k6⟩ := zRz (h.clr x) hxG.new hk
   subst k1; subst k2
   have hval : a.eval x = zQ yG := by rw [hxG.val, k3]
   rw [hval]
   split at hq
   ·split at hq
    ·cases hq
    ·rename_i hv hno
     simp only [Option.some.injEq] at hq
     subst hq
     have hno' : Root.sl d ∉ zD yG := by
      rw [← zEn (fun ys e => hnt (ys.map erX) (by rw [e]; simp [erX, zW, wH]))]
      simpa using hno
     have h3 := k4.kill (.sl d) []
     have n3 := k6.kill (r := .sl d) (q := []) (zH2 hno')
     have h4 := h3.clear (rU d)
     have n4 := n3.cleared hno'
     have h5 := h4.put (d := d) n4 (fun _ => by simp [upd]) (by rw [hsz]; exact hd)
     refine ⟨_, h5, ?_, hdef, by simp [Act.put, hsz]⟩
     simp only [V.erS, fP]
     simp only [jJ]
     congr 1
     funext i
     by_cases e : i = d <;> simp [upd, e]
   ·rename_i hv
    simp only [Option.some.injEq] at hq
    subst hq
    have h5 := k4.put k6 (fun h' => absurd h' hv) (by rw [hsz]; exact hd)
    exact ⟨_, h5, by simp only [V.erS, jJ, aI], hdef, by simp [Act.put, hsz]⟩
end
end Go.Proofs.YtlkjnlfddadlmaaGreatDoor.V
namespace Go.Proofs.YtlkjnlfddadlmaaGreatDoor.V
open Go.RowKit
section
variable {cx : Ctx} {f : Nat} {isv : Nat → Bool} {w0 : World} {E0 : Nat → Prop} {P : Nat → Nat → Prop} {R R' : Nat → Prop} {ea : List EA} {w w' : World} {S0 S S' S2 S3 : SV} {tmps : Array Value} {Pr : Program} {a : Act} {call : zX}
theorem heap_setCell {b o : Nat} {v : Value} {cur : Array Value} {e : TypeId} (h : w.heap[b]? = some (.cells cur e (0, 0))) : (w.setCell ⟨b, o, none⟩ v).heap[b]? = some (.cells (cur.setIfInBounds o v) e (0, 0)) := by
 simp [World.setCell, Array.getElem?_modify, h]
theorem gA {b o k : Nat} {v : Value} (h : k ≠ b) : (w.setCell ⟨b, o, none⟩ v).heap[k]? = w.heap[k]? := Below.heap_setCell w ⟨b, o, none⟩ v k h
theorem kX.store {sz n i cap : Nat} {vs : List Value} {ad : Addr} {v : Value} (h : kX w (.slice (some ad) n cap) sz n vs) (hl : vs.length = n * sz) (hi : i < vs.length) :
  kX (w.setCell ⟨ad.block, ad.off + i, none⟩ v) (.slice (some ad) n cap) sz n (vs.set i v) := by
 rcases h with ⟨h, _⟩ | ⟨b, o, cur, e, ⟨ad', cap', h0, h1, h2, rfl, h3⟩, hh, hv⟩
 ·cases h
 ·simp only [Value.slice.injEq, Option.some.injEq, true_and] at h0
  obtain ⟨rfl, rfl⟩ := h0
  have hn : n ≠ 0 := by
   intro e0
   rw [e0, Nat.zero_mul] at hl
   omega
  obtain ⟨rfl, h4⟩ := h3.resolve_left (by omega)
  refine .inr ⟨ad.block, ad.off, cur.setIfInBounds (ad.off + i) v, e, ⟨ad, cap, rfl, h1, h2, rfl, .inr ⟨rfl, by simpa using h4⟩⟩, heap_setCell hh, ?_⟩
  intro j u hj
  have hsz : i < n * sz := by omega
  have hcap : n * sz ≤ cap * sz := Nat.mul_le_mul_right _ h1
  by_cases e' : j = i
  ·subst e'
   rw [List.getElem?_set_self hi] at hj
   simp only [Option.some.injEq] at hj
   subst hj
   rw [Array.getElem?_setIfInBounds_self_of_lt (by omega)]
  ·rw [List.getElem?_set_ne (Ne.symm e')] at hj
   rw [Array.getElem?_setIfInBounds_ne (by omega)]
   exact hv j u hj
theorem nA {β : Type} (g : β → List Nat) : ∀ {cs : List β} {j k : Nat} {x z : β}, (cs.flatMap g).Nodup → cs[j]? = some x → cs[k]? = some z → j ≠ k → ∀ b ∈ g x, b ∉ g z
 | [], j, k, x, z, _, hj, _, _ => by simp at hj
 | c :: cs, 0, 0, x, z, _, _, _, hne => absurd rfl hne
 | c :: cs, 0, k + 1, x, z, h, hj, hk, _ => by
  simp only [List.flatMap_cons, List.nodup_append] at h
  simp only [List.getElem?_cons_zero, Option.some.injEq] at hj
  simp only [List.getElem?_cons_succ] at hk
  subst hj
  intro b hb hb'
  exact h.2.2 b hb b (List.mem_flatMap.2 ⟨z, List.mem_of_getElem? hk, hb'⟩) rfl
 | c :: cs, j + 1, 0, x, z, h, hj, hk, _ => by
  simp only [List.flatMap_cons, List.nodup_append] at h
  simp only [List.getElem?_cons_zero, Option.some.injEq] at hk
  simp only [List.getElem?_cons_succ] at hj
  subst hk
  intro b hb hb'
  exact h.2.2 b hb' b (List.mem_flatMap.2 ⟨x, List.mem_of_getElem? hj, hb⟩) rfl
 | c :: cs, j + 1, k + 1, x, z, h, hj, hk, hne => by
  simp only [List.flatMap_cons, List.nodup_append] at h
  simp only [List.getElem?_cons_succ] at hj hk
  exact nA g h.2.1 hj hk (by omega)
theorem cF {β : Type} (g : β → List Nat) : ∀ {cs : List β} {k : Nat} {x : β}, (cs.flatMap g).Nodup → cs[k]? = some x → (g x).Nodup
 | [], k, x, _, hk => by simp at hk
 | c :: cs, 0, x, h, hk => by
  simp only [List.flatMap_cons, List.nodup_append] at h
  simp only [List.getElem?_cons_zero, Option.some.injEq] at hk
  exact hk ▸ h.1
 | c :: cs, k + 1, x, h, hk => by
  simp only [List.flatMap_cons, List.nodup_append] at h
  simp only [List.getElem?_cons_succ] at hk
  exact cF g h.2.1 hk
end
end Go.Proofs.YtlkjnlfddadlmaaGreatDoor.V
namespace Go.Proofs.YtlkjnlfddadlmaaGreatDoor.V
open Go.RowKit
section
variable {cx : Ctx} {f : Nat} {isv : Nat → Bool} {w0 : World} {E0 : Nat → Prop} {P : Nat → Nat → Prop} {R R' : Nat → Prop} {ea : List EA} {w w' : World} {S0 S S' S2 S3 : SV} {tmps : Array Value} {Pr : Program} {a : Act} {call : zX}
theorem cI {B : Nat} (hw : ∀ k, k ≠ B → w'.heap[k]? = w.heap[k]?) (hP : ∀ t b, P t b → b ≠ B) (hR : ∀ b, R b → b ≠ B) {x : TV} (hx : okT w P R x) (hb : B ∉ zU x) : okT w' P R x :=
 tK (fun t b hb' => hw b (hP t b hb')) (fun b hb' => hw b (hR b hb')) hx (fun b hb' => hw b (fun e => hb (e ▸ hb')))
theorem zLn {ad : Addr} {i : Nat} {y : TV} (hy : okT (w.setCell ⟨ad.block, ad.off + i, none⟩ (zV y)) P R y) (hP : ∀ t b, P t b → b ≠ ad.block) (hR : ∀ b, R b → b ≠ ad.block) :
  ∀ {p : List Nat} {cs ds : List TV} {m cap sz : Nat} {es : List TV}, p ≠ [] → xJ cs p i y = some ds → atT cs p.dropLast (p.getLast?.getD 0) = some (.sl (.slice (some ad) m cap) 0 sz m es) → (zZ cs).Nodup → xP w P R cs →
   xP (w.setCell ⟨ad.block, ad.off + i, none⟩ (zV y)) P R ds ∧ ds.map zV = cs.map zV ∧ ad.block ∈ zZ cs := by
 have hw : ∀ k, k ≠ ad.block → (w.setCell ⟨ad.block, ad.off + i, none⟩ (zV y)).heap[k]? = w.heap[k]? := fun k hk => gA hk
 intro p
 induction p with
 | nil => intro cs ds m cap sz es h; exact absurd rfl h
 | cons k q ih =>
  intro cs ds m cap sz es _ hs hat hnd hok
  simp only [xJ] at hs
  split at hs
  ·rename_i v sz' n xs hk
   cases hsx : xJ xs q i y with
   | none => simp [hsx] at hs
   | some fs =>
    simp only [hsx, Option.map_some, Option.some.injEq] at hs
    subst hs
    have hl := yJ.1 hok _ (List.mem_of_getElem? hk)
    have hlt : k < cs.length := (List.getElem?_eq_some_iff.1 hk).1
    have hndk : (zU (.sl v 0 sz' n xs)).Nodup := by rw [xD] at hnd; exact cF zU hnd hk
    simp only [okT, if_true] at hl
    simp only [zU, if_true] at hndk
    rw [List.nodup_append] at hndk
    -- the list in cell k, and that its blocks hold the block
    have key : okT (w.setCell ⟨ad.block, ad.off + i, none⟩ (zV y)) P R (.sl v 0 sz' n fs) ∧ ad.block ∈ zU (.sl v 0 sz' n xs) := by
     cases q with
     | nil =>
      simp only [List.dropLast_singleton, List.getLast?_singleton, Option.getD_some, atT, sub, Option.bind_some] at hat
      rw [hk] at hat
      simp only [Option.some.injEq, T.sl.injEq, true_and] at hat
      obtain ⟨rfl, rfl, rfl, rfl⟩ := hat
      simp only [xJ] at hsx
      split at hsx
      ·rename_i hi
       simp only [Option.some.injEq] at hsx
       subst hsx
       have hB : ad.block ∈ hdr (.slice (some ad) n cap) := by simp [hdr]
       refine ⟨?_, by simp only [zU, if_true, List.mem_append]; exact .inl hB⟩
       simp only [okT, if_true]
       refine ⟨by rw [List.length_set]; exact hl.1, yJ.2 fun z hz => ?_, ?_⟩
       ·rcases List.mem_or_eq_of_mem_set hz with hz | rfl
        ·refine cI hw hP hR (yJ.1 hl.2.1 z hz) (fun hb => ?_)
         exact hndk.2.2 ad.block hB ad.block (by rw [xD, List.mem_flatMap]; exact ⟨z, hz, hb⟩) rfl
        ·exact hy
       ·rw [List.map_set]
        exact hl.2.2.store (by simpa using hl.1) (by simpa using hi)
      ·cases hsx
     | cons k2 q2 =>
      have hat' : atT xs (k2 :: q2).dropLast ((k2 :: q2).getLast?.getD 0) = some (.sl (.slice (some ad) m cap) 0 sz m es) := by
       have e1 : (k :: k2 :: q2).dropLast = k :: (k2 :: q2).dropLast := rfl
       have e2 : (k :: k2 :: q2).getLast? = (k2 :: q2).getLast? := by simp
       rw [e1, e2] at hat
       simpa [atT, sub, hk] using hat
      obtain ⟨i1, i2, i3⟩ := ih (by simp) hsx hat' hndk.2.1 hl.2.1
      refine ⟨?_, by simp only [zU, if_true, List.mem_append]; exact .inr i3⟩
      simp only [okT, if_true]
      refine ⟨by rw [uE hsx]; exact hl.1, i1, ?_⟩
      rw [i2]
      exact hl.2.2.same (fun b hb => hw b (fun e => hndk.2.2 b hb ad.block i3 e))
    refine ⟨yJ.2 fun z hz => ?_, ?_, ?_⟩
    ·obtain ⟨j, hj⟩ := List.getElem?_of_mem hz
     by_cases e : k = j
     ·subst e
      rw [List.getElem?_set_self hlt] at hj
      simp only [Option.some.injEq] at hj
      exact hj ▸ key.1
     ·rw [List.getElem?_set_ne e] at hj
      refine cI hw hP hR (yJ.1 hok z (List.mem_of_getElem? hj)) (fun hb => ?_)
      rw [xD] at hnd
      exact nA zU hnd hj hk (Ne.symm e) _ hb key.2
    ·rw [List.map_set]
     apply List.ext_getElem?
     intro j
     by_cases e : k = j
     ·subst e
      rw [List.getElem?_set_self', List.getElem?_map, hk]
      simp [zV]
     ·rw [List.getElem?_set_ne e]
    ·rw [xD, List.mem_flatMap]
     exact ⟨_, List.mem_of_getElem? hk, key.2⟩
  ·cases hs
end
end Go.Proofs.YtlkjnlfddadlmaaGreatDoor.V
namespace Go.Proofs.YtlkjnlfddadlmaaGreatDoor.V
open Go.RowKit
section
variable {cx : Ctx} {f : Nat} {isv : Nat → Bool} {w0 : World} {E0 : Nat → Prop} {P : Nat → Nat → Prop} {R R' : Nat → Prop} {ea : List EA} {w w' : World} {S0 S S' S2 S3 : SV} {tmps : Array Value} {Pr : Program} {a : Act} {call : zX}
theorem zOi : ∀ {p q : List Nat} {cs : List TV} {i : Nat} {x : TV}, atT cs p i = some x → x9 (.t x : CV) = false → ∀ j, pre (p ++ [i]) (q ++ [j]) = true → ∀ z, atT cs q j = some z → x9 (.t z : CV) = false
 | [], q, cs, i, x, h, ho, j, hp, z, hz => by
  simp only [atT, sub, Option.bind_some] at h
  cases q with
  | nil =>
   simp only [List.nil_append, pre, beq_iff_eq, Bool.and_true] at hp
   subst hp
   simp only [atT, sub, Option.bind_some] at hz
   rw [h] at hz
   simp only [Option.some.injEq] at hz
   exact hz ▸ ho
  | cons k q =>
   simp only [List.nil_append, List.cons_append, pre, beq_iff_eq, Bool.and_true] at hp
   subst hp
   simp only [atT, sub, h] at hz
   split at hz
   ·rename_i heq
    simp only [Option.some.injEq] at heq
    subst heq
    simp [x9] at ho
   ·simp at hz
 | k :: p, q, cs, i, x, h, ho, j, hp, z, hz => by
  cases q with
  | nil =>
   simp only [List.cons_append, List.nil_append, pre, Bool.and_eq_true] at hp
   cases p <;> simp [pre] at hp
  | cons k' q =>
   simp only [List.cons_append, pre, Bool.and_eq_true, beq_iff_eq] at hp
   obtain ⟨rfl, hp⟩ := hp
   simp only [atT, sub] at h hz
   split at h
   ·rename_i v sz n es hk
    rw [hk] at hz
    exact zOi (cs := es) h ho j hp z hz
   ·simp at h
theorem zTi {p q : List Nat} {cs : List CV} {i : Nat} {x : CV} (h : atC cs p i = some x) (ho : x9 x = false) (j : Nat) (hp : pre (p ++ [i]) (q ++ [j]) = true) : qJ (atC cs q j) = false := by
 cases p with
 | nil =>
  simp only [atC, y9, Option.bind_some] at h
  cases q with
  | nil =>
   simp only [List.nil_append, pre, beq_iff_eq, Bool.and_true] at hp
   subst hp
   simp only [atC, y9, Option.bind_some, h]
   cases x with
   | t y => cases y with
    | sl v tag sz n es => cases tag with
     | zero => simp [x9] at ho
     | succ m => rfl
    | _ => rfl
   | _ => rfl
  | cons k q =>
   simp only [List.nil_append, List.cons_append, pre, beq_iff_eq, Bool.and_true] at hp
   subst hp
   simp only [atC, y9, h]
   split
   ·rename_i heq
    simp only [Option.some.injEq] at heq
    subst heq
    simp [x9] at ho
   ·rfl
 | cons k p =>
  cases q with
  | nil =>
   simp only [List.cons_append, List.nil_append, pre, Bool.and_eq_true] at hp
   cases p <;> simp [pre] at hp
  | cons k' q =>
   simp only [List.cons_append, pre, Bool.and_eq_true, beq_iff_eq] at hp
   obtain ⟨rfl, hp⟩ := hp
   cases hk : cs[k]? with
   | none => simp [atC, y9, hk] at h
   | some c =>
    by_cases hc : ∃ v sz n es, c = .t (.sl v 0 sz n es)
    ·obtain ⟨v, sz, n, es, rfl⟩ := hc
     rw [gY hk] at h ⊢
     cases ha : atT es p i with
     | none => simp [ha] at h
     | some x' =>
      simp only [ha, Option.map_some, Option.some.injEq] at h
      subst h
      cases hz : atT es q j with
      | none => rfl
      | some z =>
       have := zOi ha ho j hp z hz
       cases z with
       | sl v tag sz n es => cases tag with
        | zero => simp [x9] at this
        | succ m => rfl
       | _ => rfl
    ·have : atC cs (k :: p) i = none := by
      simp only [atC, y9, hk]
      split
      ·rename_i heq
       simp only [Option.some.injEq] at heq
       exact absurd ⟨_, _, _, _, heq⟩ hc
      ·rfl
     rw [this] at h
     cases h
mutual
theorem pF {r : Root} {q : List Nat} (h : Em S S' ea r q) (hl : q ≠ [] ∧ ∀ p' i', pre q (p' ++ [i']) = true → qJ (at_ S r p' i') = false) : ∀ {c : CV}, okC w P R S ea c → okC w P R S' ea c
 | .t x, hc => by simpa [okC] using hc
 | .ptr v k p off, hc => by
  simp only [okC] at hc ⊢
  have hn : ¬ (r = k ∧ pre q p = true) := by
   rintro ⟨rfl, hp⟩
   obtain ⟨ad, had, _⟩ := hc
   simp only [yV] at had
   split at had
   ·rename_i e
    subst e
    cases q with
    | nil => exact absurd rfl hl.1
    | cons x q => simp [pre] at hp
   ·rename_i hne
    rw [j0 hne] at hp
    have := hl.2 _ _ hp
    split at had
    ·rename_i heq
     simp only [k8] at heq
     split at heq
     ·rename_i h2; rw [h2] at this; simp [qJ] at this
     ·cases heq
    ·cases had
  simp only [vB, h.place hn]; exact hc
 | .bor v k p i off sz n, hc => by
  simp only [okC] at hc ⊢
  obtain ⟨b, m, ds, hat, hle, hrest⟩ := hc
  have hn : ¬ (r = k ∧ pre q (p ++ [i]) = true) := by
   rintro ⟨rfl, hp⟩
   have := hl.2 _ _ hp
   rw [hat] at this
   simp [qJ] at this
  rcases h.at hn with e | ⟨b', sz', m', ds', es', e1, e2, e3⟩
  ·exact ⟨b, m, ds, by rw [← e]; exact hat, hle, hrest⟩
  ·rw [hat] at e1
   simp only [Option.some.injEq, C.t.injEq, T.sl.injEq, true_and] at e1
   obtain ⟨rfl, rfl, rfl, rfl⟩ := e1
   exact ⟨b, m, es', e2, by omega, hrest⟩
 | .rptr v cs, hc => by simpa [okC] using hc
 | .nilp, _ => by simp [okC]
 | .nilf, _ => by simp [okC]
 | .fn g caps, hc => by simp only [okC] at hc ⊢; exact ⟨bR h hl hc.1, hc.2⟩
 | .lst v sz n cs, hc => by simp only [okC] at hc ⊢; exact ⟨hc.1, bR h hl hc.2.1, hc.2.2⟩
theorem bR {r : Root} {q : List Nat} (h : Em S S' ea r q) (hl : q ≠ [] ∧ ∀ p' i', pre q (p' ++ [i']) = true → qJ (at_ S r p' i') = false) : ∀ {cs : List CV}, yF w P R S ea cs → yF w P R S' ea cs
 | [], _ => by simp [yF]
 | c :: cs, hc => by simp only [yF] at hc ⊢; exact ⟨pF h hl hc.1, bR h hl hc.2⟩
end
end
end Go.Proofs.YtlkjnlfddadlmaaGreatDoor.V
namespace Go.Proofs.YtlkjnlfddadlmaaGreatDoor.V
open Go.RowKit
section
variable {cx : Ctx} {f : Nat} {isv : Nat → Bool} {w0 : World} {E0 : Nat → Prop} {P : Nat → Nat → Prop} {R R' : Nat → Prop} {ea : List EA} {w w' : World} {S0 S S' S2 S3 : SV} {tmps : Array Value} {Pr : Program} {a : Act} {call : zX}
theorem gG {B : Nat} (hw : ∀ k, k ≠ B → w'.heap[k]? = w.heap[k]?) (hP : ∀ t b, P t b → b ≠ B) (hR : ∀ b, R b → b ≠ B) {c : CV} (hc : okC w P R S ea c) (hb : B ∉ zP c) : okC w' P R S ea c :=
 fS (fun t b hb' => hw b (hP t b hb')) (fun b hb' => hw b (hR b hb')) hc (fun b hb' => hw b (fun e => hb (e ▸ hb'))) (fun _ _ => ⟨rfl, rfl⟩)
theorem cJ {B : Nat} (hw : ∀ k, k ≠ B → w'.heap[k]? = w.heap[k]?) (hP : ∀ t b, P t b → b ≠ B) (hR : ∀ b, R b → b ≠ B) {c : XV} (hc : okX w P R S ea c) (hb : B ∉ zE c) : okX w' P R S ea c :=
 jY (fun t b hb' => hw b (hP t b hb')) (fun b hb' => hw b (hR b hb')) hc (fun b hb' => hw b (fun e => hb (e ▸ hb'))) (fun _ _ => ⟨rfl, rfl⟩)
theorem zLm {ad : Addr} {i : Nat} {y : TV} (hy : okT (w.setCell ⟨ad.block, ad.off + i, none⟩ (zV y)) P R y) (hP : ∀ t b, P t b → b ≠ ad.block) (hR : ∀ b, R b → b ≠ ad.block)
  {p : List Nat} {cs ds : List CV} {m cap sz : Nat} {es : List TV} (hp : p ≠ []) (hs : kU cs p i (.t y) = some ds) (hat : atC cs p.dropLast (p.getLast?.getD 0) = some (.t (.sl (.slice (some ad) m cap) 0 sz m es)))
  (hnd : (zH cs).Nodup) (hok : ∀ c ∈ cs, okC w P R S ea c) :
  (∀ c ∈ ds, okC (w.setCell ⟨ad.block, ad.off + i, none⟩ (zV y)) P R S ea c) ∧ yC ds = yC cs ∧ ad.block ∈ zH cs := by
 have hw : ∀ k, k ≠ ad.block → (w.setCell ⟨ad.block, ad.off + i, none⟩ (zV y)).heap[k]? = w.heap[k]? := fun k hk => gA hk
 rcases qY hs with ⟨rfl, _, _⟩ | ⟨k, q, y', v, sz', n, xs, fs, rfl, hy', hk, hsx, rfl⟩
 ·exact absurd rfl hp
 ·simp only [C.t.injEq] at hy'
  subst hy'
  have hlt : k < cs.length := (List.getElem?_eq_some_iff.1 hk).1
  have hkm := List.mem_of_getElem? hk
  rw [yW] at hnd
  have hndk : (zZ [T.sl v 0 sz' n xs]).Nodup := by
   have := cF zP hnd hk
   simpa [zZ, zP] using this
  have hokk : xP w P R [T.sl v 0 sz' n xs] := by
   have := hok _ hkm
   simp only [okC] at this
   simpa [xP] using this
  have h1 : xJ [T.sl v 0 sz' n xs] (0 :: q) i y = some [T.sl v 0 sz' n fs] := by
   simp [xJ, hsx]
  have h2 : atT [T.sl v 0 sz' n xs] (0 :: q).dropLast ((0 :: q).getLast?.getD 0) = some (.sl (.slice (some ad) m cap) 0 sz m es) := by
   cases q with
   | nil =>
    simp only [List.dropLast_singleton, List.getLast?_singleton, Option.getD_some, atC, y9, Option.bind_some] at hat
    rw [hk] at hat
    simp only [Option.some.injEq, C.t.injEq] at hat
    simp [atT, sub, hat]
   | cons k2 q2 =>
    have e1 : (k :: k2 :: q2).dropLast = k :: (k2 :: q2).dropLast := rfl
    have e2 : (k :: k2 :: q2).getLast? = (k2 :: q2).getLast? := by simp
    have e3 : (0 :: k2 :: q2).dropLast = 0 :: (k2 :: q2).dropLast := rfl
    have e4 : (0 :: k2 :: q2).getLast? = (k2 :: q2).getLast? := by simp
    rw [e1, e2, gY hk] at hat
    rw [e3, e4]
    have e5 : atT [T.sl v 0 sz' n xs] (0 :: (k2 :: q2).dropLast) ((k2 :: q2).getLast?.getD 0) = atT xs (k2 :: q2).dropLast ((k2 :: q2).getLast?.getD 0) := by simp [atT, sub]
    rw [e5]
    cases ha : atT xs (k2 :: q2).dropLast ((k2 :: q2).getLast?.getD 0) with
    | none => simp [ha] at hat
    | some z => simp only [ha, Option.map_some, Option.some.injEq, C.t.injEq] at hat; rw [hat]
  obtain ⟨k1, k2, k3⟩ := zLn hy hP hR (by simp) h1 h2 hndk hokk
  have hB : ad.block ∈ zP (.t (.sl v 0 sz' n xs)) := by simpa [zZ, zP] using k3
  refine ⟨fun c hc => ?_, ?_, ?_⟩
  ·obtain ⟨j, hj⟩ := List.getElem?_of_mem hc
   by_cases e : k = j
   ·subst e
    rw [List.getElem?_set_self hlt] at hj
    simp only [Option.some.injEq] at hj
    subst hj
    simp only [xP] at k1
    simpa only [okC] using k1.1
   ·rw [List.getElem?_set_ne e] at hj
    exact gG hw hP hR (hok c (List.mem_of_getElem? hj)) (fun hb => nA zP hnd hj hk (Ne.symm e) _ hb hB)
  ·rw [z8, z8, List.map_set]
   apply List.ext_getElem?
   intro j
   by_cases e : k = j
   ·subst e
    rw [List.getElem?_set_self', List.getElem?_map, hk]
    simp [zV, zJ]
   ·rw [List.getElem?_set_ne e]
  ·rw [yW, List.mem_flatMap]
   exact ⟨_, hkm, hB⟩
theorem zBo {c : CV} (h : x9 c = false) : zP c = [] := by
 cases c with
 | t x => cases x with
  | sl v tag sz n cs => cases tag with
   | zero => simp [x9] at h
   | succ m => simp [zP, zU]
  | _ => simp [zP, zU]
 | lst v sz n cs => simp [x9] at h
 | _ => simp [zP]
mutual
theorem pH {r : Root} {q : List Nat} (h : Em S S' ea r q) (hl : q ≠ [] ∧ ∀ p' i', pre q (p' ++ [i']) = true → qJ (at_ S r p' i') = false) : ∀ {x : XV}, okX w P R S ea x → okX w P R S' ea x
 | .c x, hc => by simp only [okX] at hc ⊢; exact pF h hl hc
 | .agg cs, hc => by simp only [okX] at hc ⊢; exact bR h hl hc
 | .box v cs, hc => by simp only [okX] at hc ⊢; exact ⟨bR h hl hc.1, hc.2⟩
 | .tup xs, hc => by simp only [okX] at hc ⊢; exact zIh h hl hc
 | .undef, _ => by simp [okX]
theorem zIh {r : Root} {q : List Nat} (h : Em S S' ea r q) (hl : q ≠ [] ∧ ∀ p' i', pre q (p' ++ [i']) = true → qJ (at_ S r p' i') = false) : ∀ {xs : List XV}, xR w P R S ea xs → xR w P R S' ea xs
 | [], _ => by simp [xR]
 | x :: xs, hc => by simp only [xR] at hc ⊢; exact ⟨pH h hl hc.1, zIh h hl hc.2⟩
end
theorem zNy : ∀ {ys : List XV} {y : XV}, y ∈ ys → (∀ z, y ≠ .c z) → (∀ zs, y ≠ .agg zs) → ∀ b ∈ zE y, b ∈ uT ys
 | [], y, h, _, _, _, _ => by cases h
 | z :: ys, y, h, h1, h2, b, hb => by
  rcases List.mem_cons.1 h with rfl | h
  ·cases y with
   | c x => exact absurd rfl (h1 x)
   | agg x => exact absurd rfl (h2 x)
   | _ => simp only [uT, List.mem_append]; exact .inl hb
  ·have := zNy h h1 h2 b hb
   cases z with
   | c x => simpa [uT] using this
   | agg x => simpa [uT] using this
   | _ => simp only [uT, List.mem_append]; exact .inr this
theorem zJm {x : XV} {cs ds : List CV} (hc : cellsOf x = some cs) (hl : ds.length = cs.length) (hbox : ∀ v ys, x = .box v ys → ∃ ad, v = .pointer (some ad) ∧ vA w' ad ds)
  (ho : ∀ ys, x = .tup ys → ∀ y ∈ ys, (∀ z, y ≠ .c z) → (∀ zs, y ≠ .agg zs) → okX w' P R S ea y) (hd : ∀ c ∈ ds, okC w' P R S ea c) : okX w' P R S ea (x7 x ds) := by
 have hds : yF w' P R S ea ds := zY.2 hd
 cases x with
 | c y =>
  simp only [cellsOf, Option.some.injEq] at hc
  subst hc
  simp only [List.length_singleton] at hl
  obtain ⟨z, rfl⟩ := List.length_eq_one_iff.1 hl
  simp only [x7, okX]; exact hd z (List.mem_singleton_self _)
 | agg ys => simp only [x7, okX]; exact hds
 | box v ys =>
  obtain ⟨ad, rfl, hb⟩ := hbox _ _ rfl
  simp only [x7, okX]
  exact ⟨hds, ad, rfl, hb⟩
 | tup ys =>
  simp only [cellsOf, Option.some.injEq] at hc
  subst hc
  simp only [x7, okX]
  have hys := ho ys rfl
  clear hbox ho hds
  revert hys
  induction ys generalizing ds with
  | nil => intro _; simp [yH, xR]
  | cons y ys ih =>
   intro hys
   have hy := hys y (List.mem_cons_self)
   have hrest : ∀ y ∈ ys, (∀ z, y ≠ .c z) → (∀ zs, y ≠ .agg zs) → okX w' P R S ea y := fun y h => hys y (List.mem_cons_of_mem _ h)
   cases y with
   | c z =>
    cases ds with
    | nil => simp [zT] at hl
    | cons d ds =>
     simp only [zT, List.length_cons, Nat.add_right_cancel_iff] at hl
     simp only [yH, xR, okX, List.head?_cons, Option.getD_some, List.tail_cons]
     exact ⟨hd d (by simp), ih (fun c hc => hd c (List.mem_cons_of_mem _ hc)) hl hrest⟩
   | agg zs =>
    simp only [zT, List.length_append] at hl
    simp only [yH, xR, okX]
    exact ⟨zY.2 (fun c hc => hd c (List.mem_of_mem_take hc)), ih (fun c hc => hd c (List.mem_of_mem_drop hc)) (by rw [List.length_drop]; omega) hrest⟩
   | box v zs => simp only [zT] at hl; simp only [yH, xR]; exact ⟨hy (by simp) (by simp), ih hd hl hrest⟩
   | tup zs => simp only [zT] at hl; simp only [yH, xR]; exact ⟨hy (by simp) (by simp), ih hd hl hrest⟩
   | undef => simp only [zT] at hl; simp only [yH, xR]; exact ⟨hy (by simp) (by simp), ih hd hl hrest⟩
 | undef => simp [cellsOf] at hc
end
end Go.Proofs.YtlkjnlfddadlmaaGreatDoor.V
namespace Go.Proofs.YtlkjnlfddadlmaaGreatDoor.V
open Go.RowKit
section
variable {cx : Ctx} {f : Nat} {isv : Nat → Bool} {w0 : World} {E0 : Nat → Prop} {P : Nat → Nat → Prop} {R R' : Nat → Prop} {ea : List EA} {w w' : World} {S0 S S' S2 S3 : SV} {tmps : Array Value} {Pr : Program} {a : Act} {call : zX}
theorem nY {r : Root} {p : List Nat} {off : Nat} {old : CV} (hat : at_ S r p off = some old) (hold : x9 old = false) :
  p ++ [off] ≠ [] ∧ ∀ p' i', pre (p ++ [off]) (p' ++ [i']) = true → qJ (at_ S r p' i') = false := by
 refine ⟨by simp, fun p' i' hp => ?_⟩
 rw [sO] at hat ⊢
 cases hr : zA S r with
 | none => rfl
 | some cs =>
  rw [hr] at hat
  simp only [Option.bind_some] at hat ⊢
  exact zTi hat hold i' hp
theorem vA.store {ad : Addr} {cs : List CV} {i : Nat} {c : CV} (h : vA w ad cs) (hi : i < cs.length) : vA (w.setCell ⟨ad.block, ad.off + i, none⟩ (zJ c)) ad (cs.set i c) := by
 obtain ⟨h1, h2, cur, e, h3, h4⟩ := h
 refine ⟨h1, h2, _, e, heap_setCell h3, ?_⟩
 rw [h1, Nat.zero_add, Array.toList_setIfInBounds, h4, z8, z8, List.map_set]
theorem Rel.store (h : Rel isv w0 E0 P R ea w S tmps) {r : Root} {p : List Nat} {off : Nat} {old c : CV} {v : Value} (hat : at_ S r p off = some old) (hold : x9 old = false) (hp : vB S ea r p off v) (hput : z7 S r p off c = some S')
  (hok : okC w P R S ea c) (hrf : ∀ d', Root.sl d' ∈ zF c → isv d' = true) (hb : Bk w0 E0 R ea w S (zP c)) :
  ∃ ad, v = .pointer (some ad) ∧ ad.spot = none ∧ w.cell? ad = some (zJ old) ∧ w.frozen? ad = false ∧ ad.block ∈ zL S ea r ∧ Rel isv w0 E0 P R ea (w.setCell ad (zJ c)) S' tmps ∧
   (∀ k, k ≠ r → zL S' ea k = zL S ea k) ∧ (zL S' ea r).Perm (zP c ++ zL S ea r) := by
 have hem := dO (ea := ea) hput
 have hbl := nY hat hold
 obtain ⟨cs, ds, hr, hs, hS'⟩ := bB hput
 have hl := vH hs
 have hcs := h.root_ok hr
 have hat0 := hat
 rw [sO, hr] at hat
 simp only [Option.bind_some] at hat
 obtain ⟨ad, had, rfl⟩ := hp
 have hnr := h.nd r
 -- the blocks of the touched root
 have hblk : (zH ds).Perm (zP c ++ zH cs) := by
  have := zCf hs hat
  rwa [zBo hold, List.nil_append] at this
 have hoth : ∀ k, k ≠ r → zL S' ea k = zL S ea k := by
  intro k hk
  subst hS'
  cases r with
  | sl d => exact match k, hk with
   | .sl d', hk => by simp only [zL, zM, upd]; rw [if_neg (by simpa using hk)]
   | .ex j, _ => by simp only [zL, zM]
  | ex j => exact match k, hk with
   | .sl d', _ => by simp only [zL, zM]
   | .ex j', hk => by simp only [zL, zM]; rw [List.getElem?_set_ne (by simpa using Ne.symm hk)]
 have hown : (zL S' ea r).Perm (zP c ++ zL S ea r) := by
  subst hS'
  cases r with
  | sl d =>
   rw [yE] at hr
   simp only [zL, zM, upd, if_true]
   have := tX (l := []) (m := zP c) hr hl (by simpa using hblk)
   simpa using this
  | ex j =>
   simp only [zA] at hr
   have hj : j < S.e.length := (List.getElem?_eq_some_iff.1 hr).1
   simp only [zL, zM, hr, List.getElem?_set_self hj]
   refine (List.Perm.append_left _ hblk).trans ?_
   rw [← List.append_assoc, ← List.append_assoc]; exact List.Perm.append_right _ List.perm_append_comm
 have hcsub : ∀ b ∈ zH cs, b ∈ zL S ea r := by
  intro b hb'
  cases r with
  | sl d =>
   rw [yE] at hr
   have := tX (ds := cs) (l := []) (m := []) hr rfl (List.Perm.refl _)
   have hsx : ∀ x : XV, cellsOf x = some cs → b ∈ zE x := by
    intro x hx
    cases x with
    | c y => simp only [cellsOf, Option.some.injEq] at hx; subst hx; simpa [zE, zH] using hb'
    | agg ys => simp only [cellsOf, Option.some.injEq] at hx; subst hx; simpa [zE] using hb'
    | box v ys => simp only [cellsOf, Option.some.injEq] at hx; subst hx; simp only [zE, List.mem_append]; exact .inr hb'
    | tup ys => simp only [cellsOf, Option.some.injEq] at hx; subst hx; simp only [zE]; exact (kD ys).mem_iff.2 (List.mem_append_left _ hb')
    | undef => simp [cellsOf] at hx
   exact hsx _ hr
  | ex j => exact rI hr hb'
 have hcnd : (zH cs).Nodup := by
  have hn := h.nd r
  cases r with
  | sl d =>
   rw [yE] at hr
   simp only [zL] at hn
   have hsx : ∀ x : XV, cellsOf x = some cs → (zE x).Nodup → (zH cs).Nodup := by
    intro x hx hn
    cases x with
    | c y => simp only [cellsOf, Option.some.injEq] at hx; subst hx; simpa [zE, zH] using hn
    | agg ys => simp only [cellsOf, Option.some.injEq] at hx; subst hx; simpa [zE] using hn
    | box v ys => simp only [cellsOf, Option.some.injEq] at hx; subst hx; simp only [zE] at hn; exact (List.nodup_append.1 hn).2.1
    | tup ys => simp only [cellsOf, Option.some.injEq] at hx; subst hx; simp only [zE] at hn; exact (List.nodup_append.1 ((kD ys).nodup_iff.1 hn)).1
    | undef => simp [cellsOf] at hx
   exact hsx _ hr hn
  | ex j =>
   simp only [zA] at hr
   simp only [zL, hr] at hn
   exact (List.nodup_append.1 hn).2.1
 have hcput : ∀ c' ∈ cs, okC w P R S' ea c' := fun c' hc' => pF hem hbl (zY.1 hcs c' hc')
 -- what there is of the block, of the cells behind the store, of the boxes
 have key : ad.block ∈ zL S ea r ∧ (∀ c' ∈ ds, okC (w.setCell ⟨ad.block, ad.off + off, none⟩ (zJ c)) P R S' ea c') ∧
   ((p = [] ∧ rootAd S ea r = some ad ∧ ds = cs.set off c ∧ off < cs.length) ∨ (yC ds = yC cs ∧ ad.block ∈ zH cs)) := by
  have hbB : ad.block ∈ zL S ea r → ad.block ∉ zP c := fun h1 h2 => hb.sep r _ h2 h1
  have hw : ∀ k, k ≠ ad.block → (w.setCell ⟨ad.block, ad.off + off, none⟩ (zJ c)).heap[k]? = w.heap[k]? := fun k hk => gA hk
  have hPB : ad.block ∈ zL S ea r → ∀ t b, P t b → b ≠ ad.block := fun h1 t b hb' e => h.notR r _ h1 (e ▸ h.PR t b hb')
  have hRB : ad.block ∈ zL S ea r → ∀ b, R b → b ≠ ad.block := fun h1 b hb' e => h.notR r _ h1 (e ▸ hb')
  by_cases hp : p = []
  ·subst hp
   simp only [yV, if_true] at had
   have hds : off < cs.length ∧ ds = cs.set off c := by
    rcases qY hs with ⟨_, h1, h2⟩ | ⟨k, q, _, _, _, _, _, _, e, _⟩
    ·exact ⟨h1, h2⟩
    ·cases e
   have hbox : vA w ad cs ∧ ad.block ∈ zL S ea r ∧ ad.block ∉ zH cs := by
    cases r with
    | sl d =>
     simp only [rootAd] at had
     split at had
     ·rename_i ad' ys heq
      simp only [Option.some.injEq] at had
      subst had
      simp only [zA, heq, Option.some.injEq] at hr
      subst hr
      have h1 := h.okS d
      rw [heq] at h1
      simp only [okX] at h1
      obtain ⟨_, ad'', e, h2⟩ := h1
      simp only [Value.pointer.injEq, Option.some.injEq] at e
      subst e
      have h3 := h.nd (.sl d)
      simp only [zL, heq, zE, hdr] at h3
      refine ⟨h2, by simp [zL, heq, zE, hdr], ?_⟩
      simp only [List.cons_append, List.nil_append, List.nodup_cons] at h3
      exact h3.1
     ·cases had
    | ex j =>
     simp only [rootAd] at had
     simp only [zA] at hr
     have h3 := h.nd (.ex j)
     simp only [zL, hr, had] at h3
     refine ⟨(h.okE j cs hr).2 ad had, rH had, ?_⟩
     simp only [List.cons_append, List.nil_append, List.nodup_cons] at h3
     exact h3.1
   obtain ⟨hx1, hx2, hx3⟩ := hbox
   refine ⟨hx2, fun c' hc' => ?_, .inl ⟨rfl, had, hds.2, hds.1⟩⟩
   rw [hds.2] at hc'
   rcases List.mem_or_eq_of_mem_set hc' with hc' | rfl
   ·refine gG hw (hPB hx2) (hRB hx2) (hcput c' hc') (fun hb' => hx3 ?_)
    rw [yW, List.mem_flatMap]; exact ⟨c', hc', hb'⟩
   ·exact gG hw (hPB hx2) (hRB hx2) (pF hem hbl hok) (hbB hx2)
  ·simp only [yV, if_neg hp] at had
   split at had
   ·rename_i ad' m cap heq
    simp only [Option.some.injEq] at had
    subst had
    simp only [k8] at heq
    split at heq
    ·rename_i v' sz n es hat2
     simp only [Option.some.injEq] at heq
     subst heq
     obtain rfl : m = n := by
      have hlist := h.at_ok hat2
      simp only [okC, okT, if_true] at hlist
      rcases hlist.2.2 with ⟨h, _⟩ | ⟨b, o, cur, e, ⟨ad', cap', h0, _⟩, _⟩
      ·cases h
      ·simp only [Value.slice.injEq] at h0; exact h0.2.1
     have hat3 := hat2
     rw [sO, hr] at hat3
     simp only [Option.bind_some] at hat3
     obtain ⟨y, rfl⟩ : ∃ y, c = .t y := by
      rcases qY hs with ⟨e, _⟩ | ⟨k, q, y', _, _, _, _, _, _, e, _⟩
      ·exact absurd e hp
      ·exact ⟨y', e⟩
     have hBr : ad'.block ∈ zL S ea r := zKd hat2 _ (by simp [zP, zU, hdr])
     have hy : okT (w.setCell ⟨ad'.block, ad'.off + off, none⟩ (zV y)) P R y := by
      have h1 := gG hw (hPB hBr) (hRB hBr) hok (hbB hBr)
      simpa only [okC, zJ] using h1
     obtain ⟨k1, k2, k3⟩ := zLm (S := S') (ea := ea) hy (hPB hBr) (hRB hBr) hp hs hat3 hcnd hcput
     exact ⟨hBr, k1, .inr ⟨k2, k3⟩⟩
    ·cases heq
   ·cases had
 have hw : ∀ k, k ≠ ad.block → (w.setCell ⟨ad.block, ad.off + off, none⟩ (zJ c)).heap[k]? = w.heap[k]? := fun k hk => gA hk
 obtain ⟨hB, hdok, hcase⟩ := key
 have hPB : ∀ t b, P t b → b ≠ ad.block := fun t b hb' e => h.notR r _ hB (e ▸ h.PR t b hb')
 have hRB : ∀ b, R b → b ≠ ad.block := fun b hb' e => h.notR r _ hB (e ▸ hb')
 have hsize : (w.setCell ⟨ad.block, ad.off + off, none⟩ (zJ c)).heap.size = w.heap.size := by simp [World.setCell]
 have hsl : ∀ i, (r ≠ .sl i ∧ S'.s i = S.s i) ∨ (r = .sl i ∧ S'.s i = x7 (S.s i) ds ∧ cellsOf (S.s i) = some cs) := by
  intro i
  subst hS'
  cases r with
  | sl d =>
   by_cases e : i = d
   ·subst e; right; exact ⟨rfl, by simp [zM, upd], by rw [← yE]; exact hr⟩
   ·left; exact ⟨by simpa using Ne.symm e, by simp [zM, upd, e]⟩
  | ex j => left; exact ⟨by simp, rfl⟩
 have hec : ∀ (j : Nat) es, S'.e[j]? = some es → (r ≠ .ex j ∧ S.e[j]? = some es) ∨ (r = .ex j ∧ es = ds ∧ S.e[j]? = some cs) := by
  intro j es hj
  subst hS'
  cases r with
  | sl d => left; exact ⟨by simp, hj⟩
  | ex j' =>
   by_cases e : j' = j
   ·subst e
    right
    have hlt : j' < S.e.length := (List.getElem?_eq_some_iff.1 hr).1
    simp only [zM, List.getElem?_set_self hlt, Option.some.injEq] at hj
    exact ⟨rfl, hj.symm, hr⟩
   ·left
    exact ⟨by simpa using e, by simpa [zM, List.getElem?_set_ne e] using hj⟩
 have hnB : ∀ k, k ≠ r → ad.block ∉ zL S ea k := fun k hk hb' => hk (h.dis k r _ hb' hB)
 have hmem : ∀ k b, b ∈ zL S' ea k → b ∈ zL S ea k ∨ (k = r ∧ b ∈ zP c) := by
  intro k b hb'
  by_cases e : k = r
  ·subst e
   rcases List.mem_append.1 (hown.subset hb') with h' | h'
   ·exact .inr ⟨rfl, h'⟩
   ·exact .inl h'
  ·rw [hoth k e] at hb'; exact .inl hb'
 obtain ⟨hcell, hfz⟩ := h.cell_at had hat0
 refine ⟨⟨ad.block, ad.off + off, none⟩, rfl, rfl, hcell, hfz, hB, ?_, hoth, hown⟩
 constructor
 case val =>
  intro i hi
  rcases hsl i with ⟨_, e⟩ | ⟨hri, e, hc⟩
  ·rw [e]; exact h.val i hi
  ·rcases h.val i hi with e' | e'
   ·rw [e'] at hc; simp [cellsOf] at hc
   ·right
    rw [e, e']
    rcases hcase with ⟨_, h2, _⟩ | ⟨h2, _⟩
    ·subst hri
     simp only [rootAd] at h2
     split at h2
     ·rename_i heq; rw [heq]; rfl
     ·cases h2
    ·rw [nQ hc h2]
 case hi =>
  intro i hi
  rcases hsl i with ⟨_, e⟩ | ⟨_, e, hc⟩
  ·rw [e]; exact h.hi i hi
  ·rw [h.hi i hi] at hc; simp [cellsOf] at hc
 case okS =>
  intro i
  rcases hsl i with ⟨hri, e⟩ | ⟨hri, e, hc⟩
  ·rw [e]
   exact cJ hw hPB hRB (pH hem hbl (h.okS i)) (fun hb' => hnB (.sl i) (Ne.symm hri) hb')
  ·rw [e]
   subst hri
   refine zJm hc hl ?_ ?_ hdok
   ·intro v ys hv
    have h1 := h.okS i
    rw [hv] at h1 hc
    simp only [cellsOf, Option.some.injEq] at hc
    subst hc
    simp only [okX] at h1
    obtain ⟨_, ad', rfl, h2⟩ := h1
    refine ⟨ad', rfl, ?_⟩
    rcases hcase with ⟨_, h3, h4, h5⟩ | ⟨h3, h4⟩
    ·simp only [rootAd, hv, Option.some.injEq] at h3
     subst h3
     rw [h4]; exact h2.store h5
    ·have hne : ad'.block ≠ ad.block := by
      intro e'
      simp only [zL, hv, zE, hdr, List.cons_append, List.nil_append, List.nodup_cons] at hnr
      exact hnr.1 (e' ▸ h4)
     obtain ⟨e1, e2, cur, e', e3, e4⟩ := h2
     exact ⟨e1, e2, cur, e', (hw _ hne).trans e3, by rw [h3]; exact e4⟩
   ·intro ys hv y hy h1 h2
    have h3 := h.okS i
    rw [hv] at h3 hc
    simp only [cellsOf, Option.some.injEq] at hc
    subst hc
    simp only [okX] at h3
    have h4 := pH hem hbl (nC.1 h3 y hy)
    refine cJ hw hPB hRB h4 (fun hb' => ?_)
    rcases hcase with ⟨_, h5, _⟩ | ⟨_, h5⟩
    ·simp [rootAd, hv] at h5
    ·have h6 := (kD ys).nodup_iff.1 (by simpa only [zL, hv, zE] using hnr)
     exact (List.nodup_append.1 h6).2.2 _ h5 _ (zNy hy h1 h2 _ hb') rfl
 case okE =>
  intro j es hj
  rcases hec j es hj with ⟨hrj, e⟩ | ⟨hrj, rfl, e⟩
  ·have h1 := bR hem hbl (h.okE j es e).1
   refine ⟨zY.2 fun c' hc' => gG hw hPB hRB (zY.1 h1 c' hc') (fun hb' => hnB (.ex j) (Ne.symm hrj) (rI e (by rw [yW, List.mem_flatMap]; exact ⟨c', hc', hb'⟩))), fun ad' had' => ?_⟩
   exact ((h.okE j es e).2 ad' had').same (hw _ (fun e' => hnB (.ex j) (Ne.symm hrj) (e' ▸ rH had')))
  ·refine ⟨zY.2 hdok, fun ad' had' => ?_⟩
   have h2 := (h.okE j cs e).2 ad' had'
   subst hrj
   rcases hcase with ⟨_, h3, h4, h5⟩ | ⟨h3, h4⟩
   ·simp only [rootAd] at h3
    rw [had'] at h3
    simp only [Option.some.injEq] at h3
    subst h3
    rw [h4]; exact h2.store h5
   ·have hne : ad'.block ≠ ad.block := by
     intro e'
     simp only [zL, e, had', List.cons_append, List.nil_append, List.nodup_cons] at hnr
     exact hnr.1 (e' ▸ h4)
    obtain ⟨e1, e2, cur, e', e3, e4⟩ := h2
    exact ⟨e1, e2, cur, e', (hw _ hne).trans e3, by rw [h3]; exact e4⟩
 case eaL =>
  rw [h.eaL, hS']
  cases r <;> simp [zM]
 case row =>
  intro j vs es hea hj
  rcases hec j es hj with ⟨_, e⟩ | ⟨hrj, rfl, e⟩
  ·exact h.row j vs es hea e
  ·subst hrj
   rcases hcase with ⟨_, h3, _⟩ | ⟨h3, _⟩
   ·simp [rootAd, hea, EA.ad] at h3
   ·rw [h3]; exact h.row j vs cs hea e
 case refS =>
  intro i d' hd'
  rcases hsl i with ⟨_, e⟩ | ⟨_, e, hc⟩
  ·rw [e] at hd'; exact h.refS i d' hd'
  ·rw [e] at hd'
   rcases pM hc hl _ hd' with hd' | hd'
   ·exact h.refS i d' hd'
   ·rcases hY hs _ hd' with hd' | hd'
    ·refine h.refS i d' ?_
     rw [yI, List.mem_flatMap] at hd'
     obtain ⟨c', hca, hk⟩ := hd'
     cases hs' : S.s i with
     | c y => rw [hs'] at hc; simp only [cellsOf, Option.some.injEq] at hc; subst hc; simp only [List.mem_singleton] at hca; subst hca; simpa [zD] using hk
     | agg ys => rw [hs'] at hc; simp only [cellsOf, Option.some.injEq] at hc; subst hc; simp only [zD, yI, List.mem_flatMap]; exact ⟨c', hca, hk⟩
     | box v ys => rw [hs'] at hc; simp only [cellsOf, Option.some.injEq] at hc; subst hc; simp only [zD, yI, List.mem_flatMap]; exact ⟨c', hca, hk⟩
     | tup ys => rw [hs'] at hc; simp only [cellsOf, Option.some.injEq] at hc; subst hc; simp only [zD]; exact gC hca _ hk
     | undef => rw [hs'] at hc; simp [cellsOf] at hc
    ·exact hrf d' hd'
 case refE =>
  intro j es d' hj hd'
  rcases hec j es hj with ⟨_, e⟩ | ⟨_, rfl, e⟩
  ·exact h.refE j es d' e hd'
  ·rcases hY hs _ hd' with hd' | hd'
   ·exact h.refE j cs d' e hd'
   ·exact hrf d' hd'
 case dis =>
  intro k k' b hb1 hb2
  rcases hmem k b hb1 with h1 | ⟨rfl, h1⟩ <;> rcases hmem k' b hb2 with h2 | ⟨rfl, h2⟩
  ·exact h.dis k k' b h1 h2
  ·exact absurd h1 (hb.sep k b h2)
  ·exact absurd h2 (hb.sep k' b h1)
  ·rfl
 case nd =>
  intro k
  by_cases e : k = r
  ·subst e
   rw [hown.nodup_iff, List.nodup_append]
   exact ⟨hb.nd, h.nd k, fun x hx y hy e => hb.sep k x hx (e ▸ hy)⟩
  ·rw [hoth k e]; exact h.nd k
 case lt =>
  intro k b hb'
  rw [hsize]
  exact (hmem k b hb').elim (h.lt k b) (fun h' => hb.lt b h'.2)
 case own => exact fun k b hb' => (hmem k b hb').elim (h.own k b) (fun h' => hb.own b h'.2)
 case notR => exact fun k b hb' => (hmem k b hb').elim (h.notR k b) (fun h' => hb.notR b h'.2)
 case PR => exact h.PR
 case ltR => intro b hb'; rw [hsize]; exact h.ltR b hb'
 case frm =>
  refine ⟨h.frm.os, h.frm.tape, h.frm.output, by rw [hsize]; exact h.frm.size, fun k hk hE => ?_⟩
  have : k ≠ ad.block := by
   rintro rfl
   exact (h.own r _ hB).elim hE (fun h' => by omega)
  exact (hw k this).trans (h.frm.block k hk hE)
end
end Go.Proofs.YtlkjnlfddadlmaaGreatDoor.V
namespace Go.Proofs.YtlkjnlfddadlmaaGreatDoor.V
open Go.RowKit
section
variable {cx : Ctx} {f : Nat} {isv : Nat → Bool} {w0 : World} {E0 : Nat → Prop} {P : Nat → Nat → Prop} {R R' : Nat → Prop} {ea : List EA} {w w' : World} {S0 S S' S2 S3 : SV} {tmps : Array Value} {Pr : Program} {a : Act} {call : zX}
def qB {α : Type} (r : Root) (qs : List (List Nat)) (c : C α) : C α := qs.foldl (fun c q => zS r q c) c
theorem oV {α : Type} (r : Root) (qs : List (List Nat)) (q : List Nat) (c : C α) : qB r (qs ++ [q]) c = zS r q (qB r qs c) := by
 simp [qB, List.foldl_append]
theorem zBb (r : Root) : ∀ (qs : List (List Nat)) (c : CV), qB r qs (erC c) = erC (qB r qs c)
 | [], c => rfl
 | q :: qs, c => by
  have h1 : qB r (q :: qs) (erC c) = qB r qs (zS r q (erC c)) := rfl
  have h2 : qB r (q :: qs) c = qB r qs (zS r q c) := rfl
  rw [h1, h2, show zS r q (erC c) = erC (zS r q c) from cB er0 r q c]
  exact zBb r qs _
theorem zBc (r : Root) : ∀ (qs : List (List Nat)) (c : CV), zJ (qB r qs c) = zJ c
 | [], c => rfl
 | q :: qs, c => by
  have h2 : qB r (q :: qs) c = qB r qs (zS r q c) := rfl
  rw [h2, zBc r qs, cC]
theorem lV (r : Root) : ∀ (qs : List (List Nat)) (c : CV), zP (qB r qs c) = zP c
 | [], c => rfl
 | q :: qs, c => by
  have h2 : qB r (q :: qs) c = qB r qs (zS r q c) := rfl
  rw [h2, lV r qs, cA]
theorem oU (r : Root) : ∀ (qs : List (List Nat)) (c : CV), ∀ k ∈ zF (qB r qs c), k ∈ zF c
 | [], c => fun k h => h
 | q :: qs, c => fun k h => rP r q c k (oU r qs _ k h)
theorem o7 {r : Root} {p : List Nat} {off : Nat} (hem : Em S S' ea r (p ++ [off])) : yV S' ea r p = yV S ea r p := by
 refine hem.place ?_
 rintro ⟨_, h⟩
 have : ∀ (p : List Nat) (off : Nat), pre (p ++ [off]) p = false := by
  intro p off
  induction p with
  | nil => rfl
  | cons x p ih => simp [pre, ih]
 rw [this] at h
 cases h
theorem zJh : ∀ {p : List Nat} {cs ds : List TV} {i : Nat} {y : TV}, xJ cs p i y = some ds → atT ds p i = some y
 | [], cs, ds, i, y, h => by
  simp only [xJ] at h
  split at h
  ·rename_i hi
   simp only [Option.some.injEq] at h
   subst h
   simp [atT, sub, hi]
  ·cases h
 | k :: p, cs, ds, i, y, h => by
  simp only [xJ] at h
  split at h
  ·rename_i v sz n xs hk
   cases hx : xJ xs p i y with
   | none => simp [hx] at h
   | some fs =>
    simp only [hx, Option.map_some, Option.some.injEq] at h
    subst h
    have hlt : k < cs.length := (List.getElem?_eq_some_iff.1 hk).1
    have ih := zJh hx
    simp only [atT, sub, List.getElem?_set_self hlt] at ih ⊢
    exact ih
  ·cases h
theorem zS1 {cs ds : List CV} {p : List Nat} {off : Nat} {y : CV} (h : kU cs p off y = some ds) : atC ds p off = some y := by
 rcases qY h with ⟨rfl, hl, rfl⟩ | ⟨k, q, y', v, sz, n, es, fs, rfl, rfl, hk, hs, rfl⟩
 ·simp [atC, y9, hl]
 ·have hlt : k < cs.length := (List.getElem?_eq_some_iff.1 hk).1
  rw [gY (v := v) (sz := sz) (n := n) (es := fs) (by rw [List.getElem?_set_self hlt]), zJh hs]
  rfl
theorem zSn {r : Root} {p : List Nat} {off : Nat} {c : CV} (h : z7 S r p off c = some S') : at_ S' r p off = some c := by
 obtain ⟨cs, ds, hr, hs, rfl⟩ := bB h
 rw [sO, gX hr (vH hs), if_pos rfl]
 exact zS1 hs
theorem iA {r : Root} {p : List Nat} {ad : Addr} : ∀ {cs : List CV} {w : World} {S : SV} {off : Nat} {qs : List (List Nat)} {Su : SU}, Rel isv w0 E0 P R ea w S tmps → yV S ea r p = some ad →
  yF w P R S ea (cs.map (qB r qs)) → (∀ d', Root.sl d' ∈ zK cs → isv d' = true) → Bk w0 E0 R ea w S (zH cs) → qF cx f r p off qs (cs.map erC) (V.erS S) = some Su →
  ∃ S2, V.erS S2 = Su ∧ Rel isv w0 E0 P R ea (w.setCells ad.block (ad.off + off) (cs.map zJ)) S2 tmps ∧
   ∀ j, j < cs.length → (w.cell? ⟨ad.block, ad.off + off + j, none⟩).isSome = true ∧ w.frozen? ⟨ad.block, ad.off + off + j, none⟩ = false
 | [], w, S, off, qs, Su, h, _, _, _, _, hq => by
  simp only [List.map_nil, qF, Option.some.injEq] at hq
  exact ⟨S, hq, h, fun j hj => by simp at hj⟩
 | c :: cs, w, S, off, qs, Su, h, had, hok, hrf, hb, hq => by
  simp only [List.map_cons, qF] at hq
  rw [V.erS, lN] at hq
  cases hat : at_ S r p off with
  | none => simp [hat] at hq
  | some old =>
   simp only [hat, Option.map_some, Option.bind_some, fN] at hq
   simp only [List.map_cons, yF] at hok
   simp only [zH] at hb
   -- the store itself, at a place that holds no list of one's own
   have main : ∀ {S1 : SV} {old' : CV} {qs' : List (List Nat)}, Rel isv w0 E0 P R ea w S1 tmps → at_ S1 r p off = some old' → x9 old' = false → yV S1 ea r p = some ad →
     okC w P R S1 ea (qB r qs' c) → yF w P R S1 ea (cs.map (qB r qs')) → Bk w0 E0 R ea w S1 (zP c ++ zH cs) → ∀ {St : SU}, z7 (V.erS S1) r p off (qB r qs' (erC c)) = some St → qF cx f r p (off + 1) qs' (cs.map erC) St = some Su →
     ∃ S2, V.erS S2 = Su ∧ Rel isv w0 E0 P R ea (w.setCells ad.block (ad.off + off) ((c :: cs).map zJ)) S2 tmps ∧
      ∀ j, j < (c :: cs).length → (w.cell? ⟨ad.block, ad.off + off + j, none⟩).isSome = true ∧ w.frozen? ⟨ad.block, ad.off + off + j, none⟩ = false := by
    intro S1 old' qs' h1 hat1 hown1 had1 hok1 hoks1 hb1 St hput hrest
    rw [zBb] at hput
    have hpm : z7 (V.erS S1) r p off (erC (qB r qs' c)) = (z7 S1 r p off (qB r qs' c)).map V.erS := uB er0 S1 r p off _
    rw [hpm] at hput
    cases hput1 : z7 S1 r p off (qB r qs' c) with
    | none => simp [hput1] at hput
    | some S1' =>
     simp only [hput1, Option.map_some, Option.some.injEq] at hput
     subst hput
     have hbc : Bk w0 E0 R ea w S1 (zP (qB r qs' c)) := by rw [lV]; exact hb1.sub (List.sublist_append_left _ _)
     obtain ⟨ad', hv, hspot, hcell, hfz, hB, hrel, hoth, hown⟩ := h1.store hat1 hown1 ⟨ad, had1, rfl⟩ hput1 hok1 (fun d' hd' => hrf d' (by simp only [zK, List.mem_append]; exact .inl (oU r qs' c _ hd'))) hbc
     simp only [Value.pointer.injEq, Option.some.injEq] at hv
     subst hv
     rw [zBc] at hrel
     have hem := dO (ea := ea) hput1
     have hbl := nY hat1 hown1
     have hw : ∀ k, k ≠ ad.block → (w.setCell ⟨ad.block, ad.off + off, none⟩ (zJ c)).heap[k]? = w.heap[k]? := fun k hk => gA hk
     have hPB : ∀ t b, P t b → b ≠ ad.block := fun t b hb' e => h1.notR r _ hB (e ▸ h1.PR t b hb')
     have hRB : ∀ b, R b → b ≠ ad.block := fun b hb' e => h1.notR r _ hB (e ▸ hb')
     have hoks2 : yF (w.setCell ⟨ad.block, ad.off + off, none⟩ (zJ c)) P R S1' ea (cs.map (qB r qs')) := by
      refine zY.2 fun x hx => ?_
      refine gG hw hPB hRB (pF hem hbl (zY.1 hoks1 x hx)) (fun hbx => ?_)
      obtain ⟨y, hy, rfl⟩ := List.mem_map.1 hx
      rw [lV] at hbx
      exact hb1.sep r _ (List.mem_append_right _ (by rw [yW, List.mem_flatMap]; exact ⟨y, hy, hbx⟩)) hB
     have hb2 : Bk w0 E0 R ea (w.setCell ⟨ad.block, ad.off + off, none⟩ (zJ c)) S1' (zH cs) := by
      have hb3 := hb1.sub (List.sublist_append_right (zP c) (zH cs))
      have hnd := List.nodup_append.1 hb1.nd
      refine ⟨hb3.nd, fun k b hbm hbk => ?_, fun b hbm => ?_, hb3.own, hb3.notR⟩
      ·by_cases e : k = r
       ·subst e
        rcases List.mem_append.1 (hown.subset hbk) with h' | h'
        ·rw [lV] at h'
         exact hnd.2.2 b h' b hbm rfl
        ·exact hb3.sep k b hbm h'
       ·rw [hoth k e] at hbk; exact hb3.sep k b hbm hbk
      ·have := hb3.lt b hbm
       simpa [World.setCell] using this
     obtain ⟨S2, e1, e2, e3⟩ := iA (cs := cs) hrel (by rw [o7 hem]; exact had1) hoks2 (fun d' hd' => hrf d' (by simp only [zK, List.mem_append]; exact .inr hd')) hb2 hrest
     refine ⟨S2, e1, ?_, fun j hj => ?_⟩
     ·simpa only [List.map_cons, World.setCells, Nat.add_assoc] using e2
     ·cases j with
      | zero => simp [hcell, hfz]
      | succ j =>
       have := e3 j (by simpa using hj)
       rw [World.cell?_setCell_other _ _ _ _ (by simp; omega), World.frozen?_setCell] at this
       simpa only [Nat.add_assoc, Nat.add_comm 1 j] using this
   split at hq
   ·rename_i hown
    split at hq
    ·cases hq
    ·have hpm : z7 (V.erS S) r p off (C.t (T.dead ())) = (z7 S r p off (.t (.dead (zJ old)))).map V.erS := uB er0 S r p off (.t (.dead (zJ old)))
     change ((z7 (V.erS S) r p off (.t (.dead ()))).bind _) = _ at hq
     rw [hpm] at hq
     cases hput0 : z7 S r p off (.t (.dead (zJ old))) with
     | none => simp [hput0] at hq
     | some S0 =>
      simp only [hput0, Option.map_some, Option.bind_some] at hq
      have hval : (∃ A n c, zJ old = .slice A n c) ∨ ∃ q, zJ old = .pointer q := by
       have hko := h.at_ok hat
       cases old with
       | t x => cases x with
        | sl v tag sz n es => cases tag with
         | zero => simp only [okC, okT, if_true] at hko; exact .inl (lE hko.2.2)
         | succ m => simp [x9] at hown
        | _ => simp [x9] at hown
       | lst v sz n es => simp only [okC] at hko; exact .inl (lE hko.2.2)
       | _ => simp [x9] at hown
      obtain ⟨h1, h2, h3⟩ := h.empty hat hval hput0
      have hem := dO (ea := ea) hput0
      have hk : kill r (p ++ [off]) (V.erS S0) = V.erS (kill r (p ++ [off]) S0) := fP er0 S0 r (p ++ [off])
      rw [hk] at hq
      cases hput : z7 (V.erS (kill r (p ++ [off]) S0)) r p off (List.foldl (fun c q => zS r q c) (erC c) (qs ++ [p ++ [off]])) with
      | none => rw [hput] at hq; simp at hq
      | some St =>
       rw [hput] at hq
       simp only [Option.bind_some] at hq
       have hat1 : at_ (kill r (p ++ [off]) S0) r p off = some (.t (.dead (zJ old))) := by
        rw [uL]
        have : at_ S0 r p off = some (.t (.dead (zJ old))) := zSn hput0
        rw [this]; rfl
       refine main (S1 := kill r (p ++ [off]) S0) (qs' := qs ++ [p ++ [off]]) h1 hat1 rfl (by rw [lZ, o7 hem]; exact had) ?_ ?_ ?_ hput hq
       ·rw [oV]; exact rW hem hok.1
       ·refine zY.2 fun x hx => ?_
        obtain ⟨y, hy, rfl⟩ := List.mem_map.1 hx
        rw [oV]
        exact rW hem (zY.1 hok.2 _ (List.mem_map_of_mem hy))
       ·refine ⟨hb.nd, fun k b hbm hbk => ?_, hb.lt, hb.own, hb.notR⟩
        by_cases e : k = r
        ·subst e
         exact hb.sep k b hbm (h3.subset (List.mem_append_right _ hbk))
        ·rw [h2 k e] at hbk; exact hb.sep k b hbm hbk
   ·rename_i hown
    change ((z7 (V.erS S) r p off (qB r qs (erC c))).bind _) = _ at hq
    cases hput : z7 (V.erS S) r p off (qB r qs (erC c)) with
    | none => rw [hput] at hq; simp at hq
    | some St =>
     rw [hput] at hq
     simp only [Option.bind_some] at hq
     exact main h hat (by simpa using hown) had hok.1 hok.2 hb hput hq
theorem zNt {o : Operand} {c : CV} (hc : okC w P R S ea c) (hr : ∀ d', Root.sl d' ∈ zF c → zB cx f d' = true) : okC w P R (V.clr cx f S o) ea c := by
 cases o with
 | tmp d =>
  simp only [V.clr]
  split
  ·exact hc
  ·rename_i hv
   split
   ·refine fS (fun _ _ _ => rfl) (fun _ _ => rfl) hc (fun _ _ => rfl) (fun r hr' => kT (fun e => ?_))
    subst e
    exact hv (hr d hr')
   ·exact hc
 | _ => exact hc
theorem zQs {v : Value} {r : Root} {p : List Nat} {off : Nat} {c : CV} (h : at_ S r p off = some c) : yL S (.ptr v r p off) = true := by
 simp only [yL, Bool.or_eq_true, List.isEmpty_iff]
 by_cases hp : p = []
 ·exact .inl hp
 ·right
  rw [j0 hp, iW] at h
  split at h
  ·rename_i heq; rw [heq]; rfl
  ·cases h
theorem mJ (hty : jB Pr cx.ty) {t : Nat} (ht : (cx.ty t).ok = true) {b o : Nat} {v : Value} {vs : List Value} (hv : v.cells.toList = vs) (hl : vs.length = (cx.ty t).sz) (h1 : ∀ v ∈ vs, v.oneCell' = true)
  (hc : ∀ j, j < vs.length → (w.cell? ⟨b, o + j, none⟩).isSome = true ∧ w.frozen? ⟨b, o + j, none⟩ = false) :
  (Instr.storeAt t (.pointer (some ⟨b, o, none⟩)) v).run Pr w = .ok () (w.setCells b o vs) := by
 obtain ⟨ti, d, zz, hf⟩ := hty.facts ht
 have hsz : (sizeOf t).run Pr w = .ok vs.length w := by simp [sizeOf, typeInfo, hf.info, hf.size, hl]
 have hst := run_storeCells_cells (P := Pr) b o vs 0 w (fun j hj => by rw [Nat.add_zero]; exact (hc j hj).1) (fun j hj => by rw [Nat.add_zero]; exact (hc j hj).2) h1
 rw [Nat.add_zero] at hst
 have hsize : v.cells.size = vs.length := by rw [← hv, Array.length_toList]
 simp [Instr.storeAt, Instr.sureAddr, storeVar, hsz, hsize, hv, hst]
def sL (Pr : Program) (a : Act) (o : Oper) (w w' : World) (b i : Nat) (vs : List Value) : Prop :=
 w' = w.setCells b i vs ∧ (∀ j, j < vs.length → (w.cell? ⟨b, i + j, none⟩).isSome = true ∧ w.frozen? ⟨b, i + j, none⟩ = false) ∧
 ∀ w2 : World, (∀ j, j < vs.length → (w2.cell? ⟨b, i + j, none⟩).isSome = true ∧ w2.frozen? ⟨b, i + j, none⟩ = false) → (execOp a.eval o).run Pr w2 = .ok .skip (w2.setCells b i vs)
theorem zCq (hty : jB Pr cx.ty) (h : Rel (zB cx f) w0 E0 P R ea w S tmps) (ha : a.tmps = tmps) {o : Oper} {t : Nat} {x y : Operand} (ho : o.op = .store t x y) {Su : SU} (hq : nT cx f (V.erS S) t x y = some Su) :
  ∃ w' S2 b i vs, V.erS S2 = Su ∧ Rel (zB cx f) w0 E0 P R ea w' S2 tmps ∧ a.eval x = .pointer (some ⟨b, i, none⟩) ∧ sL Pr a o w w' b i vs := by
 unfold nT at hq
 split at hq
 ·rename_i _ r p off hx
  obtain ⟨aG, haG, hav, haok, har⟩ := kA h ha hx
  obtain ⟨v, rfl⟩ := mZ haG
  cases hy : opv cx f (V.erS S) t y with
  | none => simp [hy] at hq
  | some z =>
   simp only [hy, Option.bind_some] at hq
   cases hc : jN z with
   | none => simp [hc] at hq
   | some cs =>
    simp only [hc, Option.bind_some] at hq
    split at hq
    ·rename_i hok
     obtain ⟨xG, hxG⟩ := h.opv ha hy
     have hrc := h.clr y
     obtain ⟨ds, d1, d2, d3, d4, d5, d6⟩ := eX hxG.new.ok (by rw [hxG.er]; exact hc)
     subst d1
     have hn := New.agg_of hxG.new d3 d4 d5
     have hbk : Bk w0 E0 R ea w (V.clr cx f S y) (zH ds) := by simpa only [zE] using hn.bk
     have hrd : ∀ d', Root.sl d' ∈ zK ds → zB cx f d' = true := fun d' hd' => hn.refs d' (by simpa only [zD] using hd')
     have hptr : okC w P R (V.clr cx f S y) ea (.ptr v r p off) := zNt haok har
     have hlen : ds.length = (cx.ty t).sz := by simpa using hok.2
     have hval : a.eval x = v := by simpa [zJ] using hav
     rw [← gT] at hq
     have fin : ∀ {us : List CV} {S2 : SV}, Rel (zB cx f) w0 E0 P R ea w S2 tmps → (yL S2 (.ptr v r p off) = true → okC w P R S2 ea (.ptr v r p off)) → yF w P R S2 ea us → (∀ d', Root.sl d' ∈ zK us → zB cx f d' = true) →
       Bk w0 E0 R ea w S2 (zH us) → us.map zJ = ds.map zJ → qF cx f r p off [] (us.map erC) (V.erS S2) = some Su →
       ∃ w' S2 b i vs, V.erS S2 = Su ∧ Rel (zB cx f) w0 E0 P R ea w' S2 tmps ∧ a.eval x = .pointer (some ⟨b, i, none⟩) ∧ sL Pr a o w w' b i vs := by
      intro us S2 h2 hp2 hok2 hr2 hb2 hv2 hput
      have hlu : us.length = ds.length := by simpa using congrArg List.length hv2
      cases us with
      | nil =>
       simp only [List.map_nil, qF, Option.some.injEq] at hput
       have hds : ds = [] := List.length_eq_zero_iff.1 hlu.symm
       subst hds
       simp only [okC] at haok
       obtain ⟨ad, had, rfl⟩ := haok
       refine ⟨w, S2, ad.block, ad.off + off, [], hput, h2, hval, rfl, fun j hj => absurd hj (Nat.not_lt_zero _), fun w2 _ => ?_⟩
       have hrun := mJ (w := w2) hty hok.1 (b := ad.block) (o := ad.off + off) (v := zQ xG) (vs := []) (by simpa using d2) (by simpa using hlen) (by simp) (by simp)
       simp [execOp, ho, hval, hxG.val, hrun, World.setCells]
      | cons c us =>
       have hat : ∃ old, at_ S2 r p off = some old := by
        simp only [List.map_cons, qF] at hput
        rw [V.erS, lN] at hput
        cases hat : at_ S2 r p off with
        | none => simp [hat] at hput
        | some old => exact ⟨old, rfl⟩
       obtain ⟨old, hat⟩ := hat
       have hp3 := hp2 (zQs hat)
       simp only [okC] at hp3
       obtain ⟨ad, had, rfl⟩ := hp3
       have hk0 : (c :: us).map (qB r []) = c :: us := (List.map_congr_left (fun _ _ => rfl)).trans (List.map_id _)
       obtain ⟨S3, e1, e2, e3⟩ := iA (qs := []) (cs := c :: us) h2 had (by rw [hk0]; exact hok2) hr2 hb2 hput
       refine ⟨_, S3, ad.block, ad.off + off, (c :: us).map zJ, e1, e2, hval, rfl, fun j hj => e3 j (by simpa using hj), fun w2 hw2 => ?_⟩
       have hrun := mJ (w := w2) hty hok.1 (b := ad.block) (o := ad.off + off) (v := zQ xG) (vs := (c :: us).map zJ) (by rw [hv2]; exact d2) (by rw [List.length_map, hlu]; exact hlen) (by
        rw [hv2]
        intro v hv
        obtain ⟨c', hc', rfl⟩ := List.mem_map.1 hv
        exact d6 c' hc') hw2
       simp only [List.map_cons] at hrun
       simp [execOp, ho, hval, hxG.val, hrun]
     have set_case : ∀ {q : List TU × SU}, xZ (ds.map erC) (V.erS (V.clr cx f S y)) = some q → qF cx f r p off [] (toT q.1) q.2 = some Su →
       ∃ w' S2 b i vs, V.erS S2 = Su ∧ Rel (zB cx f) w0 E0 P R ea w' S2 tmps ∧ a.eval x = .pointer (some ⟨b, i, none⟩) ∧ sL Pr a o w w' b i vs := by
      rintro ⟨ts, Sq⟩ hs hput
      obtain ⟨us, S2, e1, e2, e3, e4, e5, e6, e7, _⟩ := sC hrc Emp.refl d3 hbk hs
      subst e2
      have hmm : toT ts = (us.map C.t).map erC := by rw [← e1]; simp only [toT, List.map_map]; rfl
      rw [hmm] at hput
      have hnr : ∀ (us : List TV), zK (us.map C.t) = [] := fun us => by rw [yI, List.flatMap_eq_nil_iff]; intro c hc; obtain ⟨y, _, rfl⟩ := List.mem_map.1 hc; rfl
      have hbb : ∀ (us : List TV), zH (us.map C.t) = zZ us := fun us => by rw [yW, xD, List.flatMap_map]; rfl
      refine fin e4 (fun hal => e5.ok w P R _ hptr hal) ?_ (fun d' hd' => by rw [hnr] at hd'; cases hd') (by rw [hbb]; exact e7) ?_ hput
      ·refine zY.2 fun c hc => ?_
       obtain ⟨y, hy, rfl⟩ := List.mem_map.1 hc
       simpa only [okC] using yJ.1 e6 y hy
      ·rw [List.map_map, ← e3]; rfl
     split at hq
     ·rename_i d
      cases hk : uF cx f d (ds.map erC) (V.erS (V.clr cx f S y)) with
      | none => rw [hk] at hq; simp at hq
      | some q =>
       obtain ⟨ks, Sk⟩ := q
       rw [hk] at hq
       simp only [Option.bind_some] at hq
       split at hq
       ·rename_i hal
        obtain ⟨us, S2, e1, e2, e3, e4, e5, e6, e7, e8, e9⟩ := aZ hrc Emp.refl d3 hbk hk
        subst e1; subst e2
        have hal' : xN S2 us = true := by
         have h0 := vZ er0 S2 us
         rw [zR] at h0
         rw [← h0]; exact hal
        exact fin e4 (fun hal => e5.ok w P R _ hptr hal) (e5.oks e6 hal') (fun d' hd' => hrd d' (e9 _ hd')) e7 e3 hq
       ·cases hq
     ·cases hs : xZ (ds.map erC) (V.erS (V.clr cx f S y)) with
      | none => rw [hs] at hq; simp at hq
      | some q => rw [hs] at hq; simp only [Option.bind_some] at hq; exact set_case hs hq
    ·cases hq
 ·cases hq
theorem zP4 (hty : jB Pr cx.ty) (h : Rel (zB cx f) w0 E0 P R ea w S tmps) (ha : a.tmps = tmps) {o : Oper} {t : Nat} {x y : Operand} (ho : o.op = .store t x y) {Su : SU} (hq : nT cx f (V.erS S) t x y = some Su) :
  ∃ w' S2, V.erS S2 = Su ∧ Rel (zB cx f) w0 E0 P R ea w' S2 tmps ∧ (execOp a.eval o).run Pr w = .ok .skip w' := by
 obtain ⟨w', S2, b, i, vs, h1, h2, _, h4, h5, h6⟩ := zCq hty h ha ho hq
 exact ⟨w', S2, h1, h2, by rw [h6 w h5, h4]⟩
end
end Go.Proofs.YtlkjnlfddadlmaaGreatDoor.V
namespace Go.Proofs.YtlkjnlfddadlmaaGreatDoor.V
open Go.RowKit
section
variable {cx : Ctx} {f : Nat} {isv : Nat → Bool} {w0 : World} {E0 : Nat → Prop} {P : Nat → Nat → Prop} {R R' : Nat → Prop} {ea : List EA} {w w' : World} {S0 S S' S2 S3 : SV} {tmps : Array Value} {Pr : Program} {a : Act} {call : zX}
theorem pO {o : Oper} {n : Nat} {Su Su' : SU} {S2 : SV} (hr : Rel (zB cx f) w0 E0 P R ea w' S2 a.tmps) (hS : V.erS S2 = Su) (hd : a.defers = []) (hsz : a.tmps.size = n) (hdst : ∀ d, o.dst = some d → d < n)
  (hq : wJ cx f Su o.dst (.tup []) = some Su') : At cx f w0 E0 P R ea n Su' (a.put o.dst undef) w' := by
 have hn : New (zB cx f) w0 E0 P R ea w' S2 (.tup []) := New.plain (by simp [okX, xR]) (by simp [zE, xA]) (by simp [zD, yN])
 exact dI (xG := .tup []) hr hn (by simp [erX, zW, wG]) hS hd hsz hdst hq
theorem zLt (hty : jB Pr cx.ty) {ops : Array Oper} {o : Oper} {i n : Nat} {Su Su' : SU} {t : Nat} {x y : Operand} (hat : At cx f w0 E0 P R ea n Su a w) (ho : o.op = .store t x y) (hi : ops[i]? = some o)
  (hdst : ∀ d, o.dst = some d → d < n) (hq : stepOp cx f call Su ops o = some Su') {K : Act → World → Prop} {Q : Exit → Act → World → Prop} (hk : ∀ a' w', At cx f w0 E0 P R ea n Su' a' w' → K a' w') : wpOp Pr ops Q i K a w := by
 obtain ⟨S, hr, rfl, hd, hsz⟩ := hat
 simp only [wpOp, hi]
 unfold stepOp at hq
 cases hw : y5 (V.erS S) ops o with
 | none => simp [hw] at hq
 | some b =>
  have hwt := bE hr hw
  cases b with
  | false =>
   rw [if_neg (by rw [hwt]; simp)]
   simp only [hw] at hq
   exact hk _ _ (pO hr rfl hd hsz hdst hq)
  | true =>
   rw [if_pos hwt]
   refine .inl ?_
   simp only [hw, ho] at hq
   cases hv : nT cx f (V.erS S) t x y with
   | none => simp [hv] at hq
   | some r =>
    simp only [hv, Option.bind_some] at hq
    obtain ⟨w', S2, e1, e2, e3⟩ := zP4 hty hr rfl ho hv
    exact zCt e3 (hk _ _ (pO e2 e1 hd hsz hdst hq))
theorem zJu {ops : Array Oper} {o : Oper} {i n : Nat} {Su Su' : SU} {x : Operand} (hat : At cx f w0 E0 P R ea n Su a w) (ho : o.op = .assign x) (hi : ops[i]? = some o)
  (hdst : ∀ d, o.dst = some d → d < n) (hq : stepOp cx f call Su ops o = some Su') {K : Act → World → Prop} {Q : Exit → Act → World → Prop} (hk : ∀ a' w', At cx f w0 E0 P R ea n Su' a' w' → K a' w') : wpOp Pr ops Q i K a w := by
 have hat0 := hat
 obtain ⟨S, hr, rfl, hd, hsz⟩ := hat
 simp only [wpOp, hi]
 unfold stepOp at hq
 cases hw : y5 (V.erS S) ops o with
 | none => simp [hw] at hq
 | some b =>
  have hwt := bE hr hw
  cases b with
  | false =>
   rw [if_neg (by rw [hwt]; simp)]
   simp only [hw] at hq
   exact hk _ _ (pO hr rfl hd hsz hdst hq)
  | true =>
   rw [if_pos hwt]
   refine .inl ?_
   simp only [hw, ho] at hq
   cases hdo : o.dst with
   | none => simp [hdo] at hq
   | some d =>
    simp only [hdo] at hq
    have h1 := zOy hat0 (hdst d hdo) hq
    have hrun : (execOp a.eval o).run Pr w = .ok (.value (a.eval x)) w := by simp [execOp, ho]
    exact aK hrun (by rw [hdo]; exact hk _ _ h1)
end
end Go.Proofs.YtlkjnlfddadlmaaGreatDoor.V
namespace Go.Proofs.YtlkjnlfddadlmaaGreatDoor.V
def clear {α : Type} (L : List Nat) (S : St α) : St α := { S with s := fun t => if t ∈ L then .undef else S.s t }
theorem xI {α : Type} (S : St α) : clear [] S = S := by cases S; simp [clear]
theorem nZ {α : Type} (L M : List Nat) (S : St α) : clear M (clear L S) = clear (L ++ M) S := by
 simp only [clear, List.mem_append]
 congr 1
 funext t
 by_cases h1 : t ∈ L <;> by_cases h2 : t ∈ M <;> simp [h1, h2]
section
variable {cx : Ctx} {f : Nat} {call : zX} {S1 S2 : SU}
structure Agr (S1 S2 : SU) (os : List Operand) : Prop where
 sl : ∀ d, Operand.tmp d ∈ os → S1.s d = .undef ∨ S1.s d = S2.s d
 rt : ∀ d, Operand.tmp d ∈ os → ∀ r ∈ xX (S1.s d), zA S1 r = none ∨ zA S1 r = zA S2 r
theorem Agr.sub {os os' : List Operand} (h : Agr S1 S2 os) (hs : ∀ x ∈ os', x ∈ os) : Agr S1 S2 os' := ⟨fun d hd => h.sl d (hs _ hd), fun d hd => h.rt d (hs _ hd)⟩
theorem Agr.clear {os : List Operand} (h : Agr S1 S2 os) {L : List Nat} (hL : ∀ t ∈ L, zB cx f t = false) (hr : ∀ d, Operand.tmp d ∈ os → ∀ k, Root.sl k ∈ xX (S1.s d) → k ∉ L) : Agr (V.clear L S1) (V.clear L S2) os := by
 refine ⟨fun d hd => ?_, fun d hd r hr' => ?_⟩
 ·simp only [V.clear]
  split
  ·exact .inl rfl
  ·exact h.sl d hd
 ·simp only [V.clear] at hr'
  split at hr'
  ·simp [xX] at hr'
  ·have := h.rt d hd r hr'
   cases r with
   | sl k =>
    have hk := hr d hd k hr'
    simpa [zA, V.clear, hk] using this
   | ex j => simpa [zA, V.clear] using this
theorem Agr.refl {os : List Operand} : Agr S1 S1 os := ⟨fun _ _ => .inr rfl, fun _ _ _ _ => .inr rfl⟩
def HR (cx : Ctx) (f : Nat) (S1 S2 : SU) (os : List Operand) : Prop := S1 = S2 ∨ ∀ d, Operand.tmp d ∈ os → ∀ k, Root.sl k ∈ xX (S1.s d) → zB cx f k = true
theorem HR.agr {os : List Operand} (hr : HR cx f S1 S2 os) (h : Agr S1 S2 os) {L : List Nat} (hL : ∀ t ∈ L, zB cx f t = false) : Agr (V.clear L S1) (V.clear L S2) os := by
 rcases hr with rfl | hr
 ·exact Agr.refl
 ·exact h.clear (cx := cx) (f := f) hL (fun d hd k hk hkL => by
   have := hr d hd k hk
   rw [hL k hkL] at this; cases this)
theorem HR.clear {os : List Operand} (hr : HR cx f S1 S2 os) (L : List Nat) : HR cx f (V.clear L S1) (V.clear L S2) os := by
 rcases hr with rfl | hr
 ·exact .inl rfl
 ·refine .inr fun d hd k hk => ?_
  simp only [V.clear] at hk
  split at hk
  ·simp [xX] at hk
  ·exact hr d hd k hk
theorem yK {os : List Operand} (h : Agr S1 S2 os) {t : Nat} {o : Operand} {x : XU} (ho : o ∈ os) (hx : opv cx f S1 t o = some x) : opv cx f S2 t o = some x := by
 cases o with
 | tmp d =>
  simp only [opv] at hx ⊢
  rcases h.sl d ho with e | e
  ·rw [e] at hx; simp [rdS] at hx
  ·rw [← e]; exact hx
 | const v => exact hx
 | func g => exact hx
 | global g => exact hx
theorem eY {os : List Operand} (h : Agr S1 S2 os) {t : Nat} {o : Operand} {x : XU} (ho : o ∈ os) (hx : opv cx f S1 t o = some x) :
  ∃ L, clr cx f S1 o = clear L S1 ∧ clr cx f S2 o = clear L S2 ∧ ∀ t ∈ L, Operand.tmp t ∈ os ∧ zB cx f t = false ∧ yQ (S1.s t) = true := by
 cases o with
 | tmp d =>
  simp only [opv] at hx
  have e : S1.s d = S2.s d := by
   rcases h.sl d ho with e | e
   ·rw [e] at hx; simp [rdS] at hx
   ·exact e
  simp only [clr]
  by_cases hv : zB cx f d = true
  ·exact ⟨[], by simp [hv, xI], by simp [hv, xI], by simp⟩
  ·by_cases hw : yQ (S1.s d) = true
   ·refine ⟨[d], ?_, ?_, fun t ht => ?_⟩
    ·simp only [hv, hw, if_true, clear, List.mem_singleton]; rfl
    ·rw [← e]; simp only [hv, hw, if_true, clear, List.mem_singleton]; rfl
    ·simp only [List.mem_singleton] at ht; subst ht; exact ⟨ho, by simpa using hv, hw⟩
   ·exact ⟨[], by simp [hv, hw, xI], by rw [← e]; simp [hv, hw, xI], by simp⟩
 | const v => exact ⟨[], by simp [clr, xI], by simp [clr, xI], by simp⟩
 | func g => exact ⟨[], by simp [clr, xI], by simp [clr, xI], by simp⟩
 | global g => exact ⟨[], by simp [clr, xI], by simp [clr, xI], by simp⟩
theorem sB (r : Root) (p : List Nat) (i : Nat) : ∀ c : CU, ∀ k ∈ yB true (rdc r p i c), k = r ∨ k ∈ yB true c := by
 intro c k hk
 cases c with
 | t x => cases x with
  | sl v tag sz n cs => cases tag with
   | zero => simp only [rdc, yB, if_true, List.mem_singleton] at hk; exact .inl hk
   | succ m => simp [rdc, yB] at hk
  | _ => simp [rdc, yB] at hk
 | lst v sz n cs => simp [rdc, yB] at hk
 | _ => exact .inr hk
theorem mC (r : Root) : ∀ (i : Nat) (cs : List CU), ∀ k ∈ zN true (mA r i cs), k = r ∨ k ∈ zN true cs
 | _, [], k, hk => by simp [mA, zN] at hk
 | i, c :: cs, k, hk => by
  simp only [mA, zN, List.mem_append] at hk ⊢
  rcases hk with hk | hk
  ·exact (sB r [] i c k hk).imp id .inl
  ·exact (mC r (i + 1) cs k hk).imp id .inr
theorem zGt {c : CU} {v : Value} (h : zCv c v = true) : yB true c = [] := by
 unfold zCv at h
 split at h <;> first | rfl | cases h
theorem nU : ∀ {cs : List CU} {vs : List Value}, q6 cs vs = true → zN true cs = []
 | [], vs, _ => rfl
 | c :: cs, [], h => by simp [q6] at h
 | c :: cs, v :: vs, h => by
  simp only [q6, Bool.and_eq_true] at h
  simp only [zN, zGt h.1, nU h.2, List.append_nil]
theorem oK {t : Nat} {v : Value} {x : XU} (h : rJ cx t v = some x) : xX x = [] := by
 unfold rJ at h
 split at h
 all_goals (try split at h)
 all_goals (cases h; try rfl)
 next hc =>
  simp only [Bool.and_eq_true] at hc
  simp only [xX, nU hc.2]
theorem pK {os : List Operand} (h : Agr S1 S2 os) {t : Nat} {o : Operand} {x : XU} (ho : o ∈ os) (hx : opv cx f S1 t o = some x) : ∀ r ∈ xX x, zA S1 r = none ∨ zA S1 r = zA S2 r := by
 intro r hr
 cases o with
 | tmp d =>
  simp only [opv] at hx
  have e : S1.s d = S2.s d := by
   rcases h.sl d ho with e | e
   ·rw [e] at hx; simp [rdS] at hx
   ·exact e
  have own : zA S1 (.sl d) = zA S2 (.sl d) := by simp only [zA, e]
  have hrt := h.rt d ho
  cases hs : S1.s d with
  | undef => rw [hs] at hx; simp [rdS] at hx
  | tup xs =>
   rw [hs] at hx
   simp only [rdS] at hx
   split at hx
   ·cases hx
   ·simp only [Option.some.injEq] at hx; subst hx; simp [xX] at hr
  | c y =>
   rw [hs] at hx hrt
   simp only [rdS] at hx
   split at hx <;> simp only [Option.some.injEq] at hx <;> subst hx
   ·rcases sB (.sl d) [] 0 y r hr with rfl | hr
    ·exact .inr own
    ·exact hrt r hr
   ·exact hrt r hr
  | agg cs =>
   rw [hs] at hx hrt
   simp only [rdS] at hx
   split at hx <;> simp only [Option.some.injEq] at hx <;> subst hx
   ·rcases mC (.sl d) 0 cs r hr with rfl | hr
    ·exact .inr own
    ·exact hrt r hr
   ·exact hrt r hr
  | box v cs =>
   rw [hs] at hx hrt
   simp only [rdS] at hx
   split at hx <;> simp only [Option.some.injEq] at hx <;> subst hx
   ·simp only [xX, yB, List.mem_singleton] at hr
    subst hr; exact .inr own
   ·exact hrt r hr
 | const v => rw [oK hx] at hr; simp at hr
 | func g => simp only [opv, Option.some.injEq] at hx; subst hx; simp [xX, yB, zN] at hr
 | global g => simp [opv] at hx
theorem zMp {r : Root} (h : zA S1 r = none ∨ zA S1 r = zA S2 r) {p : List Nat} {i : Nat} {c : CU} (ha : at_ S1 r p i = some c) : at_ S2 r p i = some c := by
 simp only [at_] at ha ⊢
 rcases h with e | e
 ·rw [e] at ha; simp at ha
 ·rw [← e]; exact ha
theorem zBg {r : Root} (h : zA S1 r = none ∨ zA S1 r = zA S2 r) {p : List Nat} : ∀ {n off : Nat} {cs : List CU}, jT S1 r p off n = some cs → jT S2 r p off n = some cs
 | 0, off, cs, hl => hl
 | n + 1, off, cs, hl => by
  simp only [jT] at hl ⊢
  cases ha : at_ S1 r p off with
  | none => simp [ha] at hl
  | some c =>
   simp only [ha, Option.bind_some] at hl
   rw [zMp h ha]
   cases hn : jT S1 r p (off + 1) n with
   | none => simp [hn] at hl
   | some ds => rw [hn] at hl; simp only [Option.bind_some]; rw [zBg h hn]; exact hl
theorem m4 {r : Root} (h : zA S1 r = none ∨ zA S1 r = zA S2 r) {p : List Nat} {i off m : Nat} {cs : List TU} (hl : x6 S1 r p i off m = some cs) : x6 S2 r p i off m = some cs := by
 unfold x6 at hl ⊢
 cases ha : at_ S1 r p i with
 | none => simp [ha] at hl
 | some c => rw [ha] at hl; rw [zMp h ha]; exact hl
mutual
theorem zCj : ∀ {c d : CU}, (∀ r ∈ yB true c, zA S1 r = none ∨ zA S1 r = zA S2 r) → qH S1 c = some d → qH S2 c = some d
 | .t x, d, _, hs => by simpa only [qH] using hs
 | .bor v r p i off sz n, d, h, hs => by
  simp only [qH] at hs ⊢
  split at hs
  ·rename_i hz
   rw [if_pos hz]
   cases hl : x6 S1 r p i off (n * sz) with
   | none => simp [hl] at hs
   | some ds => rw [hl] at hs; rw [m4 (h r (by simp [yB])) hl]; exact hs
  ·cases hs
 | .rptr v cs, d, _, hs => by simpa only [qH] using hs
 | .nilp, d, _, hs => by simpa only [qH] using hs
 | .nilf, d, _, hs => by simpa only [qH] using hs
 | .fn g [], d, _, hs => by simpa only [qH] using hs
 | .fn g (c :: cs), d, _, hs => by simp [qH] at hs
 | .ptr v r p off, d, _, hs => by simp [qH] at hs
 | .lst v sz n cs, d, h, hs => by
  simp only [qH] at hs ⊢
  cases hc : jK S1 cs with
  | none => simp [hc] at hs
  | some ds => rw [hc] at hs; rw [nR (by simpa only [yB] using h) hc]; exact hs
theorem nR : ∀ {cs ds : List CU}, (∀ r ∈ zN true cs, zA S1 r = none ∨ zA S1 r = zA S2 r) → jK S1 cs = some ds → jK S2 cs = some ds
 | [], ds, _, hs => by simpa only [jK] using hs
 | c :: cs, ds, h, hs => by
  simp only [jK] at hs ⊢
  simp only [zN, List.mem_append] at h
  cases hc : qH S1 c with
  | none => simp [hc] at hs
  | some d =>
   simp only [hc, Option.bind_some] at hs
   rw [zCj (fun r hr => h r (.inl hr)) hc]
   cases hcs : jK S1 cs with
   | none => simp [hcs] at hs
   | some es => rw [hcs] at hs; simp only [Option.bind_some]; rw [nR (fun r hr => h r (.inr hr)) hcs]; exact hs
end
theorem zLs {x y : XU} (h : ∀ r ∈ xX x, zA S1 r = none ∨ zA S1 r = zA S2 r) (hs : bV S1 x = some y) : bV S2 x = some y := by
 cases x with
 | c c =>
  simp only [bV] at hs ⊢
  cases hc : qH S1 c with
  | none => simp [hc] at hs
  | some d => rw [hc] at hs; rw [zCj h hc]; exact hs
 | agg cs =>
  simp only [bV] at hs ⊢
  cases hc : jK S1 cs with
  | none => simp [hc] at hs
  | some d => rw [hc] at hs; rw [nR h hc]; exact hs
 | _ => simp [bV] at hs
theorem p7 : ∀ {as : List Operand} {ts : List Nat} {xs : List XU}, Agr S1 S2 as → q5 cx f S1 as ts = some xs → q5 cx f S2 as ts = some xs
 | [], ts, xs, _, hs => by simpa only [q5] using hs
 | o :: os, ts, xs, h, hs => by
  simp only [q5] at hs ⊢
  cases hx : opv cx f S1 (ts.head?.getD 0) o with
  | none => simp [hx] at hs
  | some x =>
   simp only [hx, Option.bind_some] at hs
   rw [yK h List.mem_cons_self hx]
   simp only [Option.bind_some]
   cases hy : bV S1 x with
   | none => simp [hy] at hs
   | some y =>
    simp only [hy, Option.bind_some] at hs
    rw [zLs (pK h List.mem_cons_self hx) hy]
    simp only [Option.bind_some]
    cases hz : q5 cx f S1 os ts.tail with
    | none => simp [hz] at hs
    | some zs => rw [hz] at hs; rw [p7 (h.sub (fun x hx => List.mem_cons_of_mem _ hx)) hz]; exact hs
end
end Go.Proofs.YtlkjnlfddadlmaaGreatDoor.V
namespace Go.Proofs.YtlkjnlfddadlmaaGreatDoor.V
section
variable {cx : Ctx} {f : Nat} {call : zX} {S1 S2 : SU}
def wV (cx : Ctx) (f : Nat) (S1 S2 : SU) (os : List Operand) (S1' : SU) (Q : SU → Prop) : Prop :=
 ∃ L, S1' = clear L S1 ∧ Q (clear L S2) ∧ ∀ t ∈ L, Operand.tmp t ∈ os ∧ zB cx f t = false ∧ yQ (S1.s t) = true
theorem wV.none {os : List Operand} {Q : SU → Prop} (h : Q S2) : wV cx f S1 S2 os S1 Q := ⟨[], (xI S1).symm, by rw [xI]; exact h, by simp⟩
theorem wV.clr {os : List Operand} {Q : SU → Prop} (h : Agr S1 S2 os) {t : Nat} {o : Operand} {x : XU} (ho : o ∈ os) (hx : opv cx f S1 t o = some x) (hQ : Q (V.clr cx f S2 o)) : wV cx f S1 S2 os (V.clr cx f S1 o) Q := by
 obtain ⟨L, e1, e2, e3⟩ := eY h ho hx
 exact ⟨L, e1, by rw [← e2]; exact hQ, e3⟩
theorem mS (place : Nat → Option (Nat × Nat)) : ∀ {ps : List (Nat × Operand)} {cells : List CU} {S1 S2 : SU} {os : List Operand} {r : List CU × SU}, Agr S1 S2 os → (∀ p ∈ ps, p.2 ∈ os) → HR cx f S1 S2 os →
  jU cx f place ps cells S1 = some r → wV cx f S1 S2 os r.2 fun S2' => jU cx f place ps cells S2 = some (r.1, S2')
 | [], cells, S1, S2, os, r, _, _, _, hq => by
  simp only [jU, Option.some.injEq] at hq
  subst hq
  exact wV.none rfl
 | (i, o) :: ps, cells, S1, S2, os, r, h, hp, hr, hq => by
  simp only [jU] at hq
  have ho : o ∈ os := hp (i, o) List.mem_cons_self
  cases hpl : place i with
  | none => simp [hpl] at hq
  | some q =>
   simp only [hpl, Option.bind_some] at hq
   cases hx : opv cx f S1 q.2 o with
   | none => simp [hx] at hq
   | some x =>
    simp only [hx, Option.bind_some] at hq
    cases hc : jN x with
    | none => simp [hc] at hq
    | some cs =>
     simp only [hc, Option.bind_some] at hq
     split at hq
     ·rename_i hok
      obtain ⟨L, e1, e2, e3⟩ := eY h ho hx
      rw [e1] at hq
      have hag : Agr (clear L S1) (clear L S2) os := hr.agr h (fun t ht => (e3 t ht).2.1)
      have hr' := hr.clear L
      obtain ⟨M, f1, f2, f3⟩ := mS place hag (fun p hp' => hp p (List.mem_cons_of_mem _ hp')) hr' hq
      refine ⟨L ++ M, by rw [f1, nZ], ?_, fun t ht => ?_⟩
      ·simp only [jU, hpl, Option.bind_some, yK h ho hx, hc, if_pos hok, e2]
       rw [← nZ]; exact f2
      ·rcases List.mem_append.1 ht with ht | ht
       ·exact e3 t ht
       ·obtain ⟨g1, g2, g3⟩ := f3 t ht
        refine ⟨g1, g2, ?_⟩
        simp only [clear] at g3
        split at g3
        ·simp [yQ] at g3
        ·exact g3
     ·cases hq
theorem o5 {os : List Operand} (h : Agr S1 S2 os) {o : Option Operand} (ho : ∀ x, o = some x → x ∈ os) {n : Option Int} (hn : dN cx f S1 o = some n) : dN cx f S2 o = some n := by
 cases o with
 | none => exact hn
 | some o =>
  simp only [dN] at hn ⊢
  cases hx : opv cx f S1 0 o with
  | none => simp [hx, dE] at hn
  | some x => rw [hx] at hn; rw [yK h (ho o rfl) hx]; exact hn
theorem eV : ∀ {os : List Operand} {cs : List CU}, Agr S1 S2 os → dB cx f S1 os = some cs → dB cx f S2 os = some cs
 | [], cs, _, hc => by simpa only [dB] using hc
 | o :: os, cs, h, hc => by
  simp only [dB] at hc ⊢
  cases hx : opv cx f S1 0 o with
  | none => simp [hx] at hc
  | some x =>
   rw [hx] at hc
   rw [yK h List.mem_cons_self hx]
   simp only [Option.bind_some] at hc ⊢
   cases x with
   | c c =>
    simp only at hc ⊢
    split at hc
    ·cases hc
    ·rename_i hno
     rw [if_neg hno]
     cases hy : dB cx f S1 os with
     | none => simp [hy] at hc
     | some ds => rw [hy] at hc; rw [eV (h.sub (fun x hx => List.mem_cons_of_mem _ hx)) hy]; exact hc
   | _ => simp at hc
theorem bN {os : List Operand} (h : Agr S1 S2 os) {t : Nat} {o : Operand} (ho : o ∈ os) {n : Int} (hn : dE (opv cx f S1 t o) = some n) : dE (opv cx f S2 t o) = some n := by
 cases hx : opv cx f S1 t o with
 | none => simp [hx, dE] at hn
 | some x => rw [hx] at hn; rw [yK h ho hx]; exact hn
theorem lT {os : List Operand} (h : Agr S1 S2 os) {t : Nat} {o : Operand} (ho : o ∈ os) {n : Int} (hn : j8 (opv cx f S1 t o) = some n) : j8 (opv cx f S2 t o) = some n := by
 cases hx : opv cx f S1 t o with
 | none => simp [hx, j8] at hn
 | some x => rw [hx] at hn; rw [yK h ho hx]; exact hn
theorem oI {os : List Operand} (h : Agr S1 S2 os) {t : Nat} {o : Operand} (ho : o ∈ os) {n : Bool} (hn : v1 (opv cx f S1 t o) = some n) : v1 (opv cx f S2 t o) = some n := by
 cases hx : opv cx f S1 t o with
 | none => simp [hx, v1] at hn
 | some x => rw [hx] at hn; rw [yK h ho hx]; exact hn
theorem zLj {c : CU} (h : ∀ r ∈ yB true c, zA S1 r = none ∨ zA S1 r = zA S2 r) {q : Nat × Nat × List TU} (hq : uC S1 c = some q) : uC S2 c = some q := by
 cases c with
 | t x => cases x with
  | sl v tag sz n cs => exact hq
  | _ => simp [uC] at hq
 | bor v r p i off sz n =>
  simp only [uC] at hq ⊢
  cases hl : x6 S1 r p i off (n * sz) with
  | none => simp [hl] at hq
  | some cs => rw [hl] at hq; rw [m4 (h r (by simp [yB])) hl]; exact hq
 | _ => simp [uC] at hq
theorem zKj {so : Bool} {ks kd : Nat} {c d : CU} (h : ∀ r ∈ yB true c, zA S1 r = none ∨ zA S1 r = zA S2 r) (hq : mH so ks kd S1 c = some d) : mH so ks kd S2 c = some d := by
 have key : ∀ {e : CU}, (if kd = 3 ∧ ks = 4 then (uC S1 e).bind fun q => if q.1 = 1 then (vL q.2.2).map fun bs => C.t (T.str bs) else none else none) = some d → (∀ r ∈ yB true e, zA S1 r = none ∨ zA S1 r = zA S2 r) →
   (if kd = 3 ∧ ks = 4 then (uC S2 e).bind fun q => if q.1 = 1 then (vL q.2.2).map fun bs => C.t (T.str bs) else none else none) = some d := by
  intro e he hr
  split at he
  ·rename_i hk
   rw [if_pos hk]
   cases hl : uC S1 e with
   | none => simp [hl] at he
   | some q => rw [hl] at he; rw [zLj hr hl]; exact he
  ·cases he
 cases c with
 | t x => cases x with
  | int k n => exact hq
  | str s => exact hq
  | _ => exact key hq h
 | _ => exact key hq h
theorem zB3 {os : List Operand} (h : Agr S1 S2 os) {fo : Operand} {args : List Operand} {ts : List Nat} (hf : fo ∈ os) (ha : ∀ x ∈ args, x ∈ os) {x : XU} (hq : quietCall cx f call S1 fo args ts = some x) : quietCall cx f call S2 fo args ts = some x := by
 unfold quietCall at hq ⊢
 cases hx : opv cx f S1 0 fo with
 | none => simp [hx] at hq
 | some y =>
  rw [hx] at hq
  rw [yK h hf hx]
  cases y with
  | c c => cases c with
   | fn g caps => cases caps with
    | nil =>
     simp only at hq ⊢
     split at hq
     ·cases hq
     ·rename_i hno
      rw [if_neg hno]
      cases hs : q5 cx f S1 args ts with
      | none => simp [hs] at hq
      | some xs => rw [hs] at hq; rw [p7 (h.sub ha) hs]; exact hq
    | cons => simp at hq
   | _ => simp at hq
  | _ => simp at hq
theorem zC0 {os : List Operand} (h : Agr S1 S2 os) {o : Operand} {i : Nat} (ho : o ∈ os) {x : XU} (hq : vN cx f S1 o i = some x) : vN cx f S2 o i = some x := by
 cases o with
 | tmp d =>
  simp only [vN] at hq ⊢
  rcases h.sl d ho with e | e
  ·rw [e] at hq; simp at hq
  ·rw [← e]; exact hq
 | _ => simp [vN] at hq
theorem zKw {c : Call} (h : Agr S1 S2 c.operands.toList) {x : XU} (hq : pV cx f S1 c = some x) : pV cx f S2 c = some x := by
 have hargs : ∀ y ∈ c.args.toList, y ∈ c.operands.toList := by
  intro y hy; simp only [Call.operands, Array.toList_append, List.mem_append]; exact .inr hy
 unfold pV at hq ⊢
 split at hq
 ·next g y hcal hax =>
  try simp only [hcal, hax]
  split at hq
  ·next q n hg hn =>
   simp only [hg, lT h (hargs y (by rw [hax]; simp)) hn]
   exact hq
  ·cases hq
 ·cases hq
theorem zB2 {t : Nat} {c : Call} {x : XU} {S1' : SU} (h : Agr S1 S2 c.operands.toList) (hq : qcall cx f call S1 t c = some (x, S1')) : S1' = S1 ∧ qcall cx f call S2 t c = some (x, S2) := by
 have hargs : ∀ y ∈ c.args.toList, y ∈ c.operands.toList := by
  intro y hy; simp only [Call.operands, Array.toList_append, List.mem_append]; exact .inr hy
 unfold qcall at hq ⊢
 split at hq
 ·rename_i y t' hcal hax hts
  have hy : y ∈ c.operands.toList := hargs y (by rw [hax]; simp)
  try simp only [hcal, hax, hts]
  cases hz : opv cx f S1 t' y with
  | none => simp [hz] at hq
  | some z =>
   rw [hz] at hq
   rw [yK h hy hz]
   cases z with
   | c z =>
    simp only at hq ⊢
    split at hq
    ·rename_i hl
     rw [if_pos hl]
     cases hv : rR z with
     | none => simp [hv] at hq
     | some n =>
      simp only [hv, Option.map_some, Option.some.injEq, Prod.mk.injEq] at hq ⊢
      exact ⟨hq.2.symm, hq.1, trivial⟩
    ·cases hq
   | _ => simp at hq
 ·rename_i b y z hcal hax
  try simp only [hcal, hax]
  have hy : y ∈ c.operands.toList := hargs y (by rw [hax]; simp)
  have hz : z ∈ c.operands.toList := hargs z (by rw [hax]; simp)
  simp only [mmV] at hq ⊢
  split at hq
  ·rename_i a b' h1 h2
   rw [lT h hy h1, lT h hz h2]
   cases hm : mm b a b' with
   | none => simp [hm] at hq
   | some n =>
    simp only [hm, Option.map_some, Option.some.injEq, Prod.mk.injEq] at hq ⊢
    exact ⟨hq.2.symm, hq.1, trivial⟩
  ·cases hq
 ·rename_i fo hcal
  try simp only [hcal]
  split at hq
  ·next hg =>
   rw [if_pos hg]
   cases hz : pV cx f S1 c with
   | none => simp [hz] at hq
   | some z =>
    rw [zKw h hz]
    simp only [hz, Option.map_some, Option.some.injEq, Prod.mk.injEq] at hq ⊢
    exact ⟨hq.2.symm, hq.1, trivial⟩
  ·next hg =>
   rw [if_neg hg]
   cases hz : quietCall cx f call S1 fo c.args.toList c.argTypes.toList with
   | none => simp [hz] at hq
   | some z =>
    rw [zB3 h (by simp [Call.operands, hcal]) hargs hz]
    simp only [hz, Option.map_some, Option.some.injEq, Prod.mk.injEq] at hq ⊢
    exact ⟨hq.2.symm, hq.1, trivial⟩
 ·cases hq
end
end Go.Proofs.YtlkjnlfddadlmaaGreatDoor.V
namespace Go.Proofs.YtlkjnlfddadlmaaGreatDoor.V
section
variable {cx : Ctx} {f : Nat} {call : zX} {S1 S2 : SU}
theorem zPp {t : Nat} {op : Op} {x : XU} {S1' : SU} (h : Agr S1 S2 op.operands.toList) (hr : HR cx f S1 S2 op.operands.toList) (hq : qval cx f call S1 t op = some (x, S1')) :
  wV cx f S1 S2 op.operands.toList S1' fun S2' => qval cx f call S2 t op = some (x, S2') := by
 cases op with
 | move y =>
  simp only [qval] at hq ⊢
  have hy : y ∈ (Op.move y).operands.toList := by simp [Op.operands]
  cases hx : opv cx f S1 t y with
  | none => simp [hx] at hq
  | some z =>
   simp only [hx, Option.map_some, Option.some.injEq, Prod.mk.injEq] at hq
   obtain ⟨rfl, rfl⟩ := hq
   exact wV.clr h hy hx (by simp [yK h hy hx])
 | pick c y z =>
  simp only [qval] at hq ⊢
  have hc : c ∈ (Op.pick c y z).operands.toList := by simp [Op.operands]
  have hy : y ∈ (Op.pick c y z).operands.toList := by simp [Op.operands]
  have hz : z ∈ (Op.pick c y z).operands.toList := by simp [Op.operands]
  split at hq
  ·rename_i hb
   cases hx : opv cx f S1 t y with
   | none => simp [hx] at hq
   | some v =>
    simp only [hx, Option.map_some, Option.some.injEq, Prod.mk.injEq] at hq
    obtain ⟨rfl, rfl⟩ := hq
    exact wV.clr h hy hx (by simp [oI h hc hb, yK h hy hx])
  ·rename_i hb
   cases hx : opv cx f S1 t z with
   | none => simp [hx] at hq
   | some v =>
    simp only [hx, Option.map_some, Option.some.injEq, Prod.mk.injEq] at hq
    obtain ⟨rfl, rfl⟩ := hq
    exact wV.clr h hz hx (by simp [oI h hc hb, yK h hz hx])
  ·cases hq
 | alloc e =>
  simp only [qval] at hq ⊢
  split at hq
  ·rename_i hok
   simp only [Option.some.injEq, Prod.mk.injEq] at hq
   obtain ⟨rfl, rfl⟩ := hq
   exact wV.none (by simp [hok])
  ·cases hq
 | box e y =>
  simp only [qval] at hq ⊢
  have hy : y ∈ (Op.box e y).operands.toList := by simp [Op.operands]
  cases hx : opv cx f S1 e y with
  | none => simp [hx] at hq
  | some z =>
   simp only [hx, Option.bind_some] at hq
   cases hc : jN z with
   | none => simp [hc] at hq
   | some cs =>
    simp only [hc, Option.bind_some] at hq
    split at hq
    ·rename_i hok
     simp only [Option.some.injEq, Prod.mk.injEq] at hq
     obtain ⟨rfl, rfl⟩ := hq
     exact wV.clr h hy hx (by simp only [yK h hy hx, Option.bind_some, hc, if_pos hok])
    ·cases hq
 | build e ps =>
  simp only [qval] at hq ⊢
  split at hq
  ·rename_i hok
   cases hb : jU cx f (fun i => (cx.ty e).fs[i]?) ps.toList (cx.ty e).zs S1 with
   | none => simp [hb] at hq
   | some r =>
    simp only [hb, Option.map_some, Option.some.injEq, Prod.mk.injEq] at hq
    obtain ⟨rfl, rfl⟩ := hq
    obtain ⟨L, e1, e2, e3⟩ := mS (cx := cx) (f := f) _ h (fun p hp => by simp only [Op.operands, List.mem_map]; exact ⟨p, hp, rfl⟩) hr hb
    exact ⟨L, e1, by simp only [if_pos hok, e2, Option.map_some], e3⟩
  ·cases hq
 | buildSlice e n ps =>
  simp only [qval] at hq ⊢
  split at hq
  ·rename_i el he
   split at hq
   ·rename_i hok
    cases hb : jU cx f (fun i => if i < n then some (i * (cx.ty el).sz, el) else none) ps.toList (dA n (cx.ty el).zs) S1 with
    | none => simp [hb] at hq
    | some r =>
     simp only [hb, Option.map_some, Option.some.injEq, Prod.mk.injEq] at hq
     obtain ⟨rfl, rfl⟩ := hq
     obtain ⟨L, e1, e2, e3⟩ := mS (cx := cx) (f := f) _ h (fun p hp => by simp only [Op.operands, List.mem_map]; exact ⟨p, hp, rfl⟩) hr hb
     exact ⟨L, e1, by simp only [he, if_pos hok, e2, Option.map_some], e3⟩
   ·cases hq
  ·cases hq
 | load e y =>
  simp only [qval] at hq ⊢
  have hy : y ∈ (Op.load e y).operands.toList := by simp [Op.operands]
  split at hq
  ·rename_i _ r p off hx
   rw [yK h hy hx]
   have hroot := pK h hy hx r (by simp [xX, yB])
   simp only
   split at hq
   ·rename_i hok
    cases hl : jT S1 r p off (cx.ty e).sz with
    | none => simp [hl] at hq
    | some cs =>
     simp only [hl, Option.bind_some] at hq
     cases hm : mkX cx e cs with
     | none => simp [hm] at hq
     | some z =>
      simp only [hm, Option.map_some, Option.some.injEq, Prod.mk.injEq] at hq
      obtain ⟨rfl, rfl⟩ := hq
      exact wV.none (by simp only [if_pos hok, zBg hroot hl, Option.bind_some, hm, Option.map_some])
   ·cases hq
  ·rename_i _ cs hx
   rw [yK h hy hx]
   simp only
   split at hq
   ·rename_i hok
    cases hm : mkX cx e ((cs.take (cx.ty e).sz).map .t) with
    | none => rw [hm] at hq; cases hq
    | some z =>
     simp only [hm, Option.map_some, Option.some.injEq, Prod.mk.injEq] at hq
     obtain ⟨rfl, rfl⟩ := hq
     exact wV.none (by simp only [if_pos hok, hm, Option.map_some])
   ·cases hq
  ·cases hq
 | fieldAddr e y i =>
  simp only [qval] at hq ⊢
  have hy : y ∈ (Op.fieldAddr e y i).operands.toList := by simp [Op.operands]
  split at hq
  ·rename_i off ft z hf hx
   rw [hf, yK h hy hx]
   simp only
   split at hq
   ·rename_i hok
    cases ha : pS z off with
    | none => simp [ha] at hq
    | some u =>
     simp only [ha, Option.map_some, Option.some.injEq, Prod.mk.injEq] at hq
     obtain ⟨rfl, rfl⟩ := hq
     exact wV.none (by simp only [if_pos hok, ha, Option.map_some])
   ·cases hq
  ·cases hq
 | field e y i =>
  simp only [qval] at hq ⊢
  have hy : y ∈ (Op.field e y i).operands.toList := by simp [Op.operands]
  split at hq
  ·rename_i off ft cs hf hx
   split at hq
   ·rename_i hok
    cases hm : mkX cx ft ((cs.drop off).take (cx.ty ft).sz) with
    | none => simp [hm] at hq
    | some z =>
     simp only [hm, Option.map_some, Option.some.injEq, Prod.mk.injEq] at hq
     obtain ⟨rfl, rfl⟩ := hq
     exact wV.clr h hy hx (by simp only [hf, yK h hy hx, if_pos hok, hm, Option.map_some])
   ·cases hq
  ·cases hq
 | indexAddr e y i =>
  simp only [qval] at hq ⊢
  have hy : y ∈ (Op.indexAddr e y i).operands.toList := by simp [Op.operands]
  have hi : i ∈ (Op.indexAddr e y i).operands.toList := by simp [Op.operands]
  split at hq
  ·rename_i el _ r p j off sz n k he hx hk
   rw [he, yK h hy hx, bN h hi hk]
   simp only
   split at hq
   ·rename_i hok
    simp only [Option.some.injEq, Prod.mk.injEq] at hq
    obtain ⟨rfl, rfl⟩ := hq
    exact wV.none (by simp only [if_pos hok])
   ·cases hq
  ·rename_i el _ tag sz n cs k he hx hk
   rw [he, yK h hy hx, bN h hi hk]
   simp only
   split at hq
   ·rename_i hok
    simp only [Option.some.injEq, Prod.mk.injEq] at hq
    obtain ⟨rfl, rfl⟩ := hq
    exact wV.none (by simp only [if_pos hok])
   ·cases hq
  ·cases hq
 | index e y i =>
  simp only [qval] at hq ⊢
  have hy : y ∈ (Op.index e y i).operands.toList := by simp [Op.operands]
  have hi : i ∈ (Op.index e y i).operands.toList := by simp [Op.operands]
  split at hq
  ·rename_i s k hx hk
   rw [yK h hy hx, bN h hi hk]
   simp only
   split at hq
   ·rename_i hok
    simp only [Option.some.injEq, Prod.mk.injEq] at hq
    obtain ⟨rfl, rfl⟩ := hq
    exact wV.none (by simp only [if_pos hok])
   ·cases hq
  ·cases hq
 | binOp op xt y z yt =>
  simp only [qval] at hq ⊢
  have hy : y ∈ (Op.binOp op xt y z yt).operands.toList := by simp [Op.operands]
  have hz : z ∈ (Op.binOp op xt y z yt).operands.toList := by simp [Op.operands]
  split at hq
  ·rename_i u v hu hv
   rw [yK h hy hu, yK h hz hv]
   simp only
   cases hb : rG (jC cx xt) (wF y || wF z) op u v with
   | none => simp [hb] at hq
   | some c =>
    simp only [hb, Option.map_some, Option.some.injEq, Prod.mk.injEq] at hq
    obtain ⟨rfl, rfl⟩ := hq
    exact wV.none rfl
  ·cases hq
 | nilCheck y =>
  simp only [qval] at hq ⊢
  have hy : y ∈ (Op.nilCheck y).operands.toList := by simp [Op.operands]
  split at hq
  ·rename_i v r p off hu
   rw [yK h hy hu]
   simp only [Option.some.injEq, Prod.mk.injEq] at hq ⊢
   obtain ⟨rfl, rfl⟩ := hq
   exact wV.none ⟨rfl, rfl⟩
  ·rename_i v cs hu
   rw [yK h hy hu]
   simp only [Option.some.injEq, Prod.mk.injEq] at hq ⊢
   obtain ⟨rfl, rfl⟩ := hq
   exact wV.none ⟨rfl, rfl⟩
  ·cases hq
 | unOp op xt y =>
  simp only [qval] at hq ⊢
  have hy : y ∈ (Op.unOp op xt y).operands.toList := by simp [Op.operands]
  split at hq
  ·rename_i u hu
   rw [yK h hy hu]
   simp only
   cases hb : unV op u with
   | none => simp [hb] at hq
   | some c =>
    simp only [hb, Option.map_some, Option.some.injEq, Prod.mk.injEq] at hq
    obtain ⟨rfl, rfl⟩ := hq
    exact wV.none rfl
  ·cases hq
 | convert s d y =>
  simp only [qval] at hq ⊢
  have hy : y ∈ (Op.convert s d y).operands.toList := by simp [Op.operands]
  split at hq
  ·rename_i u hu
   rw [yK h hy hu]
   have hroot := pK h hy hu
   simp only
   cases hb : mH (cx.ty s).ok (jC cx s) (jC cx d) S1 u with
   | none => simp [hb] at hq
   | some c =>
    simp only [hb, Option.map_some, Option.some.injEq, Prod.mk.injEq] at hq
    obtain ⟨rfl, rfl⟩ := hq
    exact wV.none (by rw [zKj hroot hb]; rfl)
  ·cases hq
 | extract y i =>
  simp only [qval] at hq ⊢
  have hy : y ∈ (Op.extract y i).operands.toList := by simp [Op.operands]
  cases hx : vN cx f S1 y i with
  | none => simp [hx] at hq
  | some z =>
   simp only [hx, Option.map_some, Option.some.injEq, Prod.mk.injEq] at hq
   obtain ⟨rfl, rfl⟩ := hq
   exact wV.none (by rw [zC0 h hy hx]; rfl)
 | slice e y lo hi mx =>
  cases mx with
  | some m => simp [qval] at hq
  | none =>
   simp only [qval] at hq ⊢
   have hy : y ∈ (Op.slice e y lo hi none).operands.toList := by simp [Op.operands]
   have hlo : ∀ z, lo = some z → z ∈ (Op.slice e y lo hi none).operands.toList := by rintro z rfl; simp [Op.operands]
   have hhi : ∀ z, hi = some z → z ∈ (Op.slice e y lo hi none).operands.toList := by rintro z rfl; simp [Op.operands]
   split at hq
   ·rename_i u l k hu hl hk
    rw [yK h hy hu, o5 h hlo hl, o5 h hhi hk]
    simp only
    split at hq
    ·rename_i hok
     cases hs : vU u l k with
     | none => simp [hs] at hq
     | some c =>
      simp only [hs, Option.map_some, Option.some.injEq, Prod.mk.injEq] at hq
      obtain ⟨rfl, rfl⟩ := hq
      exact wV.none (by simp only [if_pos hok, hs, Option.map_some])
    ·cases hq
   ·cases hq
 | makeSlice e l c =>
  simp only [qval] at hq ⊢
  have hl : l ∈ (Op.makeSlice e l c).operands.toList := by simp [Op.operands]
  have hc : c ∈ (Op.makeSlice e l c).operands.toList := by simp [Op.operands]
  split at hq
  ·rename_i el n m he hn hm
   rw [he, bN h hl hn, bN h hc hm]
   simp only
   split at hq
   ·rename_i hok
    cases hz : mQ (cx.ty el).zs with
    | none => simp [hz] at hq
    | some zs =>
     simp only [hz, Option.map_some, Option.some.injEq, Prod.mk.injEq] at hq
     obtain ⟨rfl, rfl⟩ := hq
     exact wV.none (by simp only [if_pos hok, hz, Option.map_some])
   ·cases hq
  ·cases hq
 | makeFunc g first caps =>
  cases g with
  | func g =>
   simp only [qval] at hq ⊢
   split at hq
   ·rename_i hok
    cases hz : dB cx f S1 caps.toList with
    | none => simp [hz] at hq
    | some zs =>
     simp only [hz, Option.map_some, Option.some.injEq, Prod.mk.injEq] at hq
     obtain ⟨rfl, rfl⟩ := hq
     exact wV.none (by simp only [if_pos hok, eV (h.sub (fun x hx => by simp only [Op.operands, Array.toList_append, List.mem_append]; exact .inr hx)) hz, Option.map_some])
   ·cases hq
  | _ => simp [qval] at hq
 | call c =>
  simp only [qval] at hq ⊢
  obtain ⟨rfl, h2⟩ := zB2 h hq
  exact wV.none h2
 | _ => simp [qval] at hq
end
end Go.Proofs.YtlkjnlfddadlmaaGreatDoor.V
namespace Go.Proofs.YtlkjnlfddadlmaaGreatDoor.V
section
variable {cx : Ctx} {f : Nat} {call : zX} {S1 S2 : SU}
theorem zK3 {os : List Operand} (h : Agr S1 S2 os) {t : Nat} {o : Operand} {x : XU} (ho : o ∈ os) (hx : opv cx f S1 t o = some x) {r : Root} {p : List Nat} {i off m : Nat} (hr : r ∈ xX x) {cs : List TU} (hl : x6 S1 r p i off m = some cs) : x6 S2 r p i off m = some cs :=
 m4 (pK h ho hx r hr) hl
theorem zAv {os : List Operand} (h : Agr S1 S2 os) {o : Operand} (ho : o ∈ os) {t : Nat} {v : Unit} {tag sz n : Nat} {cs : List TU} (hx : opv cx f S1 t o = some (.c (.t (.sl v tag sz n cs)))) (htag : tag = 0) {q : List TU × Nat × Nat × SU} (hq : vX cx f S1 o t = some q) :
  ∃ L, q = (cs, sz, n, clear L S1) ∧ vX cx f S2 o t = some (cs, sz, n, clear L S2) ∧ ∀ t ∈ L, Operand.tmp t ∈ os ∧ zB cx f t = false ∧ yQ (S1.s t) = true := by
 subst htag
 obtain ⟨L, e1, e2, e3⟩ := eY h ho hx
 refine ⟨L, ?_, ?_, e3⟩
 ·simp only [vX, hx, Option.some.injEq, e1] at hq; exact hq.symm
 ·simp only [vX, yK h ho hx, e2]
theorem zE7 {c : Call} {s x : Operand} {t t' : Nat} (h : Agr S1 S2 c.operands.toList) (hr : HR cx f S1 S2 c.operands.toList) (hs : s ∈ c.operands.toList) (hx : x ∈ c.operands.toList)
  (hsoft : ((match opv cx f S1 t s with
    | some (.c (.t (.sl _ 0 _ _ _))) => true
    | _ => false) && (match opv cx f S1 t' x with
    | some (.c (.t _)) => true
    | some (.c (.bor _ _ _ _ _ _ _)) => match (cx.ty t).el with
     | some el => (cx.ty el).flat
     | none => false
    | _ => false)) = true) {z : XU} {S1' : SU} (hq : gS cx f S1 [t, t'] s x = some (z, S1')) :
  wV cx f S1 S2 c.operands.toList S1' fun S2' => gS cx f S2 [t, t'] s x = some (z, S2') := by
 simp only [Bool.and_eq_true] at hsoft
 obtain ⟨hs1, hs2⟩ := hsoft
 simp only [gS] at hq ⊢
 cases hel : (cx.ty t).el with
 | none => simp [hel] at hq
 | some el =>
  simp only [hel] at hq hs2 ⊢
  cases ht : wL cx f S1 x t' (cx.ty el).flat with
  | none => simp [ht] at hq
  | some q =>
   obtain ⟨ys, sz', m, Sa⟩ := q
   simp only [ht, Option.bind_some] at hq
   -- the tail
   have tail : ∃ L, Sa = clear L S1 ∧ wL cx f S2 x t' (cx.ty el).flat = some (ys, sz', m, clear L S2) ∧ ∀ t ∈ L, Operand.tmp t ∈ c.operands.toList ∧ zB cx f t = false ∧ yQ (S1.s t) = true := by
    cases hxv : opv cx f S1 t' x with
    | none => simp [hxv] at hs2
    | some xv =>
     cases xv with
     | c xc =>
      cases xc with
      | t y =>
       cases y with
       | sl v tag sz n cs =>
        cases tag with
        | zero =>
         simp only [wL, hxv] at ht
         obtain ⟨L, e1, e2, e3⟩ := zAv h hx hxv rfl ht
         simp only [Prod.mk.injEq] at e1
         obtain ⟨rfl, rfl, rfl, rfl⟩ := e1
         exact ⟨L, rfl, by simp only [wL, yK h hx hxv]; exact e2, e3⟩
        | succ g =>
         simp only [wL, hxv, Option.some.injEq, Prod.mk.injEq] at ht
         obtain ⟨rfl, rfl, rfl, rfl⟩ := ht
         exact ⟨[], (xI _).symm, by simp only [wL, yK h hx hxv, xI], by simp⟩
       | str b =>
        simp only [wL, hxv, Option.some.injEq, Prod.mk.injEq] at ht
        obtain ⟨rfl, rfl, rfl, rfl⟩ := ht
        exact ⟨[], (xI _).symm, by simp only [wL, yK h hx hxv, xI], by simp⟩
       | _ => simp [wL, hxv, vX] at ht
      | bor v r p i off sz n =>
       simp only [hxv] at hs2
       simp only [wL, hxv, hs2, if_true] at ht
       cases hl : x6 S1 r p i off (n * sz) with
       | none => simp [hl] at ht
       | some cs =>
        simp only [hl, Option.bind_some] at ht
        split at ht
        ·rename_i hfl
         simp only [Option.some.injEq, Prod.mk.injEq] at ht
         obtain ⟨rfl, rfl, rfl, rfl⟩ := ht
         exact ⟨[], (xI _).symm, by simp only [wL, yK h hx hxv, hs2, if_true, zK3 h hx hxv (by simp [xX, yB]) hl, Option.bind_some, if_pos hfl, xI], by simp⟩
        ·cases ht
      | _ => simp [hxv] at hs2
     | _ => simp [hxv] at hs2
   obtain ⟨L, rfl, e2, e3⟩ := tail
   have hag : Agr (clear L S1) (clear L S2) c.operands.toList := hr.agr h (fun t ht => (e3 t ht).2.1)
   rw [e2]
   simp only [Option.bind_some]
   cases hh : vX cx f (clear L S1) s t with
   | none => simp [hh] at hq
   | some q =>
    obtain ⟨zs, sz, n, Sb⟩ := q
    simp only [hh, Option.bind_some] at hq
    cases hsv : opv cx f S1 t s with
    | none => simp [hsv] at hs1
    | some sv =>
     rw [hsv] at hs1
     -- the head was not used up by the tail
     have hsv' : opv cx f (clear L S1) t s = some sv := by
      cases s with
      | tmp d =>
       simp only [opv, clear] at hh hsv ⊢
       by_cases hd : d ∈ L
       ·exfalso
        simp [vX, opv, clear, hd, rdS] at hh
       ·simp only [hd, if_false]; exact hsv
      | _ => exact hsv
     split at hs1
     ·rename_i heq
      simp only [Option.some.injEq] at heq
      subst heq
      obtain ⟨M, f1, f2, f3⟩ := zAv hag hs hsv' rfl hh
      simp only [Prod.mk.injEq] at f1
      obtain ⟨rfl, rfl, rfl, rfl⟩ := f1
      split at hq
      ·rename_i hok
       simp only [Option.some.injEq, Prod.mk.injEq] at hq
       obtain ⟨rfl, rfl⟩ := hq
       refine ⟨L ++ M, nZ L M S1, ?_, fun k hk => ?_⟩
       ·simp only [f2, Option.bind_some, if_pos hok, nZ]
       ·rcases List.mem_append.1 hk with hk | hk
        ·exact e3 k hk
        ·obtain ⟨g1, g2, g3⟩ := f3 k hk
         refine ⟨g1, g2, ?_⟩
         simp only [clear] at g3
         split at g3
         ·simp [yQ] at g3
         ·exact g3
      ·cases hq
     ·cases hs1
structure Eff where
 dst : Option Nat
 x : XU
 L : List Nat
def Eff.app (e : Eff) (S : SU) : SU :=
 match e.dst with
 | none => clear e.L S
 | some d => { clear e.L S with s := upd (clear e.L S).s d e.x }
theorem zG3 {L M : List Nat} {S : SU} (h : clear L S1 = clear M S1) (hL : ∀ t ∈ L, yQ (S1.s t) = true) (hM : ∀ t ∈ M, yQ (S1.s t) = true) : clear L S = clear M S := by
 have key : ∀ t, (t ∈ L) = (t ∈ M) := by
  intro t
  have ht := congrFun (congrArg St.s h) t
  simp only [clear] at ht
  apply propext
  constructor
  ·intro hl
   by_cases hm : t ∈ M
   ·exact hm
   ·rw [if_pos hl, if_neg hm] at ht
    have := hL t hl
    rw [← ht] at this
    simp [yQ] at this
  ·intro hm
   by_cases hl : t ∈ L
   ·exact hl
   ·rw [if_neg hl, if_pos hm] at ht
    have := hM t hm
    rw [ht] at this
    simp [yQ] at this
 simp only [clear, key]
theorem kP {ops : Array Oper} {o : Oper} {d : Nat} (h : Operand.tmp d ∈ o.op.operands.toList) : d ∈ o.looksAt ops := by
 simp only [Oper.looksAt, List.mem_append, List.mem_filterMap]
 exact .inl ⟨_, h, rfl⟩
theorem iQ {ops : Array Oper} {o : Oper} (h : ∀ d ∈ o.looksAt ops, S1.s d = .undef ∨ S1.s d = S2.s d) {b : Bool} (hw : y5 S1 ops o = some b) : y5 S2 ops o = some b := by
 unfold y5 at hw ⊢
 cases hg : o.guard with
 | none => rw [hg] at hw; exact hw
 | some g =>
  obtain ⟨j, want⟩ := g
  rw [hg] at hw
  simp only at hw ⊢
  cases hd : (ops[j]?).bind (·.dst) with
  | none => rw [hd] at hw; cases hw
  | some d =>
   rw [hd] at hw
   simp only at hw ⊢
   have hm : d ∈ o.looksAt ops := by
    simp only [Oper.looksAt, hg, hd, List.mem_append]
    right; simp
   rcases h d hm with e | e
   ·rw [e] at hw; simp at hw
   ·rw [← e]; exact hw
def p8 (cx : Ctx) (f : Nat) (call : zX) (S : SU) (o : Oper) : Option (XU × SU) :=
 match o.op with
 | .call c => if yX cx (.call c) then (match c.callee, c.args.toList with
   | .builtin .append, [s, x] => gS cx f S c.argTypes.toList s x
   | _, _ => none) else qcall cx f call S o.type c
 | op => qval cx f call S o.type op
theorem zCl {o : Oper} (hsoft : (!yX cx o.op || wR cx f S1 o) = true) (h : Agr S1 S2 o.op.operands.toList) (hr : HR cx f S1 S2 o.op.operands.toList) {x : XU} {S1' : SU} (hq : p8 cx f call S1 o = some (x, S1')) :
  wV cx f S1 S2 o.op.operands.toList S1' fun S2' => p8 cx f call S2 o = some (x, S2') := by
 by_cases hact : yX cx o.op = true
 ·simp only [hact, Bool.not_true, Bool.false_or] at hsoft
  cases ho : o.op with
  | call c =>
   rw [ho] at hact h hr
   simp only [p8, ho, hact, if_true] at hq ⊢
   simp only [wR, ho] at hsoft
   split at hsoft
   ·rename_i s y t t' hcal hargs hts
    simp only [hcal, hargs, hts] at hq ⊢
    exact zE7 h hr (by simp [Op.operands, Call.operands, hargs]) (by simp [Op.operands, Call.operands, hargs]) hsoft hq
   ·cases hsoft
  | _ => simp [wR, ho] at hsoft
 ·have e : ∀ S, p8 cx f call S o = qval cx f call S o.type o.op := by
   intro S
   simp only [p8]
   split
   ·rename_i c hc
    rw [hc] at hact ⊢
    rw [if_neg hact]; rfl
   ·rfl
  rw [e] at hq
  simp only [e]
  exact zPp h hr hq
theorem iM {ops : Array Oper} {o : Oper} {S : SU} (hsoft : (!yX cx o.op || wR cx f S o) = true) (hw : y5 S ops o = some true) : stepOp cx f call S ops o = (p8 cx f call S o).bind fun r => wJ cx f r.2 o.dst r.1 := by
 by_cases hact : yX cx o.op = true
 ·simp only [hact, Bool.not_true, Bool.false_or] at hsoft
  cases ho : o.op with
  | call c =>
   rw [ho] at hact
   simp only [wR, ho] at hsoft
   split at hsoft
   ·rename_i s y t t' hcal hargs hts
    simp only [stepOp, hw, ho, p8, hact, if_true, hcal, hargs]
   ·cases hsoft
  | _ => simp [wR, ho] at hsoft
 ·cases ho : o.op with
  | call c => rw [ho] at hact; simp only [stepOp, hw, ho, p8, hact]; rfl
  | assign x => simp [ho, yX] at hact
  | store t x y => simp [ho, yX] at hact
  | _ => simp only [stepOp, hw, ho, p8]
theorem zIy {o : Oper} {x : XU} {L : List Nat} {S S' : SU} (hL : ∀ t ∈ L, zB cx f t = false) (h : wJ cx f (clear L S) o.dst x = some S') : S' = (⟨o.dst, x, L⟩ : Eff).app S ∧ ∀ d, o.dst = some d → zB cx f d = true → S.s d = .undef := by
 cases hd : o.dst with
 | none => rw [hd] at h; simp only [wJ, Option.some.injEq] at h; exact ⟨h.symm, fun d h => by cases h⟩
 | some d =>
  rw [hd] at h
  simp only [wJ] at h
  split at h
  ·cases h
  ·rename_i hc
   simp only [Option.some.injEq] at h
   refine ⟨h.symm, fun d' hd' hv => ?_⟩
   simp only [Option.some.injEq] at hd'
   subst hd'
   rw [hv] at hc
   have hn : d ∉ L := fun hd => by have := hL d hd; rw [hv] at this; cases this
   simp only [clear, hn, if_false, Bool.true_and, Bool.not_eq_true', Bool.not_eq_false] at hc
   cases hs : S.s d <;> simp [hs, uQ] at hc
   rfl
theorem zGz {o : Oper} {x : XU} {L : List Nat} {S : SU} (hL : ∀ t ∈ L, zB cx f t = false) (h : ∀ d, o.dst = some d → zB cx f d = true → S.s d = .undef) : wJ cx f (clear L S) o.dst x = some ((⟨o.dst, x, L⟩ : Eff).app S) := by
 cases hd : o.dst with
 | none => rfl
 | some d =>
  simp only [wJ]
  rw [if_neg]
  ·rfl
  ·intro hc
   simp only [Bool.and_eq_true, Bool.not_eq_true'] at hc
   have hn : d ∉ L := fun hd => by have := hL d hd; rw [hc.1] at this; cases this
   have := h d hd hc.1
   simp [clear, hn, this, uQ] at hc
theorem zGf {o : Oper} (h : Agr S1 S2 o.op.operands.toList) (hs : wR cx f S1 o = true) : wR cx f S2 o = true := by
 unfold wR at hs ⊢
 cases ho : o.op with
 | call c =>
  rw [ho] at hs h
  simp only at hs ⊢
  split at hs
  ·rename_i s x t t' hcal hargs hts
   have hsm : s ∈ (Op.call c).operands.toList := by simp [Op.operands, Call.operands, hargs]
   have hxm : x ∈ (Op.call c).operands.toList := by simp [Op.operands, Call.operands, hargs]
   try simp only [hcal, hargs, hts]
   cases h1 : opv cx f S1 t s with
   | none => simp [h1] at hs
   | some v =>
    cases h2 : opv cx f S1 t' x with
    | none => simp [h2] at hs
    | some u => rw [h1, h2] at hs; rw [yK h hsm h1, yK h hxm h2]; exact hs
  ·cases hs
 | _ => rw [ho] at hs; cases hs
theorem zJr {ops : Array Oper} {o : Oper} {S1' : SU} (hsoft : vI cx f ops S1 o = true) (hq : stepOp cx f call S1 ops o = some S1') :
  ∃ e : Eff, e.dst = o.dst ∧ S1' = e.app S1 ∧ (∀ t ∈ e.L, Operand.tmp t ∈ o.op.operands.toList ∧ zB cx f t = false ∧ yQ (S1.s t) = true) ∧ (∀ d, o.dst = some d → zB cx f d = true → S1.s d = .undef) ∧
   ∀ S2, (∀ d ∈ o.looksAt ops, S1.s d = .undef ∨ S1.s d = S2.s d) → Agr S1 S2 o.op.operands.toList → HR cx f S1 S2 o.op.operands.toList → (∀ d, o.dst = some d → zB cx f d = true → S2.s d = .undef) →
    stepOp cx f call S2 ops o = some (e.app S2) ∧ vI cx f ops S2 o = true := by
 cases hw : y5 S1 ops o with
 | none => simp [stepOp, hw] at hq
 | some b =>
  cases b with
  | false =>
   simp only [stepOp, hw] at hq
   have hq' : wJ cx f (clear [] S1) o.dst (.tup []) = some S1' := by rw [xI]; exact hq
   obtain ⟨h1, h2⟩ := zIy (L := []) (by simp) hq'
   refine ⟨⟨o.dst, .tup [], []⟩, rfl, h1, by simp, h2, fun S2 hl _ _ hd => ?_⟩
   simp only [stepOp, vI, iQ hl hw]
   have := zGz (cx := cx) (f := f) (x := .tup []) (L := []) (by simp) hd
   rw [xI] at this
   exact ⟨this, by simp⟩
  | true =>
   have hsoft' : (!yX cx o.op || wR cx f S1 o) = true := by simpa [vI, hw] using hsoft
   rw [iM hsoft' hw] at hq
   cases hv : p8 cx f call S1 o with
   | none => simp [hv] at hq
   | some r =>
    obtain ⟨x, Sx⟩ := r
    simp only [hv, Option.bind_some] at hq
    obtain ⟨L, rfl, _, hL⟩ := zCl hsoft' (S2 := S1) Agr.refl (.inl rfl) hv
    obtain ⟨h1, h2⟩ := zIy (fun t ht => (hL t ht).2.1) hq
    refine ⟨⟨o.dst, x, L⟩, rfl, h1, hL, h2, fun S2 hl hag hr hd => ?_⟩
    have hs2 : (!yX cx o.op || wR cx f S2 o) = true := by
     simp only [Bool.or_eq_true] at hsoft' ⊢
     exact hsoft'.imp id (zGf hag)
    refine ⟨?_, by simp only [vI, Bool.or_eq_true] at hs2 ⊢; exact hs2.imp .inl id⟩
    rw [iM hs2 (iQ hl hw)]
    obtain ⟨M, m1, m2, hM⟩ := zCl hsoft' hag hr hv
    rw [m2]
    simp only [Option.bind_some]
    rw [← zG3 m1 (fun t ht => (hL t ht).2.2) (fun t ht => (hM t ht).2.2)]
    exact zGz (fun t ht => (hL t ht).2.1) hd
end
end Go.Proofs.YtlkjnlfddadlmaaGreatDoor.V
namespace Go.Proofs.YtlkjnlfddadlmaaGreatDoor.V
section
variable {cx : Ctx} {f : Nat} {call : zX}
theorem bI (e : Eff) (S : SU) (t : Nat) : (e.app S).s t = if e.dst = some t then e.x else if t ∈ e.L then .undef else S.s t := by
 unfold Eff.app
 cases hd : e.dst with
 | none => simp [clear]
 | some d =>
  simp only [upd, clear, Option.some.injEq]
  by_cases h : t = d
  ·subst h; simp
  ·simp [h, Ne.symm h]
theorem zMi (e : Eff) (S : SU) : (e.app S).e = S.e := by
 unfold Eff.app
 cases e.dst <;> rfl
theorem St.ext' {S T : SU} (h1 : ∀ t, S.s t = T.s t) (h2 : S.e = T.e) : S = T := by
 cases S; cases T
 simp only at h1 h2
 subst h2
 congr 1
 funext t; exact h1 t
theorem zQn {a b : Eff} {S : SU} (h1 : ∀ d, a.dst = some d → b.dst ≠ some d) (h2 : ∀ d, a.dst = some d → d ∉ b.L) (h3 : ∀ d, b.dst = some d → d ∉ a.L) : a.app (b.app S) = b.app (a.app S) := by
 refine St.ext' (fun t => ?_) (by simp only [zMi])
 simp only [bI]
 by_cases ha : a.dst = some t
 ·have hb := h1 t ha
  have hl := h2 t ha
  simp [ha, hb, hl]
 ·by_cases hb : b.dst = some t
  ·have hl := h3 t hb
   simp [ha, hb, hl]
  ·by_cases hla : t ∈ a.L <;> by_cases hlb : t ∈ b.L <;> simp [ha, hb, hla, hlb]
def yP (eff : Nat → Eff) (L : Nat → Bool) (b : Nat) : Nat → SU → SU
 | 0, S => S
 | m + 1, S => if L (b + m) then (eff (b + m)).app (yP eff L b m S) else yP eff L b m S
theorem f0 (eff : Nat → Eff) (L : Nat → Bool) (b : Nat) (S : SU) : ∀ m, (yP eff L b m S).e = S.e
 | 0 => rfl
 | m + 1 => by
  simp only [yP]
  split
  ·rw [zMi]; exact f0 eff L b S m
  ·exact f0 eff L b S m
theorem qP {eff : Nat → Eff} {L L' : Nat → Bool} {b : Nat} {S : SU} : ∀ {m}, (∀ k, b ≤ k → k < b + m → L k = L' k) → yP eff L b m S = yP eff L' b m S
 | 0, _ => rfl
 | m + 1, h => by
  have ih := qP (eff := eff) (S := S) (m := m) (fun k h1 h2 => h k h1 (by omega))
  simp only [yP, h (b + m) (by omega) (by omega), ih]
def ons (o : Oper) : List Nat := (o.after.toList.filter (Region.binds .any ·)).map (·.on)
def m6 (T : List Nat) : List Nat → Nat
 | [] => 0
 | j :: js => 2 ^ j ||| T.getD j 0 ||| m6 T js
theorem oY {T : List Nat} {i : Nat} : ∀ {D : List Nat}, (m6 T D).testBit i = true → ∃ j ∈ D, i = j ∨ (T.getD j 0).testBit i = true
 | [], h => by simp [m6] at h
 | j :: js, h => by
  simp only [m6, Nat.testBit_or, Bool.or_eq_true] at h
  rcases h with (h | h) | h
  ·rw [Nat.testBit_two_pow] at h
   exact ⟨j, List.mem_cons_self, .inl (by simpa using Eq.symm (of_decide_eq_true h))⟩
  ·exact ⟨j, List.mem_cons_self, .inr h⟩
  ·obtain ⟨k, hk, h'⟩ := oY h
   exact ⟨k, List.mem_cons_of_mem _ hk, h'⟩
def befT : List Oper → List Nat → List Nat
 | [], acc => acc
 | o :: os, acc => befT os (acc ++ [m6 acc (ons o)])
def zL3 (o : Oper) : List Nat := o.op.operands.toList.filterMap fun | .tmp t => some t | _ => none
theorem zK5 {o : Oper} {t : Nat} : t ∈ zL3 o ↔ Operand.tmp t ∈ o.op.operands.toList := by
 simp only [zL3, List.mem_filterMap]
 constructor
 ·rintro ⟨x, hx, h⟩
  split at h
  ·simp only [Option.some.injEq] at h; subst h; exact hx
  ·cases h
 ·intro h; exact ⟨_, h, rfl⟩
def zF1 (cx : Ctx) (f id : Nat) (ops : Array Oper) (T : List Nat) (k : Nat) (ok : Oper) (i : Nat) : Bool :=
 match ops[i]? with
 | none => true
 | some oi => (oi.dst.isNone || oi.dst != ok.dst || cx.ord f id i || cx.ord f id k) && ((T.getD k 0).testBit i ||
   (!cx.ord f id k && !cx.ord f id i && oi.apart ops ok && (oi.looksAt ops).all fun t => !(zL3 ok).contains t || (cx.shr f id k).contains t) ||
   (cx.ord f id k && !cx.ord f id i && oi.apart ops ok && ((cx.pnd f id k).contains i || (cx.pal f id k).contains i)))
def rN : Op → Bool
 | .assign _ => true
 | .store _ _ _ => true
 | .call _ => true
 | _ => false
def isZ : CU → Bool
 | .t (.int _ _) => true
 | .t (.bool _) => true
 | .t (.str _) => true
 | .t (.sl _ 0 _ _ _) => true
 | .t .nili => true
 | .nilp => true
 | .nilf => true
 | _ => false
def zBw (cx : Ctx) (f id : Nat) (ops : Array Oper) (y : Nat) : Bool :=
 match ops[y]? with
 | some o => match o.guard, o.dst, o.op with
  | none, some d, .alloc e => zB cx f d && !cx.ord f id y && (cx.ty e).ok && (cx.ty e).zs.all isZ && (cx.shr f id y).isEmpty
  | _, _, _ => false
 | none => false
def eC (cx : Ctx) (op : Op) : Bool :=
 yX cx op && match op with
 | .call c => match c.callee with
  | .value _ => true
  | _ => false
 | _ => false
def zKn (cx : Ctx) (f id : Nat) (ops : Array Oper) (T : List Nat) : Bool :=
 (List.range ops.size).all fun k => match ops[k]? with
  | none => true
  | some o => ((!cx.ord f id k || (cx.pnd f id k).isEmpty || rN o.op) && (!cx.ord f id k || (cx.pal f id k).isEmpty || ((cx.pnd f id k).isEmpty && eC cx o.op && (cx.pal f id k).all (zBw cx f id ops)))) && (ons o).all (fun j => decide (j < k)) && T.getD k 0 == m6 T (ons o) && (List.range k).all (zF1 cx f id ops T k o)
structure DrawOk (cx : Ctx) (f id : Nat) (ops : Array Oper) (T : List Nat) : Prop where
 on : ∀ k o, ops[k]? = some o → ∀ e ∈ o.after, Region.binds .any e = true → e.on < k
 bef : ∀ k o, ops[k]? = some o → ∀ i, (T.getD k 0).testBit i = true → ∃ e ∈ o.after, Region.binds .any e = true ∧ (i = e.on ∨ (T.getD e.on 0).testBit i = true)
 dst : ∀ i k oi ok d, i ≠ k → ops[i]? = some oi → ops[k]? = some ok → oi.dst = some d → ok.dst = some d → cx.ord f id i = true ∨ cx.ord f id k = true
 ord : ∀ i k oi ok, i < k → ops[i]? = some oi → ops[k]? = some ok → cx.ord f id i = true ∨ cx.ord f id k = true → (T.getD k 0).testBit i = true ∨ (cx.ord f id k = true ∧ cx.ord f id i = false ∧ (i ∈ cx.pnd f id k ∨ i ∈ cx.pal f id k))
 apart : ∀ i k oi ok, i < k → ops[i]? = some oi → ops[k]? = some ok → (T.getD k 0).testBit i = false → oi.apart ops ok = true
 shr : ∀ i k oi ok, i < k → ops[i]? = some oi → ops[k]? = some ok → (T.getD k 0).testBit i = false → cx.ord f id k = false → ∀ t ∈ oi.looksAt ops, Operand.tmp t ∈ ok.op.operands.toList → t ∈ cx.shr f id k
 act : ∀ k o, ops[k]? = some o → cx.ord f id k = true → cx.pnd f id k ≠ [] → rN o.op = true
 pal : ∀ k o, ops[k]? = some o → cx.ord f id k = true → cx.pal f id k ≠ [] → cx.pnd f id k = [] ∧ eC cx o.op = true ∧ ∀ y ∈ cx.pal f id k, zBw cx f id ops y = true
theorem zHh {id : Nat} {ops : Array Oper} {T : List Nat} (h : zKn cx f id ops T = true) : DrawOk cx f id ops T := by
 simp only [zKn, List.all_eq_true, List.mem_range] at h
 have hk0 : ∀ k o, ops[k]? = some o → ((cx.ord f id k = true → cx.pnd f id k ≠ [] → rN o.op = true) ∧ (cx.ord f id k = true → cx.pal f id k ≠ [] → cx.pnd f id k = [] ∧ eC cx o.op = true ∧ ∀ y ∈ cx.pal f id k, zBw cx f id ops y = true)) ∧ (∀ j ∈ ons o, j < k) ∧ T.getD k 0 = m6 T (ons o) ∧ ∀ i, i < k → zF1 cx f id ops T k o i = true := by
  intro k o ho
  have := h k (Array.getElem?_eq_some_iff.1 ho).1
  rw [ho] at this
  simp only [Bool.and_eq_true, List.all_eq_true, decide_eq_true_eq, beq_iff_eq, List.mem_range, Bool.or_eq_true, Bool.not_eq_true', List.isEmpty_iff] at this
  refine ⟨⟨fun h1 h2 => ?_, fun h1 h2 => ?_⟩, this.1.1.2, this.1.2, this.2⟩
  ·rcases this.1.1.1.1 with (h3 | h3) | h3
   ·rw [h1] at h3; cases h3
   ·exact absurd h3 h2
   ·exact h3
  ·rcases this.1.1.1.2 with (h3 | h3) | h3
   ·rw [h1] at h3; cases h3
   ·exact absurd h3 h2
   ·exact ⟨h3.1.1, h3.1.2, h3.2⟩
 have hk : ∀ k o, ops[k]? = some o → (∀ j ∈ ons o, j < k) ∧ T.getD k 0 = m6 T (ons o) ∧ ∀ i, i < k → zF1 cx f id ops T k o i = true := fun k o ho => (hk0 k o ho).2
 have hons : ∀ (o : Oper) j, j ∈ ons o ↔ ∃ e ∈ o.after, Region.binds .any e = true ∧ j = e.on := by
  intro o j
  simp only [ons, List.mem_map, List.mem_filter, Array.mem_toList_iff]
  constructor
  ·rintro ⟨e, ⟨h1, h2⟩, rfl⟩; exact ⟨e, h1, h2, rfl⟩
  ·rintro ⟨e, h1, h2, rfl⟩; exact ⟨e, ⟨h1, h2⟩, rfl⟩
 have hp : ∀ i k oi ok, i < k → ops[i]? = some oi → ops[k]? = some ok → (oi.dst = none ∨ oi.dst ≠ ok.dst ∨ cx.ord f id i = true ∨ cx.ord f id k = true) ∧ ((T.getD k 0).testBit i = true ∨
   (cx.ord f id k = false ∧ cx.ord f id i = false ∧ oi.apart ops ok = true ∧ ∀ t ∈ oi.looksAt ops, Operand.tmp t ∈ ok.op.operands.toList → t ∈ cx.shr f id k) ∨
   (cx.ord f id k = true ∧ cx.ord f id i = false ∧ oi.apart ops ok = true ∧ (i ∈ cx.pnd f id k ∨ i ∈ cx.pal f id k))) := by
  intro i k oi ok hik hi hk'
  have := (hk k ok hk').2.2 i hik
  simp only [zF1, hi, Bool.and_eq_true, Bool.or_eq_true, Option.isNone_iff_eq_none, bne_iff_ne, ne_eq, Bool.not_eq_true', List.all_eq_true, List.contains_iff_mem] at this
  refine ⟨by rcases this.1 with ((h | h) | h) | h <;> simp [h], ?_⟩
  rcases this.2 with (h | h) | h
  ·exact .inl h
  ·refine .inr (.inl ⟨h.1.1.1, h.1.1.2, h.1.2, fun t ht hto => ?_⟩)
   rcases h.2 t ht with h' | h'
   ·have := zK5.2 hto
    simp [this] at h'
   ·exact h'
  ·exact .inr (.inr ⟨h.1.1.1, h.1.1.2, h.1.2, h.2⟩)
 constructor
 ·intro k o ho e he hb
  exact (hk k o ho).1 _ ((hons o _).2 ⟨e, he, hb, rfl⟩)
 ·intro k o ho i hi
  rw [(hk k o ho).2.1] at hi
  obtain ⟨j, hj, h'⟩ := oY hi
  obtain ⟨e, he, hb, rfl⟩ := (hons o j).1 hj
  exact ⟨e, he, hb, h'⟩
 ·intro i k oi ok d hne hi hk' hdi hdk
  rcases Nat.lt_or_gt_of_ne hne with hlt | hlt
  ·rcases (hp i k oi ok hlt hi hk').1 with h' | h' | h' | h'
   ·rw [hdi] at h'; cases h'
   ·rw [hdi, hdk] at h'; exact absurd rfl h'
   ·exact .inl h'
   ·exact .inr h'
  ·rcases (hp k i ok oi hlt hk' hi).1 with h' | h' | h' | h'
   ·rw [hdk] at h'; cases h'
   ·rw [hdi, hdk] at h'; exact absurd rfl h'
   ·exact .inr h'
   ·exact .inl h'
 ·intro i k oi ok hik hi hk' ho
  rcases (hp i k oi ok hik hi hk').2 with h' | h' | h'
  ·exact .inl h'
  ·rcases ho with ho | ho
   ·rw [h'.2.1] at ho; cases ho
   ·rw [h'.1] at ho; cases ho
  ·exact .inr ⟨h'.1, h'.2.1, h'.2.2.2⟩
 ·intro i k oi ok hik hi hk' hb
  rcases (hp i k oi ok hik hi hk').2 with h' | h' | h'
  ·rw [hb] at h'; cases h'
  ·exact h'.2.2.1
  ·exact h'.2.2.1
 ·intro i k oi ok hik hi hk' hb hno
  rcases (hp i k oi ok hik hi hk').2 with h' | h' | h'
  ·rw [hb] at h'; cases h'
  ·exact h'.2.2.2
  ·rw [h'.1] at hno; cases hno
 ·exact fun k o ho => (hk0 k o ho).1.1
 ·exact fun k o ho => (hk0 k o ho).1.2
def mL (ops : Array Oper) (L : Nat → Bool) : Prop := ∀ k o, L k = true → ops[k]? = some o → ∀ e ∈ o.after, Region.binds .any e = true → L e.on = true
theorem DrawOk.closed {id : Nat} {ops : Array Oper} {T : List Nat} (h : DrawOk cx f id ops T) {L : Nat → Bool} (hc : mL ops L) : ∀ (n k : Nat) (o : Oper), k < n → ops[k]? = some o → (∀ e ∈ o.after, Region.binds .any e = true → L e.on = true) → ∀ i, (T.getD k 0).testBit i = true → L i = true ∧ i < k
 | 0, k, o, hk, _, _, _, _ => by omega
 | n + 1, k, o, hk, ho, hr, i, hi => by
  obtain ⟨e, he, hb, h'⟩ := h.bef k o ho i hi
  have hlt := h.on k o ho e he hb
  rcases h' with rfl | h'
  ·exact ⟨hr e he hb, hlt⟩
  ·have hlt2 : k < ops.size := (Array.getElem?_eq_some_iff.1 ho).1
   have hoe : ops[e.on]? = some (ops[e.on]'(by omega)) := Array.getElem?_eq_getElem (by omega)
   have := DrawOk.closed h hc n e.on _ (by omega) hoe (fun e' he' hb' => hc e.on _ (hr e he hb) hoe e' he' hb') i h'
   exact ⟨this.1, by omega⟩
end
end Go.Proofs.YtlkjnlfddadlmaaGreatDoor.V
