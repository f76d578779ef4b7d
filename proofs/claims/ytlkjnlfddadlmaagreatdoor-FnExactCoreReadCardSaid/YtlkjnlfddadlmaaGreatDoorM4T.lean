/-
  Calls that are handed places, first part: cells as the callee sees them. No conditions.
-/
import Derived.Test.YtlkjnlfddadlmaaGreatDoorM4
set_option linter.unusedVariables false
set_option linter.unusedSimpArgs false
namespace Go.Proofs.YtlkjnlfddadlmaaGreatDoor.V
open Go.RowKit
section
variable {isv : Nat → Bool} {w0 : World} {E0 : Nat → Prop} {P : Nat → Nat → Prop} {R R' : Nat → Prop} {ea : List EA} {w w' : World} {S : SV} {tmps : Array Value}
theorem bZ {α : Type} : ∀ xs : List (T α), (ups xs).length = xs.length
 | [] => rfl
 | x :: xs => by simp only [ups, List.length_cons, bZ xs]
mutual
theorem zGm : ∀ x : TV, zV (up x) = zV x
 | .sl a tag sz n cs => rfl
 | .int _ _ => rfl
 | .bool _ => rfl
 | .str _ => rfl
 | .dead _ => rfl
 | .nili => rfl
 | .ifc _ => rfl
theorem zGn : ∀ xs : List TV, (ups xs).map zV = xs.map zV
 | [] => rfl
 | x :: xs => by simp only [ups, List.map_cons, zGm x, zGn xs]
end
mutual
theorem zCs : ∀ x : TV, zU (up x) = zU x
 | .sl a tag sz n cs => by
  by_cases ht : tag = 0
  ·simp only [up, zU, ht, if_true, zOm cs]
  ·simp only [up, zU, ht, if_false, Nat.succ_ne_zero]
 | .int _ _ => rfl
 | .bool _ => rfl
 | .str _ => rfl
 | .dead _ => rfl
 | .nili => rfl
 | .ifc _ => rfl
theorem zOm : ∀ xs : List TV, zZ (ups xs) = zZ xs
 | [] => rfl
 | x :: xs => by simp only [ups, zZ, zCs x, zOm xs]
end
mutual
theorem up_sh : ∀ {g : Nat} {x : TV}, 1 ≤ g → shT g x → shT (g + 1) (up x)
 | g, .sl a tag sz n cs, hg, h => by
  simp only [shT] at h
  have ht : ¬ tag = 0 := by omega
  simp only [up, if_neg ht, shT]
  exact ⟨by omega, by omega, zL8 hg h.2.2⟩
 | _, .int _ _, _, _ => by simp [up, shT]
 | _, .bool _, _, _ => by simp [up, shT]
 | _, .str _, _, _ => by simp [up, shT]
 | _, .dead _, _, _ => by simp [up, shT]
 | _, .nili, _, _ => by simp [up, shT]
 | _, .ifc _, _, _ => by simp [up, shT]
theorem zL8 : ∀ {g : Nat} {xs : List TV}, 1 ≤ g → qZ g xs → qZ (g + 1) (ups xs)
 | _, [], _, _ => by simp [ups, qZ]
 | g, x :: xs, hg, h => by
  simp only [qZ] at h
  simp only [ups, qZ]
  exact ⟨up_sh hg h.1, zL8 hg h.2⟩
end
mutual
theorem zOl : ∀ {x : TV}, okT w P R x → okT w (yR R' P) R' (up x)
 | .sl a tag sz n cs, h => by
  simp only [okT] at h
  obtain ⟨h1, h2, h3⟩ := h
  by_cases ht : tag = 0
  ·subst ht
   simp only [if_true] at h3
   simp only [up, okT, if_true]
   exact ⟨by rw [bZ]; exact h1, zL7 h2, by rw [zGn]; exact h3⟩
  ·rw [if_neg ht] at h3
   simp only [up, if_neg ht, okT, Nat.succ_ne_zero, if_false]
   refine ⟨by rw [bZ]; exact h1, zL7 h2, ?_, by omega, zL8 h3.2.1 h3.2.2⟩
   rw [zGn]
   obtain ⟨t, rfl⟩ : ∃ t, tag = t + 1 := ⟨tag - 1, by omega⟩
   exact h3.1
 | .dead a, h => by simpa only [up, okT] using h
 | .ifc a, h => by simpa only [up, okT] using h
 | .int _ _, _ => by simp [up, okT]
 | .bool _, _ => by simp [up, okT]
 | .str _, _ => by simp [up, okT]
 | .nili, _ => by simp [up, okT]
theorem zL7 : ∀ {xs : List TV}, xP w P R xs → xP w (yR R' P) R' (ups xs)
 | [], _ => by simp [ups, xP]
 | x :: xs, h => by
  simp only [xP] at h
  simp only [ups, xP]
  exact ⟨zOl h.1, zL7 h.2⟩
end
theorem kR : ∀ {L : List Root} {r : Root} {k j : Nat}, yZ L r k = some j → k ≤ j ∧ L[j - k]? = some r
 | [], r, k, j, h => by simp [yZ] at h
 | q :: L, r, k, j, h => by
  simp only [yZ] at h
  split at h
  ·next e =>
   simp only [Option.some.injEq] at h
   subst h e
   exact ⟨Nat.le_refl _, by simp⟩
  ·obtain ⟨h1, h2⟩ := kR h
   refine ⟨by omega, ?_⟩
   obtain ⟨m, rfl⟩ : ∃ m, j = k + 1 + m := ⟨j - (k + 1), by omega⟩
   rw [show k + 1 + m - (k + 1) = m by omega] at h2
   rw [show k + 1 + m - k = m + 1 by omega]
   simpa using h2
theorem eB {α : Type} (L : List Root) (k : Nat) : ∀ cs : List (C α), wE L k cs = cs.map (inC L k)
 | [] => rfl
 | c :: cs => by simp only [wE, List.map_cons, eB L k cs]
mutual
theorem zNe (L : List Root) (k : Nat) : ∀ c : CV, zJ (inC L k c) = zJ c
 | .t x => by simp only [inC, zJ, zGm]
 | .ptr a r p off => by simp only [inC]; split <;> simp only [zJ, zV]
 | .bor a r p i off sz n => by simp only [inC]; split <;> simp only [zJ, zV]
 | .fn g caps => by simp only [inC, zJ, tA L k caps]
 | .rptr a cs => by simp only [inC, zJ]
 | .nilp => rfl
 | .nilf => rfl
 | .lst a sz n cs => rfl
theorem tA (L : List Root) (k : Nat) : ∀ cs : List CV, yC (wE L k cs) = yC cs
 | [] => rfl
 | c :: cs => by simp only [wE, yC, zNe L k c, tA L k cs]
end
mutual
theorem zNc (L : List Root) (k : Nat) : ∀ c : CV, (zP (inC L k c)).Sublist (zP c)
 | .t x => by simp only [inC, zP, zCs]; exact List.Sublist.refl _
 | .ptr a r p off => by simp only [inC]; split <;> simp [zP, zU]
 | .bor a r p i off sz n => by simp only [inC]; split <;> simp [zP, zU]
 | .fn g caps => by simp [inC, zP]
 | .rptr a cs => by simp [inC, zP]
 | .nilp => by simp [inC, zP]
 | .nilf => by simp [inC, zP]
 | .lst a sz n cs => by simp [inC, zP, zU]
theorem zAy (L : List Root) (k : Nat) : ∀ cs : List CV, (zH (wE L k cs)).Sublist (zH cs)
 | [] => by simp [wE, zH]
 | c :: cs => by
  simp only [wE, zH]
  exact (zNc L k c).append (zAy L k cs)
end
mutual
theorem zHx (L : List Root) (k : Nat) : ∀ c : CV, ∀ r ∈ zF (inC L k c), ∃ j, r = .ex j ∧ k ≤ j ∧ j < k + L.length
 | .t x, r, h => by simp [inC, zF] at h
 | .ptr a r' p off, r, h => by
  simp only [inC] at h
  split at h
  ·next j hj =>
   simp only [zF, List.mem_singleton] at h
   obtain ⟨h1, h2⟩ := kR hj
   have := (List.getElem?_eq_some_iff.1 h2).1
   exact ⟨j, h, h1, by omega⟩
  ·simp [zF] at h
 | .bor a r' p i off sz n, r, h => by
  simp only [inC] at h
  split at h
  ·next j hj =>
   simp only [zF, List.mem_singleton] at h
   obtain ⟨h1, h2⟩ := kR hj
   have := (List.getElem?_eq_some_iff.1 h2).1
   exact ⟨j, h, h1, by omega⟩
  ·simp [zF] at h
 | .fn g caps, r, h => by simp only [inC, zF] at h; exact aW L k caps r h
 | .rptr a cs, r, h => by simp [inC, zF] at h
 | .nilp, r, h => by simp [inC, zF] at h
 | .nilf, r, h => by simp [inC, zF] at h
 | .lst a sz n cs, r, h => by simp [inC, zF] at h
theorem aW (L : List Root) (k : Nat) : ∀ cs : List CV, ∀ r ∈ zK (wE L k cs), ∃ j, r = .ex j ∧ k ≤ j ∧ j < k + L.length
 | [], r, h => by simp [wE, zK] at h
 | c :: cs, r, h => by
  simp only [wE, zK, List.mem_append] at h
  exact h.elim (zHx L k c r) (aW L k cs r)
end
theorem zL6 {α : Type} : ∀ xs : List (T α), ups xs = xs.map up
 | [] => rfl
 | x :: xs => by simp only [ups, List.map_cons, zL6 xs]
theorem zOj : ∀ {p : List Nat} {cs : List TV}, sub (ups cs) p = (sub cs p).map ups
 | [], cs => rfl
 | i :: p, cs => by
  simp only [sub]
  rw [zL6, List.getElem?_map]
  cases cs[i]? with
  | none => rfl
  | some x =>
   simp only [Option.map_some]
   cases x with
   | sl a tag sz n ds =>
    cases tag with
    | zero => simp only [up, if_true]; exact zOj
    | succ g => simp only [up, Nat.succ_ne_zero, if_false]; rfl
   | _ => rfl
theorem zVe (L : List Root) (k : Nat) (cs : List CV) (p : List Nat) : y9 (wE L k cs) p = (y9 cs p).map (wE L k) := by
 cases p with
 | nil => rfl
 | cons i p =>
  simp only [y9]
  rw [eB, List.getElem?_map]
  cases cs[i]? with
  | none => rfl
  | some c =>
   simp only [Option.map_some]
   cases c with
   | t x =>
    simp only [inC]
    cases x with
    | sl a tag sz n ds =>
     cases tag with
     | zero =>
      simp only [up, if_true, zOj]
      cases sub ds p with
      | none => rfl
      | some es =>
       simp only [Option.map_some]
       congr 1
       rw [eB, zL6]
       simp only [List.map_map]
       congr 1
     | succ g => simp only [up, Nat.succ_ne_zero, if_false]; rfl
    | _ => rfl
   | ptr a r q off => simp only [inC]; split <;> (next h => (split at h <;> simp_all)) <;> rfl
   | bor a r q j off sz n => simp only [inC]; split <;> (next h => (split at h <;> simp_all)) <;> rfl
   | _ => rfl
def wU (L : List Root) (k : Nat) (S S' : SV) (ea ea' : List EA) : Prop :=
 ∀ r j, yZ L r k = some j → S'.e[j]? = (zA S r).map (wE L k) ∧ rootAd S' ea' (.ex j) = rootAd S ea r
section
variable {L : List Root} {k : Nat} {S' : SV} {ea' : List EA}
theorem wU.at (H : wU L k S S' ea ea') {r : Root} {j : Nat} (hj : yZ L r k = some j) (p : List Nat) (i : Nat) : at_ S' (.ex j) p i = (at_ S r p i).map (inC L k) := by
 have e : zA S' (.ex j) = (zA S r).map (wE L k) := (H r j hj).1
 simp only [at_, e]
 cases zA S r with
 | none => rfl
 | some cs =>
  simp only [Option.map_some, Option.bind_some, zVe]
  cases y9 cs p with
  | none => rfl
  | some ds =>
   simp only [Option.map_some, Option.bind_some]
   rw [eB, List.getElem?_map]
theorem wU.hdr (H : wU L k S S' ea ea') {r : Root} {j : Nat} (hj : yZ L r k = some j) (p : List Nat) (i : Nat) {v : Value} (h : k8 S r p i = some v) : k8 S' (.ex j) p i = some v := by
 simp only [k8] at h ⊢
 rw [H.at hj]
 split at h
 ·next a sz n ds he =>
  rw [he]
  simpa only [Option.map_some, inC, up, if_true] using h
 ·cases h
theorem wU.place (H : wU L k S S' ea ea') {r : Root} {j : Nat} (hj : yZ L r k = some j) {p : List Nat} {ad : Addr} (h : yV S ea r p = some ad) : yV S' ea' (.ex j) p = some ad := by
 simp only [yV] at h ⊢
 split at h
 ·next hp => rw [if_pos hp, (H r j hj).2]; exact h
 ·next hp =>
  rw [if_neg hp]
  split at h
  ·next ad' n c he =>
   rw [H.hdr hj _ _ he]
   exact h
  ·cases h
theorem kX.slice {a : Value} {sz n : Nat} {vs : List Value} (h : kX w a sz n vs) : ∃ A m c, a = .slice A m c := by
 rcases h with ⟨rfl, _⟩ | ⟨b, o, cur, e, ⟨ad, cap, rfl, _⟩, _⟩
 ·exact ⟨_, _, _, rfl⟩
 ·exact ⟨_, _, _, rfl⟩
theorem sR {r : Root} {p : List Nat} {i off sz n : Nat} {a : Value} (h : wD S r p i off sz n a) : ∃ A m c, a = .slice A m c := by
 obtain ⟨b, m, ds, _, _, h⟩ := h
 rcases h with ⟨_, rfl, _⟩ | ⟨ad, cap, _, ad', cap', rfl, _⟩
 ·exact ⟨_, _, _, rfl⟩
 ·exact ⟨_, _, _, rfl⟩
mutual
theorem zPz : ∀ {g : Nat} {x : TV}, shT g x → zU x = []
 | g, .sl a tag sz n cs, h => by
  simp only [shT] at h
  simp only [zU]
  rw [if_neg (by omega)]
 | _, .int _ _, _ => by simp [zU]
 | _, .bool _, _ => by simp [zU]
 | _, .str _, _ => by simp [zU]
 | _, .dead _, _ => by simp [zU]
 | _, .nili, _ => by simp [zU]
 | _, .ifc _, _ => by simp [zU]
theorem zCi : ∀ {g : Nat} {xs : List TV}, qZ g xs → zZ xs = []
 | _, [], _ => by simp [zZ]
 | g, x :: xs, h => by
  simp only [qZ] at h
  simp only [zZ, zPz h.1, zCi h.2, List.append_nil]
end
mutual
theorem zRv (H : wU L k S S' ea ea') (hR : ∀ b, R b → R' b) : ∀ {c : CV}, okC w P R S ea c → okC w (yR R' P) R' S' ea' (inC L k c)
 | .t x, h => by simp only [okC, inC] at h ⊢; exact zOl h
 | .ptr a r p off, h => by
  simp only [okC] at h
  obtain ⟨ad, h1, rfl⟩ := h
  simp only [inC]
  split
  ·next j hj => simp only [okC]; exact ⟨ad, H.place hj h1, rfl⟩
  ·simp only [okC, okT]; exact .inr ⟨_, rfl⟩
 | .bor a r p i off sz n, h => by
  simp only [okC] at h
  simp only [inC]
  split
  ·next j hj =>
   simp only [okC]
   obtain ⟨b, m, ds, h1, h2, h3⟩ := h
   refine ⟨b, m, ups ds, ?_, by rw [bZ]; exact h2, h3⟩
   rw [H.at hj, h1]
   simp only [Option.map_some, inC, up, if_true]
  ·simp only [okC, okT]; exact .inl (sR h)
 | .fn g caps, h => by
  simp only [okC, inC] at h ⊢
  refine ⟨zFk H hR h.1, ?_⟩
  have := zAy L k caps
  rw [h.2] at this
  exact List.sublist_nil.1 this
 | .rptr a cs, h => by
  simp only [okC, inC] at h ⊢
  obtain ⟨h1, h2, ad, h3, h4, h5⟩ := h
  obtain ⟨k1, k2, _⟩ := hH hR h1 (fun b hb => by rw [zCi h2] at hb; simp at hb)
  refine ⟨k1, k2, ad, h3, h4, ?_⟩
  rcases h5 with rfl | h5
  ·exact .inl rfl
  ·exact .inr ⟨hR _ h5.1, by rw [mB]; exact h5.2⟩
 | .nilp, _ => by simp [inC, okC]
 | .nilf, _ => by simp [inC, okC]
 | .lst a sz n cs, h => by
  simp only [okC] at h
  simp only [inC, okC, okT]
  exact .inl h.2.2.slice
theorem zFk (H : wU L k S S' ea ea') (hR : ∀ b, R b → R' b) : ∀ {cs : List CV}, yF w P R S ea cs → yF w (yR R' P) R' S' ea' (wE L k cs)
 | [], _ => by simp [wE, yF]
 | c :: cs, h => by
  simp only [yF] at h
  simp only [wE, yF]
  exact ⟨zRv H hR h.1, zFk H hR h.2⟩
end
end
end
end Go.Proofs.YtlkjnlfddadlmaaGreatDoor.V
namespace Go.Proofs.YtlkjnlfddadlmaaGreatDoor.V
open Go.RowKit
section
variable {α β : Type} (g : α → β)
mutual
theorem zGl : ∀ x : T α, up (yA g x) = yA g (up x)
 | .sl a tag sz n cs => by simp only [up, yA, zOn cs]
 | .int _ _ => rfl
 | .bool _ => rfl
 | .str _ => rfl
 | .dead _ => rfl
 | .nili => rfl
 | .ifc _ => rfl
theorem zOn : ∀ xs : List (T α), ups (kH g xs) = kH g (ups xs)
 | [] => rfl
 | x :: xs => by simp only [ups, kH, zGl x, zOn xs]
end
mutual
theorem zNd (L : List Root) (k : Nat) : ∀ c : C α, inC L k (zI g c) = zI g (inC L k c)
 | .t x => by simp only [inC, zI, zGl]
 | .ptr a r p off => by simp only [inC, zI]; split <;> simp only [zI, yA]
 | .bor a r p i off sz n => by simp only [inC, zI]; split <;> simp only [zI, yA]
 | .fn f caps => by simp only [inC, zI, zAz L k caps]
 | .rptr a cs => by simp only [inC, zI]; rw [yO, yO, cP, cP]; simp only [List.map_map]; congr 1; apply List.map_congr_left; intro x _; exact cO g x
 | .nilp => rfl
 | .nilf => rfl
 | .lst a sz n cs => by simp only [inC, zI, yA]
theorem zAz (L : List Root) (k : Nat) : ∀ cs : List (C α), wE L k (yY g cs) = yY g (wE L k cs)
 | [] => rfl
 | c :: cs => by simp only [wE, yY, zNd L k c, zAz L k cs]
end
end
section
variable {isv : Nat → Bool} {w0 : World} {E0 : Nat → Prop} {P : Nat → Nat → Prop} {R R' : Nat → Prop} {ea : List EA} {w w' : World} {S : SV} {tmps : Array Value}
variable {L : List Root} {k : Nat} {S' : SV} {ea' : List EA}
theorem zWv (c : CV) : erC (inC L k c) = inC L k (erC c) := (zNd er0 L k c).symm
theorem zUp (cs : List CV) : (wE L k cs).map erC = wE L k (cs.map erC) := by
 have := zAz er0 L k cs
 rw [zR, zR] at this
 exact this.symm
theorem l0 : ∀ {L : List Root} {r : Root} {k : Nat}, yZ L r k = none → r ∉ L
 | [], r, k, _ => by simp
 | q :: L, r, k, h => by
  simp only [yZ] at h
  split at h
  ·cases h
  ·next e =>
   have := l0 h
   simp only [List.mem_cons, not_or]
   exact ⟨fun e' => e e'.symm, this⟩
def Arg (w : World) (P : Nat → Nat → Prop) (R' : Nat → Prop) (S' : SV) (ea' : List EA) (k : Nat) (L : List Root) (c : CV) : Prop :=
 okC w P R' S' ea' c ∧ zP c = [] ∧ ∀ r ∈ zF c, ∃ j, r = .ex j ∧ k ≤ j ∧ j < k + L.length
theorem sJ.arg {c : CV} (h : sJ w P R' c) : Arg w P R' S' ea' k L c := ⟨h.1 _ _, h.2.1, by rw [h.2.2]; simp⟩
theorem zMl (h : Rel isv w0 E0 P R ea w S tmps) (H : wU L k S S' ea ea') (hR : ∀ b, R b → R' b) (hN : ∀ r, r ∉ L → ∀ b ∈ zL S ea r, R' b) {c : CV} {d : CU} (hok : okC w P R S ea c) (hb : ∀ b ∈ zP c, R' b)
  (hq : vW (V.erS S) L k (erC c) = some d) : ∃ cG, erC cG = d ∧ zJ cG = zJ c ∧ Arg w (yR R' P) R' S' ea' k L cG := by
 have inArg : zP c = [] → vW (V.erS S) L k (erC c) = some (inC L k (erC c)) → ∃ cG, erC cG = d ∧ zJ cG = zJ c ∧ Arg w (yR R' P) R' S' ea' k L cG := by
  intro hblk he
  rw [he] at hq
  simp only [Option.some.injEq] at hq
  refine ⟨inC L k c, by rw [zWv]; exact hq, zNe L k c, zRv H hR hok, ?_, zHx L k c⟩
  have := zNc L k c
  rw [hblk] at this
  exact List.sublist_nil.1 this
 have snap : qH (V.erS S) (erC c) = some d → (∀ r ∈ zF c, r ∉ L) → ∃ cG, erC cG = d ∧ zJ cG = zJ c ∧ Arg w (yR R' P) R' S' ea' k L cG := by
  intro hs hr
  obtain ⟨cG, k1, k2, k3, _⟩ := zCk h hR hok hb (fun r hr' b hb' => hN r (hr r hr') b hb') hs
  exact ⟨cG, k1, k2, k3.arg⟩
 cases c with
 | ptr a r p off =>
  have e : erC (.ptr a r p off) = .ptr () r p off := rfl
  rw [e] at hq inArg
  simp only [vW] at hq inArg
  split at hq
  ·next hs => exact inArg (by simp [zP]) (by simp only [if_pos hs])
  ·cases hq
 | fn f caps =>
  simp only [okC] at hok
  have e : erC (.fn f caps) = .fn f (caps.map erC) := by simp only [erC, zI, zR]
  rw [e] at hq inArg
  simp only [vW] at hq inArg
  split at hq
  ·next hs => exact inArg (by simp [zP]) (by rw [if_pos hs])
  ·cases hq
 | bor a r p i off sz n =>
  have e : erC (.bor a r p i off sz n) = .bor () r p i off sz n := rfl
  rw [e] at hq inArg snap
  simp only [vW] at hq inArg
  cases hp : yZ L r k with
  | some j =>
   refine inArg (by simp [zP]) ?_
   simp only [hp, inC]
  | none =>
   simp only [hp] at hq
   exact snap hq (fun r' hr' => by simp only [zF, List.mem_singleton] at hr'; subst hr'; exact l0 hp)
 | t x =>
  simp only [erC, zI, vW] at hq
  split at hq
  ·cases hq
  ·exact snap hq (by simp [zF])
 | rptr a cs =>
  simp only [erC, zI, vW] at hq
  split at hq
  ·cases hq
  ·exact snap hq (by simp [zF])
 | nilp =>
  simp only [erC, zI, vW] at hq
  split at hq
  ·cases hq
  ·exact snap hq (by simp [zF])
 | nilf =>
  simp only [erC, zI, vW] at hq
  split at hq
  ·cases hq
  ·exact snap hq (by simp [zF])
 | lst a sz n cs =>
  have er := dJ (.lst a sz n cs)
  simp only [erC, zI] at er
  simp only [erC, zI, vW] at hq
  split at hq
  ·cases hq
  ·next hn =>
   refine snap hq fun r hr hm => hn ?_
   rw [er]
   exact List.any_eq_true.2 ⟨r, hr, by simpa using hm⟩
end
end Go.Proofs.YtlkjnlfddadlmaaGreatDoor.V
namespace Go.Proofs.YtlkjnlfddadlmaaGreatDoor.V
open Go.RowKit
theorem zJ1 {α β : Type} (g : α → β) (S : St α) (r : Root) (p : List Nat) (i : Nat) :
  q8 (jJ g S) r p i = (q8 S r p i).map fun q => (yA g q.1, jJ g q.2) := by
 simp only [q8, lN]
 cases at_ S r p i with
 | none => simp
 | some c =>
  cases c with
  | t x =>
   cases x with
   | sl b tag sz' n' ds =>
    cases tag with
    | zero =>
     simp only [Option.map_some, zI, yA]
     have := uB g S r p i (.t (.dead b))
     simp only [zI, yA] at this
     rw [this]
     cases z7 S r p i (.t (.dead b)) with
     | none => simp
     | some S' => simp [yA, fP]
    | succ m => simp [zI, yA]
   | _ => simp [zI, yA]
  | _ => simp [zI]
section
variable {isv : Nat → Bool} {w0 : World} {E0 : Nat → Prop} {P : Nat → Nat → Prop} {R R' : Nat → Prop} {ea : List EA} {w w' : World} {S : SV} {tmps : Array Value}
theorem zL1 (h : Rel isv w0 E0 P R ea w S tmps) {r : Root} {p : List Nat} {i : Nat} {t : TU} {Su : SU} (hq : q8 (V.erS S) r p i = some (t, Su)) :
  ∃ (b : Value) (sz m : Nat) (ds : List TV) (S2 : SV), erT (.sl b 0 sz m ds) = t ∧ V.erS S2 = Su ∧ at_ S r p i = some (.t (.sl b 0 sz m ds)) ∧ Rel isv w0 E0 P R ea w S2 tmps ∧ Emp ea S S2 ∧ New isv w0 E0 P R ea w S2 (.c (.t (.sl b 0 sz m ds))) ∧
   (∀ x ∈ zU (.sl b 0 sz m ds), x ∈ zL S ea r) ∧ at_ S2 r p i = some (.t (.dead b)) := by
 have hm : q8 (V.erS S) r p i = (q8 S r p i).map fun q => (yA er0 q.1, jJ er0 q.2) := zJ1 er0 S r p i
 rw [hm] at hq
 cases hg : q8 S r p i with
 | none => simp [hg] at hq
 | some q =>
  simp only [hg, Option.map_some, Option.some.injEq, Prod.mk.injEq] at hq
  obtain ⟨rfl, rfl⟩ := hq
  unfold q8 at hg
  split at hg
  ·rename_i b sz m ds hat
   cases hput : z7 S r p i (.t (.dead b)) with
   | none => simp [hput] at hg
   | some S' =>
    simp only [hput, Option.map_some, Option.some.injEq] at hg
    subst hg
    have hok := h.at_ok hat
    have hok' := hok
    simp only [okC, okT, if_true] at hok
    have hval : (∃ A n c, b = .slice A n c) ∨ ∃ q, b = .pointer q := .inl (lE hok.2.2)
    obtain ⟨h1, h2, h3⟩ := h.empty hat hval hput
    have hem := dO (ea := ea) hput
    have hmem : ∀ k x, x ∈ zL (kill r (p ++ [i]) S') ea k → x ∈ zL S ea k := by
     intro k x hb
     by_cases e : k = r
     ·subst e; exact h3.subset (List.mem_append_right _ hb)
     ·rwa [h2 k e] at hb
    have hin : ∀ k ∈ zU (.sl b 0 sz m ds), k ∈ zL S ea r := fun k hk => h3.subset (List.mem_append_left _ hk)
    refine ⟨b, sz, m, ds, _, rfl, rfl, hat, h1, ⟨fun w P R c hc ha => ?_, fun c ha => (bH hput ha).2, hmem, fun k q j u hd => zSo hput hat hd⟩, ?_, hin, ?_⟩
    ·have := rW hem hc
     rwa [(bH hput ha).1] at this
    ·have hnd := (h3.nodup_iff).2 (h.nd r)
     rw [List.nodup_append] at hnd
     constructor
     ·simp only [okX, okC] at hok' ⊢; exact hok'
     ·intro d' hd'; simp [zD, zF] at hd'
     ·exact hnd.1
     ·intro k x hx hx'
      have hx1 : x ∈ zP (.t (.sl b 0 sz m ds)) := hx
      by_cases e : k = r
      ·subst e; exact hnd.2.2 x hx1 x hx' rfl
      ·rw [h2 k e] at hx'
       exact e (h.dis k r x hx' (h3.subset (List.mem_append_left _ hx1)))
     ·exact fun x hx => h.lt r x (hin x hx)
     ·exact fun x hx => h.own r x (hin x hx)
     ·exact fun x hx => h.notR r x (hin x hx)
    ·rw [uL, zSn hput]; rfl
  ·cases hg
end
end Go.Proofs.YtlkjnlfddadlmaaGreatDoor.V
namespace Go.Proofs.YtlkjnlfddadlmaaGreatDoor.V
open Go.RowKit
section
variable {isv : Nat → Bool} {w0 : World} {E0 : Nat → Prop} {P : Nat → Nat → Prop} {R R' : Nat → Prop} {ea : List EA} {w w' : World} {S S' : SV} {tmps : Array Value}
theorem Rel.fill (h : Rel isv w0 E0 P R ea w S tmps) {r : Root} {p : List Nat} {off : Nat} {old : CV} {y : TV} (hat : at_ S r p off = some old) (hold : x9 old = false) (hput : z7 S r p off (.t y) = some S')
  (hv : zV y = zJ old) (hy : okT w P R y) (hb : Bk w0 E0 R ea w S (zU y)) :
  Rel isv w0 E0 P R ea w S' tmps ∧ (∀ k, k ≠ r → zL S' ea k = zL S ea k) ∧ (zL S' ea r).Perm (zU y ++ zL S ea r) := by
 have hem := dO (ea := ea) hput
 have hbl := nY hat hold
 obtain ⟨cs, ds, hr, hs, hS'⟩ := bB hput
 have hl := vH hs
 have hcs := h.root_ok hr
 rw [sO, hr] at hat
 simp only [Option.bind_some] at hat
 have hval : yC ds = yC cs := zJd hs hat hv
 have hdok : ∀ c ∈ ds, okC w P R S' ea c := by
  intro c hc
  rcases zJc hs hat hv hy hcs c hc with hc | ⟨t, rfl, ht⟩
  ·exact pF hem hbl (zY.1 hcs c hc)
  ·simpa [okC] using ht
 have hblk : (zH ds).Perm (zU y ++ zH cs) := by
  have := zCf hs hat
  rwa [zBo hold, List.nil_append] at this
 have hoth : ∀ k, k ≠ r → zL S' ea k = zL S ea k := by
  intro k hk
  subst hS'
  cases r with
  | sl d => exact match k, hk with
   | .sl d', hk => by simp only [zL, zM, upd]; rw [if_neg (by simpa using hk)]
   | .ex j, _ => by simp only [zL, zM]
  | ex j => exact match k, hk with
   | .sl d', _ => by simp only [zL, zM]
   | .ex j', hk => by simp only [zL, zM]; rw [List.getElem?_set_ne (by simpa using Ne.symm hk)]
 have hown : (zL S' ea r).Perm (zU y ++ zL S ea r) := by
  subst hS'
  cases r with
  | sl d =>
   rw [yE] at hr
   simp only [zL, zM, upd, if_true]
   have := tX (l := []) (m := zU y) hr hl (by simpa using hblk)
   simpa using this
  | ex j =>
   simp only [zA] at hr
   have hj : j < S.e.length := (List.getElem?_eq_some_iff.1 hr).1
   simp only [zL, zM, hr, List.getElem?_set_self hj]
   refine (List.Perm.append_left _ hblk).trans ?_
   rw [← List.append_assoc, ← List.append_assoc]; exact List.Perm.append_right _ List.perm_append_comm
 have hsl : ∀ i, (S'.s i = S.s i) ∨ (r = .sl i ∧ S'.s i = x7 (S.s i) ds ∧ cellsOf (S.s i) = some cs) := by
  intro i
  subst hS'
  cases r with
  | sl d =>
   by_cases e : i = d
   ·subst e; right; exact ⟨rfl, by simp [zM, upd], by rw [← yE]; exact hr⟩
   ·left; simp [zM, upd, e]
  | ex j => left; rfl
 have hec : ∀ (j : Nat) es, S'.e[j]? = some es → (S.e[j]? = some es) ∨ (r = .ex j ∧ es = ds ∧ S.e[j]? = some cs) := by
  intro j es hj
  subst hS'
  cases r with
  | sl d => left; exact hj
  | ex j' =>
   by_cases e : j' = j
   ·subst e
    right
    have hlt : j' < S.e.length := (List.getElem?_eq_some_iff.1 hr).1
    simp only [zM, List.getElem?_set_self hlt, Option.some.injEq] at hj
    exact ⟨rfl, hj.symm, hr⟩
   ·left
    simpa [zM, List.getElem?_set_ne e] using hj
 have hmem : ∀ k b, b ∈ zL S' ea k → b ∈ zL S ea k ∨ (k = r ∧ b ∈ zU y) := by
  intro k b hb'
  by_cases e : k = r
  ·subst e
   rcases List.mem_append.1 (hown.subset hb') with h' | h'
   ·exact .inr ⟨rfl, h'⟩
   ·exact .inl h'
  ·rw [hoth k e] at hb'; exact .inl hb'
 refine ⟨?_, hoth, hown⟩
 constructor
 case val =>
  intro i hi
  rcases hsl i with e | ⟨_, e, hc⟩
  ·rw [e]; exact h.val i hi
  ·rcases h.val i hi with e' | e'
   ·rw [e'] at hc; simp [cellsOf] at hc
   ·right; rw [e, nQ hc hval]; exact e'
 case hi =>
  intro i hi
  rcases hsl i with e | ⟨_, e, hc⟩
  ·rw [e]; exact h.hi i hi
  ·rw [h.hi i hi] at hc; simp [cellsOf] at hc
 case okS =>
  intro i
  rcases hsl i with e | ⟨_, e, hc⟩
  ·rw [e]; exact pH hem hbl (h.okS i)
  ·rw [e]
   refine zJm hc hl ?_ ?_ hdok
   ·intro v ys hx
    have h1 := h.okS i
    rw [hx] at h1 hc
    simp only [cellsOf, Option.some.injEq] at hc
    subst hc
    simp only [okX] at h1
    obtain ⟨_, ad, rfl, h2, h3, cur, e', h4, h5⟩ := h1
    exact ⟨ad, rfl, h2, h3, cur, e', h4, by rw [hval]; exact h5⟩
   ·intro ys hx z hz _ _
    have h3 := h.okS i
    rw [hx] at h3
    simp only [okX] at h3
    exact pH hem hbl (nC.1 h3 z hz)
 case okE =>
  intro j es hj
  rcases hec j es hj with e | ⟨_, rfl, e⟩
  ·exact ⟨bR hem hbl (h.okE j es e).1, (h.okE j es e).2⟩
  ·refine ⟨zY.2 hdok, fun ad had => ?_⟩
   obtain ⟨h2, h3, cur, e', h4, h5⟩ := (h.okE j cs e).2 ad had
   exact ⟨h2, h3, cur, e', h4, by rw [hval]; exact h5⟩
 case eaL =>
  rw [h.eaL, hS']
  cases r <;> simp [zM]
 case row =>
  intro j vs es hea hj
  rcases hec j es hj with e | ⟨_, rfl, e⟩
  ·exact h.row j vs es hea e
  ·rw [hval]; exact h.row j vs cs hea e
 case refS =>
  intro i d' hd'
  rcases hsl i with e | ⟨_, e, hc⟩
  ·rw [e] at hd'; exact h.refS i d' hd'
  ·rw [e] at hd'
   rcases pM hc hl _ hd' with hd' | hd'
   ·exact h.refS i d' hd'
   ·rcases hY hs _ hd' with hd' | hd'
    ·refine h.refS i d' ?_
     rw [yI, List.mem_flatMap] at hd'
     obtain ⟨c', hca, hk⟩ := hd'
     cases hs' : S.s i with
     | c y => rw [hs'] at hc; simp only [cellsOf, Option.some.injEq] at hc; subst hc; simp only [List.mem_singleton] at hca; subst hca; simpa [zD] using hk
     | agg ys => rw [hs'] at hc; simp only [cellsOf, Option.some.injEq] at hc; subst hc; simp only [zD, yI, List.mem_flatMap]; exact ⟨c', hca, hk⟩
     | box v ys => rw [hs'] at hc; simp only [cellsOf, Option.some.injEq] at hc; subst hc; simp only [zD, yI, List.mem_flatMap]; exact ⟨c', hca, hk⟩
     | tup ys => rw [hs'] at hc; simp only [cellsOf, Option.some.injEq] at hc; subst hc; simp only [zD]; exact gC hca _ hk
     | undef => rw [hs'] at hc; simp [cellsOf] at hc
    ·simp [zF] at hd'
 case refE =>
  intro j es d' hj hd'
  rcases hec j es hj with e | ⟨_, rfl, e⟩
  ·exact h.refE j es d' e hd'
  ·rcases hY hs _ hd' with hd' | hd'
   ·exact h.refE j cs d' e hd'
   ·simp [zF] at hd'
 case dis =>
  intro k k' b hb1 hb2
  rcases hmem k b hb1 with h1 | ⟨rfl, h1⟩ <;> rcases hmem k' b hb2 with h2 | ⟨rfl, h2⟩
  ·exact h.dis k k' b h1 h2
  ·exact absurd h1 (hb.sep k b h2)
  ·exact absurd h2 (hb.sep k' b h1)
  ·rfl
 case nd =>
  intro k
  by_cases e : k = r
  ·subst e
   rw [hown.nodup_iff, List.nodup_append]
   exact ⟨hb.nd, h.nd k, fun x hx y hy e => hb.sep k x hx (e ▸ hy)⟩
  ·rw [hoth k e]; exact h.nd k
 case lt => exact fun k b hb' => (hmem k b hb').elim (h.lt k b) (fun h' => hb.lt b h'.2)
 case own => exact fun k b hb' => (hmem k b hb').elim (h.own k b) (fun h' => hb.own b h'.2)
 case notR => exact fun k b hb' => (hmem k b hb').elim (h.notR k b) (fun h' => hb.notR b h'.2)
 case PR => exact h.PR
 case ltR => exact h.ltR
 case frm => exact h.frm
end
end Go.Proofs.YtlkjnlfddadlmaaGreatDoor.V
namespace Go.Proofs.YtlkjnlfddadlmaaGreatDoor.V
open Go.RowKit
section
variable {isv : Nat → Bool} {w0 : World} {E0 : Nat → Prop} {P : Nat → Nat → Prop} {R R' : Nat → Prop} {ea : List EA} {w w' : World} {S S' : SV} {tmps : Array Value}
def zKo (S : SV) (ea : List EA) (r : Root) : EA :=
 match rootAd S ea r with
 | some ad => .box ad
 | none => .row (yC ((zA S r).getD []))
def inE (S : SV) (L : List Root) (rows : List TV) : List (List CV) := rows.map (fun t => [.t (up t)]) ++ L.map fun r => wE L rows.length ((zA S r).getD [])
def wX (S : SV) (ea : List EA) (L : List Root) (rows : List TV) : List EA := rows.map (fun t => .row [zV t]) ++ L.map (zKo S ea)
theorem pC {L : List Root} {rows : List TV} {j : Nat} {t : TV} (h : rows[j]? = some t) : (inE S L rows)[j]? = some [.t (up t)] ∧ (wX S ea L rows)[j]? = some (.row [zV t]) := by
 have hl := (List.getElem?_eq_some_iff.1 h).1
 simp only [inE, wX]
 rw [List.getElem?_append_left (by simpa using hl), List.getElem?_append_left (by simpa using hl), List.getElem?_map, List.getElem?_map, h]
 exact ⟨rfl, rfl⟩
theorem vO {L : List Root} {rows : List TV} {j : Nat} {r : Root} (h : L[j]? = some r) : (inE S L rows)[rows.length + j]? = some (wE L rows.length ((zA S r).getD [])) ∧ (wX S ea L rows)[rows.length + j]? = some (zKo S ea r) := by
 simp only [inE, wX]
 rw [List.getElem?_append_right (by simp), List.getElem?_append_right (by simp)]
 simp only [List.length_map, Nat.add_sub_cancel_left, List.getElem?_map, h]
 exact ⟨rfl, rfl⟩
theorem pB {L : List Root} {rows : List TV} {j : Nat} {cs : List CV} (h : (inE S L rows)[j]? = some cs) :
  (∃ t, rows[j]? = some t ∧ cs = [.t (up t)]) ∨ ∃ i r, j = rows.length + i ∧ L[i]? = some r ∧ cs = wE L rows.length ((zA S r).getD []) := by
 by_cases hj : j < rows.length
 ·left
  have e := List.getElem?_eq_getElem hj
  refine ⟨_, e, ?_⟩
  rw [(pC (S := S) (ea := []) (L := L) e).1] at h
  exact (Option.some.inj h).symm
 ·right
  obtain ⟨i, rfl⟩ : ∃ i, j = rows.length + i := ⟨j - rows.length, by omega⟩
  cases hi : L[i]? with
  | none =>
   have hl := (List.getElem?_eq_some_iff.1 h).1
   have hi' := List.getElem?_eq_none_iff.1 hi
   simp only [inE, List.length_append, List.length_map] at hl
   omega
  | some r =>
   refine ⟨i, r, rfl, hi, ?_⟩
   rw [(vO (S := S) (ea := []) (rows := rows) hi).1] at h
   exact (Option.some.inj h).symm
theorem n6 {r : Root} : (zKo S ea r).ad = rootAd S ea r := by
 unfold zKo
 cases h : rootAd S ea r with
 | none => simp [EA.ad]
 | some ad => simp [EA.ad]
theorem zDr {L : List Root} {rows : List TV} {s : Nat → XV} (hL : ∀ r ∈ L, ∃ cs, zA S r = some cs) : wU L rows.length S ⟨s, inE S L rows⟩ ea (wX S ea L rows) := by
 intro r j hj
 obtain ⟨h1, h2⟩ := kR hj
 obtain ⟨i, rfl⟩ : ∃ i, j = rows.length + i := ⟨j - rows.length, by omega⟩
 rw [Nat.add_sub_cancel_left] at h2
 obtain ⟨e1, e2⟩ := vO (S := S) (ea := ea) (rows := rows) h2
 obtain ⟨cs, hcs⟩ := hL r (List.mem_of_getElem? h2)
 refine ⟨by simp only [e1, hcs, Option.getD_some, Option.map_some], ?_⟩
 simp only [rootAd, e2, Option.bind_some]
 exact n6
def zIu (S : SV) (ea : List EA) (r : Root) (cs : List CV) : List Nat :=
 (match rootAd S ea r with
 | some ad => [ad.block]
 | none => []) ++ zH cs
theorem g9 (h : Rel isv w0 E0 P R ea w S tmps) {r : Root} {cs : List CV} (hr : zA S r = some cs) : (zIu S ea r cs).Nodup ∧ ∀ b ∈ zIu S ea r cs, b ∈ zL S ea r := by
 have hn := h.nd r
 cases r with
 | sl d =>
  have hok := h.okS d
  simp only [zA] at hr
  simp only [zL] at hn ⊢
  simp only [zIu, rootAd]
  cases hx : S.s d with
  | c y =>
   rw [hx] at hr hn
   simp only [Option.some.injEq] at hr
   subst hr
   simpa [zE, zH] using hn
  | agg ys =>
   rw [hx] at hr hn
   simp only [Option.some.injEq] at hr
   subst hr
   simpa [zE] using hn
  | box v ys =>
   rw [hx] at hr hn hok
   simp only [Option.some.injEq] at hr
   subst hr
   simp only [okX] at hok
   obtain ⟨_, ad, rfl, _⟩ := hok
   simpa [zE, hdr] using hn
  | tup ys =>
   rw [hx] at hr hn
   simp only [Option.some.injEq] at hr
   subst hr
   simp only [zE] at hn ⊢
   have hp := kD ys
   refine ⟨?_, fun b hb => hp.mem_iff.2 (List.mem_append_left _ (by simpa using hb))⟩
   simpa using (List.nodup_append.1 (hp.nodup_iff.1 hn)).1
  | undef => rw [hx] at hr; cases hr
 | ex j =>
  simp only [zA] at hr
  simp only [zL, hr] at hn ⊢
  exact ⟨hn, fun b hb => hb⟩
theorem zAq {α : Type} {f : α → List Nat} : ∀ {l : List α}, (l.flatMap f).Nodup → ∀ {i j : Nat} {x y : α} {b : Nat}, l[i]? = some x → l[j]? = some y → b ∈ f x → b ∈ f y → i = j
 | [], _, i, j, x, y, b, hi, _, _, _ => by simp at hi
 | a :: l, hn, i, j, x, y, b, hi, hj, hx, hy => by
  simp only [List.flatMap_cons] at hn
  obtain ⟨_, h2, h3⟩ := List.nodup_append.1 hn
  cases i with
  | zero =>
   cases j with
   | zero => rfl
   | succ j =>
    simp only [List.getElem?_cons_zero, List.getElem?_cons_succ, Option.some.injEq] at hi hj
    subst hi
    exact absurd rfl (h3 b hx b (List.mem_flatMap.2 ⟨y, List.mem_of_getElem? hj, hy⟩))
  | succ i =>
   cases j with
   | zero =>
    simp only [List.getElem?_cons_zero, List.getElem?_cons_succ, Option.some.injEq] at hi hj
    subst hj
    exact absurd rfl (h3 b hy b (List.mem_flatMap.2 ⟨x, List.mem_of_getElem? hi, hx⟩))
   | succ j =>
    simp only [List.getElem?_cons_succ] at hi hj
    rw [zAq h2 hi hj hx hy]
theorem zM9 {α : Type} {f : α → List Nat} {l : List α} (hn : (l.flatMap f).Nodup) {i : Nat} {x : α} (hi : l[i]? = some x) : (f x).Nodup := by
 have hx := List.mem_of_getElem? hi
 obtain ⟨a, b, rfl⟩ := List.append_of_mem hx
 simp only [List.flatMap_append, List.flatMap_cons] at hn
 exact (List.nodup_append.1 (List.nodup_append.1 hn).2.1).1
end
end Go.Proofs.YtlkjnlfddadlmaaGreatDoor.V
namespace Go.Proofs.YtlkjnlfddadlmaaGreatDoor.V
open Go.RowKit
section
variable {isv : Nat → Bool} {w0 : World} {E0 : Nat → Prop} {P : Nat → Nat → Prop} {R R' : Nat → Prop} {ea : List EA} {w w' : World} {S S' : SV} {tmps : Array Value}
theorem sD {args : List XV} {d : Nat} : y6 args d = .undef ∨ args[d]? = some (y6 args d) := by
 simp only [y6, List.getD_eq_getElem?_getD]
 cases h : args[d]? with
 | none => exact .inl rfl
 | some x => exact .inr rfl
def inB (S : SV) (ea : List EA) (L : List Root) (rows : List TV) (args : List XV) (b : Nat) : Prop := b ∈ args.flatMap zE ++ rows.flatMap zU ∨ ∃ r ∈ L, b ∈ zL S ea r
theorem in_ok (h : Rel isv w0 E0 P R ea w S tmps) {L : List Root} (hLn : L.Nodup) (hL : ∀ r ∈ L, ∃ cs, zA S r = some cs) {rows : List TV} (hrow : ∀ t ∈ rows, okT w P R t) {args : List XV}
  (hF : Bk w0 E0 R ea w S (args.flatMap zE ++ rows.flatMap zU)) (hR' : R' = fun b => b < w.heap.size ∧ ¬ inB S ea L rows args b)
  (hargs : ∀ x ∈ args, okX w (yR R' P) R' ⟨y6 args, inE S L rows⟩ (wX S ea L rows) x ∧ ∀ r ∈ zD x, x4 r = true) :
  In w (inB S ea L rows args) (yR R' P) R' (wX S ea L rows) args (inE S L rows) := by
 have hRR : ∀ b, R b → R' b := by
  intro b hb
  rw [hR']
  refine ⟨h.ltR b hb, ?_⟩
  rintro (h1 | ⟨r, _, h1⟩)
  ·exact hF.notR b h1 hb
  ·exact h.notR r b h1 hb
 have H : wU L rows.length S ⟨y6 args, inE S L rows⟩ ea (wX S ea L rows) := zDr hL
 -- the blocks of the callee's roots
 have src : ∀ k, (∃ d x, k = .sl d ∧ args[d]? = some x ∧ zL ⟨y6 args, inE S L rows⟩ (wX S ea L rows) k = zE x) ∨ (∃ j t, k = .ex j ∧ rows[j]? = some t ∧ zL ⟨y6 args, inE S L rows⟩ (wX S ea L rows) k = zU t) ∨
   (∃ i r cs, k = .ex (rows.length + i) ∧ L[i]? = some r ∧ zA S r = some cs ∧ (zL ⟨y6 args, inE S L rows⟩ (wX S ea L rows) k).Sublist (zIu S ea r cs)) ∨ zL ⟨y6 args, inE S L rows⟩ (wX S ea L rows) k = [] := by
  intro k
  cases k with
  | sl d =>
   rcases sD (args := args) (d := d) with e | e
   ·right; right; right
    simp only [zL]
    rw [e]; simp [zE]
   ·exact .inl ⟨d, _, rfl, e, rfl⟩
  | ex j =>
   cases hj : (inE S L rows)[j]? with
   | none =>
    right; right; right
    have hl : (inE S L rows).length ≤ j := List.getElem?_eq_none_iff.1 hj
    have hl' : (wX S ea L rows)[j]? = none := List.getElem?_eq_none_iff.2 (by simpa [inE, wX] using hl)
    simp [zL, hj, hl']
   | some cs =>
    rcases pB hj with ⟨t, ht, rfl⟩ | ⟨i, r, rfl, hi, rfl⟩
    ·refine .inr (.inl ⟨j, t, rfl, ht, ?_⟩)
     simp [zL, hj, (pC (S := S) (ea := ea) (L := L) ht).2, EA.ad, zH, zP, zCs]
    ·obtain ⟨cs, hcs⟩ := hL r (List.mem_of_getElem? hi)
     refine .inr (.inr (.inl ⟨i, r, cs, rfl, hi, hcs, ?_⟩))
     simp only [zL, hj, (vO (S := S) (ea := ea) (rows := rows) hi).2, Option.bind_some, n6, hcs, Option.getD_some, zIu]
     exact List.Sublist.append (List.Sublist.refl _) (zAy _ _ _)
 have hB : ∀ r b, b ∈ zL ⟨y6 args, inE S L rows⟩ (wX S ea L rows) r → inB S ea L rows args b := by
  intro k b hb
  rcases src k with ⟨d, x, rfl, hx, e⟩ | ⟨j, t, rfl, ht, e⟩ | ⟨i, r, cs, rfl, hi, hcs, e⟩ | e
  ·rw [e] at hb
   exact .inl (List.mem_append_left _ (List.mem_flatMap.2 ⟨x, List.mem_of_getElem? hx, hb⟩))
  ·rw [e] at hb
   exact .inl (List.mem_append_right _ (List.mem_flatMap.2 ⟨t, List.mem_of_getElem? ht, hb⟩))
  ·exact .inr ⟨r, List.mem_of_getElem? hi, (g9 h hcs).2 b (e.subset hb)⟩
  ·rw [e] at hb; simp at hb
 have hlt : ∀ b, inB S ea L rows args b → b < w.heap.size := by
  rintro b (h1 | ⟨r, _, h1⟩)
  ·exact hF.lt b h1
  ·exact h.lt r b h1
 constructor
 case val =>
  intro d hd
  simp only [List.size_toArray, List.length_map] at hd
  right
  simp [y6, hd]
 case hi =>
  intro d hd
  simp only [List.size_toArray, List.length_map] at hd
  simp [y6, List.getElem?_eq_none hd]
 case okS =>
  intro d
  rcases sD (args := args) (d := d) with e | e
  ·show okX _ _ _ _ _ (y6 args d)
   rw [e]; simp [okX]
  ·exact (hargs _ (List.mem_of_getElem? e)).1
 case okE =>
  intro j cs hj
  rcases pB hj with ⟨t, ht, rfl⟩ | ⟨i, r, rfl, hi, rfl⟩
  ·refine ⟨?_, fun ad had => ?_⟩
   ·simp only [yF, okC, and_true]
    exact zOl (hrow t (List.mem_of_getElem? ht))
   ·rw [(pC (S := S) (ea := ea) (L := L) ht).2] at had
    simp [EA.ad] at had
  ·obtain ⟨cs, hcs⟩ := hL r (List.mem_of_getElem? hi)
   rw [hcs, Option.getD_some]
   refine ⟨zFk H hRR (h.root_ok hcs), fun ad had => ?_⟩
   rw [(vO (S := S) (ea := ea) (rows := rows) hi).2] at had
   simp only [Option.bind_some, n6] at had
   obtain ⟨cs', hcs', hbox⟩ := h.box_at had
   rw [hcs] at hcs'
   simp only [Option.some.injEq] at hcs'
   subst hcs'
   obtain ⟨h1, h2, cur, e, h3, h4⟩ := hbox
   exact ⟨h1, h2, cur, e, h3, by rw [tA]; exact h4⟩
 case eaL => simp [inE, wX]
 case row =>
  intro j vs cs hea hj
  rcases pB hj with ⟨t, ht, rfl⟩ | ⟨i, r, rfl, hi, rfl⟩
  ·rw [(pC (S := S) (ea := ea) (L := L) ht).2] at hea
   simp only [Option.some.injEq, EA.row.injEq] at hea
   rw [← hea]; simp only [yC, zJ, zGm]
  ·rw [(vO (S := S) (ea := ea) (rows := rows) hi).2] at hea
   simp only [Option.some.injEq, zKo] at hea
   split at hea
   ·cases hea
   ·simp only [EA.row.injEq] at hea
    rw [tA]; exact hea
 case refS =>
  intro d d' hd
  rcases sD (args := args) (d := d) with e | e
  ·change Root.sl d' ∈ zD (y6 args d) at hd
   rw [e] at hd; simp [zD] at hd
  ·have := (hargs _ (List.mem_of_getElem? e)).2 _ hd
   cases this
 case refE =>
  intro j cs d' hj hd
  rcases pB hj with ⟨t, ht, rfl⟩ | ⟨i, r, rfl, hi, rfl⟩
  ·simp [zK, zF] at hd
  ·obtain ⟨j, e, _⟩ := aW _ _ _ _ hd
   cases e
 case dis =>
  have hn := List.nodup_append.1 hF.nd
  have farg : ∀ {d : Nat} {x : XV} {b : Nat}, args[d]? = some x → b ∈ zE x → b ∈ args.flatMap zE := fun hx hb => List.mem_flatMap.2 ⟨_, List.mem_of_getElem? hx, hb⟩
  have frow : ∀ {d : Nat} {x : TV} {b : Nat}, rows[d]? = some x → b ∈ zU x → b ∈ rows.flatMap zU := fun hx hb => List.mem_flatMap.2 ⟨_, List.mem_of_getElem? hx, hb⟩
  intro k k' b hb hb'
  rcases src k with ⟨d, x, rfl, hx, e⟩ | ⟨j, t, rfl, ht, e⟩ | ⟨i, r, cs, rfl, hi, hcs, e⟩ | e <;> rcases src k' with ⟨d', x', rfl, hx', e'⟩ | ⟨j', t', rfl, ht', e'⟩ | ⟨i', r', cs', rfl, hi', hcs', e'⟩ | e'
  ·rw [e] at hb; rw [e'] at hb'
   rw [zAq hn.1 hx hx' hb hb']
  ·rw [e] at hb; rw [e'] at hb'
   exact absurd rfl (hn.2.2 b (farg hx hb) b (frow ht' hb'))
  ·rw [e] at hb
   exact absurd ((g9 h hcs').2 b (e'.subset hb')) (hF.sep r' b (List.mem_append_left _ (farg hx hb)))
  ·rw [e'] at hb'; simp at hb'
  ·rw [e] at hb; rw [e'] at hb'
   exact absurd rfl (hn.2.2 b (farg hx' hb') b (frow ht hb))
  ·rw [e] at hb; rw [e'] at hb'
   rw [zAq hn.2.1 ht ht' hb hb']
  ·rw [e] at hb
   exact absurd ((g9 h hcs').2 b (e'.subset hb')) (hF.sep r' b (List.mem_append_right _ (frow ht hb)))
  ·rw [e'] at hb'; simp at hb'
  ·rw [e'] at hb'
   exact absurd ((g9 h hcs).2 b (e.subset hb)) (hF.sep r b (List.mem_append_left _ (farg hx' hb')))
  ·rw [e'] at hb'
   exact absurd ((g9 h hcs).2 b (e.subset hb)) (hF.sep r b (List.mem_append_right _ (frow ht' hb')))
  ·have e1 := h.dis r r' b ((g9 h hcs).2 b (e.subset hb)) ((g9 h hcs').2 b (e'.subset hb'))
   subst e1
   have l1 := List.getElem?_eq_some_iff.1 hi
   have l2 := List.getElem?_eq_some_iff.1 hi'
   obtain ⟨l1, l3⟩ := l1
   obtain ⟨l2, l4⟩ := l2
   rw [(List.getElem_inj hLn).1 (l3.trans l4.symm)]
  ·rw [e'] at hb'; simp at hb'
  ·rw [e] at hb; simp at hb
  ·rw [e] at hb; simp at hb
  ·rw [e] at hb; simp at hb
  ·rw [e] at hb; simp at hb
 case nd =>
  have hn := List.nodup_append.1 hF.nd
  intro k
  rcases src k with ⟨d, x, rfl, hx, e⟩ | ⟨j, t, rfl, ht, e⟩ | ⟨i, r, cs, rfl, hi, hcs, e⟩ | e
  ·rw [e]; exact zM9 hn.1 hx
  ·rw [e]; exact zM9 hn.2.1 ht
  ·exact e.nodup (g9 h hcs).1
  ·rw [e]; exact List.nodup_nil
 case lt => exact fun r b hb => hlt b (hB r b hb)
 case own => exact fun r b hb => .inl (hB r b hb)
 case notR =>
  intro r b hb hr
  rw [hR'] at hr
  exact hr.2 (hB r b hb)
 case PR =>
  intro t b ht
  cases t with
  | zero => exact ht.elim
  | succ t =>
   cases t with
   | zero => exact ht
   | succ t => exact hRR b (h.PR _ b ht)
 case ltR => intro b hb; rw [hR'] at hb; exact hb.1
 case frm => exact Frm.refl _ _
end
end Go.Proofs.YtlkjnlfddadlmaaGreatDoor.V
namespace Go.Proofs.YtlkjnlfddadlmaaGreatDoor.V
open Go.RowKit
mutual
def dnT {α : Type} : T α → T α
 | .sl a tag sz n cs => .sl a (tag - 1) sz n (zCz cs)
 | .int k n => .int k n
 | .bool b => .bool b
 | .str s => .str s
 | .dead a => .dead a
 | .nili => .nili
 | .ifc a => .ifc a
def zCz {α : Type} : List (T α) → List (T α)
 | [] => []
 | x :: xs => dnT x :: zCz xs
end
mutual
def dnC {α : Type} : C α → C α
 | .t x => .t (dnT x)
 | .fn g caps => .fn g (qS caps)
 | .ptr a r p off => .ptr a r p off
 | .bor a r p i off sz n => .bor a r p i off sz n
 | .rptr a cs => .rptr a cs
 | .nilp => .nilp
 | .nilf => .nilf
 | .lst a sz n cs => .lst a sz n cs
def qS {α : Type} : List (C α) → List (C α)
 | [] => []
 | c :: cs => dnC c :: qS cs
end
section
variable {α : Type}
theorem i7 : ∀ xs : List (T α), zCz xs = xs.map dnT
 | [] => rfl
 | x :: xs => by simp only [zCz, List.map_cons, i7 xs]
theorem sZ : ∀ xs : List (C α), qS xs = xs.map dnC
 | [] => rfl
 | x :: xs => by simp only [qS, List.map_cons, sZ xs]
mutual
theorem zMz : ∀ {x y : T α}, down x = some y → y = dnT x
 | .sl a tag sz n cs, y, h => by
  simp only [down] at h
  split at h
  ·cases h
  ·cases hd : qL cs with
   | none => simp [hd] at h
   | some ds =>
    simp only [hd, Option.map_some, Option.some.injEq] at h
    subst h
    simp only [dnT, zHe hd]
 | .int _ _, y, h => by simp only [down, Option.some.injEq] at h; subst h; rfl
 | .bool _, y, h => by simp only [down, Option.some.injEq] at h; subst h; rfl
 | .str _, y, h => by simp only [down, Option.some.injEq] at h; subst h; rfl
 | .dead _, y, h => by simp only [down, Option.some.injEq] at h; subst h; rfl
 | .nili, y, h => by simp only [down, Option.some.injEq] at h; subst h; rfl
 | .ifc _, y, h => by simp only [down, Option.some.injEq] at h; subst h; rfl
theorem zHe : ∀ {xs ys : List (T α)}, qL xs = some ys → ys = zCz xs
 | [], ys, h => by simp only [qL, Option.some.injEq] at h; subst h; rfl
 | x :: xs, ys, h => by
  simp only [qL] at h
  cases h1 : down x with
  | none => simp [h1] at h
  | some y =>
   cases h2 : qL xs with
   | none => simp [h1, h2] at h
   | some zs =>
    simp only [h1, h2, Option.bind_some, Option.map_some, Option.some.injEq] at h
    subst h
    simp only [zCz, zMz h1, zHe h2]
end
theorem zTj : ∀ {p : List Nat} {cs ds : List (T α)}, sub cs p = some ds → sub (zCz cs) p = some (zCz ds)
 | [], cs, ds, h => by simp only [sub, Option.some.injEq] at h; subst h; rfl
 | i :: p, cs, ds, h => by
  simp only [sub] at h ⊢
  rw [i7, List.getElem?_map]
  cases hi : cs[i]? with
  | none => rw [hi] at h; cases h
  | some x =>
   rw [hi] at h
   simp only [Option.map_some]
   cases x with
   | sl a tag sz n es =>
    cases tag with
    | zero => simp only [dnT, Nat.zero_sub]; exact zTj h
    | succ g => cases h
   | _ => cases h
theorem nF (L : List Root) (k : Nat) : ∀ cs : List (C α), xY L k cs = cs.map (qO L k)
 | [] => rfl
 | c :: cs => by simp only [xY, List.map_cons, nF L k cs]
theorem out_t (L : List Root) (k : Nat) (ts : List (T α)) : xY L k (qS (ts.map .t)) = (zCz ts).map .t := by
 rw [nF, sZ, i7]
 simp only [List.map_map]
 apply List.map_congr_left
 intro x _
 rfl
theorem zTh (L : List Root) (k : Nat) {cs ds : List (C α)} {p : List Nat} (h : y9 cs p = some ds) : y9 (xY L k (qS cs)) p = some (xY L k (qS ds)) := by
 cases p with
 | nil => simp only [y9, Option.some.injEq] at h; subst h; rfl
 | cons i p =>
  simp only [y9] at h ⊢
  rw [nF, sZ, List.getElem?_map, List.getElem?_map]
  cases hi : cs[i]? with
  | none => rw [hi] at h; cases h
  | some c =>
   rw [hi] at h
   simp only [Option.map_some]
   cases c with
   | t x =>
    cases x with
    | sl a tag sz n es =>
     cases tag with
     | zero =>
      simp only [dnC, dnT, qO, Nat.zero_sub]
      simp only at h
      cases hs : sub es p with
      | none => rw [hs] at h; cases h
      | some gs =>
       rw [hs] at h
       simp only [Option.map_some, Option.some.injEq] at h
       subst h
       rw [zTj hs, Option.map_some, out_t]
     | succ g => cases h
    | _ => cases h
   | _ => cases h
end
section
variable {α β : Type} (g : α → β)
mutual
theorem zIm (L : List Root) (k : Nat) : ∀ c : C α, qO L k (zI g c) = zI g (qO L k c)
 | .t x => by simp only [qO, zI]
 | .ptr a (.ex j) p off => by simp only [qO, zI]; cases jP L k j <;> simp only [zI, yA]
 | .ptr a (.sl d) p off => by simp only [qO, zI, yA]
 | .bor a (.ex j) p i off sz n => by simp only [qO, zI]; cases jP L k j <;> simp only [zI, yA]
 | .bor a (.sl d) p i off sz n => by simp only [qO, zI, yA]
 | .fn f caps => by simp only [qO, zI, bA L k caps]
 | .rptr a cs => by simp only [qO, zI]
 | .nilp => rfl
 | .nilf => rfl
 | .lst a sz n cs => by simp only [qO, zI, yA]
theorem bA (L : List Root) (k : Nat) : ∀ cs : List (C α), xY L k (yY g cs) = yY g (xY L k cs)
 | [] => rfl
 | c :: cs => by simp only [xY, yY, zIm L k c, bA L k cs]
end
mutual
theorem zIp (L : List Root) (k : Nat) : ∀ x : X α, kQ L k (zW g x) = zW g (kQ L k x)
 | .c x => by simp only [kQ, zW, zIm]
 | .agg cs => by simp only [kQ, zW, bA]
 | .box a cs => by simp only [kQ, zW, bA]
 | .tup xs => by simp only [kQ, zW, zEe L k xs]
 | .undef => rfl
theorem zEe (L : List Root) (k : Nat) : ∀ xs : List (X α), uJ L k (wG g xs) = wG g (uJ L k xs)
 | [] => rfl
 | x :: xs => by simp only [uJ, wG, zIp L k x, zEe L k xs]
end
mutual
theorem zG7 (L : List Root) : ∀ c : C α, jV L (zI g c) = zI g (jV L c)
 | .t x => rfl
 | .ptr a r p off => by simp only [jV, zI]; split <;> simp only [zI, yA]
 | .bor a r p i off sz n => by simp only [jV, zI]; split <;> simp only [zI, yA]
 | .fn f caps => by simp only [jV, zI, u6 L caps]
 | .rptr a cs => rfl
 | .nilp => rfl
 | .nilf => rfl
 | .lst a sz n cs => by simp only [jV, zI, u6 L cs]
theorem u6 (L : List Root) : ∀ cs : List (C α), qR L (yY g cs) = yY g (qR L cs)
 | [] => rfl
 | c :: cs => by simp only [qR, yY, zG7 L c, u6 L cs]
end
mutual
theorem zHa (L : List Root) : ∀ x : X α, jL L (zW g x) = zW g (jL L x)
 | .c x => by simp only [jL, zW, zG7]
 | .agg cs => by simp only [jL, zW, u6]
 | .box a cs => by simp only [jL, zW, u6]
 | .tup xs => by simp only [jL, zW, zDg L xs]
 | .undef => rfl
theorem zDg (L : List Root) : ∀ xs : List (X α), vC L (wG g xs) = wG g (vC L xs)
 | [] => rfl
 | x :: xs => by simp only [vC, wG, zHa L x, zDg L xs]
end
theorem zRp {β γ : Type} (h : β → γ) (l : List β) (i : Nat) (d : β) : (l.map h).getD i (h d) = h (l.getD i d) := by
 simp only [List.getD_eq_getElem?_getD, List.getElem?_map]
 cases l[i]? <;> rfl
theorem oW {β γ : Type} (h : β → γ) (p : Nat → β → β) (q : Nat → γ → γ) (hpq : ∀ j x, q j (h x) = h (p j x)) : ∀ (l : List β) (j : Nat), wO q j (l.map h) = (wO p j l).map h
 | [], j => rfl
 | x :: l, j => by simp only [List.map_cons, wO, hpq, oW h p q hpq l (j + 1)]
theorem zO0 (L : List Root) (k : Nat) (es : List (List (C α))) (S : St α) : kY L k (es.map (yY g)) (jJ g S) = jJ g (kY L k es S) := by
 have e0 : ∀ i, (es.map (yY g)).getD i [] = yY g (es.getD i []) := fun i => zRp (yY g) es i []
 simp only [kY, jJ]
 congr 1
 ·funext d
  simp only [dZ]
  cases yZ L (.sl d) 0 with
  | some i =>
   simp only [e0, bA]
   rw [zR g (xY L k (es.getD i []))]
   exact zJl g _ _
  | none => exact zHa g L _
 ·refine oW (yY g) _ _ (fun j x => ?_) S.e 0
  simp only [zC8]
  cases yZ L (.ex j) 0 with
  | some i => simp only [e0, bA]
  | none => exact u6 g L _
end
theorem dH {β : Type} (g : Nat → β → β) : ∀ (l : List β) (j i : Nat), (wO g j l)[i]? = (l[i]?).map (g (j + i))
 | [], j, i => by simp [wO]
 | x :: l, j, 0 => by simp [wO]
 | x :: l, j, i + 1 => by
  simp only [wO, List.getElem?_cons_succ, dH g l (j + 1) i]
  congr 2
  omega
theorem m5 {β : Type} (g : Nat → β → β) : ∀ (l : List β) (j : Nat), (wO g j l).length = l.length
 | [], j => rfl
 | x :: l, j => by simp only [wO, List.length_cons, m5 g l (j + 1)]
section
variable {w w' : World} {P : Nat → Nat → Prop} {R R' : Nat → Prop} {S S' S2 : SV} {ea ea' : List EA} {L : List Root} {k : Nat}
mutual
theorem zWh (hR : ∀ b, R b → R' b) : ∀ {c : CV} {d : CU}, okC w (yR R' P) R' S ea c → qU (erC c) = some d → d = erC (dnC c) ∧ zJ (dnC c) = zJ c ∧ okC w P R S ea (dnC c) ∧ zP (dnC c) = zP c ∧ zF (dnC c) = zF c
 | .t x, d, h, hq => by
  simp only [erC, zI, qU, zAg] at hq
  cases hd : down x with
  | none => simp [hd] at hq
  | some y =>
   simp only [hd, Option.map_some, Option.some.injEq] at hq
   subst hq
   simp only [okC] at h
   obtain ⟨k1, k2, k3, _⟩ := zFd hR h hd
   have e := zMz hd
   subst e
   exact ⟨rfl, by simp only [dnC, zJ, k2], by simpa only [dnC, okC] using k1, by simp only [dnC, zP, k3], rfl⟩
 | .ptr v r p off, d, h, hq => by
  simp only [erC, zI, qU, Option.some.injEq] at hq
  subst hq
  exact ⟨rfl, rfl, by simpa only [dnC, okC] using h, rfl, rfl⟩
 | .bor v r p i off sz n, d, h, hq => by
  simp only [erC, zI, qU, Option.some.injEq] at hq
  subst hq
  exact ⟨rfl, rfl, by simpa only [dnC, okC] using h, rfl, rfl⟩
 | .rptr v cs, d, _, hq => by simp [erC, zI, qU] at hq
 | .fn g caps, d, h, hq => by
  simp only [erC, zI, qU] at hq
  simp only [okC] at h
  cases hd : xQ (yY er0 caps) with
  | none => simp [hd] at hq
  | some ds =>
   simp only [hd, Option.map_some, Option.some.injEq] at hq
   subst hq
   obtain ⟨k1, k2, k3, k4, k5⟩ := i6 hR h.1 hd
   subst k1
   exact ⟨rfl, by simp only [dnC, zJ, k2], by simp only [dnC, okC]; exact ⟨k3, by rw [k4]; exact h.2⟩, rfl, by simp only [dnC, zF, k5]⟩
 | .lst v sz n cs, d, _, hq => by simp [erC, zI, qU] at hq
 | .nilp, d, _, hq => by
  simp only [erC, zI, qU, Option.some.injEq] at hq
  subst hq
  exact ⟨rfl, rfl, by simp only [dnC, okC], rfl, rfl⟩
 | .nilf, d, _, hq => by
  simp only [erC, zI, qU, Option.some.injEq] at hq
  subst hq
  exact ⟨rfl, rfl, by simp only [dnC, okC], rfl, rfl⟩
theorem i6 (hR : ∀ b, R b → R' b) : ∀ {cs : List CV} {ds : List CU}, yF w (yR R' P) R' S ea cs → xQ (yY er0 cs) = some ds →
  ds = yY er0 (qS cs) ∧ yC (qS cs) = yC cs ∧ yF w P R S ea (qS cs) ∧ zH (qS cs) = zH cs ∧ zK (qS cs) = zK cs
 | [], ds, _, hq => by simp only [yY, xQ, Option.some.injEq] at hq; subst hq; exact ⟨rfl, rfl, by simp only [qS, yF], rfl, rfl⟩
 | c :: cs, ds, h, hq => by
  simp only [yY, xQ] at hq
  cases h1 : qU (zI er0 c) with
  | none => simp [h1] at hq
  | some d =>
   cases h2 : xQ (yY er0 cs) with
   | none => simp [h1, h2] at hq
   | some es =>
    simp only [h1, h2, Option.bind_some, Option.map_some, Option.some.injEq] at hq
    subst hq
    simp only [yF] at h
    obtain ⟨k1, k2, k3, k4, k5⟩ := zWh hR h.1 h1
    obtain ⟨l1, l2, l3, l4, l5⟩ := i6 hR h.2 h2
    subst k1 l1
    exact ⟨rfl, by simp only [qS, yC, k2, l2], by simp only [qS, yF]; exact ⟨k3, l3⟩, by simp only [qS, zH, k4, l4], by simp only [qS, zK, k5, l5]⟩
end
mutual
theorem zIl (L : List Root) (k : Nat) : ∀ c : CV, (zP (qO L k c)).Sublist (zP c)
 | .t x => by simp only [qO]; exact List.Sublist.refl _
 | .ptr a (.ex j) p off => by simp only [qO]; cases jP L k j <;> simp [zP, zU]
 | .ptr a (.sl d) p off => by simp [qO, zP, zU]
 | .bor a (.ex j) p i off sz n => by simp only [qO]; cases jP L k j <;> simp [zP, zU]
 | .bor a (.sl d) p i off sz n => by simp [qO, zP, zU]
 | .fn g caps => by simp [qO, zP]
 | .rptr a cs => by simp [qO, zP]
 | .nilp => by simp [qO, zP]
 | .nilf => by simp [qO, zP]
 | .lst a sz n cs => by simp [qO, zP, zU]
theorem fW (L : List Root) (k : Nat) : ∀ cs : List CV, (zH (xY L k cs)).Sublist (zH cs)
 | [] => by simp [xY, zH]
 | c :: cs => by
  simp only [xY, zH]
  exact (zIl L k c).append (fW L k cs)
end
structure Back (L : List Root) (k : Nat) (S' S2 : SV) (ea' ea : List EA) : Prop where
 ad : ∀ j r, jP L k j = some r → ∀ ad, rootAd S' ea' (.ex j) = some ad → rootAd S2 ea r = some ad
 pl : ∀ j r, jP L k j = some r → ∀ p i b sz m ds, at_ S' (.ex j) p i = some (.t (.sl b 0 sz m ds)) → ∃ ds', at_ S2 r p i = some (.t (.sl b 0 sz m ds')) ∧ ds'.length = ds.length
theorem Back.hdr (B : Back L k S' S2 ea' ea) {j : Nat} {r : Root} (hr : jP L k j = some r) {p : List Nat} {i : Nat} {v : Value} (h : k8 S' (.ex j) p i = some v) : k8 S2 r p i = some v := by
 simp only [k8] at h ⊢
 split at h
 ·next a sz n ds he =>
  obtain ⟨ds', h1, _⟩ := B.pl j r hr p i a sz n ds he
  rw [h1]; exact h
 ·cases h
theorem Back.place (B : Back L k S' S2 ea' ea) {j : Nat} {r : Root} (hr : jP L k j = some r) {p : List Nat} {ad : Addr} (h : yV S' ea' (.ex j) p = some ad) : yV S2 ea r p = some ad := by
 simp only [yV] at h ⊢
 split at h
 ·next hp => rw [if_pos hp]; exact B.ad j r hr ad h
 ·next hp =>
  rw [if_neg hp]
  split at h
  ·next ad' n c he => rw [B.hdr hr he]; exact h
  ·cases h
mutual
theorem zNz (B : Back L k S' S2 ea' ea) : ∀ {c : CV}, okC w P R S' ea' c → okC w P R S2 ea (qO L k c)
 | .t x, h => by simpa only [okC, qO] using h
 | .ptr a (.ex j) p off, h => by
  simp only [okC] at h
  obtain ⟨ad, h1, rfl⟩ := h
  simp only [qO]
  cases hj : jP L k j with
  | some r => simp only [okC]; exact ⟨ad, B.place hj h1, rfl⟩
  | none => simp only [okC, okT]; exact .inr ⟨_, rfl⟩
 | .ptr a (.sl d) p off, h => by
  simp only [okC] at h
  obtain ⟨ad, h1, rfl⟩ := h
  simp only [qO, okC, okT]; exact .inr ⟨_, rfl⟩
 | .bor a (.ex j) p i off sz n, h => by
  simp only [okC] at h
  simp only [qO]
  cases hj : jP L k j with
  | some r =>
   simp only [okC]
   obtain ⟨b, m, ds, h1, h2, h3⟩ := h
   obtain ⟨ds', h4, h5⟩ := B.pl j r hj p i b sz m ds h1
   exact ⟨b, m, ds', h4, by rw [h5]; exact h2, h3⟩
  | none => simp only [okC, okT]; exact .inl (sR h)
 | .bor a (.sl d) p i off sz n, h => by
  simp only [okC] at h
  simp only [qO, okC, okT]; exact .inl (sR h)
 | .fn g caps, h => by
  simp only [okC, qO] at h ⊢
  refine ⟨nG B h.1, ?_⟩
  have := fW L k caps
  rw [h.2] at this
  exact List.sublist_nil.1 this
 | .rptr a cs, h => by simpa only [okC, qO] using h
 | .nilp, _ => by simp only [qO, okC]
 | .nilf, _ => by simp only [qO, okC]
 | .lst a sz n cs, h => by
  simp only [okC] at h
  simp only [qO, okC, okT]
  exact .inl h.2.2.slice
theorem nG (B : Back L k S' S2 ea' ea) : ∀ {cs : List CV}, yF w P R S' ea' cs → yF w P R S2 ea (xY L k cs)
 | [], _ => by simp only [xY, yF]
 | c :: cs, h => by
  simp only [yF] at h
  simp only [xY, yF]
  exact ⟨zNz B h.1, nG B h.2⟩
end
mutual
theorem zIn (L : List Root) (k : Nat) : ∀ c : CV, zJ (qO L k c) = zJ c
 | .t x => rfl
 | .ptr a (.ex j) p off => by simp only [qO]; cases jP L k j <;> rfl
 | .ptr a (.sl d) p off => rfl
 | .bor a (.ex j) p i off sz n => by simp only [qO]; cases jP L k j <;> rfl
 | .bor a (.sl d) p i off sz n => rfl
 | .fn g caps => by simp only [qO, zJ, gJ L k caps]
 | .rptr a cs => rfl
 | .nilp => rfl
 | .nilf => rfl
 | .lst a sz n cs => rfl
theorem gJ (L : List Root) (k : Nat) : ∀ cs : List CV, yC (xY L k cs) = yC cs
 | [] => rfl
 | c :: cs => by simp only [xY, yC, zIn L k c, gJ L k cs]
end
theorem zCa {j : Nat} {r : Root} (h : jP L k j = some r) : r ∈ L := by
 simp only [jP] at h
 split at h
 ·exact List.mem_of_getElem? h
 ·cases h
mutual
theorem zEb (L : List Root) (k : Nat) : ∀ c : CV, ∀ r ∈ zF (qO L k c), r ∈ L
 | .t x, r, h => by simp [qO, zF] at h
 | .ptr a (.ex j) p off, r, h => by
  simp only [qO] at h
  cases hj : jP L k j with
  | some q => simp only [hj, zF, List.mem_singleton] at h; subst h; exact zCa hj
  | none => simp [hj, zF] at h
 | .ptr a (.sl d) p off, r, h => by simp [qO, zF] at h
 | .bor a (.ex j) p i off sz n, r, h => by
  simp only [qO] at h
  cases hj : jP L k j with
  | some q => simp only [hj, zF, List.mem_singleton] at h; subst h; exact zCa hj
  | none => simp [hj, zF] at h
 | .bor a (.sl d) p i off sz n, r, h => by simp [qO, zF] at h
 | .fn g caps, r, h => by simp only [qO, zF] at h; exact gI L k caps r h
 | .rptr a cs, r, h => by simp [qO, zF] at h
 | .nilp, r, h => by simp [qO, zF] at h
 | .nilf, r, h => by simp [qO, zF] at h
 | .lst a sz n cs, r, h => by simp [qO, zF] at h
theorem gI (L : List Root) (k : Nat) : ∀ cs : List CV, ∀ r ∈ zK (xY L k cs), r ∈ L
 | [], r, h => by simp [xY, zK] at h
 | c :: cs, r, h => by
  simp only [xY, zK, List.mem_append] at h
  exact h.elim (zEb L k c r) (gI L k cs r)
end
mutual
theorem zIq (L : List Root) (k : Nat) : ∀ x : XV, zQ (kQ L k x) = zQ x
 | .c x => by simp only [kQ, zQ, zIn]
 | .agg cs => by simp only [kQ, zQ, gJ]
 | .box a cs => rfl
 | .tup xs => by simp only [kQ, zQ, zEf L k xs]
 | .undef => rfl
theorem zEf (L : List Root) (k : Nat) : ∀ xs : List XV, jF (uJ L k xs) = jF xs
 | [] => rfl
 | x :: xs => by simp only [uJ, jF, zIq L k x, zEf L k xs]
end
mutual
theorem zIo (L : List Root) (k : Nat) : ∀ x : XV, (zE (kQ L k x)).Sublist (zE x)
 | .c x => by simp only [kQ, zE]; exact zIl L k x
 | .agg cs => by simp only [kQ, zE]; exact fW L k cs
 | .box a cs => by simp only [kQ, zE]; exact (List.Sublist.refl _).append (fW L k cs)
 | .tup xs => by simp only [kQ, zE]; exact zEd L k xs
 | .undef => by simp [kQ, zE]
theorem zEd (L : List Root) (k : Nat) : ∀ xs : List XV, (xA (uJ L k xs)).Sublist (xA xs)
 | [] => by simp [uJ, xA]
 | x :: xs => by
  simp only [uJ, xA]
  exact (zIo L k x).append (zEd L k xs)
end
mutual
theorem zEc (L : List Root) (k : Nat) : ∀ x : XV, ∀ r ∈ zD (kQ L k x), r ∈ L
 | .c x, r, h => by simp only [kQ, zD] at h; exact zEb L k x r h
 | .agg cs, r, h => by simp only [kQ, zD] at h; exact gI L k cs r h
 | .box a cs, r, h => by simp only [kQ, zD] at h; exact gI L k cs r h
 | .tup xs, r, h => by simp only [kQ, zD] at h; exact zBv L k xs r h
 | .undef, r, h => by simp [kQ, zD] at h
theorem zBv (L : List Root) (k : Nat) : ∀ xs : List XV, ∀ r ∈ yN (uJ L k xs), r ∈ L
 | [], r, h => by simp [uJ, yN] at h
 | x :: xs, r, h => by
  simp only [uJ, yN, List.mem_append] at h
  exact h.elim (zEc L k x r) (zBv L k xs r)
end
mutual
theorem zN0 (B : Back L k S' S2 ea' ea) : ∀ {x : XV}, okX w P R S' ea' x → okX w P R S2 ea (kQ L k x)
 | .c x, h => by simp only [okX, kQ] at h ⊢; exact zNz B h
 | .agg cs, h => by simp only [okX, kQ] at h ⊢; exact nG B h
 | .box a cs, h => by
  simp only [okX, kQ] at h ⊢
  obtain ⟨h1, ad, rfl, h2, h3, cur, e, h4, h5⟩ := h
  exact ⟨nG B h1, ad, rfl, h2, h3, cur, e, h4, by rw [gJ]; exact h5⟩
 | .tup xs, h => by simp only [okX, kQ] at h ⊢; exact zIr B h
 | .undef, _ => by simp only [kQ, okX]
theorem zIr (B : Back L k S' S2 ea' ea) : ∀ {xs : List XV}, xR w P R S' ea' xs → xR w P R S2 ea (uJ L k xs)
 | [], _ => by simp only [uJ, xR]
 | x :: xs, h => by
  simp only [xR] at h
  simp only [uJ, xR]
  exact ⟨zN0 B h.1, zIr B h.2⟩
end
mutual
theorem zG8 (L : List Root) : ∀ c : CV, zJ (jV L c) = zJ c
 | .t x => rfl
 | .ptr a r p off => by simp only [jV]; split <;> rfl
 | .bor a r p i off sz n => by simp only [jV]; split <;> rfl
 | .fn g caps => by simp only [jV, zJ, v8 L caps]
 | .rptr a cs => rfl
 | .nilp => rfl
 | .nilf => rfl
 | .lst a sz n cs => rfl
theorem v8 (L : List Root) : ∀ cs : List CV, yC (qR L cs) = yC cs
 | [] => rfl
 | c :: cs => by simp only [qR, yC, zG8 L c, v8 L cs]
end
mutual
theorem zHb (L : List Root) : ∀ x : XV, zQ (jL L x) = zQ x
 | .c x => by simp only [jL, zQ, zG8]
 | .agg cs => by simp only [jL, zQ, v8]
 | .box a cs => rfl
 | .tup xs => by simp only [jL, zQ, zDh L xs]
 | .undef => rfl
theorem zDh (L : List Root) : ∀ xs : List XV, jF (vC L xs) = jF xs
 | [] => rfl
 | x :: xs => by simp only [vC, jF, zHb L x, zDh L xs]
end
mutual
theorem zG6 (L : List Root) : ∀ c : CV, zP (jV L c) = zP c
 | .t x => rfl
 | .ptr a r p off => by simp only [jV]; split <;> simp [zP, zU]
 | .bor a r p i off sz n => by simp only [jV]; split <;> simp [zP, zU]
 | .fn g caps => by simp only [jV, zP]
 | .rptr a cs => rfl
 | .nilp => rfl
 | .nilf => rfl
 | .lst a sz n cs => by simp only [jV, zP, uZ L cs]
theorem uZ (L : List Root) : ∀ cs : List CV, zH (qR L cs) = zH cs
 | [] => rfl
 | c :: cs => by simp only [qR, zH, zG6 L c, uZ L cs]
end
mutual
theorem zG9 (L : List Root) : ∀ x : XV, zE (jL L x) = zE x
 | .c x => by simp only [jL, zE, zG6]
 | .agg cs => by simp only [jL, zE, uZ]
 | .box a cs => by simp only [jL, zE, uZ]
 | .tup xs => by simp only [jL, zE, zDf L xs]
 | .undef => rfl
theorem zDf (L : List Root) : ∀ xs : List XV, xA (vC L xs) = xA xs
 | [] => rfl
 | x :: xs => by simp only [vC, xA, zG9 L x, zDf L xs]
end
mutual
theorem zDd (L : List Root) : ∀ c : CV, ∀ r ∈ zF (jV L c), r ∈ zF c
 | .t x, r, h => h
 | .ptr a q p off, r, h => by
  simp only [jV] at h
  split at h
  ·simp [zF] at h
  ·exact h
 | .bor a q p i off sz n, r, h => by
  simp only [jV] at h
  split at h
  ·simp [zF] at h
  ·exact h
 | .fn g caps, r, h => by simp only [jV, zF] at h ⊢; exact v7 L caps r h
 | .rptr a cs, r, h => h
 | .nilp, r, h => h
 | .nilf, r, h => h
 | .lst a sz n cs, r, h => by simp only [jV, zF] at h ⊢; exact v7 L cs r h
theorem v7 (L : List Root) : ∀ cs : List CV, ∀ r ∈ zK (qR L cs), r ∈ zK cs
 | [], r, h => h
 | c :: cs, r, h => by
  simp only [qR, zK, List.mem_append] at h ⊢
  exact h.imp (zDd L c r) (v7 L cs r)
end
mutual
theorem zDe (L : List Root) : ∀ x : XV, ∀ r ∈ zD (jL L x), r ∈ zD x
 | .c x, r, h => by simp only [jL, zD] at h ⊢; exact zDd L x r h
 | .agg cs, r, h => by simp only [jL, zD] at h ⊢; exact v7 L cs r h
 | .box a cs, r, h => by simp only [jL, zD] at h ⊢; exact v7 L cs r h
 | .tup xs, r, h => by simp only [jL, zD] at h ⊢; exact zAb L xs r h
 | .undef, r, h => h
theorem zAb (L : List Root) : ∀ xs : List XV, ∀ r ∈ yN (vC L xs), r ∈ yN xs
 | [], r, h => h
 | x :: xs, r, h => by
  simp only [vC, yN, List.mem_append] at h ⊢
  exact h.imp (zDe L x r) (zAb L xs r)
end
theorem gZ {α : Type} (L : List Root) : ∀ cs : List (C α), qR L cs = cs.map (jV L)
 | [] => rfl
 | c :: cs => by simp only [qR, List.map_cons, gZ L cs]
theorem fM {α : Type} (L : List Root) : ∀ xs : List (X α), zT (vC L xs) = qR L (zT xs)
 | [] => rfl
 | .c x :: xs => by simp only [vC, jL, zT, qR, fM L xs]
 | .agg cs :: xs => by simp only [vC, jL, zT, fM L xs, gZ, List.map_append]
 | .box a cs :: xs => by simp only [vC, jL, zT, fM L xs]
 | .tup ys :: xs => by simp only [vC, jL, zT, fM L xs]
 | .undef :: xs => by simp only [vC, jL, zT, fM L xs]
theorem zDi (L : List Root) (x : XV) : cellsOf (jL L x) = (cellsOf x).map (qR L) := by
 cases x with
 | c x => rfl
 | agg cs => rfl
 | box a cs => rfl
 | tup xs => simp only [jL, cellsOf, fM, Option.map_some]
 | undef => rfl
theorem zJv (L : List Root) {cs ds : List CV} {p : List Nat} (h : y9 cs p = some ds) : y9 (qR L cs) p = some (qR L ds) := by
 cases p with
 | nil => simp only [y9, Option.some.injEq] at h; subst h; rfl
 | cons i p =>
  simp only [y9] at h ⊢
  rw [gZ, List.getElem?_map]
  cases hi : cs[i]? with
  | none => rw [hi] at h; cases h
  | some c =>
   rw [hi] at h
   simp only [Option.map_some]
   cases c with
   | t x =>
    simp only [jV]
    cases x with
    | sl a tag sz n es =>
     cases tag with
     | zero =>
      simp only at h ⊢
      rw [h, Option.some.injEq]
      cases hs : sub es p with
      | none => rw [hs] at h; cases h
      | some gs =>
       rw [hs] at h
       simp only [Option.map_some, Option.some.injEq] at h
       subst h
       rw [gZ, List.map_map]
       apply List.map_congr_left
       intro x _
       rfl
     | succ g => cases h
    | _ => cases h
   | _ => cases h
structure Cut (L : List Root) (S S2 : SV) (ea : List EA) : Prop where
 ad : ∀ r, rootAd S2 ea r = rootAd S ea r
 pl : ∀ r, r ∉ L → ∀ p i b sz m ds, at_ S r p i = some (.t (.sl b 0 sz m ds)) → at_ S2 r p i = some (.t (.sl b 0 sz m ds))
theorem Cut.place (B : Cut L S S2 ea) {r : Root} {p : List Nat} (hr : r ∉ L ∨ p = []) {ad : Addr} (h : yV S ea r p = some ad) : yV S2 ea r p = some ad := by
 simp only [yV] at h ⊢
 split at h
 ·next hp => rw [if_pos hp, B.ad]; exact h
 ·next hp =>
  rw [if_neg hp]
  have hr := hr.resolve_right hp
  split at h
  ·next ad' n c he =>
   simp only [k8] at he
   split at he
   ·next a sz n ds hat =>
    simp only [k8, B.pl r hr _ _ _ _ _ _ hat]
    simp only [Option.some.injEq] at he
    subst he
    exact h
   ·cases he
  ·cases h
mutual
theorem zMv (B : Cut L S S2 ea) : ∀ {c : CV}, okC w P R S ea c → okC w P R S2 ea (jV L c)
 | .t x, h => by simpa only [okC, jV] using h
 | .ptr a r p off, h => by
  simp only [okC] at h
  obtain ⟨ad, h1, rfl⟩ := h
  simp only [jV]
  split
  ·simp only [okC, okT]; exact .inr ⟨_, rfl⟩
  ·next hc =>
   simp only [okC]
   refine ⟨ad, B.place ?_ h1, rfl⟩
   simp only [Bool.and_eq_true, List.contains_iff_mem, not_and, Bool.not_eq_true, Bool.not_eq_false', List.isEmpty_iff] at hc
   by_cases hr : r ∈ L
   ·exact .inr (hc hr)
   ·exact .inl hr
 | .bor a r p i off sz n, h => by
  simp only [okC] at h
  simp only [jV]
  split
  ·simp only [okC, okT]; exact .inl (sR h)
  ·next hc =>
   simp only [okC]
   obtain ⟨b, m, ds, h1, h2, h3⟩ := h
   exact ⟨b, m, ds, B.pl r (by simpa using hc) _ _ _ _ _ _ h1, h2, h3⟩
 | .fn g caps, h => by
  simp only [okC, jV] at h ⊢
  exact ⟨fB B h.1, by rw [uZ]; exact h.2⟩
 | .rptr a cs, h => by simpa only [okC, jV] using h
 | .nilp, _ => by simp only [jV, okC]
 | .nilf, _ => by simp only [jV, okC]
 | .lst a sz n cs, h => by
  simp only [okC, jV] at h ⊢
  exact ⟨by rw [gZ, List.length_map]; exact h.1, fB B h.2.1, by rw [v8]; exact h.2.2⟩
theorem fB (B : Cut L S S2 ea) : ∀ {cs : List CV}, yF w P R S ea cs → yF w P R S2 ea (qR L cs)
 | [], _ => by simp only [qR, yF]
 | c :: cs, h => by
  simp only [yF] at h
  simp only [qR, yF]
  exact ⟨zMv B h.1, fB B h.2⟩
end
mutual
theorem zMw (B : Cut L S S2 ea) : ∀ {x : XV}, okX w P R S ea x → okX w P R S2 ea (jL L x)
 | .c x, h => by simp only [okX, jL] at h ⊢; exact zMv B h
 | .agg cs, h => by simp only [okX, jL] at h ⊢; exact fB B h
 | .box a cs, h => by
  simp only [okX, jL] at h ⊢
  obtain ⟨h1, ad, rfl, h2, h3, cur, e, h4, h5⟩ := h
  exact ⟨fB B h1, ad, rfl, h2, h3, cur, e, h4, by rw [v8]; exact h5⟩
 | .tup xs, h => by simp only [okX, jL] at h ⊢; exact zHc B h
 | .undef, _ => by simp only [jL, okX]
theorem zHc (B : Cut L S S2 ea) : ∀ {xs : List XV}, xR w P R S ea xs → xR w P R S2 ea (vC L xs)
 | [], _ => by simp only [vC, xR]
 | x :: xs, h => by
  simp only [xR] at h
  simp only [vC, xR]
  exact ⟨zMw B h.1, zHc B h.2⟩
end
end
end Go.Proofs.YtlkjnlfddadlmaaGreatDoor.V
namespace Go.Proofs.YtlkjnlfddadlmaaGreatDoor.V
open Go.RowKit
theorem zBn : ∀ {L : List Root}, zBm L = true → L.Nodup
 | [], _ => List.nodup_nil
 | r :: L, h => by
  simp only [zBm, Bool.and_eq_true, Bool.not_eq_true', List.contains_eq_mem, decide_eq_false_iff_not] at h
  exact List.nodup_cons.2 ⟨h.1, zBn h.2⟩
theorem o8 {L : List Root} (hn : L.Nodup) {i : Nat} {r : Root} (hi : L[i]? = some r) : yZ L r 0 = some i := by
 cases h : yZ L r 0 with
 | none => exact absurd (List.mem_of_getElem? hi) (l0 h)
 | some j =>
  obtain ⟨_, h2⟩ := kR h
  rw [Nat.sub_zero] at h2
  obtain ⟨l1, e1⟩ := List.getElem?_eq_some_iff.1 hi
  obtain ⟨l2, e2⟩ := List.getElem?_eq_some_iff.1 h2
  rw [(List.getElem_inj hn).1 (e1.trans e2.symm)]
theorem rY {L : List Root} {i : Nat} {r : Root} (h : yZ L r 0 = some i) : L[i]? = some r := by
 obtain ⟨_, h2⟩ := kR h
 rwa [Nat.sub_zero] at h2
theorem zAr {α : Type} {f : α → List Nat} : ∀ {l : List α}, (∀ x ∈ l, (f x).Nodup) → (∀ (i j : Nat) x y b, l[i]? = some x → l[j]? = some y → b ∈ f x → b ∈ f y → i = j) → (l.flatMap f).Nodup
 | [], _, _ => by simp
 | a :: l, h1, h2 => by
  rw [List.flatMap_cons, List.nodup_append]
  refine ⟨h1 a List.mem_cons_self, zAr (fun x hx => h1 x (List.mem_cons_of_mem _ hx)) (fun i j x y b hi hj hx hy => ?_), fun b hb b' hb' e => ?_⟩
  ·have := h2 (i + 1) (j + 1) x y b (by simpa using hi) (by simpa using hj) hx hy
   omega
  ·subst e
   obtain ⟨y, hy, hb'⟩ := List.mem_flatMap.1 hb'
   obtain ⟨j, hj⟩ := List.getElem?_of_mem hy
   have := h2 0 (j + 1) a y b rfl (by simpa using hj) hb hb'
   omega
structure HB (isv : Nat → Bool) (w0 : World) (E0 : Nat → Prop) (P : Nat → Nat → Prop) (R R' : Nat → Prop) (ea : List EA) (w w' : World) (S : SV) (tmps : Array Value) (L : List Root) (rows : List TV) (args : List XV) (res : XV) (ext : List (List CV)) : Prop where
 h : Rel isv w0 E0 P R ea w S tmps
 Ln : L.Nodup
 Lr : ∀ r ∈ L, ∃ cs, zA S r = some cs
 tup : ∀ d, Root.sl d ∈ L → zNf (S.s d) = false
 Lv : ∀ d, Root.sl d ∈ L → isv d = true
 F : Bk w0 E0 R ea w S (args.flatMap zE ++ rows.flatMap zU)
 R'_ : R' = fun b => b < w.heap.size ∧ ¬ inB S ea L rows args b
 o : Out w (inB S ea L rows args) (yR R' P) R' (wX S ea L rows) w' res ext
 len : ∀ (i : Nat) r cs e, L[i]? = some r → zA S r = some cs → ext[rows.length + i]? = some e → e.length = cs.length
 dn : ∀ (j : Nat) e, ext[j]? = some e → ∃ d, xQ (yY er0 e) = some d
abbrev uM (res : XV) (ext : List (List CV)) : SV := ⟨upd (fun _ => .undef) 0 res, ext⟩
abbrev qK (S : SV) (L : List Root) (k : Nat) (ext : List (List CV)) : SV := kY L k ((ext.drop k).map qS) S
section
variable {isv : Nat → Bool} {w0 : World} {E0 : Nat → Prop} {P : Nat → Nat → Prop} {R R' : Nat → Prop} {ea : List EA} {w w' : World} {S : SV} {tmps : Array Value} {L : List Root} {rows : List TV} {args : List XV} {res : XV} {ext : List (List CV)}
theorem HB.RR (H : HB isv w0 E0 P R R' ea w w' S tmps L rows args res ext) : ∀ b, R b → R' b := by
 intro b hb
 rw [H.R'_]
 refine ⟨H.h.ltR b hb, ?_⟩
 rintro (h1 | ⟨r, _, h1⟩)
 ·exact H.F.notR b h1 hb
 ·exact H.h.notR r b h1 hb
theorem HB.elen (H : HB isv w0 E0 P R R' ea w w' S tmps L rows args res ext) : ext.length = rows.length + L.length := by
 have := H.o.eaL
 simp only [wX, List.length_append, List.length_map] at this
 exact this.symm
theorem HB.cells (H : HB isv w0 E0 P R R' ea w w' S tmps L rows args res ext) {i : Nat} {r : Root} (hi : L[i]? = some r) :
  ∃ cs e, zA S r = some cs ∧ ext[rows.length + i]? = some e ∧ e.length = cs.length ∧ ((ext.drop rows.length).map qS).getD i [] = qS e := by
 obtain ⟨cs, hcs⟩ := H.Lr r (List.mem_of_getElem? hi)
 have hl := (List.getElem?_eq_some_iff.1 hi).1
 have he : ext[rows.length + i]? = some (ext[rows.length + i]'(by rw [H.elen]; omega)) := List.getElem?_eq_getElem (by rw [H.elen]; omega)
 refine ⟨cs, _, hcs, he, H.len i r cs _ hi hcs he, ?_⟩
 rw [List.getD_eq_getElem?_getD, List.getElem?_map, List.getElem?_drop, he]
 rfl
theorem HB.down (H : HB isv w0 E0 P R R' ea w w' S tmps L rows args res ext) {j : Nat} {e : List CV} (he : ext[j]? = some e) :
  yF w' P R (uM res ext) (wX S ea L rows) (qS e) ∧ yC (qS e) = yC e ∧ zH (qS e) = zH e ∧ zK (qS e) = zK e := by
 obtain ⟨d, hd⟩ := H.dn j e he
 obtain ⟨_, h2, h3, h4, h5⟩ := i6 H.RR (H.o.okE j e he).1 hd
 exact ⟨h3, h2, h4, h5⟩
theorem g0 {α : Type} (cs : List (C α)) : (qS cs).length = cs.length := by rw [sZ, List.length_map]
theorem uU {α : Type} (L : List Root) (k : Nat) (cs : List (C α)) : (xY L k cs).length = cs.length := by rw [nF, List.length_map]
theorem HB.root_in (H : HB isv w0 E0 P R R' ea w w' S tmps L rows args res ext) {i : Nat} {r : Root} (hi : L[i]? = some r) {e : List CV} (he : ext[rows.length + i]? = some e) :
  zA (qK S L rows.length ext) r = some (xY L rows.length (qS e)) := by
 obtain ⟨cs, e', h1, h2, h3, h4⟩ := H.cells hi
 rw [he, Option.some.injEq] at h2
 subst h2
 have hp := o8 H.Ln hi
 cases r with
 | sl d =>
  rw [yE] at h1 ⊢
  simp only [kY, dZ, hp, h4]
  exact sW h1 (by rw [uU, g0, h3])
 | ex j =>
  simp only [zA] at h1 ⊢
  simp only [kY, dH, h1, Option.map_some, Nat.zero_add, zC8, hp, h4]
theorem HB.root_out {r : Root} (hr : r ∉ L) : zA (qK S L rows.length ext) r = (zA S r).map (qR L) := by
 have hp : yZ L r 0 = none := by
  cases h : yZ L r 0 with
  | none => rfl
  | some i => exact absurd (List.mem_of_getElem? (rY h)) hr
 cases r with
 | sl d =>
  rw [yE, yE]
  simp only [kY, dZ, hp]
  exact zDi L _
 | ex j =>
  simp only [zA, kY, dH, Nat.zero_add]
  congr 1
  funext cs
  simp only [zC8, hp]
theorem HB.slot_in (H : HB isv w0 E0 P R R' ea w w' S tmps L rows args res ext) {i d : Nat} (hi : L[i]? = some (.sl d)) {e : List CV} (he : ext[rows.length + i]? = some e) :
  (qK S L rows.length ext).s d = x7 (S.s d) (xY L rows.length (qS e)) := by
 obtain ⟨cs, e', h1, h2, h3, h4⟩ := H.cells hi
 rw [he, Option.some.injEq] at h2
 subst h2
 simp only [kY, dZ, o8 H.Ln hi, h4]
theorem HB.slot_out {d : Nat} (hr : Root.sl d ∉ L) : (qK S L rows.length ext).s d = jL L (S.s d) := by
 have hp : yZ L (.sl d) 0 = none := by
  cases h : yZ L (.sl d) 0 with
  | none => rfl
  | some i => exact absurd (List.mem_of_getElem? (rY h)) hr
 simp only [kY, dZ, hp]
theorem HB.ex_in (H : HB isv w0 E0 P R R' ea w w' S tmps L rows args res ext) {i j : Nat} (hi : L[i]? = some (.ex j)) {e : List CV} (he : ext[rows.length + i]? = some e) :
  (qK S L rows.length ext).e[j]? = some (xY L rows.length (qS e)) := by
 have := H.root_in hi he
 exact this
theorem HB.ex_out {j : Nat} (hr : Root.ex j ∉ L) : (qK S L rows.length ext).e[j]? = (S.e[j]?).map (qR L) := HB.root_out (S := S) (rows := rows) (ext := ext) hr
theorem HB.sl_cases (H : HB isv w0 E0 P R R' ea w w' S tmps L rows args res ext) (r : Root) : r ∉ L ∨ ∃ (i : Nat) (cs e : List CV), L[i]? = some r ∧ zA S r = some cs ∧ ext[rows.length + i]? = some e ∧ e.length = cs.length := by
 by_cases hr : r ∈ L
 ·right
  obtain ⟨i, hi⟩ := List.getElem?_of_mem hr
  obtain ⟨cs, e, h1, h2, h3, _⟩ := H.cells hi
  exact ⟨i, cs, e, hi, h1, h2, h3⟩
 ·exact .inl hr
theorem HB.rootAd (H : HB isv w0 E0 P R R' ea w w' S tmps L rows args res ext) (r : Root) : rootAd (qK S L rows.length ext) ea r = rootAd S ea r := by
 cases r with
 | ex j => rfl
 | sl d =>
  rcases H.sl_cases (.sl d) with hr | ⟨i, cs, e, hi, hcs, he, hl⟩
  ·simp only [V.rootAd, HB.slot_out (S := S) (rows := rows) (ext := ext) hr]
   cases S.s d with
   | box a ys => cases a with
    | pointer o => cases o <;> rfl
    | _ => rfl
   | _ => rfl
  ·simp only [V.rootAd, H.slot_in hi he]
   have ht := H.tup d (List.mem_of_getElem? hi)
   cases hx : S.s d with
   | c x =>
    simp only [x7]
    generalize xY L rows.length (qS e) = l
    rcases l with _ | ⟨c, _ | ⟨c', l⟩⟩ <;> rfl
   | agg ys => rfl
   | box a ys => cases a with
    | pointer o => cases o <;> rfl
    | _ => rfl
   | tup ys => rw [hx] at ht; cases ht
   | undef => rfl
theorem HB.back (H : HB isv w0 E0 P R R' ea w w' S tmps L rows args res ext) : Back L rows.length (uM res ext) (qK S L rows.length ext) (wX S ea L rows) ea := by
 have key : ∀ j r, jP L rows.length j = some r → ∃ i, j = rows.length + i ∧ L[i]? = some r := by
  intro j r h
  simp only [jP] at h
  split at h
  ·next hk => exact ⟨j - rows.length, by omega, h⟩
  ·cases h
 refine ⟨fun j r hr ad had => ?_, fun j r hr p i b sz m ds hat => ?_⟩
 ·obtain ⟨i, rfl, hi⟩ := key j r hr
  rw [H.rootAd]
  simp only [V.rootAd, (vO (S := S) (ea := ea) (rows := rows) hi).2, Option.bind_some, n6] at had
  exact had
 ·obtain ⟨i', rfl, hi⟩ := key j r hr
  obtain ⟨cs, e, h1, h2, h3, h4⟩ := H.cells hi
  simp only [at_, zA, h2, Option.bind_some] at hat
  cases hs : y9 e p with
  | none => rw [hs] at hat; cases hat
  | some gs =>
   rw [hs] at hat
   simp only [Option.bind_some] at hat
   refine ⟨zCz ds, ?_, by rw [i7, List.length_map]⟩
   simp only [at_, H.root_in hi h2, Option.bind_some, zTh L rows.length hs]
   rw [nF, sZ, List.getElem?_map, List.getElem?_map, hat]
   rfl
theorem HB.cut (H : HB isv w0 E0 P R R' ea w w' S tmps L rows args res ext) : Cut L S (qK S L rows.length ext) ea := by
 refine ⟨H.rootAd, fun r hr p i b sz m ds hat => ?_⟩
 simp only [at_, HB.root_out (S := S) (rows := rows) (ext := ext) hr] at hat ⊢
 cases hc : zA S r with
 | none => rw [hc] at hat; cases hat
 | some cs =>
  rw [hc] at hat
  simp only [Option.map_some, Option.bind_some] at hat ⊢
  cases hs : y9 cs p with
  | none => rw [hs] at hat; cases hat
  | some gs =>
   rw [hs] at hat
   simp only [Option.bind_some] at hat
   rw [zJv L hs]
   simp only [Option.bind_some]
   rw [gZ, List.getElem?_map, hat]
   rfl
theorem HB.notIn (H : HB isv w0 E0 P R R' ea w w' S tmps L rows args res ext) {r : Root} (hr : r ∉ L) {b : Nat} (hb : b ∈ zL S ea r) : ¬ inB S ea L rows args b := by
 rintro (h1 | ⟨r', hr', h1⟩)
 ·exact H.F.sep r b h1 hb
 ·have := H.h.dis r r' b hb h1
  subst this; exact hr hr'
theorem HB.blk_out (H : HB isv w0 E0 P R R' ea w w' S tmps L rows args res ext) {r : Root} (hr : r ∉ L) : zL (qK S L rows.length ext) ea r = zL S ea r := by
 cases r with
 | sl d => simp only [zL, HB.slot_out (S := S) (rows := rows) (ext := ext) hr, zG9]
 | ex j =>
  simp only [zL, HB.ex_out (S := S) (rows := rows) (ext := ext) hr]
  cases S.e[j]? with
  | none => rfl
  | some cs => simp only [Option.map_some, uZ]
theorem HB.blk_in (H : HB isv w0 E0 P R R' ea w w' S tmps L rows args res ext) {i : Nat} {r : Root} (hi : L[i]? = some r) : (zL (qK S L rows.length ext) ea r).Sublist (zL (uM res ext) (wX S ea L rows) (.ex (rows.length + i))) := by
 obtain ⟨cs, e, h1, h2, h3, h4⟩ := H.cells hi
 obtain ⟨_, _, d3, _⟩ := H.down h2
 have hea := (vO (S := S) (ea := ea) (rows := rows) hi).2
 have hsub : (zH (xY L rows.length (qS e))).Sublist (zH e) := by rw [← d3]; exact fW L _ _
 have hT : zL (uM res ext) (wX S ea L rows) (.ex (rows.length + i)) = (match V.rootAd S ea r with | some ad => [ad.block] | none => []) ++ zH e := by
  simp only [zL, hea, Option.bind_some, n6, h2]
  cases V.rootAd S ea r <;> rfl
 rw [hT]
 cases r with
 | ex j =>
  simp only [zL, H.ex_in hi h2, V.rootAd]
  exact (List.Sublist.refl _).append hsub
 | sl d =>
  have ht := H.tup d (List.mem_of_getElem? hi)
  have hok := H.h.okS d
  simp only [zL, H.slot_in hi h2, V.rootAd]
  rw [yE] at h1
  have hl : (xY L rows.length (qS e)).length = cs.length := by rw [uU, g0, h3]
  cases hx : S.s d with
  | c x =>
   rw [hx] at h1
   simp only [cellsOf, Option.some.injEq] at h1
   subst h1
   revert hl hsub
   generalize xY L rows.length (qS e) = l
   intro hsub hl
   rcases l with _ | ⟨c, _ | ⟨c', l⟩⟩
   ·simp at hl
   ·simpa only [x7, zE, zH, List.append_nil, List.nil_append] using hsub
   ·simp at hl
  | agg ys => simpa only [x7, zE, List.nil_append] using hsub
  | box a ys =>
   rw [hx] at hok
   simp only [okX] at hok
   obtain ⟨_, ad, rfl, _⟩ := hok
   simp only [x7, zE, hdr]
   exact (List.Sublist.refl _).append hsub
  | tup ys => rw [hx] at ht; cases ht
  | undef => rw [hx] at h1; cases h1
theorem HB.own' (H : HB isv w0 E0 P R R' ea w w' S tmps L rows args res ext) {b : Nat} (h : inB S ea L rows args b ∨ w.heap.size ≤ b) : E0 b ∨ w0.heap.size ≤ b := by
 rcases h with (h | ⟨r, _, h⟩) | h
 ·exact H.F.own b h
 ·exact H.h.own r b h
 ·exact .inr (Nat.le_trans H.h.frm.size h)
theorem HB.notR' (H : HB isv w0 E0 P R R' ea w w' S tmps L rows args res ext) {b : Nat} (h : inB S ea L rows args b ∨ w.heap.size ≤ b) : ¬ R b := by
 intro hR
 rcases h with (h | ⟨r, _, h⟩) | h
 ·exact H.F.notR b h hR
 ·exact H.h.notR r b h hR
 ·have := H.h.ltR b hR; omega
theorem HB.sep' (H : HB isv w0 E0 P R R' ea w w' S tmps L rows args res ext) {r k : Root} (hr : r ∉ L) {b : Nat} (hb : b ∈ zL S ea r) (hb' : b ∈ zL (uM res ext) (wX S ea L rows) k) : False := by
 rcases H.o.own k b hb' with h1 | h1
 ·exact H.notIn hr hb h1
 ·have := H.h.lt r b hb; omega
theorem HB.same (H : HB isv w0 E0 P R R' ea w w' S tmps L rows args res ext) {b : Nat} (hb : b < w.heap.size) (hn : ¬ inB S ea L rows args b) : w'.heap[b]? = w.heap[b]? := H.o.frm.block b hb hn
theorem HB.sameR (H : HB isv w0 E0 P R R' ea w w' S tmps L rows args res ext) : ∀ b, R b → w'.heap[b]? = w.heap[b]? := by
 intro b hb
 have := H.RR b hb
 rw [H.R'_] at this
 exact H.same this.1 this.2
theorem HB.row_val (H : HB isv w0 E0 P R R' ea w w' S tmps L rows args res ext) {i : Nat} {r : Root} (hi : L[i]? = some r) {cs e : List CV} (hcs : zA S r = some cs) (he : ext[rows.length + i]? = some e) (hn : V.rootAd S ea r = none) : yC e = yC cs := by
 have hea := (vO (S := S) (ea := ea) (rows := rows) hi).2
 have : zKo S ea r = .row (yC cs) := by simp only [zKo, hn, hcs, Option.getD_some]
 rw [this] at hea
 exact H.o.row _ _ _ hea he
theorem HB.box (H : HB isv w0 E0 P R R' ea w w' S tmps L rows args res ext) {i : Nat} {r : Root} (hi : L[i]? = some r) {e : List CV} (he : ext[rows.length + i]? = some e) {ad : Addr} (had : V.rootAd S ea r = some ad) : vA w' ad (xY L rows.length (qS e)) := by
 have hea := (vO (S := S) (ea := ea) (rows := rows) hi).2
 have h1 := (H.o.okE _ _ he).2 ad (by rw [hea]; simp only [Option.bind_some, n6]; exact had)
 obtain ⟨h2, h3, cur, e', h4, h5⟩ := h1
 refine ⟨h2, h3, cur, e', h4, ?_⟩
 rw [h5, gJ, (H.down he).2.1]
theorem HB.outOk (H : HB isv w0 E0 P R R' ea w w' S tmps L rows args res ext) {j : Nat} {e : List CV} (he : ext[j]? = some e) : yF w' P R (qK S L rows.length ext) ea (xY L rows.length (qS e)) := nG H.back (H.down he).1
theorem HB.rel (H : HB isv w0 E0 P R R' ea w w' S tmps L rows args res ext) : Rel isv w0 E0 P R ea w' (qK S L rows.length ext) tmps := by
 have hsP : ∀ t b, P t b → w'.heap[b]? = w.heap[b]? := fun t b hb => H.sameR b (H.h.PR t b hb)
 constructor
 case val =>
  intro d hd
  rcases H.sl_cases (.sl d) with hr | ⟨i, cs, e, hi, hcs, he, hl⟩
  ·rw [HB.slot_out (S := S) (rows := rows) (ext := ext) hr, zHb]
   exact (H.h.val d hd).imp (fun e => by rw [e]; rfl) id
  ·rw [H.slot_in hi he]
   rcases H.h.val d hd with e' | e'
   ·rw [yE, e'] at hcs; cases hcs
   ·right
    rw [e']
    congr 1
    have ht := H.tup d (List.mem_of_getElem? hi)
    have hv : V.rootAd S ea (.sl d) = none → yC (xY L rows.length (qS e)) = yC cs := by
     intro hn
     rw [gJ, (H.down he).2.1]
     exact H.row_val hi hcs he hn
    rw [yE] at hcs
    cases hx : S.s d with
    | box a ys => simp only [x7, zQ]
    | undef => rw [hx] at hcs; cases hcs
    | tup ys => rw [hx] at ht; cases ht
    | c x =>
     have := nQ (x := S.s d) hcs (hv (by simp only [V.rootAd, hx]))
     rw [hx] at this
     exact this.symm
    | agg ys =>
     have := nQ (x := S.s d) hcs (hv (by simp only [V.rootAd, hx]))
     rw [hx] at this
     exact this.symm
 case hi =>
  intro d hd
  have hu := H.h.hi d hd
  rcases H.sl_cases (.sl d) with hr | ⟨i, cs, e, hi, hcs, he, hl⟩
  ·rw [HB.slot_out (S := S) (rows := rows) (ext := ext) hr, hu]; rfl
  ·rw [yE, hu] at hcs; cases hcs
 case okS =>
  intro d
  rcases H.sl_cases (.sl d) with hr | ⟨i, cs, e, hi, hcs, he, hl⟩
  ·rw [HB.slot_out (S := S) (rows := rows) (ext := ext) hr]
   refine zMw H.cut (jY hsP H.sameR (H.h.okS d) (fun b hb => H.same (H.h.lt (.sl d) b hb) (H.notIn hr hb)) (fun r _ => ⟨rfl, rfl⟩))
  ·rw [H.slot_in hi he]
   have hout := H.outOk he
   have hok := H.h.okS d
   have ht := H.tup d (List.mem_of_getElem? hi)
   have hbox : ∀ ad, V.rootAd S ea (.sl d) = some ad → vA w' ad (xY L rows.length (qS e)) := fun ad had => H.box hi he had
   have hl' : (xY L rows.length (qS e)).length = cs.length := by rw [uU, g0, hl]
   rw [yE] at hcs
   revert hout hbox hl'
   generalize xY L rows.length (qS e) = l
   intro hout hbox hl'
   cases hx : S.s d with
   | c x =>
    rw [hx] at hcs
    simp only [cellsOf, Option.some.injEq] at hcs
    subst hcs
    rcases l with _ | ⟨c, _ | ⟨c', l⟩⟩
    ·simp at hl'
    ·simp only [x7, okX]; simp only [yF, and_true] at hout; exact hout
    ·simp at hl'
   | agg ys => simp only [x7, okX]; exact hout
   | box a ys =>
    rw [hx] at hok
    simp only [okX] at hok
    obtain ⟨_, ad, rfl, _⟩ := hok
    simp only [x7, okX]
    exact ⟨hout, ad, rfl, hbox ad (by simp only [V.rootAd, hx])⟩
   | tup ys => rw [hx] at ht; cases ht
   | undef => rw [hx] at hcs; cases hcs
 case okE =>
  intro j cs' hj
  rcases H.sl_cases (.ex j) with hr | ⟨i, cs, e, hi, hcs, he, hl⟩
  ·rw [HB.ex_out (S := S) (rows := rows) (ext := ext) hr] at hj
   cases hc : S.e[j]? with
   | none => rw [hc] at hj; cases hj
   | some ds =>
    rw [hc] at hj
    simp only [Option.map_some, Option.some.injEq] at hj
    subst hj
    refine ⟨fB H.cut (qT hsP H.sameR (H.h.okE j ds hc).1 (fun b hb => H.same (H.h.lt (.ex j) b (rI hc hb)) (H.notIn hr (rI hc hb))) (fun r _ => ⟨rfl, rfl⟩)), fun ad had => ?_⟩
    have hb := (H.h.okE j ds hc).2 ad had
    have hb' := hb.same (w' := w') (H.same (H.h.lt (.ex j) _ (rH had)) (H.notIn hr (rH had)))
    obtain ⟨h2, h3, cur, e', h4, h5⟩ := hb'
    exact ⟨h2, h3, cur, e', h4, by rw [v8]; exact h5⟩
  ·rw [H.ex_in hi he, Option.some.injEq] at hj
   subst hj
   exact ⟨H.outOk he, fun ad had => H.box hi he had⟩
 case eaL => simp only [kY, m5]; exact H.h.eaL
 case row =>
  intro j vs cs' hea hj
  rcases H.sl_cases (.ex j) with hr | ⟨i, cs, e, hi, hcs, he, hl⟩
  ·rw [HB.ex_out (S := S) (rows := rows) (ext := ext) hr] at hj
   cases hc : S.e[j]? with
   | none => rw [hc] at hj; cases hj
   | some ds =>
    rw [hc] at hj
    simp only [Option.map_some, Option.some.injEq] at hj
    subst hj
    rw [v8]; exact H.h.row j vs ds hea hc
  ·rw [H.ex_in hi he, Option.some.injEq] at hj
   subst hj
   rw [gJ, (H.down he).2.1, H.row_val hi hcs he (by simp only [V.rootAd, hea, Option.bind_some, EA.ad])]
   exact H.h.row j vs cs hea hcs
 case refS =>
  intro d d' hd
  rcases H.sl_cases (.sl d) with hr | ⟨i, cs, e, hi, hcs, he, hl⟩
  ·rw [HB.slot_out (S := S) (rows := rows) (ext := ext) hr] at hd
   exact H.h.refS d d' (zDe L _ _ hd)
  ·rw [H.slot_in hi he] at hd
   have ht := H.tup d (List.mem_of_getElem? hi)
   have hl' : (xY L rows.length (qS e)).length = cs.length := by rw [uU, g0, hl]
   rw [yE] at hcs
   rcases pM hcs hl' _ hd with h1 | h1
   ·exact H.h.refS d d' h1
   ·exact H.Lv d' (gI L _ _ _ h1)
 case refE =>
  intro j cs' d' hj hd
  rcases H.sl_cases (.ex j) with hr | ⟨i, cs, e, hi, hcs, he, hl⟩
  ·rw [HB.ex_out (S := S) (rows := rows) (ext := ext) hr] at hj
   cases hc : S.e[j]? with
   | none => rw [hc] at hj; cases hj
   | some ds =>
    rw [hc] at hj
    simp only [Option.map_some, Option.some.injEq] at hj
    subst hj
    exact H.h.refE j ds d' hc (v7 L _ _ hd)
  ·rw [H.ex_in hi he, Option.some.injEq] at hj
   subst hj
   exact H.Lv d' (gI L _ _ _ hd)
 case dis =>
  intro r r' b hb hb'
  rcases H.sl_cases r with hr | ⟨i, cs, e, hi, hcs, he, hl⟩ <;> rcases H.sl_cases r' with hr' | ⟨i', cs', e', hi', hcs', he', hl'⟩
  ·rw [H.blk_out hr] at hb
   rw [H.blk_out hr'] at hb'
   exact H.h.dis r r' b hb hb'
  ·rw [H.blk_out hr] at hb
   exact (H.sep' hr hb ((H.blk_in hi').subset hb')).elim
  ·rw [H.blk_out hr'] at hb'
   exact (H.sep' hr' hb' ((H.blk_in hi).subset hb)).elim
  ·have := H.o.dis _ _ b ((H.blk_in hi).subset hb) ((H.blk_in hi').subset hb')
   simp only [Root.ex.injEq, Nat.add_left_cancel_iff] at this
   subst this
   rw [hi] at hi'
   exact Option.some.inj hi'
 case nd =>
  intro r
  rcases H.sl_cases r with hr | ⟨i, cs, e, hi, hcs, he, hl⟩
  ·rw [H.blk_out hr]; exact H.h.nd r
  ·exact (H.blk_in hi).nodup (H.o.nd _)
 case lt =>
  intro r b hb
  rcases H.sl_cases r with hr | ⟨i, cs, e, hi, hcs, he, hl⟩
  ·rw [H.blk_out hr] at hb; exact Nat.lt_of_lt_of_le (H.h.lt r b hb) H.o.frm.size
  ·exact H.o.lt _ b ((H.blk_in hi).subset hb)
 case own =>
  intro r b hb
  rcases H.sl_cases r with hr | ⟨i, cs, e, hi, hcs, he, hl⟩
  ·rw [H.blk_out hr] at hb; exact H.h.own r b hb
  ·exact H.own' (H.o.own _ b ((H.blk_in hi).subset hb))
 case notR =>
  intro r b hb
  rcases H.sl_cases r with hr | ⟨i, cs, e, hi, hcs, he, hl⟩
  ·rw [H.blk_out hr] at hb; exact H.h.notR r b hb
  ·exact H.notR' (H.o.own _ b ((H.blk_in hi).subset hb))
 case PR => exact H.h.PR
 case ltR => exact fun b hb => Nat.lt_of_lt_of_le (H.h.ltR b hb) H.o.frm.size
 case frm =>
  refine H.h.frm.trans (H.o.frm.mono fun b hb => ?_)
  exact H.own' (.inl hb)
theorem HB.bk (H : HB isv w0 E0 P R R' ea w w' S tmps L rows args res ext) : Bk w0 E0 R ea w' (qK S L rows.length ext) (zE res ++ (ext.take rows.length).flatMap zH) := by
 have src : ∀ b, b ∈ zE res ++ (ext.take rows.length).flatMap zH → ∃ k, b ∈ zL (uM res ext) (wX S ea L rows) k ∧ ∀ i, k ≠ .ex (rows.length + i) := by
  intro b hb
  rcases List.mem_append.1 hb with hb | hb
  ·exact ⟨.sl 0, by simpa [zL, upd] using hb, fun i => by simp⟩
  ·obtain ⟨e, he, hb⟩ := List.mem_flatMap.1 hb
   obtain ⟨j, hj⟩ := List.getElem?_of_mem he
   have hjl : j < rows.length := by
    have := (List.getElem?_eq_some_iff.1 hj).1
    simp only [List.length_take] at this
    omega
   rw [List.getElem?_take_of_lt hjl] at hj
   refine ⟨.ex j, ?_, fun i => by simp; omega⟩
   simp only [zL, hj]
   exact List.mem_append_right _ hb
 constructor
 ·rw [List.nodup_append]
  refine ⟨?_, ?_, ?_⟩
  ·have := H.o.nd (.sl 0)
   simpa [zL, upd] using this
  ·have hget : ∀ (j : Nat) e, (ext.take rows.length)[j]? = some e → ext[j]? = some e := by
    intro j e hj
    have hjl : j < rows.length := by
     have := (List.getElem?_eq_some_iff.1 hj).1
     simp only [List.length_take] at this
     omega
    rwa [List.getElem?_take_of_lt hjl] at hj
   refine zAr (fun e he => ?_) (fun i j x y b hi hj hx hy => ?_)
   ·obtain ⟨j, hj⟩ := List.getElem?_of_mem he
    have := H.o.nd (.ex j)
    simp only [zL, hget j e hj] at this
    exact (List.nodup_append.1 this).2.1
   ·have := H.o.dis (.ex i) (.ex j) b (by simp only [zL, hget i x hi]; exact List.mem_append_right _ hx) (by simp only [zL, hget j y hj]; exact List.mem_append_right _ hy)
    simpa using this
  ·intro b hb b' hb' e
   subst e
   obtain ⟨e, he, hb'⟩ := List.mem_flatMap.1 hb'
   obtain ⟨j, hj⟩ := List.getElem?_of_mem he
   have hjl : j < rows.length := by
    have := (List.getElem?_eq_some_iff.1 hj).1
    simp only [List.length_take] at this
    omega
   rw [List.getElem?_take_of_lt hjl] at hj
   have := H.o.dis (.sl 0) (.ex j) b (by simpa [zL, upd] using hb) (by simp only [zL, hj]; exact List.mem_append_right _ hb')
   cases this
 ·intro r b hb hb'
  obtain ⟨k, hk, hn⟩ := src b hb
  rcases H.sl_cases r with hr | ⟨i, cs, e, hi, hcs, he, hl⟩
  ·rw [H.blk_out hr] at hb'
   exact H.sep' hr hb' hk
  ·exact hn i (H.o.dis _ _ b hk ((H.blk_in hi).subset hb'))
 ·intro b hb
  obtain ⟨k, hk, _⟩ := src b hb
  exact H.o.lt k b hk
 ·intro b hb
  obtain ⟨k, hk, _⟩ := src b hb
  exact H.own' (H.o.own k b hk)
 ·intro b hb
  obtain ⟨k, hk, _⟩ := src b hb
  exact H.notR' (H.o.own k b hk)
theorem HB.result (H : HB isv w0 E0 P R R' ea w w' S tmps L rows args res ext) {y : XU} (hq : kZ (erX res) = some y) :
  ∃ yG, erX yG = kQ L rows.length y ∧ zQ yG = zQ res ∧ okX w' P R (qK S L rows.length ext) ea yG ∧ (∀ d', Root.sl d' ∈ zD yG → isv d' = true) ∧ (zE yG).Sublist (zE res) := by
 have hok : okX w' (yR R' P) R' (uM res ext) (wX S ea L rows) res := by
  have := H.o.okS 0
  simpa [upd] using this
 obtain ⟨yG, k1, k2, k3, k4, k5⟩ := zAf H.RR hok hq
 refine ⟨kQ L rows.length yG, ?_, by rw [zIq, k2], zN0 H.back k3, fun d' hd' => H.Lv d' (zEc L _ _ _ hd'), by rw [← k4]; exact zIo L _ _⟩
 rw [← k1]
 exact (zIp er0 L _ yG).symm
end
end Go.Proofs.YtlkjnlfddadlmaaGreatDoor.V
namespace Go.Proofs.YtlkjnlfddadlmaaGreatDoor.V
open Go.RowKit
section
variable {isv : Nat → Bool} {w0 : World} {E0 : Nat → Prop} {P : Nat → Nat → Prop} {R R' : Nat → Prop} {ea ea' : List EA} {w w' : World} {S S' : SV} {tmps : Array Value}
theorem zKt (h : Rel isv w0 E0 P R ea w S tmps) {x : XV} (hn : New isv w0 E0 P R ea w S x) {wr : Row} {c : CV} {rest : List Nat} (hc : okC w P R S' ea' c)
  (hv : ∀ u, at_ S wr.r wr.p wr.i = some (.t (.dead u)) → u = zJ c) (hb : Bk w0 E0 R ea w S (zE x ++ (zP c ++ rest))) {Su : SU} (hq : kM (V.erS S) wr [erC c] = some Su) :
  ∃ S2, V.erS S2 = Su ∧ Rel isv w0 E0 P R ea w S2 tmps ∧ New isv w0 E0 P R ea w S2 x ∧ Bk w0 E0 R ea w S2 (zE x ++ rest) ∧
   ∀ k q j u, ¬ (wr.r = k ∧ pre (wr.p ++ [wr.i]) (q ++ [j]) = true) → at_ S2 k q j = some (.t (.dead u)) → at_ S k q j = some (.t (.dead u)) := by
 have skip : Su = V.erS S → ∃ S2, V.erS S2 = Su ∧ Rel isv w0 E0 P R ea w S2 tmps ∧ New isv w0 E0 P R ea w S2 x ∧ Bk w0 E0 R ea w S2 (zE x ++ rest) ∧
   ∀ k q j u, ¬ (wr.r = k ∧ pre (wr.p ++ [wr.i]) (q ++ [j]) = true) → at_ S2 k q j = some (.t (.dead u)) → at_ S k q j = some (.t (.dead u)) := by
  rintro rfl
  exact ⟨S, rfl, h, hn, hb.sub ((List.Sublist.refl _).append (List.sublist_append_right _ _)), fun _ _ _ _ _ h => h⟩
 unfold kM at hq
 split at hq
 ·next b sz m ds he =>
  simp only [List.cons.injEq, and_true] at he
  obtain ⟨y, rfl, hy⟩ := k9 he
  have hat0 : at_ (V.erS S) wr.r wr.p wr.i = (at_ S wr.r wr.p wr.i).map erC := lN er0 S _ _ _
  rw [hat0] at hq
  cases hat : at_ S wr.r wr.p wr.i with
  | none => rw [hat] at hq; cases hq
  | some old =>
   rw [hat] at hq
   simp only [Option.map_some] at hq
   split at hq
   ·next z hz =>
    simp only [Option.some.injEq] at hz
    obtain ⟨yo, rfl, hyo⟩ := k9 hz
    have : ∃ u, yo = .dead u := by cases yo <;> simp [erT, yA] at hyo; exact ⟨_, rfl⟩
    obtain ⟨u, rfl⟩ := this
    have hm := uB er0 S wr.r wr.p wr.i (.t y)
    rw [show zI er0 (.t y) = (.t (.sl b 0 sz m ds) : CU) from by simp only [zI]; exact congrArg _ hy] at hm
    rw [show z7 (V.erS S) wr.r wr.p wr.i (.t (.sl b 0 sz m ds)) = _ from hm] at hq
    cases hput : z7 S wr.r wr.p wr.i (.t y) with
    | none => rw [hput] at hq; cases hq
    | some S2 =>
     rw [hput] at hq
     simp only [Option.map_some, Option.some.injEq] at hq
     subst hq
     have hu := hv u hat
     simp only [okC] at hc
     simp only [zP] at hb
     have hby : Bk w0 E0 R ea w S (zU y) := hb.sub ((List.sublist_append_left _ _).trans (List.sublist_append_right _ _))
     obtain ⟨r1, r2, r3⟩ := h.fill hat rfl hput (by simp only [zJ, zV]; simp only [zJ] at hu; exact hu.symm) hc hby
     have hnd := List.nodup_append.1 hb.nd
     have hnd2 := List.nodup_append.1 hnd.2.1
     have hmem : ∀ k b, b ∈ zL S2 ea k → b ∈ zL S ea k ∨ b ∈ zU y := by
      intro k b hb'
      by_cases e : k = wr.r
      ·subst e; exact (List.mem_append.1 (r3.subset hb')).symm
      ·rw [r2 k e] at hb'; exact .inl hb'
     have hem := dO (ea := ea) hput
     refine ⟨S2, rfl, r1, ?_, ?_, fun k q j u' hk hd => ?_⟩
     ·constructor
      ·exact pH hem (nY hat rfl) hn.ok
      ·exact hn.refs
      ·exact hn.nd
      ·intro r b hb1 hb2
       rcases hmem r b hb2 with h1 | h1
       ·exact hn.sep r b hb1 h1
       ·exact hnd.2.2 b hb1 b (List.mem_append_left _ h1) rfl
      ·exact hn.lt
      ·exact hn.own
      ·exact hn.notR
     ·have hs := hb.sub ((List.Sublist.refl (zE x)).append (List.sublist_append_right (zU y) rest))
      refine ⟨hs.nd, fun r b hb1 hb2 => ?_, hs.lt, hs.own, hs.notR⟩
      rcases hmem r b hb2 with h1 | h1
      ·exact hs.sep r b hb1 h1
      ·rcases List.mem_append.1 hb1 with h3 | h3
       ·exact hnd.2.2 b h3 b (List.mem_append_left _ h1) rfl
       ·exact hnd2.2.2 b h1 b h3 rfl
     ·rcases hem.at hk with e | ⟨b', sz', m', ds', es, _, e2, _⟩
      ·rw [e]; exact hd
      ·rw [e2] at hd; simp at hd
   ·cases hq
 ·next he =>
  simp only [Option.some.injEq] at hq
  exact skip hq.symm
 ·cases hq
theorem oO {x : XV} : ∀ {ws : List Row} {cs : List CV} {S : SV} {Su : SU}, Rel isv w0 E0 P R ea w S tmps → New isv w0 E0 P R ea w S x → yF w P R S' ea' cs →
  (∀ (i : Nat) wr c, ws[i]? = some wr → cs[i]? = some c → ∀ u, at_ S wr.r wr.p wr.i = some (.t (.dead u)) → u = zJ c) → Bk w0 E0 R ea w S (zE x ++ zH cs) → apart ws = true → x5 ws (cs.map fun c => [erC c]) (V.erS S) = some Su →
  ∃ S2, V.erS S2 = Su ∧ Rel isv w0 E0 P R ea w S2 tmps ∧ New isv w0 E0 P R ea w S2 x
 | [], cs, S, Su, h, hn, _, _, _, _, hq => by
  simp only [x5, Option.some.injEq] at hq
  exact ⟨S, hq, h, hn⟩
 | wr :: ws, [], S, Su, _, _, _, _, _, _, hq => by simp [x5] at hq
 | wr :: ws, c :: cs, S, Su, h, hn, hc, hv, hb, ha, hq => by
  simp only [List.map_cons, x5] at hq
  simp only [yF] at hc
  simp only [zH] at hb
  simp only [apart, Bool.and_eq_true, List.all_eq_true, Bool.not_eq_true', Bool.and_eq_false_iff, Bool.or_eq_false_iff, beq_eq_false_iff_ne, ne_eq] at ha
  cases h1 : kM (V.erS S) wr [erC c] with
  | none => rw [h1] at hq; cases hq
  | some S1 =>
   rw [h1] at hq
   simp only [Option.bind_some] at hq
   obtain ⟨S2, rfl, k2, k3, k4, k5⟩ := zKt h hn hc.1 (hv 0 wr c rfl rfl) hb h1
   refine oO k2 k3 hc.2 (fun i v d hi hd u hu => ?_) k4 ha.2 hq
   refine hv (i + 1) v d (by simpa using hi) (by simpa using hd) u (k5 _ _ _ _ ?_ hu)
   rintro ⟨e, hp⟩
   rcases ha.1 v (List.mem_of_getElem? hi) with h' | h'
   ·exact h' e
   ·rw [hp] at h'; cases h'.1
end
end Go.Proofs.YtlkjnlfddadlmaaGreatDoor.V
namespace Go.Proofs.YtlkjnlfddadlmaaGreatDoor.V
open Go.RowKit
structure Less (isv : Nat → Bool) (ea : List EA) (S S2 : SV) : Prop where
 blk : ∀ k, ∀ b ∈ zL S2 ea k, b ∈ zL S ea k
 dd : ∀ r p i b, (∀ d, r = .sl d → isv d = true) → (at_ S r p i = some (.t (.dead b)) ∨ at_ S r p i = none) → (at_ S2 r p i = some (.t (.dead b)) ∨ at_ S2 r p i = none)
theorem Less.refl {isv : Nat → Bool} {ea : List EA} {S : SV} : Less isv ea S S := ⟨fun _ _ h => h, fun _ _ _ _ _ h => h⟩
theorem Less.trans {isv : Nat → Bool} {ea : List EA} {S S2 S3 : SV} (h : Less isv ea S S2) (k : Less isv ea S2 S3) : Less isv ea S S3 :=
 ⟨fun r b hb => h.blk r b (k.blk r b hb), fun r p i b hr hd => k.dd r p i b hr (h.dd r p i b hr hd)⟩
theorem Less.of {isv : Nat → Bool} {ea : List EA} {S S2 : SV} (h : Emp ea S S2) : Less isv ea S S2 := ⟨h.blk, fun r p i b _ hd => h.dd r p i b hd⟩
def zOs (w : World) (P : Nat → Nat → Prop) (rs : List TV) (k : Nat) (x : XV) : Prop :=
 ∀ (R' : Nat → Prop) (S' : SV) (ea' : List EA), (∀ j t, rs[j]? = some t → S'.e[k + j]? = some [.t (up t)]) → okX w (yR R' P) R' S' ea' x ∧ ∀ r ∈ zD x, x4 r = true
def zGu (w : World) (P : Nat → Nat → Prop) (rs : List TV) (k : Nat) (c : CV) : Prop :=
 ∀ (R' : Nat → Prop) (S' : SV) (ea' : List EA), (∀ j t, rs[j]? = some t → S'.e[k + j]? = some [.t (up t)]) → okC w (yR R' P) R' S' ea' c ∧ ∀ r ∈ zF c, x4 r = true
def zOr (isv : Nat → Bool) (S : SV) (wr : Row) (v : Value) : Prop := (∀ d, wr.r = .sl d → isv d = true) ∧ (at_ S wr.r wr.p wr.i = some (.t (.dead v)) ∨ at_ S wr.r wr.p wr.i = none)
def d8 : Option XV → List Nat
 | none => []
 | some x => zE x
section
variable {cx : Ctx} {f : Nat} {isv : Nat → Bool} {w0 : World} {E0 : Nat → Prop} {P : Nat → Nat → Prop} {R R' : Nat → Prop} {ea ea' : List EA} {w w' : World} {S S' S0 : SV} {tmps : Array Value} {a : Act}
theorem zOr.less {S2 : SV} {wr : Row} {v : Value} (h : zOr isv S wr v) (l : Less isv ea S S2) : zOr isv S2 wr v := ⟨h.1, l.dd _ _ _ _ h.1 h.2⟩
theorem Bk.less {S2 : SV} {l : List Nat} (h : Bk w0 E0 R ea w S l) (k : Less isv ea S S2) : Bk w0 E0 R ea w S2 l := ⟨h.nd, fun r b hb hb' => h.sep r b hb (k.blk r b hb'), h.lt, h.own, h.notR⟩
theorem Less.clr (o : Operand) : Less (zB cx f) ea S (clr cx f S o) := by
 cases o with
 | tmp d =>
  simp only [V.clr]
  split
  ·exact .refl
  ·next hv =>
   split
   ·refine ⟨fun k b hb => ?_, fun r p i b hr hd => ?_⟩
    ·cases k with
     | sl d' =>
      simp only [zL, upd] at hb ⊢
      split at hb
      ·simp [zE] at hb
      ·exact hb
     | ex j => exact hb
    ·have : at_ ({ S with s := upd S.s d .undef } : SV) r p i = at_ S r p i := by
      refine sP ?_ p i
      cases r with
      | sl d' =>
       have : d' ≠ d := fun e => by have := hr d' rfl; rw [e] at this; exact hv this
       simp only [zA, upd, if_neg this]
      | ex j => rfl
     rw [this]; exact hd
   ·exact .refl
 | _ => exact .refl
theorem Less.eat (o : Operand) : Less (zB cx f) ea S (eat cx f S o) := by
 cases o with
 | tmp d =>
  simp only [V.eat]
  split
  ·exact .refl
  ·next hv =>
   refine ⟨fun k b hb => ?_, fun r p i b hr hd => ?_⟩
   ·cases k with
    | sl d' =>
     simp only [zL, upd] at hb ⊢
     split at hb
     ·simp [zE] at hb
     ·exact hb
    | ex j => exact hb
   ·have : at_ ({ S with s := upd S.s d .undef } : SV) r p i = at_ S r p i := by
     refine sP ?_ p i
     cases r with
     | sl d' =>
      have : d' ≠ d := fun e => by have := hr d' rfl; rw [e] at this; exact hv this
      simp only [zA, upd, if_neg this]
     | ex j => rfl
    rw [this]; exact hd
 | _ => exact .refl
theorem Rel.eat (h : Rel (zB cx f) w0 E0 P R ea w S tmps) (o : Operand) : Rel (zB cx f) w0 E0 P R ea w (eat cx f S o) tmps := by
 cases o with
 | tmp d =>
  simp only [V.eat]
  split
  ·exact h
  ·next hv => exact h.clear (h.noMen (fun h' => absurd h' hv))
 | _ => exact h
theorem zM1 (o : Operand) : V.erS (eat cx f S o) = eat cx f (V.erS S) o := by
 cases o with
 | tmp d =>
  simp only [V.eat]
  split
  ·rfl
  ·simp only [V.erS, jJ]
   congr 1
   exact aI er0 S.s d .undef
 | _ => rfl
theorem zIf {o : Operand} {cs : List CV} (h : yF w P R S ea cs) (hr : ∀ d, Root.sl d ∈ zK cs → zB cx f d = true) : yF w P R (eat cx f S o) ea cs := by
 refine qT (fun _ _ _ => rfl) (fun _ _ => rfl) h (fun _ _ => rfl) fun r hr' => ?_
 cases o with
 | tmp d =>
  simp only [V.eat]
  split
  ·exact ⟨rfl, rfl⟩
  ·next hv =>
   refine kT fun e => ?_
   subst e
   exact hv (hr d hr')
 | _ => exact ⟨rfl, rfl⟩
theorem zGu.mono {rs rs' : List TV} {k k' : Nat} {c : CV} (h : zGu w P rs k c) (hs : ∀ j t, rs[j]? = some t → ∃ j', k' + j' = k + j ∧ rs'[j']? = some t) : zGu w P rs' k' c :=
 fun R' S' ea' hS => h R' S' ea' fun j t hj => by obtain ⟨j', e, hj'⟩ := hs j t hj; rw [← e]; exact hS j' t hj'
theorem zOs.mono {rs rs' : List TV} {k k' : Nat} {x : XV} (h : zOs w P rs k x) (hs : ∀ j t, rs[j]? = some t → ∃ j', k' + j' = k + j ∧ rs'[j']? = some t) : zOs w P rs' k' x :=
 fun R' S' ea' hS => h R' S' ea' fun j t hj => by obtain ⟨j', e, hj'⟩ := hs j t hj; rw [← e]; exact hS j' t hj'
theorem zOv {α : Type} {rs rs' : List α} {k : Nat} : ∀ j t, rs'[j]? = some t → ∃ j', k + j' = k + rs.length + j ∧ (rs ++ rs')[j']? = some t :=
 fun j t hj => ⟨rs.length + j, by omega, by rw [List.getElem?_append_right (by omega), Nat.add_sub_cancel_left]; exact hj⟩
theorem zQo {α : Type} {rs rs' : List α} {k : Nat} : ∀ j t, rs[j]? = some t → ∃ j', k + j' = k + j ∧ (rs ++ rs')[j']? = some t :=
 fun j t hj => ⟨j, rfl, by rw [List.getElem?_append_left (List.getElem?_eq_some_iff.1 hj).1]; exact hj⟩
theorem zJa {x : TV} {rs : List TV} {k : Nat} (hs : tV (erT x) = true) (hok : okT w P R x) : zGu w P rs k (.t x) := by
 intro R' S' ea' _
 refine ⟨?_, by simp [zF]⟩
 simp only [okC]
 cases x <;> simp [erT, yA, tV] at hs <;> first | (simp [okT]; done) | simpa only [okT] using hok
structure Plc (isv : Nat → Bool) (w0 : World) (E0 : Nat → Prop) (P : Nat → Nat → Prop) (R : Nat → Prop) (ea : List EA) (w : World) (tmps : Array Value) (S S2 : SV) (rs : List TV) (ws : List Row) : Prop where
 rel : Rel isv w0 E0 P R ea w S2 tmps
 less : Less isv ea S S2
 er : rs.map erT = ws.map (·.t)
 gone : ∀ (i : Nat) t wr, rs[i]? = some t → ws[i]? = some wr → zOr isv S2 wr (zV t)
 ok : ∀ t ∈ rs, okT w P R t
 bk : Bk w0 E0 R ea w S2 (rs.flatMap zU)
 src : ∀ b ∈ rs.flatMap zU, ∃ r, b ∈ zL S ea r
theorem Bk.nil : Bk w0 E0 R ea w S [] := ⟨List.nodup_nil, by simp, by simp, by simp, by simp⟩
theorem Plc.nil (h : Rel isv w0 E0 P R ea w S tmps) : Plc isv w0 E0 P R ea w tmps S S [] [] := ⟨h, .refl, rfl, by simp, by simp, Bk.nil, by simp⟩
theorem Plc.app {S2 S3 : SV} {rs rs' : List TV} {ws ws' : List Row} (h : Plc isv w0 E0 P R ea w tmps S S2 rs ws) (k : Plc isv w0 E0 P R ea w tmps S2 S3 rs' ws') : Plc isv w0 E0 P R ea w tmps S S3 (rs ++ rs') (ws ++ ws') where
 rel := k.rel
 less := h.less.trans k.less
 er := by rw [List.map_append, List.map_append, h.er, k.er]
 gone := by
  intro i t wr hi hw
  have hl : rs.length = ws.length := by have := congrArg List.length h.er; simpa using this
  rcases Nat.lt_or_ge i rs.length with hlt | hge
  ·rw [List.getElem?_append_left hlt] at hi
   rw [List.getElem?_append_left (by omega)] at hw
   exact (h.gone i t wr hi hw).less k.less
  ·rw [List.getElem?_append_right hge] at hi
   rw [List.getElem?_append_right (by omega), ← hl] at hw
   exact k.gone _ t wr hi hw
 ok := fun t ht => (List.mem_append.1 ht).elim (h.ok t) (k.ok t)
 bk := by
  rw [List.flatMap_append]
  refine (h.bk.less k.less).append k.bk fun b hb hb' => ?_
  obtain ⟨r, hr⟩ := k.src b hb'
  exact h.bk.sep r b hb hr
 src := by
  intro b hb
  rw [List.flatMap_append] at hb
  rcases List.mem_append.1 hb with hb | hb
  ·exact h.src b hb
  ·obtain ⟨r, hr⟩ := k.src b hb
   exact ⟨r, h.less.blk r b hr⟩
theorem tO : ∀ {cs : List CV} {k : Nat} {S : SV} {u : List CU × List Row × SU}, Rel isv w0 E0 P R ea w S tmps → Emp ea S0 S → yF w P R S0 ea cs → (∀ d, Root.sl d ∈ zK cs → isv d = true) → xS k (cs.map erC) (V.erS S) = some u →
  ∃ (ds : List CV) (rs : List TV) (S2 : SV), ds.map erC = u.1 ∧ yC ds = yC cs ∧ V.erS S2 = u.2.2 ∧ Emp ea S S2 ∧ Plc isv w0 E0 P R ea w tmps S S2 rs u.2.1 ∧ (∀ c ∈ ds, zGu w P rs k c) ∧ zH ds = []
 | [], k, S, u, h, _, _, _, hq => by
  simp only [List.map_nil, xS, Option.some.injEq] at hq
  subst hq
  exact ⟨[], [], S, rfl, rfl, rfl, .refl, .nil h, by simp, rfl⟩
 | c :: cs, k, S, u, h, he, hok, hrf, hq => by
  simp only [yF] at hok
  simp only [zK, List.mem_append] at hrf
  cases c with
  | bor v r p i off sz n =>
   have e : erC (.bor v r p i off sz n) = .bor () r p i off sz n := rfl
   simp only [List.map_cons, e, xS] at hq
   cases ht : q8 (V.erS S) r p i with
   | none => simp [ht] at hq
   | some q =>
    obtain ⟨t, Sq⟩ := q
    simp only [ht, Option.bind_some] at hq
    cases hp : xS (k + 1) (cs.map erC) Sq with
    | none => simp [hp] at hq
    | some u' =>
     simp only [hp, Option.map_some, Option.some.injEq] at hq
     subst hq
     obtain ⟨b, sz', m, fs, S1, t1, rfl, t3, t4, t5, t6, t7, t8⟩ := zL1 h ht
     have hbor : wD S r p i off sz n v := by
      have hal : yL S (.bor v r p i off sz n) = true := by simp only [yL, t3, qJ]
      have := he.ok w P R _ hok.1 hal
      simpa only [okC] using this
     have hP1 : Plc isv w0 E0 P R ea w tmps S S1 [.sl b 0 sz' m fs] [⟨t, r, p, i⟩] := by
      refine ⟨t4, .of t5, by simp only [List.map_cons, List.map_nil, t1], fun i' t' wr hi hw => ?_, fun t' ht' => ?_, ?_, fun x hx => ?_⟩
      ·cases i' with
       | zero =>
        simp only [List.getElem?_cons_zero, Option.some.injEq] at hi hw
        subst hi hw
        exact ⟨fun d hd => hrf d (.inl (by simp only [zF, List.mem_singleton]; exact hd.symm)), .inl t8⟩
       | succ i' => simp at hi
      ·simp only [List.mem_singleton] at ht'
       subst ht'
       have := t6.ok
       simpa only [okX, okC] using this
      ·have := t6.bk
       simpa [zE, zP] using this
      ·exact ⟨r, t7 x (by simpa using hx)⟩
     obtain ⟨ds, rs, S2, k1, k2, k3, k4, k5, k6, k7⟩ := tO t4 (he.trans t5) hok.2 (fun d hd => hrf d (.inr hd)) hp
     refine ⟨.bor v (.ex k) [] 0 off sz n :: ds, .sl b 0 sz' m fs :: rs, S2, by simp only [List.map_cons, k1]; rfl, by simp only [yC, zJ, k2], k3, t5.trans k4, hP1.app k5, fun c hc => ?_, by simp only [zH, zP, k7, List.append_nil]⟩
     rcases List.mem_cons.1 hc with rfl | hc
     ·intro R' S' ea' hS
      refine ⟨?_, by simp [zF, x4]⟩
      have h0 := hS 0 _ rfl
      rw [Nat.add_zero] at h0
      obtain ⟨b', m', ds', e1, e2, e3⟩ := hbor
      rw [t3] at e1
      simp only [Option.some.injEq, C.t.injEq, T.sl.injEq, true_and] at e1
      obtain ⟨rfl, rfl, rfl, rfl⟩ := e1
      simp only [okC]
      refine ⟨b, m, ups fs, ?_, by rw [bZ]; exact e2, e3⟩
      simp only [at_, zA, h0, Option.bind_some, y9, List.getElem?_cons_zero, up, if_true]
     ·refine (k6 c hc).mono fun j t' hj => ⟨j + 1, by omega, by simpa using hj⟩
  | t x =>
   have e : erC (.t x) = .t (erT x) := rfl
   simp only [List.map_cons, e, xS] at hq
   split at hq
   ·next hs =>
    cases hp : xS k (cs.map erC) (V.erS S) with
    | none => simp [hp] at hq
    | some u' =>
     simp only [hp, Option.map_some, Option.some.injEq] at hq
     subst hq
     obtain ⟨ds, rs, S2, k1, k2, k3, k4, k5, k6, k7⟩ := tO h he hok.2 (fun d hd => hrf d (.inr hd)) hp
     refine ⟨.t x :: ds, rs, S2, by simp only [List.map_cons, k1]; rfl, by simp only [yC, k2], k3, k4, k5, fun c hc => ?_, ?_⟩
     ·rcases List.mem_cons.1 hc with rfl | hc
      ·exact zJa hs (by have := hok.1; simpa only [okC] using this)
      ·exact k6 c hc
     ·simp only [zH, k7, List.append_nil, zP]
      cases x <;> simp [erT, yA, tV] at hs <;> rfl
   ·cases hq
  | ptr v r p off => simp [erC, zI, xS] at hq
  | rptr v ds => simp [erC, zI, xS] at hq
  | nilp => simp [erC, zI, xS] at hq
  | fn g caps => simp [erC, zI, xS] at hq
  | nilf => simp [erC, zI, xS] at hq
  | lst v sz n ds => simp [erC, zI, xS] at hq
structure Prep (cx : Ctx) (f : Nat) (w0 : World) (E0 : Nat → Prop) (P : Nat → Nat → Prop) (R : Nat → Prop) (ea : List EA) (w : World) (tmps : Array Value) (a : Act) (k : Nat) (os : List Operand) (S S2 : SV) (ms : List (Option XV)) (rs : List TV) (ws : List Row) : Prop where
 rel : Rel (zB cx f) w0 E0 P R ea w S2 tmps
 less : Less (zB cx f) ea S S2
 er : rs.map erT = ws.map (·.t)
 gone : ∀ (i : Nat) t wr, rs[i]? = some t → ws[i]? = some wr → zOr (zB cx f) S2 wr (zV t)
 ok : ∀ t ∈ rs, okT w P R t
 bk : Bk w0 E0 R ea w S2 (ms.flatMap d8 ++ rs.flatMap zU)
 src : ∀ b ∈ ms.flatMap d8 ++ rs.flatMap zU, ∃ r, b ∈ zL S ea r
 len : ms.length = os.length
 val : ∀ (i : Nat) x o, ms[i]? = some (some x) → os[i]? = some o → zQ x = a.eval o
 arg : ∀ x, some x ∈ ms → zOs w P rs k x
theorem Prep.cons {S1 S2 : SV} {k : Nat} {os : List Operand} {o : Operand} {m : Option XV} {ms : List (Option XV)} {r0 rs : List TV} {w1 ws : List Row}
  (h1 : Rel (zB cx f) w0 E0 P R ea w S1 tmps) (hl : Less (zB cx f) ea S S1) (her : r0.map erT = w1.map (·.t)) (hg : ∀ (i : Nat) t wr, r0[i]? = some t → w1[i]? = some wr → zOr (zB cx f) S1 wr (zV t)) (hok : ∀ t ∈ r0, okT w P R t)
  (hb : Bk w0 E0 R ea w S1 (d8 m ++ r0.flatMap zU)) (hs : ∀ b ∈ d8 m ++ r0.flatMap zU, ∃ r, b ∈ zL S ea r) (hv : ∀ x, m = some x → zQ x = a.eval o) (ha : ∀ x, m = some x → zOs w P r0 k x)
  (h : Prep cx f w0 E0 P R ea w tmps a (k + w1.length) os S1 S2 ms rs ws) : Prep cx f w0 E0 P R ea w tmps a k (o :: os) S S2 (m :: ms) (r0 ++ rs) (w1 ++ ws) := by
 have hlen : r0.length = w1.length := by have := congrArg List.length her; simpa using this
 have hperm : ((m :: ms).flatMap d8 ++ (r0 ++ rs).flatMap zU).Perm ((d8 m ++ r0.flatMap zU) ++ (ms.flatMap d8 ++ rs.flatMap zU)) := by
  rw [List.flatMap_cons, List.flatMap_append, List.append_assoc, List.append_assoc]
  refine List.Perm.append_left _ ?_
  rw [← List.append_assoc, ← List.append_assoc]
  exact List.Perm.append_right _ List.perm_append_comm
 constructor
 ·exact h.rel
 ·exact hl.trans h.less
 ·rw [List.map_append, List.map_append, her, h.er]
 ·intro i t wr hi hw
  rcases Nat.lt_or_ge i r0.length with hlt | hge
  ·rw [List.getElem?_append_left hlt] at hi
   rw [List.getElem?_append_left (by omega)] at hw
   exact (hg i t wr hi hw).less h.less
  ·rw [List.getElem?_append_right hge] at hi
   rw [List.getElem?_append_right (by omega), ← hlen] at hw
   exact h.gone _ t wr hi hw
 ·exact fun t ht => (List.mem_append.1 ht).elim (hok t) (h.ok t)
 ·have := (hb.less h.less).append h.bk fun b hb1 hb2 => by
   obtain ⟨r, hr⟩ := h.src b hb2
   exact hb.sep r b hb1 hr
  exact ⟨hperm.nodup_iff.2 this.nd, fun r b hb1 => this.sep r b (hperm.mem_iff.1 hb1), fun b hb1 => this.lt b (hperm.mem_iff.1 hb1), fun b hb1 => this.own b (hperm.mem_iff.1 hb1), fun b hb1 => this.notR b (hperm.mem_iff.1 hb1)⟩
 ·intro b hb1
  rcases List.mem_append.1 (hperm.mem_iff.1 hb1) with hb1 | hb1
  ·exact hs b hb1
  ·obtain ⟨r, hr⟩ := h.src b hb1
   exact ⟨r, hl.blk r b hr⟩
 ·simp only [List.length_cons, h.len]
 ·intro i x o' hi ho
  cases i with
  | zero =>
   simp only [List.getElem?_cons_zero, Option.some.injEq] at hi ho
   subst ho
   exact hv x hi
  | succ i =>
   simp only [List.getElem?_cons_succ] at hi ho
   exact h.val i x o' hi ho
 ·intro x hx
  rcases List.mem_cons.1 hx with e | hx
  ·exact (ha x e.symm).mono zQo
  ·exact (h.arg x hx).mono (fun j t hj => by rw [← hlen]; exact zOv j t hj)
theorem zPg {t : TV} (h : okT w P R t) {rs : List TV} {k : Nat} : zOs w P rs k (.c (.t (up t))) :=
 fun R' S' ea' _ => ⟨by simp only [okX, okC]; exact zOl h, by simp [zD, zF]⟩
theorem uA {g : Nat} : ∀ {os : List Operand} {ts : List Nat} {i k : Nat} {S : SV} {u : List (Option XU) × List Row × SU}, Rel (zB cx f) w0 E0 P R ea w S tmps → a.tmps = tmps → yM cx f g i k os ts (V.erS S) = some u →
  ∃ (ms : List (Option XV)) (rs : List TV) (S2 : SV), ms.map (Option.map erX) = u.1 ∧ V.erS S2 = u.2.2 ∧ Prep cx f w0 E0 P R ea w tmps a k os S S2 ms rs u.2.1
 | [], ts, i, k, S, u, h, ha, hq => by
  simp only [yM, Option.some.injEq] at hq
  subst hq
  exact ⟨[], [], S, rfl, rfl, h, .refl, rfl, by simp, by simp, Bk.nil, by simp, rfl, by simp, by simp⟩
 | o :: os, ts, i, k, S, u, h, ha, hq => by
  simp only [yM] at hq
  split at hq
  ·-- for good
   cases hx : opv cx f (V.erS S) (ts.head?.getD 0) o with
   | none => simp [hx] at hq
   | some x =>
    simp only [hx, Option.bind_some] at hq
    obtain ⟨xG, hxG⟩ := h.opv ha hx
    split at hq
    ·next c =>
     obtain ⟨cG, rfl, hc⟩ := aR hxG.er
     subst hc
     rw [← gT] at hq
     cases hs : yS (erC cG) (V.erS (clr cx f S o)) with
     | none => rw [show yS (erC cG) (erS (clr cx f S o)) = none from hs] at hq; simp at hq
     | some q =>
      obtain ⟨t, Sq⟩ := q
      rw [show yS (erC cG) (erS (clr cx f S o)) = _ from hs] at hq
      simp only [Option.bind_some] at hq
      cases hp : yM cx f g (i + 1) k os ts.tail Sq with
      | none => simp [hp] at hq
      | some u' =>
       simp only [hp, Option.map_some, Option.some.injEq] at hq
       subst hq
       have hnew := hxG.new
       obtain ⟨tG, S1, rfl, rfl, t3, t4, t5, t6, t7, t8⟩ := lC (h.clr o) Emp.refl (by have := hnew.ok; simpa only [okX] using this) (by have := hnew.bk; simpa only [zE] using this) hs
       obtain ⟨ms, rs, S2, e1, e2, e3⟩ := uA t4 ha hp
       refine ⟨some (.c (.t (up tG))) :: ms, rs, S2, by simp only [List.map_cons, e1, Option.map_some]; rw [show erX (.c (.t (up tG))) = .c (.t (up (erT tG))) from by simp only [erX, zW, zI]; rw [← zGl]], e2, ?_⟩
       have hl : Less (zB cx f) ea S S1 := (Less.clr o).trans (.of t5)
       have := Prep.cons (S := S) (o := o) (m := some (.c (.t (up tG)))) (r0 := []) (w1 := []) t4 hl rfl (by simp) (by simp) (by simpa [d8, zE, zP, zCs] using t7)
        (by
         intro b hb
         have hb : b ∈ zU tG := by simpa [d8, zE, zP, zCs] using hb
         rcases t8 b hb with h1 | ⟨r, h1⟩
         ·exact hxG.src b (by simpa only [zE] using h1)
         ·exact ⟨r, (Less.clr o).blk r b h1⟩)
        (by
         intro x hx
         simp only [Option.some.injEq] at hx
         subst hx
         simp only [zQ, zJ, zGm, t3]
         have := hxG.val
         simpa only [zQ] using this.symm)
        (by
         intro x hx
         simp only [Option.some.injEq] at hx
         subst hx
         exact zPg t6) e3
       simpa using this
    ·cases hq
  ·split at hq
   ·-- in place
    cases hx : opv cx f (V.erS S) (ts.head?.getD 0) o with
    | none => simp [hx] at hq
    | some x =>
     simp only [hx, Option.bind_some] at hq
     obtain ⟨xG, hxG⟩ := h.opv ha hx
     split at hq
     ·next c =>
      obtain ⟨cG, rfl, hc⟩ := aR hxG.er
      subst hc
      rw [← zM1] at hq
      cases hs : xS k [erC cG] (V.erS (eat cx f S o)) with
      | none => rw [show xS k [erC cG] (erS (eat cx f S o)) = none from hs] at hq; simp at hq
      | some q =>
       rw [show xS k [erC cG] (erS (eat cx f S o)) = _ from hs] at hq
       simp only [Option.bind_some] at hq
       obtain ⟨ds, r0, S1, d1, d2, d3, d4, d5, d6, d7⟩ := tO (cs := [cG]) (h.eat o) Emp.refl (zIf (by have := hxG.ok; simpa only [okX, yF, and_true] using this) (fun d hd => hxG.new.refs d (by simpa [zD, zK] using hd))) (fun d hd => hxG.new.refs d (by simpa [zD, zK] using hd)) hs
       rw [← d3] at hq
       cases hp : yM cx f g (i + 1) (k + q.2.1.length) os ts.tail (V.erS S1) with
       | none => rw [show yM cx f g (i + 1) (k + q.2.1.length) os ts.tail (erS S1) = none from hp] at hq; simp at hq
       | some u' =>
        rw [show yM cx f g (i + 1) (k + q.2.1.length) os ts.tail (erS S1) = _ from hp] at hq
        simp only [Option.map_some, Option.some.injEq] at hq
        subst hq
        obtain ⟨ms, rs, S2, e1, e2, e3⟩ := uA d5.rel ha hp
        have hone : ∃ dG, ds = [dG] := by
         have := congrArg List.length d2
         rw [z8, z8, List.length_map, List.length_map] at this
         rcases ds with _ | ⟨d, _ | ⟨d', ds⟩⟩
         ·simp at this
         ·exact ⟨d, rfl⟩
         ·simp at this
        obtain ⟨dG, rfl⟩ := hone
        refine ⟨some (.c dG) :: ms, r0 ++ rs, S2, ?_, e2, ?_⟩
        ·simp only [List.map_cons, Option.map_some, e1, ← d1, List.map_nil, List.head?_cons, Option.getD_some]
         rfl
        ·simp only [zH, List.append_nil] at d7
         refine Prep.cons (o := o) d5.rel ((Less.eat o).trans d5.less) d5.er d5.gone d5.ok ?_ ?_ ?_ ?_ e3
         ·simpa [d8, zE, d7] using d5.bk
         ·intro b hb
          obtain ⟨r, hr⟩ := d5.src b (by simpa [d8, zE, d7] using hb)
          exact ⟨r, (Less.eat o).blk r b hr⟩
         ·intro x hx
          simp only [Option.some.injEq] at hx
          subst hx
          simp only [yC, List.cons.injEq, and_true] at d2
          simp only [zQ, d2]
          have := hxG.val
          simpa only [zQ] using this.symm
         ·intro x hx
          simp only [Option.some.injEq] at hx
          subst hx
          intro R' S' ea' hS
          have := d6 dG (List.mem_singleton.2 rfl) R' S' ea' hS
          simpa only [okX, zD] using this
     ·next cs =>
      obtain ⟨cG, rfl, hc⟩ := zRf hxG.er
      subst hc
      rw [← zM1] at hq
      cases hs : xS k (cG.map erC) (V.erS (eat cx f S o)) with
      | none => rw [show xS k (cG.map erC) (erS (eat cx f S o)) = none from hs] at hq; simp at hq
      | some q =>
       rw [show xS k (cG.map erC) (erS (eat cx f S o)) = _ from hs] at hq
       simp only [Option.bind_some] at hq
       obtain ⟨ds, r0, S1, d1, d2, d3, d4, d5, d6, d7⟩ := tO (cs := cG) (h.eat o) Emp.refl (zIf (by have := hxG.ok; simpa only [okX] using this) (fun d hd => hxG.new.refs d (by simpa only [zD] using hd))) (fun d hd => hxG.new.refs d (by simpa only [zD] using hd)) hs
       rw [← d3] at hq
       cases hp : yM cx f g (i + 1) (k + q.2.1.length) os ts.tail (V.erS S1) with
       | none => rw [show yM cx f g (i + 1) (k + q.2.1.length) os ts.tail (erS S1) = none from hp] at hq; simp at hq
       | some u' =>
        rw [show yM cx f g (i + 1) (k + q.2.1.length) os ts.tail (erS S1) = _ from hp] at hq
        simp only [Option.map_some, Option.some.injEq] at hq
        subst hq
        obtain ⟨ms, rs, S2, e1, e2, e3⟩ := uA d5.rel ha hp
        refine ⟨some (.agg ds) :: ms, r0 ++ rs, S2, ?_, e2, ?_⟩
        ·simp only [List.map_cons, Option.map_some, e1, ← d1]
         simp only [erX, zW, zR]
        ·refine Prep.cons (o := o) d5.rel ((Less.eat o).trans d5.less) d5.er d5.gone d5.ok ?_ ?_ ?_ ?_ e3
         ·simpa [d8, zE, d7] using d5.bk
         ·intro b hb
          obtain ⟨r, hr⟩ := d5.src b (by simpa [d8, zE, d7] using hb)
          exact ⟨r, (Less.eat o).blk r b hr⟩
         ·intro x hx
          simp only [Option.some.injEq] at hx
          subst hx
          simp only [zQ, d2]
          have := hxG.val
          simpa only [zQ] using this.symm
         ·intro x hx
          simp only [Option.some.injEq] at hx
          subst hx
          intro R' S' ea' hS
          refine ⟨by simp only [okX]; exact zY.2 fun c hc => (d6 c hc R' S' ea' hS).1, fun r hr => ?_⟩
          simp only [zD, yI, List.mem_flatMap] at hr
          obtain ⟨c, hc, hr⟩ := hr
          exact (d6 c hc R' S' ea' hS).2 r hr
     ·cases hq
   ·-- later
    cases hp : yM cx f g (i + 1) k os ts.tail (V.erS S) with
    | none => rw [show yM cx f g (i + 1) k os ts.tail (erS S) = none from hp] at hq; simp at hq
    | some u' =>
     rw [show yM cx f g (i + 1) k os ts.tail (erS S) = _ from hp] at hq
     simp only [Option.map_some, Option.some.injEq] at hq
     subst hq
     obtain ⟨ms, rs, S2, e1, e2, e3⟩ := uA h ha hp
     refine ⟨none :: ms, rs, S2, by simp only [List.map_cons, e1, Option.map_none], e2, ?_⟩
     have := Prep.cons (S := S) (o := o) (m := none) (r0 := []) (w1 := []) h .refl rfl (by simp) (by simp) (by simpa [d8] using (Bk.nil : Bk w0 E0 R ea w S [])) (by simp [d8]) (by simp) (by simp) e3
     simpa using this
end
end Go.Proofs.YtlkjnlfddadlmaaGreatDoor.V
namespace Go.Proofs.YtlkjnlfddadlmaaGreatDoor.V
open Go.RowKit
section
variable {cx : Ctx} {f : Nat} {isv : Nat → Bool} {w0 : World} {E0 : Nat → Prop} {P : Nat → Nat → Prop} {R R' : Nat → Prop} {ea ea' : List EA} {w w' : World} {S S' S0 : SV} {tmps : Array Value} {a : Act} {call : zX} {Pr : Program}
theorem eS (h : Rel isv w0 E0 P R ea w S tmps) {L : List Root} {k : Nat} (H : wU L k S S' ea ea') (hR : ∀ b, R b → R' b) (hN : ∀ r, r ∉ L → ∀ b ∈ zL S ea r, R' b) : ∀ {cs : List CV} {ds : List CU}, yF w P R S ea cs → (∀ b ∈ zH cs, R' b) → bJ (V.erS S) L k (cs.map erC) = some ds →
  ∃ es : List CV, es.map erC = ds ∧ yC es = yC cs ∧ yF w (yR R' P) R' S' ea' es ∧ zH es = [] ∧ ∀ r ∈ zK es, x4 r = true
 | [], ds, _, _, hq => by
  simp only [List.map_nil, bJ, Option.some.injEq] at hq
  subst hq
  exact ⟨[], rfl, rfl, by simp only [yF], rfl, by simp [zK]⟩
 | c :: cs, ds, hok, hb, hq => by
  simp only [List.map_cons, bJ] at hq
  simp only [yF] at hok
  simp only [zH] at hb
  cases h1 : vW (V.erS S) L k (erC c) with
  | none => simp [h1] at hq
  | some d =>
   cases h2 : bJ (V.erS S) L k (cs.map erC) with
   | none => simp [h1, h2] at hq
   | some es =>
    simp only [h1, h2, Option.bind_some, Option.map_some, Option.some.injEq] at hq
    subst hq
    obtain ⟨cG, k1, k2, k3, k4, k5⟩ := zMl h H hR hN hok.1 (fun b hb' => hb b (List.mem_append_left _ hb')) h1
    obtain ⟨gs, l1, l2, l3, l4, l5⟩ := eS h H hR hN hok.2 (fun b hb' => hb b (List.mem_append_right _ hb')) h2
    refine ⟨cG :: gs, by simp only [List.map_cons, k1, l1], by simp only [yC, k2, l2], by simp only [yF]; exact ⟨k3, l3⟩, by simp only [zH, k4, l4, List.append_nil], fun r hr => ?_⟩
    simp only [zK, List.mem_append] at hr
    rcases hr with hr | hr
    ·obtain ⟨j, rfl, _⟩ := k5 r hr; rfl
    ·exact l5 r hr
theorem zT1 (h : Rel isv w0 E0 P R ea w S tmps) {L : List Root} {k : Nat} (H : wU L k S S' ea ea') (hR : ∀ b, R b → R' b) (hN : ∀ r, r ∉ L → ∀ b ∈ zL S ea r, R' b) {x : XV} {y : XU} (hok : okX w P R S ea x) (hb : ∀ b ∈ zE x, R' b) (hq : rF (V.erS S) L k (erX x) = some y) :
  ∃ yG, erX yG = y ∧ zQ yG = zQ x ∧ (okX w (yR R' P) R' S' ea' yG ∧ ∀ r ∈ zD yG, x4 r = true) ∧ zE yG = [] := by
 cases x with
 | c c =>
  simp only [erX, zW, rF] at hq
  simp only [okX] at hok
  simp only [zE] at hb
  cases h1 : vW (V.erS S) L k (zI er0 c) with
  | none => simp [h1] at hq
  | some d =>
   simp only [h1, Option.map_some, Option.some.injEq] at hq
   subst hq
   obtain ⟨cG, k1, k2, k3, k4, k5⟩ := zMl h H hR hN hok hb h1
   refine ⟨.c cG, by simp only [erX, zW]; exact congrArg _ k1, by simp only [zQ, k2], ⟨by simp only [okX]; exact k3, fun r hr => ?_⟩, by simp only [zE, k4]⟩
   obtain ⟨j, rfl, _⟩ := k5 r (by simpa only [zD] using hr); rfl
 | agg cs =>
  simp only [erX, zW, rF, zR] at hq
  simp only [okX] at hok
  simp only [zE] at hb
  cases h1 : bJ (V.erS S) L k (cs.map (zI er0)) with
  | none => simp [h1] at hq
  | some ds =>
   simp only [h1, Option.map_some, Option.some.injEq] at hq
   subst hq
   obtain ⟨gs, l1, l2, l3, l4, l5⟩ := eS h H hR hN hok hb h1
   exact ⟨.agg gs, by simp only [erX, zW, zR]; exact congrArg _ l1, by simp only [zQ, l2], ⟨by simp only [okX]; exact l3, fun r hr => l5 r (by simpa only [zD] using hr)⟩, by simp only [zE, l4]⟩
 | box v cs => simp [erX, zW, rF] at hq
 | tup xs => simp [erX, zW, rF] at hq
 | undef => simp [erX, zW, rF] at hq
theorem zT4 {o : Operand} {r : Root} (hr : ∀ d, r = .sl d → zB cx f d = true) : zL (clr cx f S o) ea r = zL S ea r := by
 cases o with
 | tmp d =>
  simp only [V.clr]
  split
  ·rfl
  ·next hv =>
   split
   ·refine qD fun e => ?_
    exact hv (hr d e)
   ·rfl
 | _ => rfl
theorem rD (h : Rel (zB cx f) w0 E0 P R ea w S tmps) (ha : a.tmps = tmps) {L : List Root} {k : Nat} (hL : ∀ d, Root.sl d ∈ L → zB cx f d = true) (H : wU L k S S' ea ea') (hR : ∀ b, R b → R' b) (hN : ∀ r, r ∉ L → ∀ b ∈ zL S ea r, R' b) :
  ∀ {ms : List (Option XV)} {os : List Operand} {ts : List Nat} {xs : List (Option XU)} {ys : List XU}, ms.length = os.length → (∀ (i : Nat) x o, ms[i]? = some (some x) → os[i]? = some o → zQ x = a.eval o) →
  (∀ x, some x ∈ ms → okX w (yR R' P) R' S' ea' x ∧ ∀ r ∈ zD x, x4 r = true) → xH cx f (V.erS S) (ms.map (Option.map erX)) os ts = some xs → qC (V.erS S) L k (ms.map (Option.map erX)) xs = some ys →
  ∃ ysG : List XV, ysG.map erX = ys ∧ ysG.map zQ = os.map a.eval ∧ ysG.flatMap zE = ms.flatMap d8 ∧ ∀ y ∈ ysG, okX w (yR R' P) R' S' ea' y ∧ ∀ r ∈ zD y, x4 r = true
 | [], os, ts, xs, ys, hl, hv, hx, hq, hq' => by
  have : os = [] := by simpa using hl.symm
  subst this
  simp only [List.map_nil, qC, Option.some.injEq] at hq'
  subst hq'
  exact ⟨[], rfl, rfl, rfl, by simp⟩
 | m :: ms, [], ts, xs, ys, hl, _, _, _, _ => by simp at hl
 | m :: ms, o :: os, ts, xs, ys, hl, hv, hx, hq, hq' => by
  simp only [List.length_cons, Nat.add_right_cancel_iff] at hl
  have hv' : ∀ (i : Nat) x o, ms[i]? = some (some x) → os[i]? = some o → zQ x = a.eval o := fun i x o' h1 h2 => hv (i + 1) x o' (by simpa using h1) (by simpa using h2)
  have hx' : ∀ x, some x ∈ ms → okX w (yR R' P) R' S' ea' x ∧ ∀ r ∈ zD x, x4 r = true := fun x h1 => hx x (List.mem_cons_of_mem _ h1)
  cases m with
  | some x =>
   simp only [List.map_cons, Option.map_some, xH] at hq
   cases h1 : xH cx f (V.erS S) (ms.map (Option.map erX)) os ts.tail with
   | none => simp [h1] at hq
   | some xs' =>
    simp only [h1, Option.map_some, Option.some.injEq] at hq
    subst hq
    simp only [List.map_cons, Option.map_some, qC] at hq'
    cases h2 : qC (V.erS S) L k (ms.map (Option.map erX)) xs' with
    | none => simp [h2] at hq'
    | some ys' =>
     simp only [h2, Option.map_some, Option.some.injEq] at hq'
     subst hq'
     obtain ⟨gs, k1, k2, k3, k4⟩ := rD h ha hL H hR hN hl hv' hx' h1 h2
     refine ⟨x :: gs, by simp only [List.map_cons, k1], by simp only [List.map_cons, k2, hv 0 x o rfl rfl], by simp only [List.flatMap_cons, k3, d8], fun y hy => ?_⟩
     rcases List.mem_cons.1 hy with rfl | hy
     ·exact hx _ List.mem_cons_self
     ·exact k4 y hy
  | none =>
   simp only [List.map_cons, Option.map_none, xH] at hq
   cases h0 : opv cx f (V.erS S) (ts.head?.getD 0) o with
   | none => simp [h0] at hq
   | some x =>
    simp only [h0, Option.bind_some] at hq
    cases h1 : xH cx f (V.erS S) (ms.map (Option.map erX)) os ts.tail with
    | none => simp [h1] at hq
    | some xs' =>
     simp only [h1, Option.map_some, Option.some.injEq] at hq
     subst hq
     simp only [List.map_cons, Option.map_none, qC] at hq'
     cases h3 : rF (V.erS S) L k x with
     | none => simp [h3] at hq'
     | some y =>
      simp only [h3, Option.bind_some] at hq'
      cases h2 : qC (V.erS S) L k (ms.map (Option.map erX)) xs' with
      | none => simp [h2] at hq'
      | some ys' =>
       simp only [h2, Option.map_some, Option.some.injEq] at hq'
       subst hq'
       obtain ⟨gs, k1, k2, k3, k4⟩ := rD h ha hL H hR hN hl hv' hx' h1 h2
       obtain ⟨xG, hxG⟩ := h.opv ha h0
       rw [← hxG.er] at h3
       have hb : ∀ b ∈ zE xG, R' b := by
        intro b hb
        obtain ⟨r, hr⟩ := hxG.src b hb
        refine hN r (fun hrL => ?_) b hr
        refine hxG.new.sep r b hb ?_
        rw [zT4 fun d hd => hL d (hd ▸ hrL)]
        exact hr
       obtain ⟨yG, l1, l2, l3, l4⟩ := zT1 h H hR hN hxG.ok hb h3
       refine ⟨yG :: gs, by simp only [List.map_cons, l1, k1], by simp only [List.map_cons, l2, k2, hxG.val], by simp only [List.flatMap_cons, k3, l4, d8, List.nil_append], fun z hz => ?_⟩
       rcases List.mem_cons.1 hz with rfl | hz
       ·exact l3
       ·exact k4 z hz
theorem zBj : ∀ {L : List Root} {bs : List (List CU)}, L.mapM (zA (V.erS S)) = some bs → (∀ r ∈ L, ∃ cs, zA S r = some cs) ∧ bs = L.map fun r => ((zA S r).getD []).map erC
 | [], bs, h => by
  have : bs = [] := by simpa using h.symm
  subst this; simp
 | r :: L, bs, h => by
  simp only [List.mapM_cons] at h
  have hm : zA (V.erS S) r = (zA S r).map (·.map (zI er0)) := dR er0 S r
  rw [hm] at h
  cases hr : zA S r with
  | none => rw [hr] at h; cases h
  | some cs =>
   rw [hr] at h
   cases hl : L.mapM (zA (V.erS S)) with
   | none => rw [show L.mapM (zA (erS S)) = none from hl] at h; cases h
   | some ds =>
    rw [show L.mapM (zA (erS S)) = _ from hl] at h
    have : bs = cs.map erC :: ds := by simpa using h.symm
    subst this
    obtain ⟨h1, h2⟩ := zBj hl
    refine ⟨fun q hq => ?_, by rw [List.map_cons, ← h2, hr]; rfl⟩
    rcases List.mem_cons.1 hq with rfl | hq
    ·exact ⟨cs, hr⟩
    ·exact h1 q hq
theorem zD3 (hR : ∀ b, R b → R' b) : ∀ {ext : List (List CV)} {es : List (List CU)}, (∀ e ∈ ext, yF w (yR R' P) R' S ea e) → (ext.map (·.map erC)).mapM xQ = some es →
  es = ext.map (fun e => yY er0 (qS e)) ∧ ∀ e ∈ ext, ∃ d, xQ (yY er0 e) = some d
 | [], es, _, h => by
  have : es = [] := by simpa using h.symm
  subst this; simp
 | e :: ext, es, hok, h => by
  simp only [List.map_cons, List.mapM_cons] at h
  cases h1 : xQ (e.map erC) with
  | none => rw [h1] at h; cases h
  | some d =>
   rw [h1] at h
   cases h2 : (ext.map (·.map erC)).mapM xQ with
   | none => rw [h2] at h; cases h
   | some ds =>
    rw [h2] at h
    have : es = d :: ds := by simpa using h.symm
    subst this
    obtain ⟨k1, k2⟩ := zD3 hR (fun e' he => hok e' (List.mem_cons_of_mem _ he)) h2
    have h1' : xQ (yY er0 e) = some d := by rw [zR]; exact h1
    obtain ⟨l1, _⟩ := i6 hR (hok e List.mem_cons_self) h1'
    refine ⟨by rw [List.map_cons, ← k1, l1], fun e' he => ?_⟩
    rcases List.mem_cons.1 he with rfl | he
    ·exact ⟨d, h1'⟩
    ·exact k2 e' he
theorem zP6 (L : List Root) (cs : List CV) (p : List Nat) : y9 (qR L cs) p = (y9 cs p).map (qR L) := by
 cases hs : y9 cs p with
 | some ds => rw [zJv L hs]; rfl
 | none =>
  cases p with
  | nil => simp [y9] at hs
  | cons i p =>
   simp only [y9] at hs ⊢
   rw [gZ, List.getElem?_map]
   cases hi : cs[i]? with
   | none => rfl
   | some c =>
    rw [hi] at hs
    simp only [Option.map_some]
    cases c with
    | t x =>
     simp only [jV]
     cases x with
     | sl v tag sz n es =>
      cases tag with
      | zero =>
       simp only [Option.map_eq_none_iff] at hs
       simp only [hs]; rfl
      | succ g => rfl
     | _ => rfl
    | ptr v r q off =>
     simp only [jV]
     by_cases hc : (L.contains r && !q.isEmpty) = true
     ·rw [if_pos hc]; rfl
     ·rw [if_neg hc]; rfl
    | bor v r q j off sz n =>
     simp only [jV]
     by_cases hc : L.contains r = true
     ·rw [if_pos hc]; rfl
     ·rw [if_neg hc]; rfl
    | _ => rfl
theorem zOz {L : List Root} {k : Nat} {ext : List (List CV)} {r : Root} (hr : r ∉ L) (p : List Nat) (i : Nat) : at_ (qK S L k ext) r p i = (at_ S r p i).map (jV L) := by
 have hp : yZ L r 0 = none := by
  cases h : yZ L r 0 with
  | none => rfl
  | some i => exact absurd (List.mem_of_getElem? (rY h)) hr
 have hroot : zA (qK S L k ext) r = (zA S r).map (qR L) := by
  cases r with
  | sl d =>
   rw [yE, yE]
   simp only [kY, dZ, hp]
   exact zDi L _
  | ex j =>
   simp only [zA, kY, dH, Nat.zero_add]
   congr 1
   funext cs
   simp only [zC8, hp]
 simp only [at_, hroot]
 cases zA S r with
 | none => rfl
 | some cs =>
  simp only [Option.map_some, Option.bind_some, zP6]
  cases y9 cs p with
  | none => rfl
  | some ds =>
   simp only [Option.map_some, Option.bind_some]
   rw [gZ, List.getElem?_map]
theorem zSe {s s' : Nat → XV} {e : List (List CV)} {x : XV} (h : okX w P R ⟨s, e⟩ ea x) (hr : ∀ r ∈ zD x, x4 r = true) : okX w P R ⟨s', e⟩ ea x :=
 jY (fun _ _ _ => rfl) (fun _ _ => rfl) h (fun _ _ => rfl) fun r hr' => by
  have := hr r hr'
  cases r with
  | sl d => cases this
  | ex j => exact ⟨rfl, rfl⟩
theorem zPb {l : List XV} (h : ∀ x ∈ l, zE x = []) : l.flatMap zE = [] := List.flatMap_eq_nil_iff.2 h
theorem aH {α : Type} {l : List α} {n i : Nat} {x : α} (h : (l.take n)[i]? = some x) : i < n ∧ l[i]? = some x := by
 have hl := (List.getElem?_eq_some_iff.1 h).1
 simp only [List.length_take] at hl
 have : i < n := by omega
 rw [List.getElem?_take_of_lt this] at h
 exact ⟨this, h⟩
theorem zAp {α : Type} {f g : α → List Nat} : ∀ {l : List α}, (∀ x ∈ l, f x = g x) → l.flatMap f = l.flatMap g
 | [], _ => rfl
 | x :: l, h => by rw [List.flatMap_cons, List.flatMap_cons, h x List.mem_cons_self, zAp fun y hy => h y (List.mem_cons_of_mem _ hy)]
theorem zOt (hcall : lH Pr call w0 E0) (h : Rel (zB cx f) w0 E0 P R ea w S tmps) (ha : a.tmps = tmps) {o : Oper} {c : Call} (ho : o.op = .call c) {fo : Operand} (hb : c.callee = .value fo) {z : XU} {Su : SU}
  (hq : activeCall cx f call (V.erS S) fo c.args.toList c.argTypes.toList = some (z, Su)) {K : Act → World → Prop} {Q : Exit → Act → World → Prop}
  (hk : ∀ w' S' xG, erX xG = z → V.erS S' = Su → Rel (zB cx f) w0 E0 P R ea w' S' tmps → New (zB cx f) w0 E0 P R ea w' S' xG → K (a.put o.dst (zQ xG)) w') : o.wp Pr a w K Q := by
 unfold activeCall at hq
 split at hq
 ·next g caps0 hg0 =>
  cases hp : yM cx f g 0 0 c.args.toList c.argTypes.toList (V.erS S) with
  | none => simp [hp] at hq
  | some u =>
   simp only [hp, Option.bind_some] at hq
   obtain ⟨ms, rs, S2, e1, e2, pr⟩ := uA h ha hp
   rw [← e2] at hq
   split at hq
   ·next g' caps hg =>
    obtain ⟨fG, hf1, hf2, hfok, _⟩ := kA pr.rel ha hg
    obtain ⟨capsG, rfl, hcaps⟩ := zVn hf1
    subst hcaps
    simp only [okC] at hfok
    cases hrest : xH cx f (V.erS S2) u.1 c.args.toList c.argTypes.toList with
    | none => simp [hrest] at hq
    | some xs =>
     simp only [hrest, Option.bind_some] at hq
     revert hq
     generalize jH cx f (V.erS S2) xs (capsG.map erC) = L
     intro hq
     cases hall : qC (V.erS S2) L u.2.1.length u.1 xs with
     | none => simp [hall] at hq
     | some ys =>
      simp only [hall, Option.bind_some] at hq
      cases hcs : bJ (V.erS S2) L u.2.1.length (capsG.map erC) with
      | none => simp [hcs] at hq
      | some cs =>
       simp only [hcs, Option.bind_some] at hq
       cases hbs : L.mapM (zA (V.erS S2)) with
       | none => simp [hbs] at hq
       | some bs =>
        simp only [hbs, Option.bind_some] at hq
        split at hq
        ·next hck =>
         obtain ⟨hgg, hnd, hgood, hapart, hrows⟩ := hck
         subst hgg
         have hLn := zBn hnd
         obtain ⟨hLr, hbs'⟩ := zBj hbs
         have hLv : ∀ d, Root.sl d ∈ L → zB cx f d = true := by
          intro d hd
          have := List.all_eq_true.1 hgood _ hd
          simp only [vS, Bool.and_eq_true] at this
          exact this.1
         have htup : ∀ d, Root.sl d ∈ L → zNf (S2.s d) = false := by
          intro d hd
          have := List.all_eq_true.1 hgood _ hd
          simp only [vS, Bool.and_eq_true, Bool.not_eq_true'] at this
          have := this.2
          simp only [V.erS, jJ] at this
          cases hx : S2.s d <;> rw [hx] at this <;> simp [zW, zNf] at this <;> rfl
         have hklen : rs.length = u.2.1.length := by have := congrArg List.length pr.er; simpa using this
         -- what is read only for the callee
         let M : List Nat := ms.flatMap d8 ++ rs.flatMap zU
         let R2 : Nat → Prop := fun b => b < w.heap.size ∧ ¬ (b ∈ M ∨ ∃ r ∈ L, b ∈ zL S2 ea r)
         have hRR : ∀ b, R b → R2 b := by
          intro b hb'
          refine ⟨pr.rel.ltR b hb', ?_⟩
          rintro (h1 | ⟨r, _, h1⟩)
          ·exact pr.bk.notR b h1 hb'
          ·exact pr.rel.notR r b h1 hb'
         have hN : ∀ r, r ∉ L → ∀ b ∈ zL S2 ea r, R2 b := by
          intro r hr b hb'
          refine ⟨pr.rel.lt r b hb', ?_⟩
          rintro (h1 | ⟨r', hr', h1⟩)
          ·exact pr.bk.sep r b h1 hb'
          ·have := pr.rel.dis r r' b hb' h1
           subst this; exact hr hr'
         have H : ∀ s : Nat → XV, wU L u.2.1.length S2 ⟨s, inE S2 L rs⟩ ea (wX S2 ea L rs) := by
          intro s
          rw [← hklen]; exact zDr hLr
         have hPA : ∀ x, some x ∈ ms → okX w (yR R2 P) R2 ⟨fun _ => .undef, inE S2 L rs⟩ (wX S2 ea L rs) x ∧ ∀ r ∈ zD x, x4 r = true := fun x hx => pr.arg x hx R2 _ _ fun j t hj => by
          rw [Nat.zero_add]
          exact (pC (S := S2) (ea := ea) (L := L) hj).1
         rw [← e1] at hrest hall
         obtain ⟨ysG, y1, y2, y3, y4⟩ := rD pr.rel ha hLv (H (fun _ => .undef)) hRR hN pr.len pr.val hPA hrest hall
         obtain ⟨csG, c1, c2, c3, c4, c5⟩ := eS pr.rel (H (fun _ => .undef)) hRR hN hfok.1 (by rw [hfok.2]; simp) hcs
         -- the callee's arguments
         have hcsX : ∀ x ∈ csG.map (X.c), (okX w (yR R2 P) R2 ⟨fun _ => .undef, inE S2 L rs⟩ (wX S2 ea L rs) x ∧ ∀ r ∈ zD x, x4 r = true) ∧ zE x = [] := by
          intro x hx
          obtain ⟨cG, hc, rfl⟩ := List.mem_map.1 hx
          refine ⟨⟨by simp only [okX]; exact zY.1 c3 cG hc, fun r hr => c5 r ?_⟩, ?_⟩
          ·rw [yI, List.mem_flatMap]; exact ⟨cG, hc, by simpa only [zD] using hr⟩
          ·simp only [zE]
           rw [yW, List.flatMap_eq_nil_iff] at c4
           exact c4 cG hc
         have hblk : (ysG ++ csG.map (X.c)).flatMap zE = ms.flatMap d8 := by
          rw [List.flatMap_append, y3, zPb fun x hx => (hcsX x hx).2, List.append_nil]
         have hF : Bk w0 E0 R ea w S2 ((ysG ++ csG.map (X.c)).flatMap zE ++ rs.flatMap zU) := by rw [hblk]; exact pr.bk
         have hR2 : R2 = fun b => b < w.heap.size ∧ ¬ inB S2 ea L rs (ysG ++ csG.map (X.c)) b := by
          funext b
          simp only [R2, M, inB, hblk]
         have hin := in_ok (R' := R2) pr.rel hLn hLr pr.ok hF hR2 (args := ysG ++ csG.map (X.c)) fun x hx => by
          have : okX w (yR R2 P) R2 ⟨fun _ => .undef, inE S2 L rs⟩ (wX S2 ea L rs) x ∧ ∀ r ∈ zD x, x4 r = true := (List.mem_append.1 hx).elim (y4 x) (fun h' => (hcsX x h').1)
          exact ⟨zSe this.1 this.2, this.2⟩
         have hext : (inE S2 L rs).map (·.map erC) = u.2.1.map (fun w => [.t (up w.t)]) ++ bs.map (wE L u.2.1.length) := by
          simp only [inE, List.map_append, List.map_map, hbs']
          congr 1
          ·have : u.2.1.map (fun w : Row => ([.t (up w.t)] : List CU)) = (u.2.1.map (·.t)).map fun t => [.t (up t)] := by rw [List.map_map]; rfl
           rw [this, ← pr.er, List.map_map]
           apply List.map_congr_left
           intro t _
           simp only [Function.comp, List.map_cons, List.map_nil]
           rw [show erC (.t (up t)) = .t (erT (up t)) from rfl, show erT (up t) = up (erT t) from (zGl er0 t).symm]
          ·apply List.map_congr_left
           intro r _
           simp only [Function.comp]
           rw [zUp, hklen]
         cases hcl : call g' (ys ++ cs.map .c) (u.2.1.map (fun w => [.t (up w.t)]) ++ bs.map (wE L u.2.1.length)) with
         | none => simp [hcl] at hq
         | some r =>
          obtain ⟨res, ext'⟩ := r
          simp only [hcl, Option.bind_some] at hq
          obtain ⟨hent, hc⟩ := hcall g' _ _ res ext' hcl
          have hC := hc w _ _ _ _ (ysG ++ csG.map (X.c)) (inE S2 L rs) pr.rel.frm (fun b hb => hb.elim (hF.own b) (fun ⟨r, _, h1⟩ => pr.rel.own r b h1)) (by
           rw [List.map_append, y1, ← c1, List.map_map, List.map_map]
           rfl) hext hin
          have hargs : (c.args.map a.eval ++ (yC capsG).toArray) = ((ysG ++ csG.map (X.c)).map zQ).toArray := by
           apply Array.ext'
           rw [List.map_append, y2, ← c2, z8]
           simp [zQ]
          have hrun : (execOp a.eval o).run Pr w = .ok (.enter g' ((ysG ++ csG.map (X.c)).map zQ).toArray) w := by
           have he := hent ((ysG ++ csG.map (X.c)).map zQ).toArray w
           rw [← hargs] at he ⊢
           simpa [execOp, ho, resolve, hb, hf2, zJ, Deferred.ofValue, invoke] using he
          simp only [Oper.wp, Oper.upon, hrun]
          refine Calls.mono hC ?_
          intro e w' he
          cases e with
          | panicked chain => exact he.elim
          | outgrown => exact he.elim
          | returned v =>
           obtain ⟨resG, extG, g1, g2, rfl, g3⟩ := he
           subst g1 g2
           cases hdx : kZ (erX resG) with
           | none => simp [hdx] at hq
           | some x =>
            simp only [hdx, Option.bind_some] at hq
            cases hdm : (extG.map (·.map erC)).mapM xQ with
            | none => simp [hdm] at hq
            | some es =>
             simp only [hdm, Option.bind_some] at hq
             split at hq
             ·next hlen =>
              have hoe : ∀ e ∈ extG, yF w' (yR R2 P) R2 (uM resG extG) (wX S2 ea L rs) e := by
               intro e he
               obtain ⟨j, hj⟩ := List.getElem?_of_mem he
               exact (g3.okE j e hj).1
              obtain ⟨m1, m2⟩ := zD3 hRR hoe hdm
              have HBs : HB (zB cx f) w0 E0 P R R2 ea w w' S2 tmps L rs (ysG ++ csG.map (X.c)) resG extG := by
               refine ⟨pr.rel, hLn, hLr, htup, hLv, hF, hR2, g3, fun i r cs' e hi hcs' he => ?_, fun j e he => m2 e (List.mem_of_getElem? he)⟩
               have h1 := congrArg (fun l : List Nat => l[i]?) hlen.1
               simp only [m1, hbs', List.getElem?_map, List.getElem?_drop, hi, Option.map_some, hcs', Option.getD_some, List.length_map] at h1
               rw [← hklen, he] at h1
               simp only [Option.map_some, Option.some.injEq, zR, List.length_map, g0] at h1
               exact h1
              obtain ⟨yG, r1, r2, r3, r4, r5⟩ := HBs.result hdx
              have hbk := HBs.bk
              -- rows
              have hone : ∀ (j : Nat) e, (extG.take rs.length)[j]? = some e → ∃ t c0, rs[j]? = some t ∧ e = [c0] ∧ zJ c0 = zV t := by
               intro j e hj
               obtain ⟨hj1, hj2⟩ := aH hj
               have ht : rs[j]? = some (rs[j]'hj1) := List.getElem?_eq_getElem hj1
               have hrow := g3.row j _ e (pC (S := S2) (ea := ea) (L := L) ht).2 hj2
               rw [z8] at hrow
               rcases e with _ | ⟨c0, _ | ⟨c1, e⟩⟩
               ·simp at hrow
               ·exact ⟨_, c0, ht, rfl, by simpa using hrow⟩
               ·simp at hrow
              have hcells : ∀ (l : List (List CV)), (∀ e ∈ l, ∃ c0, e = [c0]) → l.map (fun e => yY er0 (qS e)) = (l.map fun e => dnC (e.head?.getD .nilp)).map (fun c => [erC c]) ∧ (zH (l.map fun e => dnC (e.head?.getD .nilp))) = (l.map fun e => qS e).flatMap zH := by
               intro l
               induction l with
               | nil => intro _; exact ⟨rfl, rfl⟩
               | cons e l ih =>
                intro hl
                obtain ⟨c0, rfl⟩ := hl e List.mem_cons_self
                obtain ⟨i1, i2⟩ := ih fun e he => hl e (List.mem_cons_of_mem _ he)
                refine ⟨?_, ?_⟩
                ·simp only [List.map_cons, i1, List.head?_cons, Option.getD_some, qS, yY]
                ·simp only [List.map_cons, zH, i2, List.head?_cons, Option.getD_some, qS, List.flatMap_cons, List.append_nil]
              obtain ⟨q1, q2⟩ := hcells (extG.take rs.length) (fun e he => by
               obtain ⟨j, hj⟩ := List.getElem?_of_mem he
               obtain ⟨t, c0, _, h2, _⟩ := hone j e hj
               exact ⟨c0, h2⟩)
              have hdn : ((extG.take rs.length).map fun e => qS e).flatMap zH = (extG.take rs.length).flatMap zH := by
               rw [List.flatMap_map]
               refine zAp fun e he => ?_
               obtain ⟨j, hj⟩ := List.getElem?_of_mem he
               exact (HBs.down (aH hj).2).2.2.1
              have hbk2 : Bk w0 E0 R ea w' (qK S2 L rs.length extG) (zE yG ++ zH ((extG.take rs.length).map fun e => dnC (e.head?.getD .nilp))) := by
               rw [q2, hdn]
               exact hbk.sub (r5.append (List.Sublist.refl _))
              have hnew : New (zB cx f) w0 E0 P R ea w' (qK S2 L rs.length extG) yG := New.of_bk r3 r4 (hbk2.sub (List.sublist_append_left _ _))
              have hokc : yF w' P R (uM resG extG) (wX S2 ea L rs) ((extG.take rs.length).map fun e => dnC (e.head?.getD .nilp)) := by
               refine zY.2 fun c hc => ?_
               obtain ⟨e, he, rfl⟩ := List.mem_map.1 hc
               obtain ⟨j, hj⟩ := List.getElem?_of_mem he
               obtain ⟨t, c0, _, rfl, _⟩ := hone j e hj
               have := (HBs.down (aH hj).2).1
               simp only [List.head?_cons, Option.getD_some]
               simpa only [qS, yF, and_true] using this
              have hgone : ∀ (i : Nat) wr c, u.2.1[i]? = some wr → ((extG.take rs.length).map fun e => dnC (e.head?.getD .nilp))[i]? = some c → ∀ v, at_ (qK S2 L rs.length extG) wr.r wr.p wr.i = some (.t (.dead v)) → v = zJ c := by
               intro i wr c hwr hc v hv
               rw [List.getElem?_map] at hc
               cases he : (extG.take rs.length)[i]? with
               | none => rw [he] at hc; cases hc
               | some e =>
                rw [he] at hc
                simp only [Option.map_some, Option.some.injEq] at hc
                subst hc
                obtain ⟨t, c0, ht, rfl, hval⟩ := hone i e he
                have hd := HBs.down (aH he).2
                have hG := pr.gone i t wr ht hwr
                have hnL : wr.r ∉ L := by
                 have := List.all_eq_true.1 hrows wr (List.mem_of_getElem? hwr)
                 simpa using this
                rw [zOz hnL] at hv
                have e3 : zJ (dnC c0) = zJ c0 := by
                 have := hd.2.1
                 simpa only [qS, yC, List.cons.injEq, and_true] using this
                simp only [List.head?_cons, Option.getD_some, e3, hval]
                rcases hG.2 with h1 | h1
                ·rw [h1] at hv
                 simp only [Option.map_some, jV, Option.some.injEq, C.t.injEq, T.dead.injEq] at hv
                 exact hv.symm
                ·rw [h1] at hv; cases hv
              cases hfl : x5 u.2.1 (es.take u.2.1.length) (kY L u.2.1.length (es.drop u.2.1.length) (V.erS S2)) with
              | none => simp [hfl] at hq
              | some S3 =>
               simp only [hfl, Option.map_some, Option.some.injEq, Prod.mk.injEq] at hq
               obtain ⟨rfl, rfl⟩ := hq
               have hback : kY L u.2.1.length (es.drop u.2.1.length) (V.erS S2) = V.erS (qK S2 L rs.length extG) := by
                have := zO0 er0 L rs.length ((extG.drop rs.length).map qS) S2
                rw [List.map_map] at this
                rw [← hklen, m1, ← List.map_drop]
                exact this
               rw [hback, m1, ← List.map_take, ← hklen, q1] at hfl
               obtain ⟨S4, s1, s2, s3⟩ := oO HBs.rel hnew hokc hgone hbk2 hapart hfl
               have := hk w' S4 yG (by rw [r1, hklen]) s1 s2 s3
               rw [r2] at this
               exact this
             ·cases hq
        ·cases hq
   ·cases hq
 ·cases hq
end
end Go.Proofs.YtlkjnlfddadlmaaGreatDoor.V
namespace Go.Proofs.YtlkjnlfddadlmaaGreatDoor.V
open Go.RowKit
section
variable {cx : Ctx} {f : Nat} {w0 : World} {E0 : Nat → Prop} {P : Nat → Nat → Prop} {R : Nat → Prop} {ea : List EA} {w w' : World} {a : Act} {call : zX} {Pr : Program} {S S0 S1 S2 S3 : SV} {tmps : Array Value}
theorem zJs (hcall : lH Pr call w0 E0) {ops : Array Oper} {o : Oper} {i n : Nat} {Su Su' : SU} {c : Call} {fo : Operand} (hat : At cx f w0 E0 P R ea n Su a w) (ho : o.op = .call c) (hcal : c.callee = .value fo) (hact : yX cx (.call c) = true) (hi : ops[i]? = some o)
  (hdst : ∀ d, o.dst = some d → d < n) (hq : stepOp cx f call Su ops o = some Su') {K : Act → World → Prop} {Q : Exit → Act → World → Prop} (hk : ∀ a' w', At cx f w0 E0 P R ea n Su' a' w' → K a' w') : wpOp Pr ops Q i K a w := by
 obtain ⟨S, hr, rfl, hd, hsz⟩ := hat
 simp only [wpOp, hi]
 unfold stepOp at hq
 cases hw : y5 (V.erS S) ops o with
 | none => simp [hw] at hq
 | some b =>
  have hwt := bE hr hw
  cases b with
  | false =>
   rw [if_neg (by rw [hwt]; simp)]
   simp only [hw] at hq
   exact hk _ _ (pO hr rfl hd hsz hdst hq)
  | true =>
   rw [if_pos hwt]
   refine .inl ?_
   simp only [hw, ho, hact, if_true, hcal] at hq
   cases hv : activeCall cx f call (V.erS S) fo c.args.toList c.argTypes.toList with
   | none => simp [hv] at hq
   | some r =>
    obtain ⟨z, Sz⟩ := r
    simp only [hv, Option.bind_some] at hq
    exact zOt hcall hr rfl ho hcal hv fun w' S' xG e1 e2 e3 e4 => hk _ _ (dI e3 e4 e1 e2 hd hsz hdst hq)
theorem zTc (hty : jB Pr cx.ty) (s8 : eN Pr cx) (hcall : lH Pr call w0 E0) {n : Nat} : mN cx f call Pr w0 E0 P R ea n := by
 intro ops o i Su Su' a w hat hi hdst hq K Q hk
 cases ho : o.op with
 | assign x => exact zJu hat ho hi hdst hq hk
 | store t x y => exact zLt hty hat ho hi hdst hq hk
 | call c =>
  by_cases hact : yX cx (.call c) = true
  ·have hc := hq
   unfold stepOp at hc
   split at hc
   ·cases hc
   ·rename_i hw
    obtain ⟨S, hr, rfl, hd, hsz⟩ := hat
    have hwt := bE hr hw
    simp only [wpOp, hi]
    rw [if_neg (by rw [hwt]; simp)]
    exact hk _ _ (pO hr rfl hd hsz hdst hc)
   ·simp only [ho, hact, if_true] at hc
    split at hc
    ·rename_i hcal hargs
     exact zJt hty hat ho hcal hargs hact hi hdst hq hk
    ·rename_i hcal
     exact zJs hcall hat ho hcal hact hi hdst hq hk
    ·cases hc
  ·exact zCn hty s8 hcall hat (by rw [ho]; simpa using hact) hi hdst hq hk
 | _ => exact zCn hty s8 hcall hat (by rw [ho]; rfl) hi hdst hq hk
end
end Go.Proofs.YtlkjnlfddadlmaaGreatDoor.V
