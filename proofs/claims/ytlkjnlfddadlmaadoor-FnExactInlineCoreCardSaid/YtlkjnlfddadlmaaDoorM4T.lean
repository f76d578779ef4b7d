/-
  Calls that are handed places, first part: cells as the callee sees them. No conditions.
-/
import Derived.Test.YtlkjnlfddadlmaaDoorM4
set_option linter.unusedVariables false
set_option linter.unusedSimpArgs false
namespace Go.Proofs.YtlkjnlfddadlmaaDoor.V
open Go.RowKit

section
variable {isv : Nat → Bool} {w0 : World} {E0 : Nat → Prop} {P : Nat → Nat → Prop} {R R' : Nat → Prop} {ea : List EA} {w w' : World} {S : SV} {tmps : Array Value}

theorem ups_length {α : Type} : ∀ xs : List (T α), (ups xs).length = xs.length
  | [] => rfl
  | x :: xs => by simp only [ups, List.length_cons, ups_length xs]

mutual
theorem up_val : ∀ x : TV, valT (up x) = valT x
  | .sl a tag sz n cs => rfl
  | .int _ _ => rfl
  | .bool _ => rfl
  | .str _ => rfl
  | .dead _ => rfl
  | .nili => rfl
  | .ifc _ => rfl
theorem ups_val : ∀ xs : List TV, (ups xs).map valT = xs.map valT
  | [] => rfl
  | x :: xs => by simp only [ups, List.map_cons, up_val x, ups_val xs]
end

mutual
theorem up_blk : ∀ x : TV, blkT (up x) = blkT x
  | .sl a tag sz n cs => by
    by_cases ht : tag = 0
    · simp only [up, blkT, ht, if_true, ups_blk cs]
    · simp only [up, blkT, ht, if_false, Nat.succ_ne_zero]
  | .int _ _ => rfl
  | .bool _ => rfl
  | .str _ => rfl
  | .dead _ => rfl
  | .nili => rfl
  | .ifc _ => rfl
theorem ups_blk : ∀ xs : List TV, blkTs (ups xs) = blkTs xs
  | [] => rfl
  | x :: xs => by simp only [ups, blkTs, up_blk x, ups_blk xs]
end

mutual
theorem up_sh : ∀ {g : Nat} {x : TV}, 1 ≤ g → shT g x → shT (g + 1) (up x)
  | g, .sl a tag sz n cs, hg, h => by
    simp only [shT] at h
    have ht : ¬ tag = 0 := by omega
    simp only [up, if_neg ht, shT]
    exact ⟨by omega, by omega, ups_sh hg h.2.2⟩
  | _, .int _ _, _, _ => by simp [up, shT]
  | _, .bool _, _, _ => by simp [up, shT]
  | _, .str _, _, _ => by simp [up, shT]
  | _, .dead _, _, _ => by simp [up, shT]
  | _, .nili, _, _ => by simp [up, shT]
  | _, .ifc _, _, _ => by simp [up, shT]
theorem ups_sh : ∀ {g : Nat} {xs : List TV}, 1 ≤ g → shTs g xs → shTs (g + 1) (ups xs)
  | _, [], _, _ => by simp [ups, shTs]
  | g, x :: xs, hg, h => by
    simp only [shTs] at h
    simp only [ups, shTs]
    exact ⟨up_sh hg h.1, ups_sh hg h.2⟩
end

mutual
theorem up_ok : ∀ {x : TV}, okT w P R x → okT w (shiftP R' P) R' (up x)
  | .sl a tag sz n cs, h => by
    simp only [okT] at h
    obtain ⟨h1, h2, h3⟩ := h
    by_cases ht : tag = 0
    · subst ht
      simp only [if_true] at h3
      simp only [up, okT, if_true]
      exact ⟨by rw [ups_length]; exact h1, ups_ok h2, by rw [ups_val]; exact h3⟩
    · rw [if_neg ht] at h3
      simp only [up, if_neg ht, okT, Nat.succ_ne_zero, if_false]
      refine ⟨by rw [ups_length]; exact h1, ups_ok h2, ?_, by omega, ups_sh h3.2.1 h3.2.2⟩
      rw [ups_val]
      obtain ⟨t, rfl⟩ : ∃ t, tag = t + 1 := ⟨tag - 1, by omega⟩
      exact h3.1
  | .dead a, h => by simpa only [up, okT] using h
  | .ifc a, h => by simpa only [up, okT] using h
  | .int _ _, _ => by simp [up, okT]
  | .bool _, _ => by simp [up, okT]
  | .str _, _ => by simp [up, okT]
  | .nili, _ => by simp [up, okT]
theorem ups_ok : ∀ {xs : List TV}, okTs w P R xs → okTs w (shiftP R' P) R' (ups xs)
  | [], _ => by simp [ups, okTs]
  | x :: xs, h => by
    simp only [okTs] at h
    simp only [ups, okTs]
    exact ⟨up_ok h.1, ups_ok h.2⟩
end

theorem placeOf_some : ∀ {L : List Root} {r : Root} {k j : Nat}, placeOf L r k = some j → k ≤ j ∧ L[j - k]? = some r
  | [], r, k, j, h => by simp [placeOf] at h
  | q :: L, r, k, j, h => by
    simp only [placeOf] at h
    split at h
    · next e =>
      simp only [Option.some.injEq] at h
      subst h e
      exact ⟨Nat.le_refl _, by simp⟩
    · obtain ⟨h1, h2⟩ := placeOf_some h
      refine ⟨by omega, ?_⟩
      obtain ⟨m, rfl⟩ : ∃ m, j = k + 1 + m := ⟨j - (k + 1), by omega⟩
      rw [show k + 1 + m - (k + 1) = m by omega] at h2
      rw [show k + 1 + m - k = m + 1 by omega]
      simpa using h2

theorem inCs_eq {α : Type} (L : List Root) (k : Nat) : ∀ cs : List (C α), inCs L k cs = cs.map (inC L k)
  | [] => rfl
  | c :: cs => by simp only [inCs, List.map_cons, inCs_eq L k cs]

mutual
theorem inC_val (L : List Root) (k : Nat) : ∀ c : CV, valC (inC L k c) = valC c
  | .t x => by simp only [inC, valC, up_val]
  | .ptr a r p off => by simp only [inC]; split <;> simp only [valC, valT]
  | .bor a r p i off sz n => by simp only [inC]; split <;> simp only [valC, valT]
  | .fn g caps => by simp only [inC, valC, inCs_val L k caps]
  | .rptr a cs => by simp only [inC, valC]
  | .nilp => rfl
  | .nilf => rfl
  | .lst a sz n cs => rfl
theorem inCs_val (L : List Root) (k : Nat) : ∀ cs : List CV, valCs (inCs L k cs) = valCs cs
  | [] => rfl
  | c :: cs => by simp only [inCs, valCs, inC_val L k c, inCs_val L k cs]
end

mutual
theorem inC_blk (L : List Root) (k : Nat) : ∀ c : CV, (blkC (inC L k c)).Sublist (blkC c)
  | .t x => by simp only [inC, blkC, up_blk]; exact List.Sublist.refl _
  | .ptr a r p off => by simp only [inC]; split <;> simp [blkC, blkT]
  | .bor a r p i off sz n => by simp only [inC]; split <;> simp [blkC, blkT]
  | .fn g caps => by simp [inC, blkC]
  | .rptr a cs => by simp [inC, blkC]
  | .nilp => by simp [inC, blkC]
  | .nilf => by simp [inC, blkC]
  | .lst a sz n cs => by simp [inC, blkC, blkT]
theorem inCs_blk (L : List Root) (k : Nat) : ∀ cs : List CV, (blkCs (inCs L k cs)).Sublist (blkCs cs)
  | [] => by simp [inCs, blkCs]
  | c :: cs => by
    simp only [inCs, blkCs]
    exact (inC_blk L k c).append (inCs_blk L k cs)
end

mutual
theorem inC_refs (L : List Root) (k : Nat) : ∀ c : CV, ∀ r ∈ refsC (inC L k c), ∃ j, r = .ex j ∧ k ≤ j ∧ j < k + L.length
  | .t x, r, h => by simp [inC, refsC] at h
  | .ptr a r' p off, r, h => by
    simp only [inC] at h
    split at h
    · next j hj =>
      simp only [refsC, List.mem_singleton] at h
      obtain ⟨h1, h2⟩ := placeOf_some hj
      have := (List.getElem?_eq_some_iff.1 h2).1
      exact ⟨j, h, h1, by omega⟩
    · simp [refsC] at h
  | .bor a r' p i off sz n, r, h => by
    simp only [inC] at h
    split at h
    · next j hj =>
      simp only [refsC, List.mem_singleton] at h
      obtain ⟨h1, h2⟩ := placeOf_some hj
      have := (List.getElem?_eq_some_iff.1 h2).1
      exact ⟨j, h, h1, by omega⟩
    · simp [refsC] at h
  | .fn g caps, r, h => by simp only [inC, refsC] at h; exact inCs_refs L k caps r h
  | .rptr a cs, r, h => by simp [inC, refsC] at h
  | .nilp, r, h => by simp [inC, refsC] at h
  | .nilf, r, h => by simp [inC, refsC] at h
  | .lst a sz n cs, r, h => by simp [inC, refsC] at h
theorem inCs_refs (L : List Root) (k : Nat) : ∀ cs : List CV, ∀ r ∈ refsCs (inCs L k cs), ∃ j, r = .ex j ∧ k ≤ j ∧ j < k + L.length
  | [], r, h => by simp [inCs, refsCs] at h
  | c :: cs, r, h => by
    simp only [inCs, refsCs, List.mem_append] at h
    exact h.elim (inC_refs L k c r) (inCs_refs L k cs r)
end

theorem ups_eq {α : Type} : ∀ xs : List (T α), ups xs = xs.map up
  | [] => rfl
  | x :: xs => by simp only [ups, List.map_cons, ups_eq xs]

theorem sub_ups : ∀ {p : List Nat} {cs : List TV}, sub (ups cs) p = (sub cs p).map ups
  | [], cs => rfl
  | i :: p, cs => by
    simp only [sub]
    rw [ups_eq, List.getElem?_map]
    cases cs[i]? with
    | none => rfl
    | some x =>
      simp only [Option.map_some]
      cases x with
      | sl a tag sz n ds =>
        cases tag with
        | zero => simp only [up, if_true]; exact sub_ups
        | succ g => simp only [up, Nat.succ_ne_zero, if_false]; rfl
      | _ => rfl

theorem subC_in (L : List Root) (k : Nat) (cs : List CV) (p : List Nat) : subC (inCs L k cs) p = (subC cs p).map (inCs L k) := by
  cases p with
  | nil => rfl
  | cons i p =>
    simp only [subC]
    rw [inCs_eq, List.getElem?_map]
    cases cs[i]? with
    | none => rfl
    | some c =>
      simp only [Option.map_some]
      cases c with
      | t x =>
        simp only [inC]
        cases x with
        | sl a tag sz n ds =>
          cases tag with
          | zero =>
            simp only [up, if_true, sub_ups]
            cases sub ds p with
            | none => rfl
            | some es =>
              simp only [Option.map_some]
              congr 1
              rw [inCs_eq, ups_eq]
              simp only [List.map_map]
              congr 1
          | succ g => simp only [up, Nat.succ_ne_zero, if_false]; rfl
        | _ => rfl
      | ptr a r q off => simp only [inC]; split <;> (next h => (split at h <;> simp_all)) <;> rfl
      | bor a r q j off sz n => simp only [inC]; split <;> (next h => (split at h <;> simp_all)) <;> rfl
      | _ => rfl
def Handed (L : List Root) (k : Nat) (S S' : SV) (ea ea' : List EA) : Prop :=
  ∀ r j, placeOf L r k = some j → S'.e[j]? = (rootCells S r).map (inCs L k) ∧ rootAd S' ea' (.ex j) = rootAd S ea r

section
variable {L : List Root} {k : Nat} {S' : SV} {ea' : List EA}

theorem Handed.at (H : Handed L k S S' ea ea') {r : Root} {j : Nat} (hj : placeOf L r k = some j) (p : List Nat) (i : Nat) : at_ S' (.ex j) p i = (at_ S r p i).map (inC L k) := by
  have e : rootCells S' (.ex j) = (rootCells S r).map (inCs L k) := (H r j hj).1
  simp only [at_, e]
  cases rootCells S r with
  | none => rfl
  | some cs =>
    simp only [Option.map_some, Option.bind_some, subC_in]
    cases subC cs p with
    | none => rfl
    | some ds =>
      simp only [Option.map_some, Option.bind_some]
      rw [inCs_eq, List.getElem?_map]

theorem Handed.hdr (H : Handed L k S S' ea ea') {r : Root} {j : Nat} (hj : placeOf L r k = some j) (p : List Nat) (i : Nat) {v : Value} (h : hdrAt S r p i = some v) : hdrAt S' (.ex j) p i = some v := by
  simp only [hdrAt] at h ⊢
  rw [H.at hj]
  split at h
  · next a sz n ds he =>
    rw [he]
    simpa only [Option.map_some, inC, up, if_true] using h
  · cases h

theorem Handed.place (H : Handed L k S S' ea ea') {r : Root} {j : Nat} (hj : placeOf L r k = some j) {p : List Nat} {ad : Addr} (h : placeAd S ea r p = some ad) : placeAd S' ea' (.ex j) p = some ad := by
  simp only [placeAd] at h ⊢
  split at h
  · next hp => rw [if_pos hp, (H r j hj).2]; exact h
  · next hp =>
    rw [if_neg hp]
    split at h
    · next ad' n c he =>
      rw [H.hdr hj _ _ he]
      exact h
    · cases h

theorem OwnAt.slice {a : Value} {sz n : Nat} {vs : List Value} (h : OwnAt w a sz n vs) : ∃ A m c, a = .slice A m c := by
  rcases h with ⟨rfl, _⟩ | ⟨b, o, cur, e, ⟨ad, cap, rfl, _⟩, _⟩
  · exact ⟨_, _, _, rfl⟩
  · exact ⟨_, _, _, rfl⟩

theorem borSlice {r : Root} {p : List Nat} {i off sz n : Nat} {a : Value} (h : BorOk S r p i off sz n a) : ∃ A m c, a = .slice A m c := by
  obtain ⟨b, m, ds, _, _, h⟩ := h
  rcases h with ⟨_, rfl, _⟩ | ⟨ad, cap, _, ad', cap', rfl, _⟩
  · exact ⟨_, _, _, rfl⟩
  · exact ⟨_, _, _, rfl⟩

mutual
theorem shT_noblk : ∀ {g : Nat} {x : TV}, shT g x → blkT x = []
  | g, .sl a tag sz n cs, h => by
    simp only [shT] at h
    simp only [blkT]
    rw [if_neg (by omega)]
  | _, .int _ _, _ => by simp [blkT]
  | _, .bool _, _ => by simp [blkT]
  | _, .str _, _ => by simp [blkT]
  | _, .dead _, _ => by simp [blkT]
  | _, .nili, _ => by simp [blkT]
  | _, .ifc _, _ => by simp [blkT]
theorem shTs_noblk : ∀ {g : Nat} {xs : List TV}, shTs g xs → blkTs xs = []
  | _, [], _ => by simp [blkTs]
  | g, x :: xs, h => by
    simp only [shTs] at h
    simp only [blkTs, shT_noblk h.1, shTs_noblk h.2, List.append_nil]
end

mutual
theorem inC_ok (H : Handed L k S S' ea ea') (hR : ∀ b, R b → R' b) : ∀ {c : CV}, okC w P R S ea c → okC w (shiftP R' P) R' S' ea' (inC L k c)
  | .t x, h => by simp only [okC, inC] at h ⊢; exact up_ok h
  | .ptr a r p off, h => by
    simp only [okC] at h
    obtain ⟨ad, h1, rfl⟩ := h
    simp only [inC]
    split
    · next j hj => simp only [okC]; exact ⟨ad, H.place hj h1, rfl⟩
    · simp only [okC, okT]; exact .inr ⟨_, rfl⟩
  | .bor a r p i off sz n, h => by
    simp only [okC] at h
    simp only [inC]
    split
    · next j hj =>
      simp only [okC]
      obtain ⟨b, m, ds, h1, h2, h3⟩ := h
      refine ⟨b, m, ups ds, ?_, by rw [ups_length]; exact h2, h3⟩
      rw [H.at hj, h1]
      simp only [Option.map_some, inC, up, if_true]
    · simp only [okC, okT]; exact .inl (borSlice h)
  | .fn g caps, h => by
    simp only [okC, inC] at h ⊢
    refine ⟨inCs_ok H hR h.1, ?_⟩
    have := inCs_blk L k caps
    rw [h.2] at this
    exact List.sublist_nil.1 this
  | .rptr a cs, h => by
    simp only [okC, inC] at h ⊢
    obtain ⟨h1, h2, ad, h3, h4, h5⟩ := h
    obtain ⟨k1, k2, _⟩ := retags_ok hR h1 (fun b hb => by rw [shTs_noblk h2] at hb; simp at hb)
    refine ⟨k1, k2, ad, h3, h4, ?_⟩
    rcases h5 with rfl | h5
    · exact .inl rfl
    · exact .inr ⟨hR _ h5.1, by rw [retags_val]; exact h5.2⟩
  | .nilp, _ => by simp [inC, okC]
  | .nilf, _ => by simp [inC, okC]
  | .lst a sz n cs, h => by
    simp only [okC] at h
    simp only [inC, okC, okT]
    exact .inl h.2.2.slice
theorem inCs_ok (H : Handed L k S S' ea ea') (hR : ∀ b, R b → R' b) : ∀ {cs : List CV}, okCs w P R S ea cs → okCs w (shiftP R' P) R' S' ea' (inCs L k cs)
  | [], _ => by simp [inCs, okCs]
  | c :: cs, h => by
    simp only [okCs] at h
    simp only [inCs, okCs]
    exact ⟨inC_ok H hR h.1, inCs_ok H hR h.2⟩
end
end
end
end Go.Proofs.YtlkjnlfddadlmaaDoor.V

namespace Go.Proofs.YtlkjnlfddadlmaaDoor.V
open Go.RowKit

section
variable {α β : Type} (g : α → β)
mutual
theorem up_map : ∀ x : T α, up (mapT g x) = mapT g (up x)
  | .sl a tag sz n cs => by simp only [up, mapT, ups_map cs]
  | .int _ _ => rfl
  | .bool _ => rfl
  | .str _ => rfl
  | .dead _ => rfl
  | .nili => rfl
  | .ifc _ => rfl
theorem ups_map : ∀ xs : List (T α), ups (mapTs g xs) = mapTs g (ups xs)
  | [] => rfl
  | x :: xs => by simp only [ups, mapTs, up_map x, ups_map xs]
end

mutual
theorem inC_map (L : List Root) (k : Nat) : ∀ c : C α, inC L k (mapC g c) = mapC g (inC L k c)
  | .t x => by simp only [inC, mapC, up_map]
  | .ptr a r p off => by simp only [inC, mapC]; split <;> simp only [mapC, mapT]
  | .bor a r p i off sz n => by simp only [inC, mapC]; split <;> simp only [mapC, mapT]
  | .fn f caps => by simp only [inC, mapC, inCs_map L k caps]
  | .rptr a cs => by simp only [inC, mapC]; rw [mapTs_eq, mapTs_eq, retags_eq, retags_eq]; simp only [List.map_map]; congr 1; apply List.map_congr_left; intro x _; exact retag_map g x
  | .nilp => rfl
  | .nilf => rfl
  | .lst a sz n cs => by simp only [inC, mapC, mapT]
theorem inCs_map (L : List Root) (k : Nat) : ∀ cs : List (C α), inCs L k (mapCs g cs) = mapCs g (inCs L k cs)
  | [] => rfl
  | c :: cs => by simp only [inCs, mapCs, inC_map L k c, inCs_map L k cs]
end
end

section
variable {isv : Nat → Bool} {w0 : World} {E0 : Nat → Prop} {P : Nat → Nat → Prop} {R R' : Nat → Prop} {ea : List EA} {w w' : World} {S : SV} {tmps : Array Value}
variable {L : List Root} {k : Nat} {S' : SV} {ea' : List EA}

theorem inC_er (c : CV) : erC (inC L k c) = inC L k (erC c) := (inC_map er0 L k c).symm
theorem inCs_er (cs : List CV) : (inCs L k cs).map erC = inCs L k (cs.map erC) := by
  have := inCs_map er0 L k cs
  rw [mapCs_eq, mapCs_eq] at this
  exact this.symm

theorem placeOf_none : ∀ {L : List Root} {r : Root} {k : Nat}, placeOf L r k = none → r ∉ L
  | [], r, k, _ => by simp
  | q :: L, r, k, h => by
    simp only [placeOf] at h
    split at h
    · cases h
    · next e =>
      have := placeOf_none h
      simp only [List.mem_cons, not_or]
      exact ⟨fun e' => e e'.symm, this⟩

def Arg (w : World) (P : Nat → Nat → Prop) (R' : Nat → Prop) (S' : SV) (ea' : List EA) (k : Nat) (L : List Root) (c : CV) : Prop :=
  okC w P R' S' ea' c ∧ blkC c = [] ∧ ∀ r ∈ refsC c, ∃ j, r = .ex j ∧ k ≤ j ∧ j < k + L.length

theorem Free.arg {c : CV} (h : Free w P R' c) : Arg w P R' S' ea' k L c := ⟨h.1 _ _, h.2.1, by rw [h.2.2]; simp⟩

theorem argC_ok (h : Rel isv w0 E0 P R ea w S tmps) (H : Handed L k S S' ea ea') (hR : ∀ b, R b → R' b) (hN : ∀ r, r ∉ L → ∀ b ∈ blkR S ea r, R' b) {c : CV} {d : CU} (hok : okC w P R S ea c) (hb : ∀ b ∈ blkC c, R' b)
    (hq : argC (V.erS S) L k (erC c) = some d) : ∃ cG, erC cG = d ∧ valC cG = valC c ∧ Arg w (shiftP R' P) R' S' ea' k L cG := by
  have inArg : blkC c = [] → argC (V.erS S) L k (erC c) = some (inC L k (erC c)) → ∃ cG, erC cG = d ∧ valC cG = valC c ∧ Arg w (shiftP R' P) R' S' ea' k L cG := by
    intro hblk he
    rw [he] at hq
    simp only [Option.some.injEq] at hq
    refine ⟨inC L k c, by rw [inC_er]; exact hq, inC_val L k c, inC_ok H hR hok, ?_, inC_refs L k c⟩
    have := inC_blk L k c
    rw [hblk] at this
    exact List.sublist_nil.1 this
  have snap : snapC (V.erS S) (erC c) = some d → (∀ r ∈ refsC c, r ∉ L) → ∃ cG, erC cG = d ∧ valC cG = valC c ∧ Arg w (shiftP R' P) R' S' ea' k L cG := by
    intro hs hr
    obtain ⟨cG, k1, k2, k3, _⟩ := snapC_ok h hR hok hb (fun r hr' b hb' => hN r (hr r hr') b hb') hs
    exact ⟨cG, k1, k2, k3.arg⟩
  cases c with
  | ptr a r p off =>
    have e : erC (.ptr a r p off) = .ptr () r p off := rfl
    rw [e] at hq inArg
    simp only [argC] at hq inArg
    split at hq
    · next hs => exact inArg (by simp [blkC]) (by simp only [if_pos hs])
    · cases hq
  | fn f caps =>
    simp only [okC] at hok
    have e : erC (.fn f caps) = .fn f (caps.map erC) := by simp only [erC, mapC, mapCs_eq]
    rw [e] at hq inArg
    simp only [argC] at hq inArg
    split at hq
    · next hs => exact inArg (by simp [blkC]) (by rw [if_pos hs])
    · cases hq
  | bor a r p i off sz n =>
    have e : erC (.bor a r p i off sz n) = .bor () r p i off sz n := rfl
    rw [e] at hq inArg snap
    simp only [argC] at hq inArg
    cases hp : placeOf L r k with
    | some j =>
      refine inArg (by simp [blkC]) ?_
      simp only [hp, inC]
    | none =>
      simp only [hp] at hq
      exact snap hq (fun r' hr' => by simp only [refsC, List.mem_singleton] at hr'; subst hr'; exact placeOf_none hp)
  | t x =>
    simp only [erC, mapC, argC] at hq
    split at hq
    · cases hq
    · exact snap hq (by simp [refsC])
  | rptr a cs =>
    simp only [erC, mapC, argC] at hq
    split at hq
    · cases hq
    · exact snap hq (by simp [refsC])
  | nilp =>
    simp only [erC, mapC, argC] at hq
    split at hq
    · cases hq
    · exact snap hq (by simp [refsC])
  | nilf =>
    simp only [erC, mapC, argC] at hq
    split at hq
    · cases hq
    · exact snap hq (by simp [refsC])
  | lst a sz n cs =>
    have er := rootsC_refs (.lst a sz n cs)
    simp only [erC, mapC] at er
    simp only [erC, mapC, argC] at hq
    split at hq
    · cases hq
    · next hn =>
      refine snap hq fun r hr hm => hn ?_
      rw [er]
      exact List.any_eq_true.2 ⟨r, hr, by simpa using hm⟩
end
end Go.Proofs.YtlkjnlfddadlmaaDoor.V

namespace Go.Proofs.YtlkjnlfddadlmaaDoor.V
open Go.RowKit

theorem takeRow_map {α β : Type} (g : α → β) (S : St α) (r : Root) (p : List Nat) (i : Nat) :
    takeRow (mapS g S) r p i = (takeRow S r p i).map fun q => (mapT g q.1, mapS g q.2) := by
  simp only [takeRow, at_map]
  cases at_ S r p i with
  | none => simp
  | some c =>
    cases c with
    | t x =>
      cases x with
      | sl b tag sz' n' ds =>
        cases tag with
        | zero =>
          simp only [Option.map_some, mapC, mapT]
          have := putCell_map g S r p i (.t (.dead b))
          simp only [mapC, mapT] at this
          rw [this]
          cases putCell S r p i (.t (.dead b)) with
          | none => simp
          | some S' => simp [mapT, kill_map]
        | succ m => simp [mapC, mapT]
      | _ => simp [mapC, mapT]
    | _ => simp [mapC]

section
variable {isv : Nat → Bool} {w0 : World} {E0 : Nat → Prop} {P : Nat → Nat → Prop} {R R' : Nat → Prop} {ea : List EA} {w w' : World} {S : SV} {tmps : Array Value}

theorem takeRow_ok (h : Rel isv w0 E0 P R ea w S tmps) {r : Root} {p : List Nat} {i : Nat} {t : TU} {Su : SU} (hq : takeRow (V.erS S) r p i = some (t, Su)) :
    ∃ (b : Value) (sz m : Nat) (ds : List TV) (S2 : SV), erT (.sl b 0 sz m ds) = t ∧ V.erS S2 = Su ∧ at_ S r p i = some (.t (.sl b 0 sz m ds)) ∧ Rel isv w0 E0 P R ea w S2 tmps ∧ Emp ea S S2 ∧ New isv w0 E0 P R ea w S2 (.c (.t (.sl b 0 sz m ds))) ∧
      (∀ x ∈ blkT (.sl b 0 sz m ds), x ∈ blkR S ea r) ∧ at_ S2 r p i = some (.t (.dead b)) := by
  have hm : takeRow (V.erS S) r p i = (takeRow S r p i).map fun q => (mapT er0 q.1, mapS er0 q.2) := takeRow_map er0 S r p i
  rw [hm] at hq
  cases hg : takeRow S r p i with
  | none => simp [hg] at hq
  | some q =>
    simp only [hg, Option.map_some, Option.some.injEq, Prod.mk.injEq] at hq
    obtain ⟨rfl, rfl⟩ := hq
    unfold takeRow at hg
    split at hg
    · rename_i b sz m ds hat
      cases hput : putCell S r p i (.t (.dead b)) with
      | none => simp [hput] at hg
      | some S' =>
        simp only [hput, Option.map_some, Option.some.injEq] at hg
        subst hg
        have hok := h.at_ok hat
        have hok' := hok
        simp only [okC, okT, if_true] at hok
        have hval : (∃ A n c, b = .slice A n c) ∨ ∃ q, b = .pointer q := .inl (slice_own hok.2.2)
        obtain ⟨h1, h2, h3⟩ := h.empty hat hval hput
        have hem := put_em (ea := ea) hput
        have hmem : ∀ k x, x ∈ blkR (kill r (p ++ [i]) S') ea k → x ∈ blkR S ea k := by
          intro k x hb
          by_cases e : k = r
          · subst e; exact h3.subset (List.mem_append_right _ hb)
          · rwa [h2 k e] at hb
        have hin : ∀ k ∈ blkT (.sl b 0 sz m ds), k ∈ blkR S ea r := fun k hk => h3.subset (List.mem_append_left _ hk)
        refine ⟨b, sz, m, ds, _, rfl, rfl, hat, h1, ⟨fun w P R c hc ha => ?_, fun c ha => (alive_kill hput ha).2, hmem, fun k q j u hd => put_dd hput hat hd⟩, ?_, hin, ?_⟩
        · have := okC_em hem hc
          rwa [(alive_kill hput ha).1] at this
        · have hnd := (h3.nodup_iff).2 (h.nd r)
          rw [List.nodup_append] at hnd
          constructor
          · simp only [okX, okC] at hok' ⊢; exact hok'
          · intro d' hd'; simp [refsX, refsC] at hd'
          · exact hnd.1
          · intro k x hx hx'
            have hx1 : x ∈ blkC (.t (.sl b 0 sz m ds)) := hx
            by_cases e : k = r
            · subst e; exact hnd.2.2 x hx1 x hx' rfl
            · rw [h2 k e] at hx'
              exact e (h.dis k r x hx' (h3.subset (List.mem_append_left _ hx1)))
          · exact fun x hx => h.lt r x (hin x hx)
          · exact fun x hx => h.own r x (hin x hx)
          · exact fun x hx => h.notR r x (hin x hx)
        · rw [at_kill, put_at hput]; rfl
    · cases hg

end
end Go.Proofs.YtlkjnlfddadlmaaDoor.V

namespace Go.Proofs.YtlkjnlfddadlmaaDoor.V
open Go.RowKit

section
variable {isv : Nat → Bool} {w0 : World} {E0 : Nat → Prop} {P : Nat → Nat → Prop} {R R' : Nat → Prop} {ea : List EA} {w w' : World} {S S' : SV} {tmps : Array Value}

theorem Rel.fill (h : Rel isv w0 E0 P R ea w S tmps) {r : Root} {p : List Nat} {off : Nat} {old : CV} {y : TV} (hat : at_ S r p off = some old) (hold : isOwn old = false) (hput : putCell S r p off (.t y) = some S')
    (hv : valT y = valC old) (hy : okT w P R y) (hb : Bk w0 E0 R ea w S (blkT y)) :
    Rel isv w0 E0 P R ea w S' tmps ∧ (∀ k, k ≠ r → blkR S' ea k = blkR S ea k) ∧ (blkR S' ea r).Perm (blkT y ++ blkR S ea r) := by
  have hem := put_em (ea := ea) hput
  have hbl := below_own hat hold
  obtain ⟨cs, ds, hr, hs, hS'⟩ := put_facts hput
  have hl := setC_length hs
  have hcs := h.root_ok hr
  rw [at_eq, hr] at hat
  simp only [Option.bind_some] at hat
  have hval : valCs ds = valCs cs := setC_val hs hat hv
  have hdok : ∀ c ∈ ds, okC w P R S' ea c := by
    intro c hc
    rcases setC_mem hs hat hv hy hcs c hc with hc | ⟨t, rfl, ht⟩
    · exact okC_put hem hbl (okCs_iff.1 hcs c hc)
    · simpa [okC] using ht
  have hblk : (blkCs ds).Perm (blkT y ++ blkCs cs) := by
    have := setC_blk hs hat
    rwa [notOwn_blk hold, List.nil_append] at this
  have hoth : ∀ k, k ≠ r → blkR S' ea k = blkR S ea k := by
    intro k hk
    subst hS'
    cases r with
    | sl d => exact match k, hk with
      | .sl d', hk => by simp only [blkR, setRoot, upd]; rw [if_neg (by simpa using hk)]
      | .ex j, _ => by simp only [blkR, setRoot]
    | ex j => exact match k, hk with
      | .sl d', _ => by simp only [blkR, setRoot]
      | .ex j', hk => by simp only [blkR, setRoot]; rw [List.getElem?_set_ne (by simpa using Ne.symm hk)]
  have hown : (blkR S' ea r).Perm (blkT y ++ blkR S ea r) := by
    subst hS'
    cases r with
    | sl d =>
      rw [rootCells_sl] at hr
      simp only [blkR, setRoot, upd, if_true]
      have := setX_blk (l := []) (m := blkT y) hr hl (by simpa using hblk)
      simpa using this
    | ex j =>
      simp only [rootCells] at hr
      have hj : j < S.e.length := (List.getElem?_eq_some_iff.1 hr).1
      simp only [blkR, setRoot, hr, List.getElem?_set_self hj]
      refine (List.Perm.append_left _ hblk).trans ?_
      rw [← List.append_assoc, ← List.append_assoc]; exact List.Perm.append_right _ List.perm_append_comm
  have hsl : ∀ i, (S'.s i = S.s i) ∨ (r = .sl i ∧ S'.s i = setX (S.s i) ds ∧ cellsOf (S.s i) = some cs) := by
    intro i
    subst hS'
    cases r with
    | sl d =>
      by_cases e : i = d
      · subst e; right; exact ⟨rfl, by simp [setRoot, upd], by rw [← rootCells_sl]; exact hr⟩
      · left; simp [setRoot, upd, e]
    | ex j => left; rfl
  have hec : ∀ (j : Nat) es, S'.e[j]? = some es → (S.e[j]? = some es) ∨ (r = .ex j ∧ es = ds ∧ S.e[j]? = some cs) := by
    intro j es hj
    subst hS'
    cases r with
    | sl d => left; exact hj
    | ex j' =>
      by_cases e : j' = j
      · subst e
        right
        have hlt : j' < S.e.length := (List.getElem?_eq_some_iff.1 hr).1
        simp only [setRoot, List.getElem?_set_self hlt, Option.some.injEq] at hj
        exact ⟨rfl, hj.symm, hr⟩
      · left
        simpa [setRoot, List.getElem?_set_ne e] using hj
  have hmem : ∀ k b, b ∈ blkR S' ea k → b ∈ blkR S ea k ∨ (k = r ∧ b ∈ blkT y) := by
    intro k b hb'
    by_cases e : k = r
    · subst e
      rcases List.mem_append.1 (hown.subset hb') with h' | h'
      · exact .inr ⟨rfl, h'⟩
      · exact .inl h'
    · rw [hoth k e] at hb'; exact .inl hb'
  refine ⟨?_, hoth, hown⟩
  constructor
  case val =>
    intro i hi
    rcases hsl i with e | ⟨_, e, hc⟩
    · rw [e]; exact h.val i hi
    · rcases h.val i hi with e' | e'
      · rw [e'] at hc; simp [cellsOf] at hc
      · right; rw [e, setX_val hc hval]; exact e'
  case hi =>
    intro i hi
    rcases hsl i with e | ⟨_, e, hc⟩
    · rw [e]; exact h.hi i hi
    · rw [h.hi i hi] at hc; simp [cellsOf] at hc
  case okS =>
    intro i
    rcases hsl i with e | ⟨_, e, hc⟩
    · rw [e]; exact okX_put hem hbl (h.okS i)
    · rw [e]
      refine setX_okv hc hl ?_ ?_ hdok
      · intro v ys hx
        have h1 := h.okS i
        rw [hx] at h1 hc
        simp only [cellsOf, Option.some.injEq] at hc
        subst hc
        simp only [okX] at h1
        obtain ⟨_, ad, rfl, h2, h3, cur, e', h4, h5⟩ := h1
        exact ⟨ad, rfl, h2, h3, cur, e', h4, by rw [hval]; exact h5⟩
      · intro ys hx z hz _ _
        have h3 := h.okS i
        rw [hx] at h3
        simp only [okX] at h3
        exact okX_put hem hbl (okXs_iff.1 h3 z hz)
  case okE =>
    intro j es hj
    rcases hec j es hj with e | ⟨_, rfl, e⟩
    · exact ⟨okCs_put hem hbl (h.okE j es e).1, (h.okE j es e).2⟩
    · refine ⟨okCs_iff.2 hdok, fun ad had => ?_⟩
      obtain ⟨h2, h3, cur, e', h4, h5⟩ := (h.okE j cs e).2 ad had
      exact ⟨h2, h3, cur, e', h4, by rw [hval]; exact h5⟩
  case eaL =>
    rw [h.eaL, hS']
    cases r <;> simp [setRoot]
  case row =>
    intro j vs es hea hj
    rcases hec j es hj with e | ⟨_, rfl, e⟩
    · exact h.row j vs es hea e
    · rw [hval]; exact h.row j vs cs hea e
  case refS =>
    intro i d' hd'
    rcases hsl i with e | ⟨_, e, hc⟩
    · rw [e] at hd'; exact h.refS i d' hd'
    · rw [e] at hd'
      rcases setX_refs hc hl _ hd' with hd' | hd'
      · exact h.refS i d' hd'
      · rcases setC_refs hs _ hd' with hd' | hd'
        · refine h.refS i d' ?_
          rw [refsCs_eq, List.mem_flatMap] at hd'
          obtain ⟨c', hca, hk⟩ := hd'
          cases hs' : S.s i with
          | c y => rw [hs'] at hc; simp only [cellsOf, Option.some.injEq] at hc; subst hc; simp only [List.mem_singleton] at hca; subst hca; simpa [refsX] using hk
          | agg ys => rw [hs'] at hc; simp only [cellsOf, Option.some.injEq] at hc; subst hc; simp only [refsX, refsCs_eq, List.mem_flatMap]; exact ⟨c', hca, hk⟩
          | box v ys => rw [hs'] at hc; simp only [cellsOf, Option.some.injEq] at hc; subst hc; simp only [refsX, refsCs_eq, List.mem_flatMap]; exact ⟨c', hca, hk⟩
          | tup ys => rw [hs'] at hc; simp only [cellsOf, Option.some.injEq] at hc; subst hc; simp only [refsX]; exact mem_flatX hca _ hk
          | undef => rw [hs'] at hc; simp [cellsOf] at hc
        · simp [refsC] at hd'
  case refE =>
    intro j es d' hj hd'
    rcases hec j es hj with e | ⟨_, rfl, e⟩
    · exact h.refE j es d' e hd'
    · rcases setC_refs hs _ hd' with hd' | hd'
      · exact h.refE j cs d' e hd'
      · simp [refsC] at hd'
  case dis =>
    intro k k' b hb1 hb2
    rcases hmem k b hb1 with h1 | ⟨rfl, h1⟩ <;> rcases hmem k' b hb2 with h2 | ⟨rfl, h2⟩
    · exact h.dis k k' b h1 h2
    · exact absurd h1 (hb.sep k b h2)
    · exact absurd h2 (hb.sep k' b h1)
    · rfl
  case nd =>
    intro k
    by_cases e : k = r
    · subst e
      rw [hown.nodup_iff, List.nodup_append]
      exact ⟨hb.nd, h.nd k, fun x hx y hy e => hb.sep k x hx (e ▸ hy)⟩
    · rw [hoth k e]; exact h.nd k
  case lt => exact fun k b hb' => (hmem k b hb').elim (h.lt k b) (fun h' => hb.lt b h'.2)
  case own => exact fun k b hb' => (hmem k b hb').elim (h.own k b) (fun h' => hb.own b h'.2)
  case notR => exact fun k b hb' => (hmem k b hb').elim (h.notR k b) (fun h' => hb.notR b h'.2)
  case PR => exact h.PR
  case ltR => exact h.ltR
  case frm => exact h.frm
end
end Go.Proofs.YtlkjnlfddadlmaaDoor.V

namespace Go.Proofs.YtlkjnlfddadlmaaDoor.V
open Go.RowKit

section
variable {isv : Nat → Bool} {w0 : World} {E0 : Nat → Prop} {P : Nat → Nat → Prop} {R R' : Nat → Prop} {ea : List EA} {w w' : World} {S S' : SV} {tmps : Array Value}

def eaOf (S : SV) (ea : List EA) (r : Root) : EA :=
  match rootAd S ea r with
  | some ad => .box ad
  | none => .row (valCs ((rootCells S r).getD []))

def inE (S : SV) (L : List Root) (rows : List TV) : List (List CV) := rows.map (fun t => [.t (up t)]) ++ L.map fun r => inCs L rows.length ((rootCells S r).getD [])

def inEa (S : SV) (ea : List EA) (L : List Root) (rows : List TV) : List EA := rows.map (fun t => .row [valT t]) ++ L.map (eaOf S ea)

theorem inE_row {L : List Root} {rows : List TV} {j : Nat} {t : TV} (h : rows[j]? = some t) : (inE S L rows)[j]? = some [.t (up t)] ∧ (inEa S ea L rows)[j]? = some (.row [valT t]) := by
  have hl := (List.getElem?_eq_some_iff.1 h).1
  simp only [inE, inEa]
  rw [List.getElem?_append_left (by simpa using hl), List.getElem?_append_left (by simpa using hl), List.getElem?_map, List.getElem?_map, h]
  exact ⟨rfl, rfl⟩

theorem inE_root {L : List Root} {rows : List TV} {j : Nat} {r : Root} (h : L[j]? = some r) : (inE S L rows)[rows.length + j]? = some (inCs L rows.length ((rootCells S r).getD [])) ∧ (inEa S ea L rows)[rows.length + j]? = some (eaOf S ea r) := by
  simp only [inE, inEa]
  rw [List.getElem?_append_right (by simp), List.getElem?_append_right (by simp)]
  simp only [List.length_map, Nat.add_sub_cancel_left, List.getElem?_map, h]
  exact ⟨rfl, rfl⟩

theorem inE_cases {L : List Root} {rows : List TV} {j : Nat} {cs : List CV} (h : (inE S L rows)[j]? = some cs) :
    (∃ t, rows[j]? = some t ∧ cs = [.t (up t)]) ∨ ∃ i r, j = rows.length + i ∧ L[i]? = some r ∧ cs = inCs L rows.length ((rootCells S r).getD []) := by
  by_cases hj : j < rows.length
  · left
    have e := List.getElem?_eq_getElem hj
    refine ⟨_, e, ?_⟩
    rw [(inE_row (S := S) (ea := []) (L := L) e).1] at h
    exact (Option.some.inj h).symm
  · right
    obtain ⟨i, rfl⟩ : ∃ i, j = rows.length + i := ⟨j - rows.length, by omega⟩
    cases hi : L[i]? with
    | none =>
      have hl := (List.getElem?_eq_some_iff.1 h).1
      have hi' := List.getElem?_eq_none_iff.1 hi
      simp only [inE, List.length_append, List.length_map] at hl
      omega
    | some r =>
      refine ⟨i, r, rfl, hi, ?_⟩
      rw [(inE_root (S := S) (ea := []) (rows := rows) hi).1] at h
      exact (Option.some.inj h).symm

theorem eaOf_ad {r : Root} : (eaOf S ea r).ad = rootAd S ea r := by
  unfold eaOf
  cases h : rootAd S ea r with
  | none => simp [EA.ad]
  | some ad => simp [EA.ad]

theorem handed_ok {L : List Root} {rows : List TV} {s : Nat → XV} (hL : ∀ r ∈ L, ∃ cs, rootCells S r = some cs) : Handed L rows.length S ⟨s, inE S L rows⟩ ea (inEa S ea L rows) := by
  intro r j hj
  obtain ⟨h1, h2⟩ := placeOf_some hj
  obtain ⟨i, rfl⟩ : ∃ i, j = rows.length + i := ⟨j - rows.length, by omega⟩
  rw [Nat.add_sub_cancel_left] at h2
  obtain ⟨e1, e2⟩ := inE_root (S := S) (ea := ea) (rows := rows) h2
  obtain ⟨cs, hcs⟩ := hL r (List.mem_of_getElem? h2)
  refine ⟨by simp only [e1, hcs, Option.getD_some, Option.map_some], ?_⟩
  simp only [rootAd, e2, Option.bind_some]
  exact eaOf_ad

def plBlk (S : SV) (ea : List EA) (r : Root) (cs : List CV) : List Nat :=
  (match rootAd S ea r with
  | some ad => [ad.block]
  | none => []) ++ blkCs cs

theorem plBlk_ok (h : Rel isv w0 E0 P R ea w S tmps) {r : Root} {cs : List CV} (hr : rootCells S r = some cs) : (plBlk S ea r cs).Nodup ∧ ∀ b ∈ plBlk S ea r cs, b ∈ blkR S ea r := by
  have hn := h.nd r
  cases r with
  | sl d =>
    have hok := h.okS d
    simp only [rootCells] at hr
    simp only [blkR] at hn ⊢
    simp only [plBlk, rootAd]
    cases hx : S.s d with
    | c y =>
      rw [hx] at hr hn
      simp only [Option.some.injEq] at hr
      subst hr
      simpa [blkX, blkCs] using hn
    | agg ys =>
      rw [hx] at hr hn
      simp only [Option.some.injEq] at hr
      subst hr
      simpa [blkX] using hn
    | box v ys =>
      rw [hx] at hr hn hok
      simp only [Option.some.injEq] at hr
      subst hr
      simp only [okX] at hok
      obtain ⟨_, ad, rfl, _⟩ := hok
      simpa [blkX, hdr] using hn
    | tup ys =>
      rw [hx] at hr hn
      simp only [Option.some.injEq] at hr
      subst hr
      simp only [blkX] at hn ⊢
      have hp := blk_flat ys
      refine ⟨?_, fun b hb => hp.mem_iff.2 (List.mem_append_left _ (by simpa using hb))⟩
      simpa using (List.nodup_append.1 (hp.nodup_iff.1 hn)).1
    | undef => rw [hx] at hr; cases hr
  | ex j =>
    simp only [rootCells] at hr
    simp only [blkR, hr] at hn ⊢
    exact ⟨hn, fun b hb => hb⟩

theorem flat_dis {α : Type} {f : α → List Nat} : ∀ {l : List α}, (l.flatMap f).Nodup → ∀ {i j : Nat} {x y : α} {b : Nat}, l[i]? = some x → l[j]? = some y → b ∈ f x → b ∈ f y → i = j
  | [], _, i, j, x, y, b, hi, _, _, _ => by simp at hi
  | a :: l, hn, i, j, x, y, b, hi, hj, hx, hy => by
    simp only [List.flatMap_cons] at hn
    obtain ⟨_, h2, h3⟩ := List.nodup_append.1 hn
    cases i with
    | zero =>
      cases j with
      | zero => rfl
      | succ j =>
        simp only [List.getElem?_cons_zero, List.getElem?_cons_succ, Option.some.injEq] at hi hj
        subst hi
        exact absurd rfl (h3 b hx b (List.mem_flatMap.2 ⟨y, List.mem_of_getElem? hj, hy⟩))
    | succ i =>
      cases j with
      | zero =>
        simp only [List.getElem?_cons_zero, List.getElem?_cons_succ, Option.some.injEq] at hi hj
        subst hj
        exact absurd rfl (h3 b hy b (List.mem_flatMap.2 ⟨x, List.mem_of_getElem? hi, hx⟩))
      | succ j =>
        simp only [List.getElem?_cons_succ] at hi hj
        rw [flat_dis h2 hi hj hx hy]

theorem flat_nd {α : Type} {f : α → List Nat} {l : List α} (hn : (l.flatMap f).Nodup) {i : Nat} {x : α} (hi : l[i]? = some x) : (f x).Nodup := by
  have hx := List.mem_of_getElem? hi
  obtain ⟨a, b, rfl⟩ := List.append_of_mem hx
  simp only [List.flatMap_append, List.flatMap_cons] at hn
  exact (List.nodup_append.1 (List.nodup_append.1 hn).2.1).1

end
end Go.Proofs.YtlkjnlfddadlmaaDoor.V

namespace Go.Proofs.YtlkjnlfddadlmaaDoor.V
open Go.RowKit

section
variable {isv : Nat → Bool} {w0 : World} {E0 : Nat → Prop} {P : Nat → Nat → Prop} {R R' : Nat → Prop} {ea : List EA} {w w' : World} {S S' : SV} {tmps : Array Value}

theorem slots_some {args : List XV} {d : Nat} : slots0 args d = .undef ∨ args[d]? = some (slots0 args d) := by
  simp only [slots0, List.getD_eq_getElem?_getD]
  cases h : args[d]? with
  | none => exact .inl rfl
  | some x => exact .inr rfl

def inB (S : SV) (ea : List EA) (L : List Root) (rows : List TV) (args : List XV) (b : Nat) : Prop := b ∈ args.flatMap blkX ++ rows.flatMap blkT ∨ ∃ r ∈ L, b ∈ blkR S ea r

theorem in_ok (h : Rel isv w0 E0 P R ea w S tmps) {L : List Root} (hLn : L.Nodup) (hL : ∀ r ∈ L, ∃ cs, rootCells S r = some cs) {rows : List TV} (hrow : ∀ t ∈ rows, okT w P R t) {args : List XV}
    (hF : Bk w0 E0 R ea w S (args.flatMap blkX ++ rows.flatMap blkT)) (hR' : R' = fun b => b < w.heap.size ∧ ¬ inB S ea L rows args b)
    (hargs : ∀ x ∈ args, okX w (shiftP R' P) R' ⟨slots0 args, inE S L rows⟩ (inEa S ea L rows) x ∧ ∀ r ∈ refsX x, isEx r = true) :
    In w (inB S ea L rows args) (shiftP R' P) R' (inEa S ea L rows) args (inE S L rows) := by
  have hRR : ∀ b, R b → R' b := by
    intro b hb
    rw [hR']
    refine ⟨h.ltR b hb, ?_⟩
    rintro (h1 | ⟨r, _, h1⟩)
    · exact hF.notR b h1 hb
    · exact h.notR r b h1 hb
  have H : Handed L rows.length S ⟨slots0 args, inE S L rows⟩ ea (inEa S ea L rows) := handed_ok hL
  -- the blocks of the callee's roots
  have src : ∀ k, (∃ d x, k = .sl d ∧ args[d]? = some x ∧ blkR ⟨slots0 args, inE S L rows⟩ (inEa S ea L rows) k = blkX x) ∨ (∃ j t, k = .ex j ∧ rows[j]? = some t ∧ blkR ⟨slots0 args, inE S L rows⟩ (inEa S ea L rows) k = blkT t) ∨
      (∃ i r cs, k = .ex (rows.length + i) ∧ L[i]? = some r ∧ rootCells S r = some cs ∧ (blkR ⟨slots0 args, inE S L rows⟩ (inEa S ea L rows) k).Sublist (plBlk S ea r cs)) ∨ blkR ⟨slots0 args, inE S L rows⟩ (inEa S ea L rows) k = [] := by
    intro k
    cases k with
    | sl d =>
      rcases slots_some (args := args) (d := d) with e | e
      · right; right; right
        simp only [blkR]
        rw [e]; simp [blkX]
      · exact .inl ⟨d, _, rfl, e, rfl⟩
    | ex j =>
      cases hj : (inE S L rows)[j]? with
      | none =>
        right; right; right
        have hl : (inE S L rows).length ≤ j := List.getElem?_eq_none_iff.1 hj
        have hl' : (inEa S ea L rows)[j]? = none := List.getElem?_eq_none_iff.2 (by simpa [inE, inEa] using hl)
        simp [blkR, hj, hl']
      | some cs =>
        rcases inE_cases hj with ⟨t, ht, rfl⟩ | ⟨i, r, rfl, hi, rfl⟩
        · refine .inr (.inl ⟨j, t, rfl, ht, ?_⟩)
          simp [blkR, hj, (inE_row (S := S) (ea := ea) (L := L) ht).2, EA.ad, blkCs, blkC, up_blk]
        · obtain ⟨cs, hcs⟩ := hL r (List.mem_of_getElem? hi)
          refine .inr (.inr (.inl ⟨i, r, cs, rfl, hi, hcs, ?_⟩))
          simp only [blkR, hj, (inE_root (S := S) (ea := ea) (rows := rows) hi).2, Option.bind_some, eaOf_ad, hcs, Option.getD_some, plBlk]
          exact List.Sublist.append (List.Sublist.refl _) (inCs_blk _ _ _)
  have hB : ∀ r b, b ∈ blkR ⟨slots0 args, inE S L rows⟩ (inEa S ea L rows) r → inB S ea L rows args b := by
    intro k b hb
    rcases src k with ⟨d, x, rfl, hx, e⟩ | ⟨j, t, rfl, ht, e⟩ | ⟨i, r, cs, rfl, hi, hcs, e⟩ | e
    · rw [e] at hb
      exact .inl (List.mem_append_left _ (List.mem_flatMap.2 ⟨x, List.mem_of_getElem? hx, hb⟩))
    · rw [e] at hb
      exact .inl (List.mem_append_right _ (List.mem_flatMap.2 ⟨t, List.mem_of_getElem? ht, hb⟩))
    · exact .inr ⟨r, List.mem_of_getElem? hi, (plBlk_ok h hcs).2 b (e.subset hb)⟩
    · rw [e] at hb; simp at hb
  have hlt : ∀ b, inB S ea L rows args b → b < w.heap.size := by
    rintro b (h1 | ⟨r, _, h1⟩)
    · exact hF.lt b h1
    · exact h.lt r b h1
  constructor
  case val =>
    intro d hd
    simp only [List.size_toArray, List.length_map] at hd
    right
    simp [slots0, hd]
  case hi =>
    intro d hd
    simp only [List.size_toArray, List.length_map] at hd
    simp [slots0, List.getElem?_eq_none hd]
  case okS =>
    intro d
    rcases slots_some (args := args) (d := d) with e | e
    · show okX _ _ _ _ _ (slots0 args d)
      rw [e]; simp [okX]
    · exact (hargs _ (List.mem_of_getElem? e)).1
  case okE =>
    intro j cs hj
    rcases inE_cases hj with ⟨t, ht, rfl⟩ | ⟨i, r, rfl, hi, rfl⟩
    · refine ⟨?_, fun ad had => ?_⟩
      · simp only [okCs, okC, and_true]
        exact up_ok (hrow t (List.mem_of_getElem? ht))
      · rw [(inE_row (S := S) (ea := ea) (L := L) ht).2] at had
        simp [EA.ad] at had
    · obtain ⟨cs, hcs⟩ := hL r (List.mem_of_getElem? hi)
      rw [hcs, Option.getD_some]
      refine ⟨inCs_ok H hRR (h.root_ok hcs), fun ad had => ?_⟩
      rw [(inE_root (S := S) (ea := ea) (rows := rows) hi).2] at had
      simp only [Option.bind_some, eaOf_ad] at had
      obtain ⟨cs', hcs', hbox⟩ := h.box_at had
      rw [hcs] at hcs'
      simp only [Option.some.injEq] at hcs'
      subst hcs'
      obtain ⟨h1, h2, cur, e, h3, h4⟩ := hbox
      exact ⟨h1, h2, cur, e, h3, by rw [inCs_val]; exact h4⟩
  case eaL => simp [inE, inEa]
  case row =>
    intro j vs cs hea hj
    rcases inE_cases hj with ⟨t, ht, rfl⟩ | ⟨i, r, rfl, hi, rfl⟩
    · rw [(inE_row (S := S) (ea := ea) (L := L) ht).2] at hea
      simp only [Option.some.injEq, EA.row.injEq] at hea
      rw [← hea]; simp only [valCs, valC, up_val]
    · rw [(inE_root (S := S) (ea := ea) (rows := rows) hi).2] at hea
      simp only [Option.some.injEq, eaOf] at hea
      split at hea
      · cases hea
      · simp only [EA.row.injEq] at hea
        rw [inCs_val]; exact hea
  case refS =>
    intro d d' hd
    rcases slots_some (args := args) (d := d) with e | e
    · change Root.sl d' ∈ refsX (slots0 args d) at hd
      rw [e] at hd; simp [refsX] at hd
    · have := (hargs _ (List.mem_of_getElem? e)).2 _ hd
      cases this
  case refE =>
    intro j cs d' hj hd
    rcases inE_cases hj with ⟨t, ht, rfl⟩ | ⟨i, r, rfl, hi, rfl⟩
    · simp [refsCs, refsC] at hd
    · obtain ⟨j, e, _⟩ := inCs_refs _ _ _ _ hd
      cases e
  case dis =>
    have hn := List.nodup_append.1 hF.nd
    have farg : ∀ {d : Nat} {x : XV} {b : Nat}, args[d]? = some x → b ∈ blkX x → b ∈ args.flatMap blkX := fun hx hb => List.mem_flatMap.2 ⟨_, List.mem_of_getElem? hx, hb⟩
    have frow : ∀ {d : Nat} {x : TV} {b : Nat}, rows[d]? = some x → b ∈ blkT x → b ∈ rows.flatMap blkT := fun hx hb => List.mem_flatMap.2 ⟨_, List.mem_of_getElem? hx, hb⟩
    intro k k' b hb hb'
    rcases src k with ⟨d, x, rfl, hx, e⟩ | ⟨j, t, rfl, ht, e⟩ | ⟨i, r, cs, rfl, hi, hcs, e⟩ | e <;> rcases src k' with ⟨d', x', rfl, hx', e'⟩ | ⟨j', t', rfl, ht', e'⟩ | ⟨i', r', cs', rfl, hi', hcs', e'⟩ | e'
    · rw [e] at hb; rw [e'] at hb'
      rw [flat_dis hn.1 hx hx' hb hb']
    · rw [e] at hb; rw [e'] at hb'
      exact absurd rfl (hn.2.2 b (farg hx hb) b (frow ht' hb'))
    · rw [e] at hb
      exact absurd ((plBlk_ok h hcs').2 b (e'.subset hb')) (hF.sep r' b (List.mem_append_left _ (farg hx hb)))
    · rw [e'] at hb'; simp at hb'
    · rw [e] at hb; rw [e'] at hb'
      exact absurd rfl (hn.2.2 b (farg hx' hb') b (frow ht hb))
    · rw [e] at hb; rw [e'] at hb'
      rw [flat_dis hn.2.1 ht ht' hb hb']
    · rw [e] at hb
      exact absurd ((plBlk_ok h hcs').2 b (e'.subset hb')) (hF.sep r' b (List.mem_append_right _ (frow ht hb)))
    · rw [e'] at hb'; simp at hb'
    · rw [e'] at hb'
      exact absurd ((plBlk_ok h hcs).2 b (e.subset hb)) (hF.sep r b (List.mem_append_left _ (farg hx' hb')))
    · rw [e'] at hb'
      exact absurd ((plBlk_ok h hcs).2 b (e.subset hb)) (hF.sep r b (List.mem_append_right _ (frow ht' hb')))
    · have e1 := h.dis r r' b ((plBlk_ok h hcs).2 b (e.subset hb)) ((plBlk_ok h hcs').2 b (e'.subset hb'))
      subst e1
      have l1 := List.getElem?_eq_some_iff.1 hi
      have l2 := List.getElem?_eq_some_iff.1 hi'
      obtain ⟨l1, l3⟩ := l1
      obtain ⟨l2, l4⟩ := l2
      rw [(List.getElem_inj hLn).1 (l3.trans l4.symm)]
    · rw [e'] at hb'; simp at hb'
    · rw [e] at hb; simp at hb
    · rw [e] at hb; simp at hb
    · rw [e] at hb; simp at hb
    · rw [e] at hb; simp at hb
  case nd =>
    have hn := List.nodup_append.1 hF.nd
    intro k
    rcases src k with ⟨d, x, rfl, hx, e⟩ | ⟨j, t, rfl, ht, e⟩ | ⟨i, r, cs, rfl, hi, hcs, e⟩ | e
    · rw [e]; exact flat_nd hn.1 hx
    · rw [e]; exact flat_nd hn.2.1 ht
    · exact e.nodup (plBlk_ok h hcs).1
    · rw [e]; exact List.nodup_nil
  case lt => exact fun r b hb => hlt b (hB r b hb)
  case own => exact fun r b hb => .inl (hB r b hb)
  case notR =>
    intro r b hb hr
    rw [hR'] at hr
    exact hr.2 (hB r b hb)
  case PR =>
    intro t b ht
    cases t with
    | zero => exact ht.elim
    | succ t =>
      cases t with
      | zero => exact ht
      | succ t => exact hRR b (h.PR _ b ht)
  case ltR => intro b hb; rw [hR'] at hb; exact hb.1
  case frm => exact Frm.refl _ _
end
end Go.Proofs.YtlkjnlfddadlmaaDoor.V

namespace Go.Proofs.YtlkjnlfddadlmaaDoor.V
open Go.RowKit

mutual
def dnT {α : Type} : T α → T α
  | .sl a tag sz n cs => .sl a (tag - 1) sz n (dnTs cs)
  | .int k n => .int k n
  | .bool b => .bool b
  | .str s => .str s
  | .dead a => .dead a
  | .nili => .nili
  | .ifc a => .ifc a
def dnTs {α : Type} : List (T α) → List (T α)
  | [] => []
  | x :: xs => dnT x :: dnTs xs
end

mutual
def dnC {α : Type} : C α → C α
  | .t x => .t (dnT x)
  | .fn g caps => .fn g (dnCs caps)
  | .ptr a r p off => .ptr a r p off
  | .bor a r p i off sz n => .bor a r p i off sz n
  | .rptr a cs => .rptr a cs
  | .nilp => .nilp
  | .nilf => .nilf
  | .lst a sz n cs => .lst a sz n cs
def dnCs {α : Type} : List (C α) → List (C α)
  | [] => []
  | c :: cs => dnC c :: dnCs cs
end

section
variable {α : Type}
theorem dnTs_eq : ∀ xs : List (T α), dnTs xs = xs.map dnT
  | [] => rfl
  | x :: xs => by simp only [dnTs, List.map_cons, dnTs_eq xs]
theorem dnCs_eq : ∀ xs : List (C α), dnCs xs = xs.map dnC
  | [] => rfl
  | x :: xs => by simp only [dnCs, List.map_cons, dnCs_eq xs]

mutual
theorem down_dn : ∀ {x y : T α}, down x = some y → y = dnT x
  | .sl a tag sz n cs, y, h => by
    simp only [down] at h
    split at h
    · cases h
    · cases hd : downs cs with
      | none => simp [hd] at h
      | some ds =>
        simp only [hd, Option.map_some, Option.some.injEq] at h
        subst h
        simp only [dnT, downs_dn hd]
  | .int _ _, y, h => by simp only [down, Option.some.injEq] at h; subst h; rfl
  | .bool _, y, h => by simp only [down, Option.some.injEq] at h; subst h; rfl
  | .str _, y, h => by simp only [down, Option.some.injEq] at h; subst h; rfl
  | .dead _, y, h => by simp only [down, Option.some.injEq] at h; subst h; rfl
  | .nili, y, h => by simp only [down, Option.some.injEq] at h; subst h; rfl
  | .ifc _, y, h => by simp only [down, Option.some.injEq] at h; subst h; rfl
theorem downs_dn : ∀ {xs ys : List (T α)}, downs xs = some ys → ys = dnTs xs
  | [], ys, h => by simp only [downs, Option.some.injEq] at h; subst h; rfl
  | x :: xs, ys, h => by
    simp only [downs] at h
    cases h1 : down x with
    | none => simp [h1] at h
    | some y =>
      cases h2 : downs xs with
      | none => simp [h1, h2] at h
      | some zs =>
        simp only [h1, h2, Option.bind_some, Option.map_some, Option.some.injEq] at h
        subst h
        simp only [dnTs, down_dn h1, downs_dn h2]
end

theorem sub_dn : ∀ {p : List Nat} {cs ds : List (T α)}, sub cs p = some ds → sub (dnTs cs) p = some (dnTs ds)
  | [], cs, ds, h => by simp only [sub, Option.some.injEq] at h; subst h; rfl
  | i :: p, cs, ds, h => by
    simp only [sub] at h ⊢
    rw [dnTs_eq, List.getElem?_map]
    cases hi : cs[i]? with
    | none => rw [hi] at h; cases h
    | some x =>
      rw [hi] at h
      simp only [Option.map_some]
      cases x with
      | sl a tag sz n es =>
        cases tag with
        | zero => simp only [dnT, Nat.zero_sub]; exact sub_dn h
        | succ g => cases h
      | _ => cases h

theorem outCs_eq (L : List Root) (k : Nat) : ∀ cs : List (C α), outCs L k cs = cs.map (outC L k)
  | [] => rfl
  | c :: cs => by simp only [outCs, List.map_cons, outCs_eq L k cs]

theorem out_t (L : List Root) (k : Nat) (ts : List (T α)) : outCs L k (dnCs (ts.map .t)) = (dnTs ts).map .t := by
  rw [outCs_eq, dnCs_eq, dnTs_eq]
  simp only [List.map_map]
  apply List.map_congr_left
  intro x _
  rfl

theorem subC_out (L : List Root) (k : Nat) {cs ds : List (C α)} {p : List Nat} (h : subC cs p = some ds) : subC (outCs L k (dnCs cs)) p = some (outCs L k (dnCs ds)) := by
  cases p with
  | nil => simp only [subC, Option.some.injEq] at h; subst h; rfl
  | cons i p =>
    simp only [subC] at h ⊢
    rw [outCs_eq, dnCs_eq, List.getElem?_map, List.getElem?_map]
    cases hi : cs[i]? with
    | none => rw [hi] at h; cases h
    | some c =>
      rw [hi] at h
      simp only [Option.map_some]
      cases c with
      | t x =>
        cases x with
        | sl a tag sz n es =>
          cases tag with
          | zero =>
            simp only [dnC, dnT, outC, Nat.zero_sub]
            simp only at h
            cases hs : sub es p with
            | none => rw [hs] at h; cases h
            | some gs =>
              rw [hs] at h
              simp only [Option.map_some, Option.some.injEq] at h
              subst h
              rw [sub_dn hs, Option.map_some, out_t]
          | succ g => cases h
        | _ => cases h
      | _ => cases h
end

section
variable {α β : Type} (g : α → β)
mutual
theorem outC_map (L : List Root) (k : Nat) : ∀ c : C α, outC L k (mapC g c) = mapC g (outC L k c)
  | .t x => by simp only [outC, mapC]
  | .ptr a (.ex j) p off => by simp only [outC, mapC]; cases rootOf L k j <;> simp only [mapC, mapT]
  | .ptr a (.sl d) p off => by simp only [outC, mapC, mapT]
  | .bor a (.ex j) p i off sz n => by simp only [outC, mapC]; cases rootOf L k j <;> simp only [mapC, mapT]
  | .bor a (.sl d) p i off sz n => by simp only [outC, mapC, mapT]
  | .fn f caps => by simp only [outC, mapC, outCs_map L k caps]
  | .rptr a cs => by simp only [outC, mapC]
  | .nilp => rfl
  | .nilf => rfl
  | .lst a sz n cs => by simp only [outC, mapC, mapT]
theorem outCs_map (L : List Root) (k : Nat) : ∀ cs : List (C α), outCs L k (mapCs g cs) = mapCs g (outCs L k cs)
  | [] => rfl
  | c :: cs => by simp only [outCs, mapCs, outC_map L k c, outCs_map L k cs]
end
mutual
theorem outX_map (L : List Root) (k : Nat) : ∀ x : X α, outX L k (mapX g x) = mapX g (outX L k x)
  | .c x => by simp only [outX, mapX, outC_map]
  | .agg cs => by simp only [outX, mapX, outCs_map]
  | .box a cs => by simp only [outX, mapX, outCs_map]
  | .tup xs => by simp only [outX, mapX, outXs_map L k xs]
  | .undef => rfl
theorem outXs_map (L : List Root) (k : Nat) : ∀ xs : List (X α), outXs L k (mapXs g xs) = mapXs g (outXs L k xs)
  | [] => rfl
  | x :: xs => by simp only [outXs, mapXs, outX_map L k x, outXs_map L k xs]
end
mutual
theorem cutC_map (L : List Root) : ∀ c : C α, cutC L (mapC g c) = mapC g (cutC L c)
  | .t x => rfl
  | .ptr a r p off => by simp only [cutC, mapC]; split <;> simp only [mapC, mapT]
  | .bor a r p i off sz n => by simp only [cutC, mapC]; split <;> simp only [mapC, mapT]
  | .fn f caps => by simp only [cutC, mapC, cutCs_map L caps]
  | .rptr a cs => rfl
  | .nilp => rfl
  | .nilf => rfl
  | .lst a sz n cs => by simp only [cutC, mapC, cutCs_map L cs]
theorem cutCs_map (L : List Root) : ∀ cs : List (C α), cutCs L (mapCs g cs) = mapCs g (cutCs L cs)
  | [] => rfl
  | c :: cs => by simp only [cutCs, mapCs, cutC_map L c, cutCs_map L cs]
end
mutual
theorem cutX_map (L : List Root) : ∀ x : X α, cutX L (mapX g x) = mapX g (cutX L x)
  | .c x => by simp only [cutX, mapX, cutC_map]
  | .agg cs => by simp only [cutX, mapX, cutCs_map]
  | .box a cs => by simp only [cutX, mapX, cutCs_map]
  | .tup xs => by simp only [cutX, mapX, cutXs_map L xs]
  | .undef => rfl
theorem cutXs_map (L : List Root) : ∀ xs : List (X α), cutXs L (mapXs g xs) = mapXs g (cutXs L xs)
  | [] => rfl
  | x :: xs => by simp only [cutXs, mapXs, cutX_map L x, cutXs_map L xs]
end

theorem getD_map {β γ : Type} (h : β → γ) (l : List β) (i : Nat) (d : β) : (l.map h).getD i (h d) = h (l.getD i d) := by
  simp only [List.getD_eq_getElem?_getD, List.getElem?_map]
  cases l[i]? <;> rfl

theorem mapFrom_map {β γ : Type} (h : β → γ) (p : Nat → β → β) (q : Nat → γ → γ) (hpq : ∀ j x, q j (h x) = h (p j x)) : ∀ (l : List β) (j : Nat), mapFrom q j (l.map h) = (mapFrom p j l).map h
  | [], j => rfl
  | x :: l, j => by simp only [List.map_cons, mapFrom, hpq, mapFrom_map h p q hpq l (j + 1)]

theorem backS_map (L : List Root) (k : Nat) (es : List (List (C α))) (S : St α) : backS L k (es.map (mapCs g)) (mapS g S) = mapS g (backS L k es S) := by
  have e0 : ∀ i, (es.map (mapCs g)).getD i [] = mapCs g (es.getD i []) := fun i => getD_map (mapCs g) es i []
  simp only [backS, mapS]
  congr 1
  · funext d
    simp only [backX]
    cases placeOf L (.sl d) 0 with
    | some i =>
      simp only [e0, outCs_map]
      rw [mapCs_eq g (outCs L k (es.getD i []))]
      exact setX_map g _ _
    | none => exact cutX_map g L _
  · refine mapFrom_map (mapCs g) _ _ (fun j x => ?_) S.e 0
    simp only [backE]
    cases placeOf L (.ex j) 0 with
    | some i => simp only [e0, outCs_map]
    | none => exact cutCs_map g L _
end

theorem mapFrom_get {β : Type} (g : Nat → β → β) : ∀ (l : List β) (j i : Nat), (mapFrom g j l)[i]? = (l[i]?).map (g (j + i))
  | [], j, i => by simp [mapFrom]
  | x :: l, j, 0 => by simp [mapFrom]
  | x :: l, j, i + 1 => by
    simp only [mapFrom, List.getElem?_cons_succ, mapFrom_get g l (j + 1) i]
    congr 2
    omega

theorem mapFrom_length {β : Type} (g : Nat → β → β) : ∀ (l : List β) (j : Nat), (mapFrom g j l).length = l.length
  | [], j => rfl
  | x :: l, j => by simp only [mapFrom, List.length_cons, mapFrom_length g l (j + 1)]

section
variable {w w' : World} {P : Nat → Nat → Prop} {R R' : Nat → Prop} {S S' S2 : SV} {ea ea' : List EA} {L : List Root} {k : Nat}

mutual
theorem dnC_ok (hR : ∀ b, R b → R' b) : ∀ {c : CV} {d : CU}, okC w (shiftP R' P) R' S ea c → downC (erC c) = some d → d = erC (dnC c) ∧ valC (dnC c) = valC c ∧ okC w P R S ea (dnC c) ∧ blkC (dnC c) = blkC c ∧ refsC (dnC c) = refsC c
  | .t x, d, h, hq => by
    simp only [erC, mapC, downC, down_map] at hq
    cases hd : down x with
    | none => simp [hd] at hq
    | some y =>
      simp only [hd, Option.map_some, Option.some.injEq] at hq
      subst hq
      simp only [okC] at h
      obtain ⟨k1, k2, k3, _⟩ := down_ok hR h hd
      have e := down_dn hd
      subst e
      exact ⟨rfl, by simp only [dnC, valC, k2], by simpa only [dnC, okC] using k1, by simp only [dnC, blkC, k3], rfl⟩
  | .ptr v r p off, d, h, hq => by
    simp only [erC, mapC, downC, Option.some.injEq] at hq
    subst hq
    exact ⟨rfl, rfl, by simpa only [dnC, okC] using h, rfl, rfl⟩
  | .bor v r p i off sz n, d, h, hq => by
    simp only [erC, mapC, downC, Option.some.injEq] at hq
    subst hq
    exact ⟨rfl, rfl, by simpa only [dnC, okC] using h, rfl, rfl⟩
  | .rptr v cs, d, _, hq => by simp [erC, mapC, downC] at hq
  | .fn g caps, d, h, hq => by
    simp only [erC, mapC, downC] at hq
    simp only [okC] at h
    cases hd : downCs (mapCs er0 caps) with
    | none => simp [hd] at hq
    | some ds =>
      simp only [hd, Option.map_some, Option.some.injEq] at hq
      subst hq
      obtain ⟨k1, k2, k3, k4, k5⟩ := dnCs_ok hR h.1 hd
      subst k1
      exact ⟨rfl, by simp only [dnC, valC, k2], by simp only [dnC, okC]; exact ⟨k3, by rw [k4]; exact h.2⟩, rfl, by simp only [dnC, refsC, k5]⟩
  | .lst v sz n cs, d, _, hq => by simp [erC, mapC, downC] at hq
  | .nilp, d, _, hq => by
    simp only [erC, mapC, downC, Option.some.injEq] at hq
    subst hq
    exact ⟨rfl, rfl, by simp only [dnC, okC], rfl, rfl⟩
  | .nilf, d, _, hq => by
    simp only [erC, mapC, downC, Option.some.injEq] at hq
    subst hq
    exact ⟨rfl, rfl, by simp only [dnC, okC], rfl, rfl⟩
theorem dnCs_ok (hR : ∀ b, R b → R' b) : ∀ {cs : List CV} {ds : List CU}, okCs w (shiftP R' P) R' S ea cs → downCs (mapCs er0 cs) = some ds →
    ds = mapCs er0 (dnCs cs) ∧ valCs (dnCs cs) = valCs cs ∧ okCs w P R S ea (dnCs cs) ∧ blkCs (dnCs cs) = blkCs cs ∧ refsCs (dnCs cs) = refsCs cs
  | [], ds, _, hq => by simp only [mapCs, downCs, Option.some.injEq] at hq; subst hq; exact ⟨rfl, rfl, by simp only [dnCs, okCs], rfl, rfl⟩
  | c :: cs, ds, h, hq => by
    simp only [mapCs, downCs] at hq
    cases h1 : downC (mapC er0 c) with
    | none => simp [h1] at hq
    | some d =>
      cases h2 : downCs (mapCs er0 cs) with
      | none => simp [h1, h2] at hq
      | some es =>
        simp only [h1, h2, Option.bind_some, Option.map_some, Option.some.injEq] at hq
        subst hq
        simp only [okCs] at h
        obtain ⟨k1, k2, k3, k4, k5⟩ := dnC_ok hR h.1 h1
        obtain ⟨l1, l2, l3, l4, l5⟩ := dnCs_ok hR h.2 h2
        subst k1 l1
        exact ⟨rfl, by simp only [dnCs, valCs, k2, l2], by simp only [dnCs, okCs]; exact ⟨k3, l3⟩, by simp only [dnCs, blkCs, k4, l4], by simp only [dnCs, refsCs, k5, l5]⟩
end

mutual
theorem outC_blk (L : List Root) (k : Nat) : ∀ c : CV, (blkC (outC L k c)).Sublist (blkC c)
  | .t x => by simp only [outC]; exact List.Sublist.refl _
  | .ptr a (.ex j) p off => by simp only [outC]; cases rootOf L k j <;> simp [blkC, blkT]
  | .ptr a (.sl d) p off => by simp [outC, blkC, blkT]
  | .bor a (.ex j) p i off sz n => by simp only [outC]; cases rootOf L k j <;> simp [blkC, blkT]
  | .bor a (.sl d) p i off sz n => by simp [outC, blkC, blkT]
  | .fn g caps => by simp [outC, blkC]
  | .rptr a cs => by simp [outC, blkC]
  | .nilp => by simp [outC, blkC]
  | .nilf => by simp [outC, blkC]
  | .lst a sz n cs => by simp [outC, blkC, blkT]
theorem outCs_blk (L : List Root) (k : Nat) : ∀ cs : List CV, (blkCs (outCs L k cs)).Sublist (blkCs cs)
  | [] => by simp [outCs, blkCs]
  | c :: cs => by
    simp only [outCs, blkCs]
    exact (outC_blk L k c).append (outCs_blk L k cs)
end

structure Back (L : List Root) (k : Nat) (S' S2 : SV) (ea' ea : List EA) : Prop where
  ad : ∀ j r, rootOf L k j = some r → ∀ ad, rootAd S' ea' (.ex j) = some ad → rootAd S2 ea r = some ad
  pl : ∀ j r, rootOf L k j = some r → ∀ p i b sz m ds, at_ S' (.ex j) p i = some (.t (.sl b 0 sz m ds)) → ∃ ds', at_ S2 r p i = some (.t (.sl b 0 sz m ds')) ∧ ds'.length = ds.length

theorem Back.hdr (B : Back L k S' S2 ea' ea) {j : Nat} {r : Root} (hr : rootOf L k j = some r) {p : List Nat} {i : Nat} {v : Value} (h : hdrAt S' (.ex j) p i = some v) : hdrAt S2 r p i = some v := by
  simp only [hdrAt] at h ⊢
  split at h
  · next a sz n ds he =>
    obtain ⟨ds', h1, _⟩ := B.pl j r hr p i a sz n ds he
    rw [h1]; exact h
  · cases h

theorem Back.place (B : Back L k S' S2 ea' ea) {j : Nat} {r : Root} (hr : rootOf L k j = some r) {p : List Nat} {ad : Addr} (h : placeAd S' ea' (.ex j) p = some ad) : placeAd S2 ea r p = some ad := by
  simp only [placeAd] at h ⊢
  split at h
  · next hp => rw [if_pos hp]; exact B.ad j r hr ad h
  · next hp =>
    rw [if_neg hp]
    split at h
    · next ad' n c he => rw [B.hdr hr he]; exact h
    · cases h

mutual
theorem outC_ok (B : Back L k S' S2 ea' ea) : ∀ {c : CV}, okC w P R S' ea' c → okC w P R S2 ea (outC L k c)
  | .t x, h => by simpa only [okC, outC] using h
  | .ptr a (.ex j) p off, h => by
    simp only [okC] at h
    obtain ⟨ad, h1, rfl⟩ := h
    simp only [outC]
    cases hj : rootOf L k j with
    | some r => simp only [okC]; exact ⟨ad, B.place hj h1, rfl⟩
    | none => simp only [okC, okT]; exact .inr ⟨_, rfl⟩
  | .ptr a (.sl d) p off, h => by
    simp only [okC] at h
    obtain ⟨ad, h1, rfl⟩ := h
    simp only [outC, okC, okT]; exact .inr ⟨_, rfl⟩
  | .bor a (.ex j) p i off sz n, h => by
    simp only [okC] at h
    simp only [outC]
    cases hj : rootOf L k j with
    | some r =>
      simp only [okC]
      obtain ⟨b, m, ds, h1, h2, h3⟩ := h
      obtain ⟨ds', h4, h5⟩ := B.pl j r hj p i b sz m ds h1
      exact ⟨b, m, ds', h4, by rw [h5]; exact h2, h3⟩
    | none => simp only [okC, okT]; exact .inl (borSlice h)
  | .bor a (.sl d) p i off sz n, h => by
    simp only [okC] at h
    simp only [outC, okC, okT]; exact .inl (borSlice h)
  | .fn g caps, h => by
    simp only [okC, outC] at h ⊢
    refine ⟨outCs_ok B h.1, ?_⟩
    have := outCs_blk L k caps
    rw [h.2] at this
    exact List.sublist_nil.1 this
  | .rptr a cs, h => by simpa only [okC, outC] using h
  | .nilp, _ => by simp only [outC, okC]
  | .nilf, _ => by simp only [outC, okC]
  | .lst a sz n cs, h => by
    simp only [okC] at h
    simp only [outC, okC, okT]
    exact .inl h.2.2.slice
theorem outCs_ok (B : Back L k S' S2 ea' ea) : ∀ {cs : List CV}, okCs w P R S' ea' cs → okCs w P R S2 ea (outCs L k cs)
  | [], _ => by simp only [outCs, okCs]
  | c :: cs, h => by
    simp only [okCs] at h
    simp only [outCs, okCs]
    exact ⟨outC_ok B h.1, outCs_ok B h.2⟩
end

mutual
theorem outC_val (L : List Root) (k : Nat) : ∀ c : CV, valC (outC L k c) = valC c
  | .t x => rfl
  | .ptr a (.ex j) p off => by simp only [outC]; cases rootOf L k j <;> rfl
  | .ptr a (.sl d) p off => rfl
  | .bor a (.ex j) p i off sz n => by simp only [outC]; cases rootOf L k j <;> rfl
  | .bor a (.sl d) p i off sz n => rfl
  | .fn g caps => by simp only [outC, valC, outCs_val L k caps]
  | .rptr a cs => rfl
  | .nilp => rfl
  | .nilf => rfl
  | .lst a sz n cs => rfl
theorem outCs_val (L : List Root) (k : Nat) : ∀ cs : List CV, valCs (outCs L k cs) = valCs cs
  | [] => rfl
  | c :: cs => by simp only [outCs, valCs, outC_val L k c, outCs_val L k cs]
end

theorem rootOf_mem {j : Nat} {r : Root} (h : rootOf L k j = some r) : r ∈ L := by
  simp only [rootOf] at h
  split at h
  · exact List.mem_of_getElem? h
  · cases h

mutual
theorem outC_refs (L : List Root) (k : Nat) : ∀ c : CV, ∀ r ∈ refsC (outC L k c), r ∈ L
  | .t x, r, h => by simp [outC, refsC] at h
  | .ptr a (.ex j) p off, r, h => by
    simp only [outC] at h
    cases hj : rootOf L k j with
    | some q => simp only [hj, refsC, List.mem_singleton] at h; subst h; exact rootOf_mem hj
    | none => simp [hj, refsC] at h
  | .ptr a (.sl d) p off, r, h => by simp [outC, refsC] at h
  | .bor a (.ex j) p i off sz n, r, h => by
    simp only [outC] at h
    cases hj : rootOf L k j with
    | some q => simp only [hj, refsC, List.mem_singleton] at h; subst h; exact rootOf_mem hj
    | none => simp [hj, refsC] at h
  | .bor a (.sl d) p i off sz n, r, h => by simp [outC, refsC] at h
  | .fn g caps, r, h => by simp only [outC, refsC] at h; exact outCs_refs L k caps r h
  | .rptr a cs, r, h => by simp [outC, refsC] at h
  | .nilp, r, h => by simp [outC, refsC] at h
  | .nilf, r, h => by simp [outC, refsC] at h
  | .lst a sz n cs, r, h => by simp [outC, refsC] at h
theorem outCs_refs (L : List Root) (k : Nat) : ∀ cs : List CV, ∀ r ∈ refsCs (outCs L k cs), r ∈ L
  | [], r, h => by simp [outCs, refsCs] at h
  | c :: cs, r, h => by
    simp only [outCs, refsCs, List.mem_append] at h
    exact h.elim (outC_refs L k c r) (outCs_refs L k cs r)
end

mutual
theorem outX_val (L : List Root) (k : Nat) : ∀ x : XV, valX (outX L k x) = valX x
  | .c x => by simp only [outX, valX, outC_val]
  | .agg cs => by simp only [outX, valX, outCs_val]
  | .box a cs => rfl
  | .tup xs => by simp only [outX, valX, outXs_val L k xs]
  | .undef => rfl
theorem outXs_val (L : List Root) (k : Nat) : ∀ xs : List XV, valXs (outXs L k xs) = valXs xs
  | [] => rfl
  | x :: xs => by simp only [outXs, valXs, outX_val L k x, outXs_val L k xs]
end

mutual
theorem outX_blk (L : List Root) (k : Nat) : ∀ x : XV, (blkX (outX L k x)).Sublist (blkX x)
  | .c x => by simp only [outX, blkX]; exact outC_blk L k x
  | .agg cs => by simp only [outX, blkX]; exact outCs_blk L k cs
  | .box a cs => by simp only [outX, blkX]; exact (List.Sublist.refl _).append (outCs_blk L k cs)
  | .tup xs => by simp only [outX, blkX]; exact outXs_blk L k xs
  | .undef => by simp [outX, blkX]
theorem outXs_blk (L : List Root) (k : Nat) : ∀ xs : List XV, (blkXs (outXs L k xs)).Sublist (blkXs xs)
  | [] => by simp [outXs, blkXs]
  | x :: xs => by
    simp only [outXs, blkXs]
    exact (outX_blk L k x).append (outXs_blk L k xs)
end

mutual
theorem outX_refs (L : List Root) (k : Nat) : ∀ x : XV, ∀ r ∈ refsX (outX L k x), r ∈ L
  | .c x, r, h => by simp only [outX, refsX] at h; exact outC_refs L k x r h
  | .agg cs, r, h => by simp only [outX, refsX] at h; exact outCs_refs L k cs r h
  | .box a cs, r, h => by simp only [outX, refsX] at h; exact outCs_refs L k cs r h
  | .tup xs, r, h => by simp only [outX, refsX] at h; exact outXs_refs L k xs r h
  | .undef, r, h => by simp [outX, refsX] at h
theorem outXs_refs (L : List Root) (k : Nat) : ∀ xs : List XV, ∀ r ∈ refsXs (outXs L k xs), r ∈ L
  | [], r, h => by simp [outXs, refsXs] at h
  | x :: xs, r, h => by
    simp only [outXs, refsXs, List.mem_append] at h
    exact h.elim (outX_refs L k x r) (outXs_refs L k xs r)
end

mutual
theorem outX_ok (B : Back L k S' S2 ea' ea) : ∀ {x : XV}, okX w P R S' ea' x → okX w P R S2 ea (outX L k x)
  | .c x, h => by simp only [okX, outX] at h ⊢; exact outC_ok B h
  | .agg cs, h => by simp only [okX, outX] at h ⊢; exact outCs_ok B h
  | .box a cs, h => by
    simp only [okX, outX] at h ⊢
    obtain ⟨h1, ad, rfl, h2, h3, cur, e, h4, h5⟩ := h
    exact ⟨outCs_ok B h1, ad, rfl, h2, h3, cur, e, h4, by rw [outCs_val]; exact h5⟩
  | .tup xs, h => by simp only [okX, outX] at h ⊢; exact outXs_ok B h
  | .undef, _ => by simp only [outX, okX]
theorem outXs_ok (B : Back L k S' S2 ea' ea) : ∀ {xs : List XV}, okXs w P R S' ea' xs → okXs w P R S2 ea (outXs L k xs)
  | [], _ => by simp only [outXs, okXs]
  | x :: xs, h => by
    simp only [okXs] at h
    simp only [outXs, okXs]
    exact ⟨outX_ok B h.1, outXs_ok B h.2⟩
end

mutual
theorem cutC_val (L : List Root) : ∀ c : CV, valC (cutC L c) = valC c
  | .t x => rfl
  | .ptr a r p off => by simp only [cutC]; split <;> rfl
  | .bor a r p i off sz n => by simp only [cutC]; split <;> rfl
  | .fn g caps => by simp only [cutC, valC, cutCs_val L caps]
  | .rptr a cs => rfl
  | .nilp => rfl
  | .nilf => rfl
  | .lst a sz n cs => rfl
theorem cutCs_val (L : List Root) : ∀ cs : List CV, valCs (cutCs L cs) = valCs cs
  | [] => rfl
  | c :: cs => by simp only [cutCs, valCs, cutC_val L c, cutCs_val L cs]
end
mutual
theorem cutX_val (L : List Root) : ∀ x : XV, valX (cutX L x) = valX x
  | .c x => by simp only [cutX, valX, cutC_val]
  | .agg cs => by simp only [cutX, valX, cutCs_val]
  | .box a cs => rfl
  | .tup xs => by simp only [cutX, valX, cutXs_val L xs]
  | .undef => rfl
theorem cutXs_val (L : List Root) : ∀ xs : List XV, valXs (cutXs L xs) = valXs xs
  | [] => rfl
  | x :: xs => by simp only [cutXs, valXs, cutX_val L x, cutXs_val L xs]
end
mutual
theorem cutC_blk (L : List Root) : ∀ c : CV, blkC (cutC L c) = blkC c
  | .t x => rfl
  | .ptr a r p off => by simp only [cutC]; split <;> simp [blkC, blkT]
  | .bor a r p i off sz n => by simp only [cutC]; split <;> simp [blkC, blkT]
  | .fn g caps => by simp only [cutC, blkC]
  | .rptr a cs => rfl
  | .nilp => rfl
  | .nilf => rfl
  | .lst a sz n cs => by simp only [cutC, blkC, cutCs_blk L cs]
theorem cutCs_blk (L : List Root) : ∀ cs : List CV, blkCs (cutCs L cs) = blkCs cs
  | [] => rfl
  | c :: cs => by simp only [cutCs, blkCs, cutC_blk L c, cutCs_blk L cs]
end
mutual
theorem cutX_blk (L : List Root) : ∀ x : XV, blkX (cutX L x) = blkX x
  | .c x => by simp only [cutX, blkX, cutC_blk]
  | .agg cs => by simp only [cutX, blkX, cutCs_blk]
  | .box a cs => by simp only [cutX, blkX, cutCs_blk]
  | .tup xs => by simp only [cutX, blkX, cutXs_blk L xs]
  | .undef => rfl
theorem cutXs_blk (L : List Root) : ∀ xs : List XV, blkXs (cutXs L xs) = blkXs xs
  | [] => rfl
  | x :: xs => by simp only [cutXs, blkXs, cutX_blk L x, cutXs_blk L xs]
end
mutual
theorem cutC_refs (L : List Root) : ∀ c : CV, ∀ r ∈ refsC (cutC L c), r ∈ refsC c
  | .t x, r, h => h
  | .ptr a q p off, r, h => by
    simp only [cutC] at h
    split at h
    · simp [refsC] at h
    · exact h
  | .bor a q p i off sz n, r, h => by
    simp only [cutC] at h
    split at h
    · simp [refsC] at h
    · exact h
  | .fn g caps, r, h => by simp only [cutC, refsC] at h ⊢; exact cutCs_refs L caps r h
  | .rptr a cs, r, h => h
  | .nilp, r, h => h
  | .nilf, r, h => h
  | .lst a sz n cs, r, h => by simp only [cutC, refsC] at h ⊢; exact cutCs_refs L cs r h
theorem cutCs_refs (L : List Root) : ∀ cs : List CV, ∀ r ∈ refsCs (cutCs L cs), r ∈ refsCs cs
  | [], r, h => h
  | c :: cs, r, h => by
    simp only [cutCs, refsCs, List.mem_append] at h ⊢
    exact h.imp (cutC_refs L c r) (cutCs_refs L cs r)
end
mutual
theorem cutX_refs (L : List Root) : ∀ x : XV, ∀ r ∈ refsX (cutX L x), r ∈ refsX x
  | .c x, r, h => by simp only [cutX, refsX] at h ⊢; exact cutC_refs L x r h
  | .agg cs, r, h => by simp only [cutX, refsX] at h ⊢; exact cutCs_refs L cs r h
  | .box a cs, r, h => by simp only [cutX, refsX] at h ⊢; exact cutCs_refs L cs r h
  | .tup xs, r, h => by simp only [cutX, refsX] at h ⊢; exact cutXs_refs L xs r h
  | .undef, r, h => h
theorem cutXs_refs (L : List Root) : ∀ xs : List XV, ∀ r ∈ refsXs (cutXs L xs), r ∈ refsXs xs
  | [], r, h => h
  | x :: xs, r, h => by
    simp only [cutXs, refsXs, List.mem_append] at h ⊢
    exact h.imp (cutX_refs L x r) (cutXs_refs L xs r)
end

theorem cutCs_eq {α : Type} (L : List Root) : ∀ cs : List (C α), cutCs L cs = cs.map (cutC L)
  | [] => rfl
  | c :: cs => by simp only [cutCs, List.map_cons, cutCs_eq L cs]

theorem flat_cut {α : Type} (L : List Root) : ∀ xs : List (X α), flatX (cutXs L xs) = cutCs L (flatX xs)
  | [] => rfl
  | .c x :: xs => by simp only [cutXs, cutX, flatX, cutCs, flat_cut L xs]
  | .agg cs :: xs => by simp only [cutXs, cutX, flatX, flat_cut L xs, cutCs_eq, List.map_append]
  | .box a cs :: xs => by simp only [cutXs, cutX, flatX, flat_cut L xs]
  | .tup ys :: xs => by simp only [cutXs, cutX, flatX, flat_cut L xs]
  | .undef :: xs => by simp only [cutXs, cutX, flatX, flat_cut L xs]

theorem cut_cells (L : List Root) (x : XV) : cellsOf (cutX L x) = (cellsOf x).map (cutCs L) := by
  cases x with
  | c x => rfl
  | agg cs => rfl
  | box a cs => rfl
  | tup xs => simp only [cutX, cellsOf, flat_cut, Option.map_some]
  | undef => rfl

theorem subC_cut (L : List Root) {cs ds : List CV} {p : List Nat} (h : subC cs p = some ds) : subC (cutCs L cs) p = some (cutCs L ds) := by
  cases p with
  | nil => simp only [subC, Option.some.injEq] at h; subst h; rfl
  | cons i p =>
    simp only [subC] at h ⊢
    rw [cutCs_eq, List.getElem?_map]
    cases hi : cs[i]? with
    | none => rw [hi] at h; cases h
    | some c =>
      rw [hi] at h
      simp only [Option.map_some]
      cases c with
      | t x =>
        simp only [cutC]
        cases x with
        | sl a tag sz n es =>
          cases tag with
          | zero =>
            simp only at h ⊢
            rw [h, Option.some.injEq]
            cases hs : sub es p with
            | none => rw [hs] at h; cases h
            | some gs =>
              rw [hs] at h
              simp only [Option.map_some, Option.some.injEq] at h
              subst h
              rw [cutCs_eq, List.map_map]
              apply List.map_congr_left
              intro x _
              rfl
          | succ g => cases h
        | _ => cases h
      | _ => cases h

structure Cut (L : List Root) (S S2 : SV) (ea : List EA) : Prop where
  ad : ∀ r, rootAd S2 ea r = rootAd S ea r
  pl : ∀ r, r ∉ L → ∀ p i b sz m ds, at_ S r p i = some (.t (.sl b 0 sz m ds)) → at_ S2 r p i = some (.t (.sl b 0 sz m ds))

theorem Cut.place (B : Cut L S S2 ea) {r : Root} {p : List Nat} (hr : r ∉ L ∨ p = []) {ad : Addr} (h : placeAd S ea r p = some ad) : placeAd S2 ea r p = some ad := by
  simp only [placeAd] at h ⊢
  split at h
  · next hp => rw [if_pos hp, B.ad]; exact h
  · next hp =>
    rw [if_neg hp]
    have hr := hr.resolve_right hp
    split at h
    · next ad' n c he =>
      simp only [hdrAt] at he
      split at he
      · next a sz n ds hat =>
        simp only [hdrAt, B.pl r hr _ _ _ _ _ _ hat]
        simp only [Option.some.injEq] at he
        subst he
        exact h
      · cases he
    · cases h

mutual
theorem cutC_ok (B : Cut L S S2 ea) : ∀ {c : CV}, okC w P R S ea c → okC w P R S2 ea (cutC L c)
  | .t x, h => by simpa only [okC, cutC] using h
  | .ptr a r p off, h => by
    simp only [okC] at h
    obtain ⟨ad, h1, rfl⟩ := h
    simp only [cutC]
    split
    · simp only [okC, okT]; exact .inr ⟨_, rfl⟩
    · next hc =>
      simp only [okC]
      refine ⟨ad, B.place ?_ h1, rfl⟩
      simp only [Bool.and_eq_true, List.contains_iff_mem, not_and, Bool.not_eq_true, Bool.not_eq_false', List.isEmpty_iff] at hc
      by_cases hr : r ∈ L
      · exact .inr (hc hr)
      · exact .inl hr
  | .bor a r p i off sz n, h => by
    simp only [okC] at h
    simp only [cutC]
    split
    · simp only [okC, okT]; exact .inl (borSlice h)
    · next hc =>
      simp only [okC]
      obtain ⟨b, m, ds, h1, h2, h3⟩ := h
      exact ⟨b, m, ds, B.pl r (by simpa using hc) _ _ _ _ _ _ h1, h2, h3⟩
  | .fn g caps, h => by
    simp only [okC, cutC] at h ⊢
    exact ⟨cutCs_ok B h.1, by rw [cutCs_blk]; exact h.2⟩
  | .rptr a cs, h => by simpa only [okC, cutC] using h
  | .nilp, _ => by simp only [cutC, okC]
  | .nilf, _ => by simp only [cutC, okC]
  | .lst a sz n cs, h => by
    simp only [okC, cutC] at h ⊢
    exact ⟨by rw [cutCs_eq, List.length_map]; exact h.1, cutCs_ok B h.2.1, by rw [cutCs_val]; exact h.2.2⟩
theorem cutCs_ok (B : Cut L S S2 ea) : ∀ {cs : List CV}, okCs w P R S ea cs → okCs w P R S2 ea (cutCs L cs)
  | [], _ => by simp only [cutCs, okCs]
  | c :: cs, h => by
    simp only [okCs] at h
    simp only [cutCs, okCs]
    exact ⟨cutC_ok B h.1, cutCs_ok B h.2⟩
end

mutual
theorem cutX_ok (B : Cut L S S2 ea) : ∀ {x : XV}, okX w P R S ea x → okX w P R S2 ea (cutX L x)
  | .c x, h => by simp only [okX, cutX] at h ⊢; exact cutC_ok B h
  | .agg cs, h => by simp only [okX, cutX] at h ⊢; exact cutCs_ok B h
  | .box a cs, h => by
    simp only [okX, cutX] at h ⊢
    obtain ⟨h1, ad, rfl, h2, h3, cur, e, h4, h5⟩ := h
    exact ⟨cutCs_ok B h1, ad, rfl, h2, h3, cur, e, h4, by rw [cutCs_val]; exact h5⟩
  | .tup xs, h => by simp only [okX, cutX] at h ⊢; exact cutXs_ok B h
  | .undef, _ => by simp only [cutX, okX]
theorem cutXs_ok (B : Cut L S S2 ea) : ∀ {xs : List XV}, okXs w P R S ea xs → okXs w P R S2 ea (cutXs L xs)
  | [], _ => by simp only [cutXs, okXs]
  | x :: xs, h => by
    simp only [okXs] at h
    simp only [cutXs, okXs]
    exact ⟨cutX_ok B h.1, cutXs_ok B h.2⟩
end
end
end Go.Proofs.YtlkjnlfddadlmaaDoor.V

namespace Go.Proofs.YtlkjnlfddadlmaaDoor.V
open Go.RowKit

theorem nodupR_iff : ∀ {L : List Root}, nodupR L = true → L.Nodup
  | [], _ => List.nodup_nil
  | r :: L, h => by
    simp only [nodupR, Bool.and_eq_true, Bool.not_eq_true', List.contains_eq_mem, decide_eq_false_iff_not] at h
    exact List.nodup_cons.2 ⟨h.1, nodupR_iff h.2⟩

theorem placeOf_get {L : List Root} (hn : L.Nodup) {i : Nat} {r : Root} (hi : L[i]? = some r) : placeOf L r 0 = some i := by
  cases h : placeOf L r 0 with
  | none => exact absurd (List.mem_of_getElem? hi) (placeOf_none h)
  | some j =>
    obtain ⟨_, h2⟩ := placeOf_some h
    rw [Nat.sub_zero] at h2
    obtain ⟨l1, e1⟩ := List.getElem?_eq_some_iff.1 hi
    obtain ⟨l2, e2⟩ := List.getElem?_eq_some_iff.1 h2
    rw [(List.getElem_inj hn).1 (e1.trans e2.symm)]

theorem placeOf_at {L : List Root} {i : Nat} {r : Root} (h : placeOf L r 0 = some i) : L[i]? = some r := by
  obtain ⟨_, h2⟩ := placeOf_some h
  rwa [Nat.sub_zero] at h2

theorem flat_nodup {α : Type} {f : α → List Nat} : ∀ {l : List α}, (∀ x ∈ l, (f x).Nodup) → (∀ (i j : Nat) x y b, l[i]? = some x → l[j]? = some y → b ∈ f x → b ∈ f y → i = j) → (l.flatMap f).Nodup
  | [], _, _ => by simp
  | a :: l, h1, h2 => by
    rw [List.flatMap_cons, List.nodup_append]
    refine ⟨h1 a List.mem_cons_self, flat_nodup (fun x hx => h1 x (List.mem_cons_of_mem _ hx)) (fun i j x y b hi hj hx hy => ?_), fun b hb b' hb' e => ?_⟩
    · have := h2 (i + 1) (j + 1) x y b (by simpa using hi) (by simpa using hj) hx hy
      omega
    · subst e
      obtain ⟨y, hy, hb'⟩ := List.mem_flatMap.1 hb'
      obtain ⟨j, hj⟩ := List.getElem?_of_mem hy
      have := h2 0 (j + 1) a y b rfl (by simpa using hj) hb hb'
      omega

structure HB (isv : Nat → Bool) (w0 : World) (E0 : Nat → Prop) (P : Nat → Nat → Prop) (R R' : Nat → Prop) (ea : List EA) (w w' : World) (S : SV) (tmps : Array Value) (L : List Root) (rows : List TV) (args : List XV) (res : XV) (ext : List (List CV)) : Prop where
  h : Rel isv w0 E0 P R ea w S tmps
  Ln : L.Nodup
  Lr : ∀ r ∈ L, ∃ cs, rootCells S r = some cs
  tup : ∀ d, Root.sl d ∈ L → isTup (S.s d) = false
  Lv : ∀ d, Root.sl d ∈ L → isv d = true
  F : Bk w0 E0 R ea w S (args.flatMap blkX ++ rows.flatMap blkT)
  R'_ : R' = fun b => b < w.heap.size ∧ ¬ inB S ea L rows args b
  o : Out w (inB S ea L rows args) (shiftP R' P) R' (inEa S ea L rows) w' res ext
  len : ∀ (i : Nat) r cs e, L[i]? = some r → rootCells S r = some cs → ext[rows.length + i]? = some e → e.length = cs.length
  dn : ∀ (j : Nat) e, ext[j]? = some e → ∃ d, downCs (mapCs er0 e) = some d

abbrev calleeS (res : XV) (ext : List (List CV)) : SV := ⟨upd (fun _ => .undef) 0 res, ext⟩

abbrev behindS (S : SV) (L : List Root) (k : Nat) (ext : List (List CV)) : SV := backS L k ((ext.drop k).map dnCs) S

section
variable {isv : Nat → Bool} {w0 : World} {E0 : Nat → Prop} {P : Nat → Nat → Prop} {R R' : Nat → Prop} {ea : List EA} {w w' : World} {S : SV} {tmps : Array Value} {L : List Root} {rows : List TV} {args : List XV} {res : XV} {ext : List (List CV)}

theorem HB.RR (H : HB isv w0 E0 P R R' ea w w' S tmps L rows args res ext) : ∀ b, R b → R' b := by
  intro b hb
  rw [H.R'_]
  refine ⟨H.h.ltR b hb, ?_⟩
  rintro (h1 | ⟨r, _, h1⟩)
  · exact H.F.notR b h1 hb
  · exact H.h.notR r b h1 hb

theorem HB.elen (H : HB isv w0 E0 P R R' ea w w' S tmps L rows args res ext) : ext.length = rows.length + L.length := by
  have := H.o.eaL
  simp only [inEa, List.length_append, List.length_map] at this
  exact this.symm

theorem HB.cells (H : HB isv w0 E0 P R R' ea w w' S tmps L rows args res ext) {i : Nat} {r : Root} (hi : L[i]? = some r) :
    ∃ cs e, rootCells S r = some cs ∧ ext[rows.length + i]? = some e ∧ e.length = cs.length ∧ ((ext.drop rows.length).map dnCs).getD i [] = dnCs e := by
  obtain ⟨cs, hcs⟩ := H.Lr r (List.mem_of_getElem? hi)
  have hl := (List.getElem?_eq_some_iff.1 hi).1
  have he : ext[rows.length + i]? = some (ext[rows.length + i]'(by rw [H.elen]; omega)) := List.getElem?_eq_getElem (by rw [H.elen]; omega)
  refine ⟨cs, _, hcs, he, H.len i r cs _ hi hcs he, ?_⟩
  rw [List.getD_eq_getElem?_getD, List.getElem?_map, List.getElem?_drop, he]
  rfl

theorem HB.down (H : HB isv w0 E0 P R R' ea w w' S tmps L rows args res ext) {j : Nat} {e : List CV} (he : ext[j]? = some e) :
    okCs w' P R (calleeS res ext) (inEa S ea L rows) (dnCs e) ∧ valCs (dnCs e) = valCs e ∧ blkCs (dnCs e) = blkCs e ∧ refsCs (dnCs e) = refsCs e := by
  obtain ⟨d, hd⟩ := H.dn j e he
  obtain ⟨_, h2, h3, h4, h5⟩ := dnCs_ok H.RR (H.o.okE j e he).1 hd
  exact ⟨h3, h2, h4, h5⟩

theorem dnCs_length {α : Type} (cs : List (C α)) : (dnCs cs).length = cs.length := by rw [dnCs_eq, List.length_map]
theorem outCs_length {α : Type} (L : List Root) (k : Nat) (cs : List (C α)) : (outCs L k cs).length = cs.length := by rw [outCs_eq, List.length_map]

theorem HB.root_in (H : HB isv w0 E0 P R R' ea w w' S tmps L rows args res ext) {i : Nat} {r : Root} (hi : L[i]? = some r) {e : List CV} (he : ext[rows.length + i]? = some e) :
    rootCells (behindS S L rows.length ext) r = some (outCs L rows.length (dnCs e)) := by
  obtain ⟨cs, e', h1, h2, h3, h4⟩ := H.cells hi
  rw [he, Option.some.injEq] at h2
  subst h2
  have hp := placeOf_get H.Ln hi
  cases r with
  | sl d =>
    rw [rootCells_sl] at h1 ⊢
    simp only [backS, backX, hp, h4]
    exact cellsOf_setX h1 (by rw [outCs_length, dnCs_length, h3])
  | ex j =>
    simp only [rootCells] at h1 ⊢
    simp only [backS, mapFrom_get, h1, Option.map_some, Nat.zero_add, backE, hp, h4]

theorem HB.root_out {r : Root} (hr : r ∉ L) : rootCells (behindS S L rows.length ext) r = (rootCells S r).map (cutCs L) := by
  have hp : placeOf L r 0 = none := by
    cases h : placeOf L r 0 with
    | none => rfl
    | some i => exact absurd (List.mem_of_getElem? (placeOf_at h)) hr
  cases r with
  | sl d =>
    rw [rootCells_sl, rootCells_sl]
    simp only [backS, backX, hp]
    exact cut_cells L _
  | ex j =>
    simp only [rootCells, backS, mapFrom_get, Nat.zero_add]
    congr 1
    funext cs
    simp only [backE, hp]

theorem HB.slot_in (H : HB isv w0 E0 P R R' ea w w' S tmps L rows args res ext) {i d : Nat} (hi : L[i]? = some (.sl d)) {e : List CV} (he : ext[rows.length + i]? = some e) :
    (behindS S L rows.length ext).s d = setX (S.s d) (outCs L rows.length (dnCs e)) := by
  obtain ⟨cs, e', h1, h2, h3, h4⟩ := H.cells hi
  rw [he, Option.some.injEq] at h2
  subst h2
  simp only [backS, backX, placeOf_get H.Ln hi, h4]

theorem HB.slot_out {d : Nat} (hr : Root.sl d ∉ L) : (behindS S L rows.length ext).s d = cutX L (S.s d) := by
  have hp : placeOf L (.sl d) 0 = none := by
    cases h : placeOf L (.sl d) 0 with
    | none => rfl
    | some i => exact absurd (List.mem_of_getElem? (placeOf_at h)) hr
  simp only [backS, backX, hp]

theorem HB.ex_in (H : HB isv w0 E0 P R R' ea w w' S tmps L rows args res ext) {i j : Nat} (hi : L[i]? = some (.ex j)) {e : List CV} (he : ext[rows.length + i]? = some e) :
    (behindS S L rows.length ext).e[j]? = some (outCs L rows.length (dnCs e)) := by
  have := H.root_in hi he
  exact this

theorem HB.ex_out {j : Nat} (hr : Root.ex j ∉ L) : (behindS S L rows.length ext).e[j]? = (S.e[j]?).map (cutCs L) := HB.root_out (S := S) (rows := rows) (ext := ext) hr

theorem HB.sl_cases (H : HB isv w0 E0 P R R' ea w w' S tmps L rows args res ext) (r : Root) : r ∉ L ∨ ∃ (i : Nat) (cs e : List CV), L[i]? = some r ∧ rootCells S r = some cs ∧ ext[rows.length + i]? = some e ∧ e.length = cs.length := by
  by_cases hr : r ∈ L
  · right
    obtain ⟨i, hi⟩ := List.getElem?_of_mem hr
    obtain ⟨cs, e, h1, h2, h3, _⟩ := H.cells hi
    exact ⟨i, cs, e, hi, h1, h2, h3⟩
  · exact .inl hr

theorem HB.rootAd (H : HB isv w0 E0 P R R' ea w w' S tmps L rows args res ext) (r : Root) : rootAd (behindS S L rows.length ext) ea r = rootAd S ea r := by
  cases r with
  | ex j => rfl
  | sl d =>
    rcases H.sl_cases (.sl d) with hr | ⟨i, cs, e, hi, hcs, he, hl⟩
    · simp only [V.rootAd, HB.slot_out (S := S) (rows := rows) (ext := ext) hr]
      cases S.s d with
      | box a ys => cases a with
        | pointer o => cases o <;> rfl
        | _ => rfl
      | _ => rfl
    · simp only [V.rootAd, H.slot_in hi he]
      have ht := H.tup d (List.mem_of_getElem? hi)
      cases hx : S.s d with
      | c x =>
        simp only [setX]
        generalize outCs L rows.length (dnCs e) = l
        rcases l with _ | ⟨c, _ | ⟨c', l⟩⟩ <;> rfl
      | agg ys => rfl
      | box a ys => cases a with
        | pointer o => cases o <;> rfl
        | _ => rfl
      | tup ys => rw [hx] at ht; cases ht
      | undef => rfl

theorem HB.back (H : HB isv w0 E0 P R R' ea w w' S tmps L rows args res ext) : Back L rows.length (calleeS res ext) (behindS S L rows.length ext) (inEa S ea L rows) ea := by
  have key : ∀ j r, rootOf L rows.length j = some r → ∃ i, j = rows.length + i ∧ L[i]? = some r := by
    intro j r h
    simp only [rootOf] at h
    split at h
    · next hk => exact ⟨j - rows.length, by omega, h⟩
    · cases h
  refine ⟨fun j r hr ad had => ?_, fun j r hr p i b sz m ds hat => ?_⟩
  · obtain ⟨i, rfl, hi⟩ := key j r hr
    rw [H.rootAd]
    simp only [V.rootAd, (inE_root (S := S) (ea := ea) (rows := rows) hi).2, Option.bind_some, eaOf_ad] at had
    exact had
  · obtain ⟨i', rfl, hi⟩ := key j r hr
    obtain ⟨cs, e, h1, h2, h3, h4⟩ := H.cells hi
    simp only [at_, rootCells, h2, Option.bind_some] at hat
    cases hs : subC e p with
    | none => rw [hs] at hat; cases hat
    | some gs =>
      rw [hs] at hat
      simp only [Option.bind_some] at hat
      refine ⟨dnTs ds, ?_, by rw [dnTs_eq, List.length_map]⟩
      simp only [at_, H.root_in hi h2, Option.bind_some, subC_out L rows.length hs]
      rw [outCs_eq, dnCs_eq, List.getElem?_map, List.getElem?_map, hat]
      rfl

theorem HB.cut (H : HB isv w0 E0 P R R' ea w w' S tmps L rows args res ext) : Cut L S (behindS S L rows.length ext) ea := by
  refine ⟨H.rootAd, fun r hr p i b sz m ds hat => ?_⟩
  simp only [at_, HB.root_out (S := S) (rows := rows) (ext := ext) hr] at hat ⊢
  cases hc : rootCells S r with
  | none => rw [hc] at hat; cases hat
  | some cs =>
    rw [hc] at hat
    simp only [Option.map_some, Option.bind_some] at hat ⊢
    cases hs : subC cs p with
    | none => rw [hs] at hat; cases hat
    | some gs =>
      rw [hs] at hat
      simp only [Option.bind_some] at hat
      rw [subC_cut L hs]
      simp only [Option.bind_some]
      rw [cutCs_eq, List.getElem?_map, hat]
      rfl

theorem HB.notIn (H : HB isv w0 E0 P R R' ea w w' S tmps L rows args res ext) {r : Root} (hr : r ∉ L) {b : Nat} (hb : b ∈ blkR S ea r) : ¬ inB S ea L rows args b := by
  rintro (h1 | ⟨r', hr', h1⟩)
  · exact H.F.sep r b h1 hb
  · have := H.h.dis r r' b hb h1
    subst this; exact hr hr'

theorem HB.blk_out (H : HB isv w0 E0 P R R' ea w w' S tmps L rows args res ext) {r : Root} (hr : r ∉ L) : blkR (behindS S L rows.length ext) ea r = blkR S ea r := by
  cases r with
  | sl d => simp only [blkR, HB.slot_out (S := S) (rows := rows) (ext := ext) hr, cutX_blk]
  | ex j =>
    simp only [blkR, HB.ex_out (S := S) (rows := rows) (ext := ext) hr]
    cases S.e[j]? with
    | none => rfl
    | some cs => simp only [Option.map_some, cutCs_blk]

theorem HB.blk_in (H : HB isv w0 E0 P R R' ea w w' S tmps L rows args res ext) {i : Nat} {r : Root} (hi : L[i]? = some r) : (blkR (behindS S L rows.length ext) ea r).Sublist (blkR (calleeS res ext) (inEa S ea L rows) (.ex (rows.length + i))) := by
  obtain ⟨cs, e, h1, h2, h3, h4⟩ := H.cells hi
  obtain ⟨_, _, d3, _⟩ := H.down h2
  have hea := (inE_root (S := S) (ea := ea) (rows := rows) hi).2
  have hsub : (blkCs (outCs L rows.length (dnCs e))).Sublist (blkCs e) := by rw [← d3]; exact outCs_blk L _ _
  have hT : blkR (calleeS res ext) (inEa S ea L rows) (.ex (rows.length + i)) = (match V.rootAd S ea r with | some ad => [ad.block] | none => []) ++ blkCs e := by
    simp only [blkR, hea, Option.bind_some, eaOf_ad, h2]
    cases V.rootAd S ea r <;> rfl
  rw [hT]
  cases r with
  | ex j =>
    simp only [blkR, H.ex_in hi h2, V.rootAd]
    exact (List.Sublist.refl _).append hsub
  | sl d =>
    have ht := H.tup d (List.mem_of_getElem? hi)
    have hok := H.h.okS d
    simp only [blkR, H.slot_in hi h2, V.rootAd]
    rw [rootCells_sl] at h1
    have hl : (outCs L rows.length (dnCs e)).length = cs.length := by rw [outCs_length, dnCs_length, h3]
    cases hx : S.s d with
    | c x =>
      rw [hx] at h1
      simp only [cellsOf, Option.some.injEq] at h1
      subst h1
      revert hl hsub
      generalize outCs L rows.length (dnCs e) = l
      intro hsub hl
      rcases l with _ | ⟨c, _ | ⟨c', l⟩⟩
      · simp at hl
      · simpa only [setX, blkX, blkCs, List.append_nil, List.nil_append] using hsub
      · simp at hl
    | agg ys => simpa only [setX, blkX, List.nil_append] using hsub
    | box a ys =>
      rw [hx] at hok
      simp only [okX] at hok
      obtain ⟨_, ad, rfl, _⟩ := hok
      simp only [setX, blkX, hdr]
      exact (List.Sublist.refl _).append hsub
    | tup ys => rw [hx] at ht; cases ht
    | undef => rw [hx] at h1; cases h1

theorem HB.own' (H : HB isv w0 E0 P R R' ea w w' S tmps L rows args res ext) {b : Nat} (h : inB S ea L rows args b ∨ w.heap.size ≤ b) : E0 b ∨ w0.heap.size ≤ b := by
  rcases h with (h | ⟨r, _, h⟩) | h
  · exact H.F.own b h
  · exact H.h.own r b h
  · exact .inr (Nat.le_trans H.h.frm.size h)

theorem HB.notR' (H : HB isv w0 E0 P R R' ea w w' S tmps L rows args res ext) {b : Nat} (h : inB S ea L rows args b ∨ w.heap.size ≤ b) : ¬ R b := by
  intro hR
  rcases h with (h | ⟨r, _, h⟩) | h
  · exact H.F.notR b h hR
  · exact H.h.notR r b h hR
  · have := H.h.ltR b hR; omega

theorem HB.sep' (H : HB isv w0 E0 P R R' ea w w' S tmps L rows args res ext) {r k : Root} (hr : r ∉ L) {b : Nat} (hb : b ∈ blkR S ea r) (hb' : b ∈ blkR (calleeS res ext) (inEa S ea L rows) k) : False := by
  rcases H.o.own k b hb' with h1 | h1
  · exact H.notIn hr hb h1
  · have := H.h.lt r b hb; omega

theorem HB.same (H : HB isv w0 E0 P R R' ea w w' S tmps L rows args res ext) {b : Nat} (hb : b < w.heap.size) (hn : ¬ inB S ea L rows args b) : w'.heap[b]? = w.heap[b]? := H.o.frm.block b hb hn

theorem HB.sameR (H : HB isv w0 E0 P R R' ea w w' S tmps L rows args res ext) : ∀ b, R b → w'.heap[b]? = w.heap[b]? := by
  intro b hb
  have := H.RR b hb
  rw [H.R'_] at this
  exact H.same this.1 this.2

theorem HB.row_val (H : HB isv w0 E0 P R R' ea w w' S tmps L rows args res ext) {i : Nat} {r : Root} (hi : L[i]? = some r) {cs e : List CV} (hcs : rootCells S r = some cs) (he : ext[rows.length + i]? = some e) (hn : V.rootAd S ea r = none) : valCs e = valCs cs := by
  have hea := (inE_root (S := S) (ea := ea) (rows := rows) hi).2
  have : eaOf S ea r = .row (valCs cs) := by simp only [eaOf, hn, hcs, Option.getD_some]
  rw [this] at hea
  exact H.o.row _ _ _ hea he

theorem HB.box (H : HB isv w0 E0 P R R' ea w w' S tmps L rows args res ext) {i : Nat} {r : Root} (hi : L[i]? = some r) {e : List CV} (he : ext[rows.length + i]? = some e) {ad : Addr} (had : V.rootAd S ea r = some ad) : BoxAt w' ad (outCs L rows.length (dnCs e)) := by
  have hea := (inE_root (S := S) (ea := ea) (rows := rows) hi).2
  have h1 := (H.o.okE _ _ he).2 ad (by rw [hea]; simp only [Option.bind_some, eaOf_ad]; exact had)
  obtain ⟨h2, h3, cur, e', h4, h5⟩ := h1
  refine ⟨h2, h3, cur, e', h4, ?_⟩
  rw [h5, outCs_val, (H.down he).2.1]

theorem HB.outOk (H : HB isv w0 E0 P R R' ea w w' S tmps L rows args res ext) {j : Nat} {e : List CV} (he : ext[j]? = some e) : okCs w' P R (behindS S L rows.length ext) ea (outCs L rows.length (dnCs e)) := outCs_ok H.back (H.down he).1

theorem HB.rel (H : HB isv w0 E0 P R R' ea w w' S tmps L rows args res ext) : Rel isv w0 E0 P R ea w' (behindS S L rows.length ext) tmps := by
  have hsP : ∀ t b, P t b → w'.heap[b]? = w.heap[b]? := fun t b hb => H.sameR b (H.h.PR t b hb)
  constructor
  case val =>
    intro d hd
    rcases H.sl_cases (.sl d) with hr | ⟨i, cs, e, hi, hcs, he, hl⟩
    · rw [HB.slot_out (S := S) (rows := rows) (ext := ext) hr, cutX_val]
      exact (H.h.val d hd).imp (fun e => by rw [e]; rfl) id
    · rw [H.slot_in hi he]
      rcases H.h.val d hd with e' | e'
      · rw [rootCells_sl, e'] at hcs; cases hcs
      · right
        rw [e']
        congr 1
        have ht := H.tup d (List.mem_of_getElem? hi)
        have hv : V.rootAd S ea (.sl d) = none → valCs (outCs L rows.length (dnCs e)) = valCs cs := by
          intro hn
          rw [outCs_val, (H.down he).2.1]
          exact H.row_val hi hcs he hn
        rw [rootCells_sl] at hcs
        cases hx : S.s d with
        | box a ys => simp only [setX, valX]
        | undef => rw [hx] at hcs; cases hcs
        | tup ys => rw [hx] at ht; cases ht
        | c x =>
          have := setX_val (x := S.s d) hcs (hv (by simp only [V.rootAd, hx]))
          rw [hx] at this
          exact this.symm
        | agg ys =>
          have := setX_val (x := S.s d) hcs (hv (by simp only [V.rootAd, hx]))
          rw [hx] at this
          exact this.symm
  case hi =>
    intro d hd
    have hu := H.h.hi d hd
    rcases H.sl_cases (.sl d) with hr | ⟨i, cs, e, hi, hcs, he, hl⟩
    · rw [HB.slot_out (S := S) (rows := rows) (ext := ext) hr, hu]; rfl
    · rw [rootCells_sl, hu] at hcs; cases hcs
  case okS =>
    intro d
    rcases H.sl_cases (.sl d) with hr | ⟨i, cs, e, hi, hcs, he, hl⟩
    · rw [HB.slot_out (S := S) (rows := rows) (ext := ext) hr]
      refine cutX_ok H.cut (okX_same hsP H.sameR (H.h.okS d) (fun b hb => H.same (H.h.lt (.sl d) b hb) (H.notIn hr hb)) (fun r _ => ⟨rfl, rfl⟩))
    · rw [H.slot_in hi he]
      have hout := H.outOk he
      have hok := H.h.okS d
      have ht := H.tup d (List.mem_of_getElem? hi)
      have hbox : ∀ ad, V.rootAd S ea (.sl d) = some ad → BoxAt w' ad (outCs L rows.length (dnCs e)) := fun ad had => H.box hi he had
      have hl' : (outCs L rows.length (dnCs e)).length = cs.length := by rw [outCs_length, dnCs_length, hl]
      rw [rootCells_sl] at hcs
      revert hout hbox hl'
      generalize outCs L rows.length (dnCs e) = l
      intro hout hbox hl'
      cases hx : S.s d with
      | c x =>
        rw [hx] at hcs
        simp only [cellsOf, Option.some.injEq] at hcs
        subst hcs
        rcases l with _ | ⟨c, _ | ⟨c', l⟩⟩
        · simp at hl'
        · simp only [setX, okX]; simp only [okCs, and_true] at hout; exact hout
        · simp at hl'
      | agg ys => simp only [setX, okX]; exact hout
      | box a ys =>
        rw [hx] at hok
        simp only [okX] at hok
        obtain ⟨_, ad, rfl, _⟩ := hok
        simp only [setX, okX]
        exact ⟨hout, ad, rfl, hbox ad (by simp only [V.rootAd, hx])⟩
      | tup ys => rw [hx] at ht; cases ht
      | undef => rw [hx] at hcs; cases hcs
  case okE =>
    intro j cs' hj
    rcases H.sl_cases (.ex j) with hr | ⟨i, cs, e, hi, hcs, he, hl⟩
    · rw [HB.ex_out (S := S) (rows := rows) (ext := ext) hr] at hj
      cases hc : S.e[j]? with
      | none => rw [hc] at hj; cases hj
      | some ds =>
        rw [hc] at hj
        simp only [Option.map_some, Option.some.injEq] at hj
        subst hj
        refine ⟨cutCs_ok H.cut (okCs_same hsP H.sameR (H.h.okE j ds hc).1 (fun b hb => H.same (H.h.lt (.ex j) b (blk_ex hc hb)) (H.notIn hr (blk_ex hc hb))) (fun r _ => ⟨rfl, rfl⟩)), fun ad had => ?_⟩
        have hb := (H.h.okE j ds hc).2 ad had
        have hb' := hb.same (w' := w') (H.same (H.h.lt (.ex j) _ (blk_ea had)) (H.notIn hr (blk_ea had)))
        obtain ⟨h2, h3, cur, e', h4, h5⟩ := hb'
        exact ⟨h2, h3, cur, e', h4, by rw [cutCs_val]; exact h5⟩
    · rw [H.ex_in hi he, Option.some.injEq] at hj
      subst hj
      exact ⟨H.outOk he, fun ad had => H.box hi he had⟩
  case eaL => simp only [backS, mapFrom_length]; exact H.h.eaL
  case row =>
    intro j vs cs' hea hj
    rcases H.sl_cases (.ex j) with hr | ⟨i, cs, e, hi, hcs, he, hl⟩
    · rw [HB.ex_out (S := S) (rows := rows) (ext := ext) hr] at hj
      cases hc : S.e[j]? with
      | none => rw [hc] at hj; cases hj
      | some ds =>
        rw [hc] at hj
        simp only [Option.map_some, Option.some.injEq] at hj
        subst hj
        rw [cutCs_val]; exact H.h.row j vs ds hea hc
    · rw [H.ex_in hi he, Option.some.injEq] at hj
      subst hj
      rw [outCs_val, (H.down he).2.1, H.row_val hi hcs he (by simp only [V.rootAd, hea, Option.bind_some, EA.ad])]
      exact H.h.row j vs cs hea hcs
  case refS =>
    intro d d' hd
    rcases H.sl_cases (.sl d) with hr | ⟨i, cs, e, hi, hcs, he, hl⟩
    · rw [HB.slot_out (S := S) (rows := rows) (ext := ext) hr] at hd
      exact H.h.refS d d' (cutX_refs L _ _ hd)
    · rw [H.slot_in hi he] at hd
      have ht := H.tup d (List.mem_of_getElem? hi)
      have hl' : (outCs L rows.length (dnCs e)).length = cs.length := by rw [outCs_length, dnCs_length, hl]
      rw [rootCells_sl] at hcs
      rcases setX_refs hcs hl' _ hd with h1 | h1
      · exact H.h.refS d d' h1
      · exact H.Lv d' (outCs_refs L _ _ _ h1)
  case refE =>
    intro j cs' d' hj hd
    rcases H.sl_cases (.ex j) with hr | ⟨i, cs, e, hi, hcs, he, hl⟩
    · rw [HB.ex_out (S := S) (rows := rows) (ext := ext) hr] at hj
      cases hc : S.e[j]? with
      | none => rw [hc] at hj; cases hj
      | some ds =>
        rw [hc] at hj
        simp only [Option.map_some, Option.some.injEq] at hj
        subst hj
        exact H.h.refE j ds d' hc (cutCs_refs L _ _ hd)
    · rw [H.ex_in hi he, Option.some.injEq] at hj
      subst hj
      exact H.Lv d' (outCs_refs L _ _ _ hd)
  case dis =>
    intro r r' b hb hb'
    rcases H.sl_cases r with hr | ⟨i, cs, e, hi, hcs, he, hl⟩ <;> rcases H.sl_cases r' with hr' | ⟨i', cs', e', hi', hcs', he', hl'⟩
    · rw [H.blk_out hr] at hb
      rw [H.blk_out hr'] at hb'
      exact H.h.dis r r' b hb hb'
    · rw [H.blk_out hr] at hb
      exact (H.sep' hr hb ((H.blk_in hi').subset hb')).elim
    · rw [H.blk_out hr'] at hb'
      exact (H.sep' hr' hb' ((H.blk_in hi).subset hb)).elim
    · have := H.o.dis _ _ b ((H.blk_in hi).subset hb) ((H.blk_in hi').subset hb')
      simp only [Root.ex.injEq, Nat.add_left_cancel_iff] at this
      subst this
      rw [hi] at hi'
      exact Option.some.inj hi'
  case nd =>
    intro r
    rcases H.sl_cases r with hr | ⟨i, cs, e, hi, hcs, he, hl⟩
    · rw [H.blk_out hr]; exact H.h.nd r
    · exact (H.blk_in hi).nodup (H.o.nd _)
  case lt =>
    intro r b hb
    rcases H.sl_cases r with hr | ⟨i, cs, e, hi, hcs, he, hl⟩
    · rw [H.blk_out hr] at hb; exact Nat.lt_of_lt_of_le (H.h.lt r b hb) H.o.frm.size
    · exact H.o.lt _ b ((H.blk_in hi).subset hb)
  case own =>
    intro r b hb
    rcases H.sl_cases r with hr | ⟨i, cs, e, hi, hcs, he, hl⟩
    · rw [H.blk_out hr] at hb; exact H.h.own r b hb
    · exact H.own' (H.o.own _ b ((H.blk_in hi).subset hb))
  case notR =>
    intro r b hb
    rcases H.sl_cases r with hr | ⟨i, cs, e, hi, hcs, he, hl⟩
    · rw [H.blk_out hr] at hb; exact H.h.notR r b hb
    · exact H.notR' (H.o.own _ b ((H.blk_in hi).subset hb))
  case PR => exact H.h.PR
  case ltR => exact fun b hb => Nat.lt_of_lt_of_le (H.h.ltR b hb) H.o.frm.size
  case frm =>
    refine H.h.frm.trans (H.o.frm.mono fun b hb => ?_)
    exact H.own' (.inl hb)

theorem HB.bk (H : HB isv w0 E0 P R R' ea w w' S tmps L rows args res ext) : Bk w0 E0 R ea w' (behindS S L rows.length ext) (blkX res ++ (ext.take rows.length).flatMap blkCs) := by
  have src : ∀ b, b ∈ blkX res ++ (ext.take rows.length).flatMap blkCs → ∃ k, b ∈ blkR (calleeS res ext) (inEa S ea L rows) k ∧ ∀ i, k ≠ .ex (rows.length + i) := by
    intro b hb
    rcases List.mem_append.1 hb with hb | hb
    · exact ⟨.sl 0, by simpa [blkR, upd] using hb, fun i => by simp⟩
    · obtain ⟨e, he, hb⟩ := List.mem_flatMap.1 hb
      obtain ⟨j, hj⟩ := List.getElem?_of_mem he
      have hjl : j < rows.length := by
        have := (List.getElem?_eq_some_iff.1 hj).1
        simp only [List.length_take] at this
        omega
      rw [List.getElem?_take_of_lt hjl] at hj
      refine ⟨.ex j, ?_, fun i => by simp; omega⟩
      simp only [blkR, hj]
      exact List.mem_append_right _ hb
  constructor
  · rw [List.nodup_append]
    refine ⟨?_, ?_, ?_⟩
    · have := H.o.nd (.sl 0)
      simpa [blkR, upd] using this
    · have hget : ∀ (j : Nat) e, (ext.take rows.length)[j]? = some e → ext[j]? = some e := by
        intro j e hj
        have hjl : j < rows.length := by
          have := (List.getElem?_eq_some_iff.1 hj).1
          simp only [List.length_take] at this
          omega
        rwa [List.getElem?_take_of_lt hjl] at hj
      refine flat_nodup (fun e he => ?_) (fun i j x y b hi hj hx hy => ?_)
      · obtain ⟨j, hj⟩ := List.getElem?_of_mem he
        have := H.o.nd (.ex j)
        simp only [blkR, hget j e hj] at this
        exact (List.nodup_append.1 this).2.1
      · have := H.o.dis (.ex i) (.ex j) b (by simp only [blkR, hget i x hi]; exact List.mem_append_right _ hx) (by simp only [blkR, hget j y hj]; exact List.mem_append_right _ hy)
        simpa using this
    · intro b hb b' hb' e
      subst e
      obtain ⟨e, he, hb'⟩ := List.mem_flatMap.1 hb'
      obtain ⟨j, hj⟩ := List.getElem?_of_mem he
      have hjl : j < rows.length := by
        have := (List.getElem?_eq_some_iff.1 hj).1
        simp only [List.length_take] at this
        omega
      rw [List.getElem?_take_of_lt hjl] at hj
      have := H.o.dis (.sl 0) (.ex j) b (by simpa [blkR, upd] using hb) (by simp only [blkR, hj]; exact List.mem_append_right _ hb')
      cases this
  · intro r b hb hb'
    obtain ⟨k, hk, hn⟩ := src b hb
    rcases H.sl_cases r with hr | ⟨i, cs, e, hi, hcs, he, hl⟩
    · rw [H.blk_out hr] at hb'
      exact H.sep' hr hb' hk
    · exact hn i (H.o.dis _ _ b hk ((H.blk_in hi).subset hb'))
  · intro b hb
    obtain ⟨k, hk, _⟩ := src b hb
    exact H.o.lt k b hk
  · intro b hb
    obtain ⟨k, hk, _⟩ := src b hb
    exact H.own' (H.o.own k b hk)
  · intro b hb
    obtain ⟨k, hk, _⟩ := src b hb
    exact H.notR' (H.o.own k b hk)

theorem HB.result (H : HB isv w0 E0 P R R' ea w w' S tmps L rows args res ext) {y : XU} (hq : downX (erX res) = some y) :
    ∃ yG, erX yG = outX L rows.length y ∧ valX yG = valX res ∧ okX w' P R (behindS S L rows.length ext) ea yG ∧ (∀ d', Root.sl d' ∈ refsX yG → isv d' = true) ∧ (blkX yG).Sublist (blkX res) := by
  have hok : okX w' (shiftP R' P) R' (calleeS res ext) (inEa S ea L rows) res := by
    have := H.o.okS 0
    simpa [upd] using this
  obtain ⟨yG, k1, k2, k3, k4, k5⟩ := downX_ok H.RR hok hq
  refine ⟨outX L rows.length yG, ?_, by rw [outX_val, k2], outX_ok H.back k3, fun d' hd' => H.Lv d' (outX_refs L _ _ _ hd'), by rw [← k4]; exact outX_blk L _ _⟩
  rw [← k1]
  exact (outX_map er0 L _ yG).symm
end
end Go.Proofs.YtlkjnlfddadlmaaDoor.V

namespace Go.Proofs.YtlkjnlfddadlmaaDoor.V
open Go.RowKit

section
variable {isv : Nat → Bool} {w0 : World} {E0 : Nat → Prop} {P : Nat → Nat → Prop} {R R' : Nat → Prop} {ea ea' : List EA} {w w' : World} {S S' : SV} {tmps : Array Value}

theorem fillRow_ok (h : Rel isv w0 E0 P R ea w S tmps) {x : XV} (hn : New isv w0 E0 P R ea w S x) {wr : Row} {c : CV} {rest : List Nat} (hc : okC w P R S' ea' c)
    (hv : ∀ u, at_ S wr.r wr.p wr.i = some (.t (.dead u)) → u = valC c) (hb : Bk w0 E0 R ea w S (blkX x ++ (blkC c ++ rest))) {Su : SU} (hq : fillRow (V.erS S) wr [erC c] = some Su) :
    ∃ S2, V.erS S2 = Su ∧ Rel isv w0 E0 P R ea w S2 tmps ∧ New isv w0 E0 P R ea w S2 x ∧ Bk w0 E0 R ea w S2 (blkX x ++ rest) ∧
      ∀ k q j u, ¬ (wr.r = k ∧ pre (wr.p ++ [wr.i]) (q ++ [j]) = true) → at_ S2 k q j = some (.t (.dead u)) → at_ S k q j = some (.t (.dead u)) := by
  have skip : Su = V.erS S → ∃ S2, V.erS S2 = Su ∧ Rel isv w0 E0 P R ea w S2 tmps ∧ New isv w0 E0 P R ea w S2 x ∧ Bk w0 E0 R ea w S2 (blkX x ++ rest) ∧
      ∀ k q j u, ¬ (wr.r = k ∧ pre (wr.p ++ [wr.i]) (q ++ [j]) = true) → at_ S2 k q j = some (.t (.dead u)) → at_ S k q j = some (.t (.dead u)) := by
    rintro rfl
    exact ⟨S, rfl, h, hn, hb.sub ((List.Sublist.refl _).append (List.sublist_append_right _ _)), fun _ _ _ _ _ h => h⟩
  unfold fillRow at hq
  split at hq
  · next b sz m ds he =>
    simp only [List.cons.injEq, and_true] at he
    obtain ⟨y, rfl, hy⟩ := er_t he
    have hat0 : at_ (V.erS S) wr.r wr.p wr.i = (at_ S wr.r wr.p wr.i).map erC := at_map er0 S _ _ _
    rw [hat0] at hq
    cases hat : at_ S wr.r wr.p wr.i with
    | none => rw [hat] at hq; cases hq
    | some old =>
      rw [hat] at hq
      simp only [Option.map_some] at hq
      split at hq
      · next z hz =>
        simp only [Option.some.injEq] at hz
        obtain ⟨yo, rfl, hyo⟩ := er_t hz
        have : ∃ u, yo = .dead u := by cases yo <;> simp [erT, mapT] at hyo; exact ⟨_, rfl⟩
        obtain ⟨u, rfl⟩ := this
        have hm := putCell_map er0 S wr.r wr.p wr.i (.t y)
        rw [show mapC er0 (.t y) = (.t (.sl b 0 sz m ds) : CU) from by simp only [mapC]; exact congrArg _ hy] at hm
        rw [show putCell (V.erS S) wr.r wr.p wr.i (.t (.sl b 0 sz m ds)) = _ from hm] at hq
        cases hput : putCell S wr.r wr.p wr.i (.t y) with
        | none => rw [hput] at hq; cases hq
        | some S2 =>
          rw [hput] at hq
          simp only [Option.map_some, Option.some.injEq] at hq
          subst hq
          have hu := hv u hat
          simp only [okC] at hc
          simp only [blkC] at hb
          have hby : Bk w0 E0 R ea w S (blkT y) := hb.sub ((List.sublist_append_left _ _).trans (List.sublist_append_right _ _))
          obtain ⟨r1, r2, r3⟩ := h.fill hat rfl hput (by simp only [valC, valT]; simp only [valC] at hu; exact hu.symm) hc hby
          have hnd := List.nodup_append.1 hb.nd
          have hnd2 := List.nodup_append.1 hnd.2.1
          have hmem : ∀ k b, b ∈ blkR S2 ea k → b ∈ blkR S ea k ∨ b ∈ blkT y := by
            intro k b hb'
            by_cases e : k = wr.r
            · subst e; exact (List.mem_append.1 (r3.subset hb')).symm
            · rw [r2 k e] at hb'; exact .inl hb'
          have hem := put_em (ea := ea) hput
          refine ⟨S2, rfl, r1, ?_, ?_, fun k q j u' hk hd => ?_⟩
          · constructor
            · exact okX_put hem (below_own hat rfl) hn.ok
            · exact hn.refs
            · exact hn.nd
            · intro r b hb1 hb2
              rcases hmem r b hb2 with h1 | h1
              · exact hn.sep r b hb1 h1
              · exact hnd.2.2 b hb1 b (List.mem_append_left _ h1) rfl
            · exact hn.lt
            · exact hn.own
            · exact hn.notR
          · have hs := hb.sub ((List.Sublist.refl (blkX x)).append (List.sublist_append_right (blkT y) rest))
            refine ⟨hs.nd, fun r b hb1 hb2 => ?_, hs.lt, hs.own, hs.notR⟩
            rcases hmem r b hb2 with h1 | h1
            · exact hs.sep r b hb1 h1
            · rcases List.mem_append.1 hb1 with h3 | h3
              · exact hnd.2.2 b h3 b (List.mem_append_left _ h1) rfl
              · exact hnd2.2.2 b h1 b h3 rfl
          · rcases hem.at hk with e | ⟨b', sz', m', ds', es, _, e2, _⟩
            · rw [e]; exact hd
            · rw [e2] at hd; simp at hd
      · cases hq
  · next he =>
    simp only [Option.some.injEq] at hq
    exact skip hq.symm
  · cases hq

theorem fillRows_ok {x : XV} : ∀ {ws : List Row} {cs : List CV} {S : SV} {Su : SU}, Rel isv w0 E0 P R ea w S tmps → New isv w0 E0 P R ea w S x → okCs w P R S' ea' cs →
    (∀ (i : Nat) wr c, ws[i]? = some wr → cs[i]? = some c → ∀ u, at_ S wr.r wr.p wr.i = some (.t (.dead u)) → u = valC c) → Bk w0 E0 R ea w S (blkX x ++ blkCs cs) → apart ws = true → fillRows ws (cs.map fun c => [erC c]) (V.erS S) = some Su →
    ∃ S2, V.erS S2 = Su ∧ Rel isv w0 E0 P R ea w S2 tmps ∧ New isv w0 E0 P R ea w S2 x
  | [], cs, S, Su, h, hn, _, _, _, _, hq => by
    simp only [fillRows, Option.some.injEq] at hq
    exact ⟨S, hq, h, hn⟩
  | wr :: ws, [], S, Su, _, _, _, _, _, _, hq => by simp [fillRows] at hq
  | wr :: ws, c :: cs, S, Su, h, hn, hc, hv, hb, ha, hq => by
    simp only [List.map_cons, fillRows] at hq
    simp only [okCs] at hc
    simp only [blkCs] at hb
    simp only [apart, Bool.and_eq_true, List.all_eq_true, Bool.not_eq_true', Bool.and_eq_false_iff, Bool.or_eq_false_iff, beq_eq_false_iff_ne, ne_eq] at ha
    cases h1 : fillRow (V.erS S) wr [erC c] with
    | none => rw [h1] at hq; cases hq
    | some S1 =>
      rw [h1] at hq
      simp only [Option.bind_some] at hq
      obtain ⟨S2, rfl, k2, k3, k4, k5⟩ := fillRow_ok h hn hc.1 (hv 0 wr c rfl rfl) hb h1
      refine fillRows_ok k2 k3 hc.2 (fun i v d hi hd u hu => ?_) k4 ha.2 hq
      refine hv (i + 1) v d (by simpa using hi) (by simpa using hd) u (k5 _ _ _ _ ?_ hu)
      rintro ⟨e, hp⟩
      rcases ha.1 v (List.mem_of_getElem? hi) with h' | h'
      · exact h' e
      · rw [hp] at h'; cases h'.1
end
end Go.Proofs.YtlkjnlfddadlmaaDoor.V

namespace Go.Proofs.YtlkjnlfddadlmaaDoor.V
open Go.RowKit

structure Less (isv : Nat → Bool) (ea : List EA) (S S2 : SV) : Prop where
  blk : ∀ k, ∀ b ∈ blkR S2 ea k, b ∈ blkR S ea k
  dd : ∀ r p i b, (∀ d, r = .sl d → isv d = true) → (at_ S r p i = some (.t (.dead b)) ∨ at_ S r p i = none) → (at_ S2 r p i = some (.t (.dead b)) ∨ at_ S2 r p i = none)

theorem Less.refl {isv : Nat → Bool} {ea : List EA} {S : SV} : Less isv ea S S := ⟨fun _ _ h => h, fun _ _ _ _ _ h => h⟩
theorem Less.trans {isv : Nat → Bool} {ea : List EA} {S S2 S3 : SV} (h : Less isv ea S S2) (k : Less isv ea S2 S3) : Less isv ea S S3 :=
  ⟨fun r b hb => h.blk r b (k.blk r b hb), fun r p i b hr hd => k.dd r p i b hr (h.dd r p i b hr hd)⟩
theorem Less.of {isv : Nat → Bool} {ea : List EA} {S S2 : SV} (h : Emp ea S S2) : Less isv ea S S2 := ⟨h.blk, fun r p i b _ hd => h.dd r p i b hd⟩

def PArg (w : World) (P : Nat → Nat → Prop) (rs : List TV) (k : Nat) (x : XV) : Prop :=
  ∀ (R' : Nat → Prop) (S' : SV) (ea' : List EA), (∀ j t, rs[j]? = some t → S'.e[k + j]? = some [.t (up t)]) → okX w (shiftP R' P) R' S' ea' x ∧ ∀ r ∈ refsX x, isEx r = true

def PCell (w : World) (P : Nat → Nat → Prop) (rs : List TV) (k : Nat) (c : CV) : Prop :=
  ∀ (R' : Nat → Prop) (S' : SV) (ea' : List EA), (∀ j t, rs[j]? = some t → S'.e[k + j]? = some [.t (up t)]) → okC w (shiftP R' P) R' S' ea' c ∧ ∀ r ∈ refsC c, isEx r = true

def Gone (isv : Nat → Bool) (S : SV) (wr : Row) (v : Value) : Prop := (∀ d, wr.r = .sl d → isv d = true) ∧ (at_ S wr.r wr.p wr.i = some (.t (.dead v)) ∨ at_ S wr.r wr.p wr.i = none)

def blkO : Option XV → List Nat
  | none => []
  | some x => blkX x

section
variable {cx : Ctx} {f : Nat} {isv : Nat → Bool} {w0 : World} {E0 : Nat → Prop} {P : Nat → Nat → Prop} {R R' : Nat → Prop} {ea ea' : List EA} {w w' : World} {S S' S0 : SV} {tmps : Array Value} {a : Act}

theorem Gone.less {S2 : SV} {wr : Row} {v : Value} (h : Gone isv S wr v) (l : Less isv ea S S2) : Gone isv S2 wr v := ⟨h.1, l.dd _ _ _ _ h.1 h.2⟩

theorem Bk.less {S2 : SV} {l : List Nat} (h : Bk w0 E0 R ea w S l) (k : Less isv ea S S2) : Bk w0 E0 R ea w S2 l := ⟨h.nd, fun r b hb hb' => h.sep r b hb (k.blk r b hb'), h.lt, h.own, h.notR⟩

theorem Less.clr (o : Operand) : Less (isVar cx f) ea S (clr cx f S o) := by
  cases o with
  | tmp d =>
    simp only [V.clr]
    split
    · exact .refl
    · next hv =>
      split
      · refine ⟨fun k b hb => ?_, fun r p i b hr hd => ?_⟩
        · cases k with
          | sl d' =>
            simp only [blkR, upd] at hb ⊢
            split at hb
            · simp [blkX] at hb
            · exact hb
          | ex j => exact hb
        · have : at_ ({ S with s := upd S.s d .undef } : SV) r p i = at_ S r p i := by
            refine at_root ?_ p i
            cases r with
            | sl d' =>
              have : d' ≠ d := fun e => by have := hr d' rfl; rw [e] at this; exact hv this
              simp only [rootCells, upd, if_neg this]
            | ex j => rfl
          rw [this]; exact hd
      · exact .refl
  | _ => exact .refl

theorem Less.eat (o : Operand) : Less (isVar cx f) ea S (eat cx f S o) := by
  cases o with
  | tmp d =>
    simp only [V.eat]
    split
    · exact .refl
    · next hv =>
      refine ⟨fun k b hb => ?_, fun r p i b hr hd => ?_⟩
      · cases k with
        | sl d' =>
          simp only [blkR, upd] at hb ⊢
          split at hb
          · simp [blkX] at hb
          · exact hb
        | ex j => exact hb
      · have : at_ ({ S with s := upd S.s d .undef } : SV) r p i = at_ S r p i := by
          refine at_root ?_ p i
          cases r with
          | sl d' =>
            have : d' ≠ d := fun e => by have := hr d' rfl; rw [e] at this; exact hv this
            simp only [rootCells, upd, if_neg this]
          | ex j => rfl
        rw [this]; exact hd
  | _ => exact .refl

theorem Rel.eat (h : Rel (isVar cx f) w0 E0 P R ea w S tmps) (o : Operand) : Rel (isVar cx f) w0 E0 P R ea w (eat cx f S o) tmps := by
  cases o with
  | tmp d =>
    simp only [V.eat]
    split
    · exact h
    · next hv => exact h.clear (h.noMen (fun h' => absurd h' hv))
  | _ => exact h

theorem eat_map (o : Operand) : V.erS (eat cx f S o) = eat cx f (V.erS S) o := by
  cases o with
  | tmp d =>
    simp only [V.eat]
    split
    · rfl
    · simp only [V.erS, mapS]
      congr 1
      exact upd_map er0 S.s d .undef
  | _ => rfl

theorem okCs_eat {o : Operand} {cs : List CV} (h : okCs w P R S ea cs) (hr : ∀ d, Root.sl d ∈ refsCs cs → isVar cx f d = true) : okCs w P R (eat cx f S o) ea cs := by
  refine okCs_same (fun _ _ _ => rfl) (fun _ _ => rfl) h (fun _ _ => rfl) fun r hr' => ?_
  cases o with
  | tmp d =>
    simp only [V.eat]
    split
    · exact ⟨rfl, rfl⟩
    · next hv =>
      refine roots_upd fun e => ?_
      subst e
      exact hv (hr d hr')
  | _ => exact ⟨rfl, rfl⟩

theorem PCell.mono {rs rs' : List TV} {k k' : Nat} {c : CV} (h : PCell w P rs k c) (hs : ∀ j t, rs[j]? = some t → ∃ j', k' + j' = k + j ∧ rs'[j']? = some t) : PCell w P rs' k' c :=
  fun R' S' ea' hS => h R' S' ea' fun j t hj => by obtain ⟨j', e, hj'⟩ := hs j t hj; rw [← e]; exact hS j' t hj'

theorem PArg.mono {rs rs' : List TV} {k k' : Nat} {x : XV} (h : PArg w P rs k x) (hs : ∀ j t, rs[j]? = some t → ∃ j', k' + j' = k + j ∧ rs'[j']? = some t) : PArg w P rs' k' x :=
  fun R' S' ea' hS => h R' S' ea' fun j t hj => by obtain ⟨j', e, hj'⟩ := hs j t hj; rw [← e]; exact hS j' t hj'

theorem app_right {α : Type} {rs rs' : List α} {k : Nat} : ∀ j t, rs'[j]? = some t → ∃ j', k + j' = k + rs.length + j ∧ (rs ++ rs')[j']? = some t :=
  fun j t hj => ⟨rs.length + j, by omega, by rw [List.getElem?_append_right (by omega), Nat.add_sub_cancel_left]; exact hj⟩

theorem app_left {α : Type} {rs rs' : List α} {k : Nat} : ∀ j t, rs[j]? = some t → ∃ j', k + j' = k + j ∧ (rs ++ rs')[j']? = some t :=
  fun j t hj => ⟨j, rfl, by rw [List.getElem?_append_left (List.getElem?_eq_some_iff.1 hj).1]; exact hj⟩

theorem scalar_cell {x : TV} {rs : List TV} {k : Nat} (hs : scalarT (erT x) = true) (hok : okT w P R x) : PCell w P rs k (.t x) := by
  intro R' S' ea' _
  refine ⟨?_, by simp [refsC]⟩
  simp only [okC]
  cases x <;> simp [erT, mapT, scalarT] at hs <;> first | (simp [okT]; done) | simpa only [okT] using hok

structure Plc (isv : Nat → Bool) (w0 : World) (E0 : Nat → Prop) (P : Nat → Nat → Prop) (R : Nat → Prop) (ea : List EA) (w : World) (tmps : Array Value) (S S2 : SV) (rs : List TV) (ws : List Row) : Prop where
  rel : Rel isv w0 E0 P R ea w S2 tmps
  less : Less isv ea S S2
  er : rs.map erT = ws.map (·.t)
  gone : ∀ (i : Nat) t wr, rs[i]? = some t → ws[i]? = some wr → Gone isv S2 wr (valT t)
  ok : ∀ t ∈ rs, okT w P R t
  bk : Bk w0 E0 R ea w S2 (rs.flatMap blkT)
  src : ∀ b ∈ rs.flatMap blkT, ∃ r, b ∈ blkR S ea r

theorem Bk.nil : Bk w0 E0 R ea w S [] := ⟨List.nodup_nil, by simp, by simp, by simp, by simp⟩

theorem Plc.nil (h : Rel isv w0 E0 P R ea w S tmps) : Plc isv w0 E0 P R ea w tmps S S [] [] := ⟨h, .refl, rfl, by simp, by simp, Bk.nil, by simp⟩

theorem Plc.app {S2 S3 : SV} {rs rs' : List TV} {ws ws' : List Row} (h : Plc isv w0 E0 P R ea w tmps S S2 rs ws) (k : Plc isv w0 E0 P R ea w tmps S2 S3 rs' ws') : Plc isv w0 E0 P R ea w tmps S S3 (rs ++ rs') (ws ++ ws') where
  rel := k.rel
  less := h.less.trans k.less
  er := by rw [List.map_append, List.map_append, h.er, k.er]
  gone := by
    intro i t wr hi hw
    have hl : rs.length = ws.length := by have := congrArg List.length h.er; simpa using this
    rcases Nat.lt_or_ge i rs.length with hlt | hge
    · rw [List.getElem?_append_left hlt] at hi
      rw [List.getElem?_append_left (by omega)] at hw
      exact (h.gone i t wr hi hw).less k.less
    · rw [List.getElem?_append_right hge] at hi
      rw [List.getElem?_append_right (by omega), ← hl] at hw
      exact k.gone _ t wr hi hw
  ok := fun t ht => (List.mem_append.1 ht).elim (h.ok t) (k.ok t)
  bk := by
    rw [List.flatMap_append]
    refine (h.bk.less k.less).append k.bk fun b hb hb' => ?_
    obtain ⟨r, hr⟩ := k.src b hb'
    exact h.bk.sep r b hb hr
  src := by
    intro b hb
    rw [List.flatMap_append] at hb
    rcases List.mem_append.1 hb with hb | hb
    · exact h.src b hb
    · obtain ⟨r, hr⟩ := k.src b hb
      exact ⟨r, h.less.blk r b hr⟩

theorem plcCs_ok : ∀ {cs : List CV} {k : Nat} {S : SV} {u : List CU × List Row × SU}, Rel isv w0 E0 P R ea w S tmps → Emp ea S0 S → okCs w P R S0 ea cs → (∀ d, Root.sl d ∈ refsCs cs → isv d = true) → plcCs k (cs.map erC) (V.erS S) = some u →
    ∃ (ds : List CV) (rs : List TV) (S2 : SV), ds.map erC = u.1 ∧ valCs ds = valCs cs ∧ V.erS S2 = u.2.2 ∧ Emp ea S S2 ∧ Plc isv w0 E0 P R ea w tmps S S2 rs u.2.1 ∧ (∀ c ∈ ds, PCell w P rs k c) ∧ blkCs ds = []
  | [], k, S, u, h, _, _, _, hq => by
    simp only [List.map_nil, plcCs, Option.some.injEq] at hq
    subst hq
    exact ⟨[], [], S, rfl, rfl, rfl, .refl, .nil h, by simp, rfl⟩
  | c :: cs, k, S, u, h, he, hok, hrf, hq => by
    simp only [okCs] at hok
    simp only [refsCs, List.mem_append] at hrf
    cases c with
    | bor v r p i off sz n =>
      have e : erC (.bor v r p i off sz n) = .bor () r p i off sz n := rfl
      simp only [List.map_cons, e, plcCs] at hq
      cases ht : takeRow (V.erS S) r p i with
      | none => simp [ht] at hq
      | some q =>
        obtain ⟨t, Sq⟩ := q
        simp only [ht, Option.bind_some] at hq
        cases hp : plcCs (k + 1) (cs.map erC) Sq with
        | none => simp [hp] at hq
        | some u' =>
          simp only [hp, Option.map_some, Option.some.injEq] at hq
          subst hq
          obtain ⟨b, sz', m, fs, S1, t1, rfl, t3, t4, t5, t6, t7, t8⟩ := takeRow_ok h ht
          have hbor : BorOk S r p i off sz n v := by
            have hal : alive S (.bor v r p i off sz n) = true := by simp only [alive, t3, isList]
            have := he.ok w P R _ hok.1 hal
            simpa only [okC] using this
          have hP1 : Plc isv w0 E0 P R ea w tmps S S1 [.sl b 0 sz' m fs] [⟨t, r, p, i⟩] := by
            refine ⟨t4, .of t5, by simp only [List.map_cons, List.map_nil, t1], fun i' t' wr hi hw => ?_, fun t' ht' => ?_, ?_, fun x hx => ?_⟩
            · cases i' with
              | zero =>
                simp only [List.getElem?_cons_zero, Option.some.injEq] at hi hw
                subst hi hw
                exact ⟨fun d hd => hrf d (.inl (by simp only [refsC, List.mem_singleton]; exact hd.symm)), .inl t8⟩
              | succ i' => simp at hi
            · simp only [List.mem_singleton] at ht'
              subst ht'
              have := t6.ok
              simpa only [okX, okC] using this
            · have := t6.bk
              simpa [blkX, blkC] using this
            · exact ⟨r, t7 x (by simpa using hx)⟩
          obtain ⟨ds, rs, S2, k1, k2, k3, k4, k5, k6, k7⟩ := plcCs_ok t4 (he.trans t5) hok.2 (fun d hd => hrf d (.inr hd)) hp
          refine ⟨.bor v (.ex k) [] 0 off sz n :: ds, .sl b 0 sz' m fs :: rs, S2, by simp only [List.map_cons, k1]; rfl, by simp only [valCs, valC, k2], k3, t5.trans k4, hP1.app k5, fun c hc => ?_, by simp only [blkCs, blkC, k7, List.append_nil]⟩
          rcases List.mem_cons.1 hc with rfl | hc
          · intro R' S' ea' hS
            refine ⟨?_, by simp [refsC, isEx]⟩
            have h0 := hS 0 _ rfl
            rw [Nat.add_zero] at h0
            obtain ⟨b', m', ds', e1, e2, e3⟩ := hbor
            rw [t3] at e1
            simp only [Option.some.injEq, C.t.injEq, T.sl.injEq, true_and] at e1
            obtain ⟨rfl, rfl, rfl, rfl⟩ := e1
            simp only [okC]
            refine ⟨b, m, ups fs, ?_, by rw [ups_length]; exact e2, e3⟩
            simp only [at_, rootCells, h0, Option.bind_some, subC, List.getElem?_cons_zero, up, if_true]
          · refine (k6 c hc).mono fun j t' hj => ⟨j + 1, by omega, by simpa using hj⟩
    | t x =>
      have e : erC (.t x) = .t (erT x) := rfl
      simp only [List.map_cons, e, plcCs] at hq
      split at hq
      · next hs =>
        cases hp : plcCs k (cs.map erC) (V.erS S) with
        | none => simp [hp] at hq
        | some u' =>
          simp only [hp, Option.map_some, Option.some.injEq] at hq
          subst hq
          obtain ⟨ds, rs, S2, k1, k2, k3, k4, k5, k6, k7⟩ := plcCs_ok h he hok.2 (fun d hd => hrf d (.inr hd)) hp
          refine ⟨.t x :: ds, rs, S2, by simp only [List.map_cons, k1]; rfl, by simp only [valCs, k2], k3, k4, k5, fun c hc => ?_, ?_⟩
          · rcases List.mem_cons.1 hc with rfl | hc
            · exact scalar_cell hs (by have := hok.1; simpa only [okC] using this)
            · exact k6 c hc
          · simp only [blkCs, k7, List.append_nil, blkC]
            cases x <;> simp [erT, mapT, scalarT] at hs <;> rfl
      · cases hq
    | ptr v r p off => simp [erC, mapC, plcCs] at hq
    | rptr v ds => simp [erC, mapC, plcCs] at hq
    | nilp => simp [erC, mapC, plcCs] at hq
    | fn g caps => simp [erC, mapC, plcCs] at hq
    | nilf => simp [erC, mapC, plcCs] at hq
    | lst v sz n ds => simp [erC, mapC, plcCs] at hq

structure Prep (cx : Ctx) (f : Nat) (w0 : World) (E0 : Nat → Prop) (P : Nat → Nat → Prop) (R : Nat → Prop) (ea : List EA) (w : World) (tmps : Array Value) (a : Act) (k : Nat) (os : List Operand) (S S2 : SV) (ms : List (Option XV)) (rs : List TV) (ws : List Row) : Prop where
  rel : Rel (isVar cx f) w0 E0 P R ea w S2 tmps
  less : Less (isVar cx f) ea S S2
  er : rs.map erT = ws.map (·.t)
  gone : ∀ (i : Nat) t wr, rs[i]? = some t → ws[i]? = some wr → Gone (isVar cx f) S2 wr (valT t)
  ok : ∀ t ∈ rs, okT w P R t
  bk : Bk w0 E0 R ea w S2 (ms.flatMap blkO ++ rs.flatMap blkT)
  src : ∀ b ∈ ms.flatMap blkO ++ rs.flatMap blkT, ∃ r, b ∈ blkR S ea r
  len : ms.length = os.length
  val : ∀ (i : Nat) x o, ms[i]? = some (some x) → os[i]? = some o → valX x = a.eval o
  arg : ∀ x, some x ∈ ms → PArg w P rs k x

theorem Prep.cons {S1 S2 : SV} {k : Nat} {os : List Operand} {o : Operand} {m : Option XV} {ms : List (Option XV)} {r0 rs : List TV} {w1 ws : List Row}
    (h1 : Rel (isVar cx f) w0 E0 P R ea w S1 tmps) (hl : Less (isVar cx f) ea S S1) (her : r0.map erT = w1.map (·.t)) (hg : ∀ (i : Nat) t wr, r0[i]? = some t → w1[i]? = some wr → Gone (isVar cx f) S1 wr (valT t)) (hok : ∀ t ∈ r0, okT w P R t)
    (hb : Bk w0 E0 R ea w S1 (blkO m ++ r0.flatMap blkT)) (hs : ∀ b ∈ blkO m ++ r0.flatMap blkT, ∃ r, b ∈ blkR S ea r) (hv : ∀ x, m = some x → valX x = a.eval o) (ha : ∀ x, m = some x → PArg w P r0 k x)
    (h : Prep cx f w0 E0 P R ea w tmps a (k + w1.length) os S1 S2 ms rs ws) : Prep cx f w0 E0 P R ea w tmps a k (o :: os) S S2 (m :: ms) (r0 ++ rs) (w1 ++ ws) := by
  have hlen : r0.length = w1.length := by have := congrArg List.length her; simpa using this
  have hperm : ((m :: ms).flatMap blkO ++ (r0 ++ rs).flatMap blkT).Perm ((blkO m ++ r0.flatMap blkT) ++ (ms.flatMap blkO ++ rs.flatMap blkT)) := by
    rw [List.flatMap_cons, List.flatMap_append, List.append_assoc, List.append_assoc]
    refine List.Perm.append_left _ ?_
    rw [← List.append_assoc, ← List.append_assoc]
    exact List.Perm.append_right _ List.perm_append_comm
  constructor
  · exact h.rel
  · exact hl.trans h.less
  · rw [List.map_append, List.map_append, her, h.er]
  · intro i t wr hi hw
    rcases Nat.lt_or_ge i r0.length with hlt | hge
    · rw [List.getElem?_append_left hlt] at hi
      rw [List.getElem?_append_left (by omega)] at hw
      exact (hg i t wr hi hw).less h.less
    · rw [List.getElem?_append_right hge] at hi
      rw [List.getElem?_append_right (by omega), ← hlen] at hw
      exact h.gone _ t wr hi hw
  · exact fun t ht => (List.mem_append.1 ht).elim (hok t) (h.ok t)
  · have := (hb.less h.less).append h.bk fun b hb1 hb2 => by
      obtain ⟨r, hr⟩ := h.src b hb2
      exact hb.sep r b hb1 hr
    exact ⟨hperm.nodup_iff.2 this.nd, fun r b hb1 => this.sep r b (hperm.mem_iff.1 hb1), fun b hb1 => this.lt b (hperm.mem_iff.1 hb1), fun b hb1 => this.own b (hperm.mem_iff.1 hb1), fun b hb1 => this.notR b (hperm.mem_iff.1 hb1)⟩
  · intro b hb1
    rcases List.mem_append.1 (hperm.mem_iff.1 hb1) with hb1 | hb1
    · exact hs b hb1
    · obtain ⟨r, hr⟩ := h.src b hb1
      exact ⟨r, hl.blk r b hr⟩
  · simp only [List.length_cons, h.len]
  · intro i x o' hi ho
    cases i with
    | zero =>
      simp only [List.getElem?_cons_zero, Option.some.injEq] at hi ho
      subst ho
      exact hv x hi
    | succ i =>
      simp only [List.getElem?_cons_succ] at hi ho
      exact h.val i x o' hi ho
  · intro x hx
    rcases List.mem_cons.1 hx with e | hx
    · exact (ha x e.symm).mono app_left
    · exact (h.arg x hx).mono (fun j t hj => by rw [← hlen]; exact app_right j t hj)

theorem moved_arg {t : TV} (h : okT w P R t) {rs : List TV} {k : Nat} : PArg w P rs k (.c (.t (up t))) :=
  fun R' S' ea' _ => ⟨by simp only [okX, okC]; exact up_ok h, by simp [refsX, refsC]⟩

theorem prepArgs_ok {g : Nat} : ∀ {os : List Operand} {ts : List Nat} {i k : Nat} {S : SV} {u : List (Option XU) × List Row × SU}, Rel (isVar cx f) w0 E0 P R ea w S tmps → a.tmps = tmps → prepArgs cx f g i k os ts (V.erS S) = some u →
    ∃ (ms : List (Option XV)) (rs : List TV) (S2 : SV), ms.map (Option.map erX) = u.1 ∧ V.erS S2 = u.2.2 ∧ Prep cx f w0 E0 P R ea w tmps a k os S S2 ms rs u.2.1
  | [], ts, i, k, S, u, h, ha, hq => by
    simp only [prepArgs, Option.some.injEq] at hq
    subst hq
    exact ⟨[], [], S, rfl, rfl, h, .refl, rfl, by simp, by simp, Bk.nil, by simp, rfl, by simp, by simp⟩
  | o :: os, ts, i, k, S, u, h, ha, hq => by
    simp only [prepArgs] at hq
    split at hq
    · -- for good
      cases hx : opv cx f (V.erS S) (ts.head?.getD 0) o with
      | none => simp [hx] at hq
      | some x =>
        simp only [hx, Option.bind_some] at hq
        obtain ⟨xG, hxG⟩ := h.opv ha hx
        split at hq
        · next c =>
          obtain ⟨cG, rfl, hc⟩ := er_c hxG.er
          subst hc
          rw [← clr_map] at hq
          cases hs : settle (erC cG) (V.erS (clr cx f S o)) with
          | none => rw [show settle (erC cG) (erS (clr cx f S o)) = none from hs] at hq; simp at hq
          | some q =>
            obtain ⟨t, Sq⟩ := q
            rw [show settle (erC cG) (erS (clr cx f S o)) = _ from hs] at hq
            simp only [Option.bind_some] at hq
            cases hp : prepArgs cx f g (i + 1) k os ts.tail Sq with
            | none => simp [hp] at hq
            | some u' =>
              simp only [hp, Option.map_some, Option.some.injEq] at hq
              subst hq
              have hnew := hxG.new
              obtain ⟨tG, S1, rfl, rfl, t3, t4, t5, t6, t7, t8⟩ := settle_ok (h.clr o) Emp.refl (by have := hnew.ok; simpa only [okX] using this) (by have := hnew.bk; simpa only [blkX] using this) hs
              obtain ⟨ms, rs, S2, e1, e2, e3⟩ := prepArgs_ok t4 ha hp
              refine ⟨some (.c (.t (up tG))) :: ms, rs, S2, by simp only [List.map_cons, e1, Option.map_some]; rw [show erX (.c (.t (up tG))) = .c (.t (up (erT tG))) from by simp only [erX, mapX, mapC]; rw [← up_map]], e2, ?_⟩
              have hl : Less (isVar cx f) ea S S1 := (Less.clr o).trans (.of t5)
              have := Prep.cons (S := S) (o := o) (m := some (.c (.t (up tG)))) (r0 := []) (w1 := []) t4 hl rfl (by simp) (by simp) (by simpa [blkO, blkX, blkC, up_blk] using t7)
                (by
                  intro b hb
                  have hb : b ∈ blkT tG := by simpa [blkO, blkX, blkC, up_blk] using hb
                  rcases t8 b hb with h1 | ⟨r, h1⟩
                  · exact hxG.src b (by simpa only [blkX] using h1)
                  · exact ⟨r, (Less.clr o).blk r b h1⟩)
                (by
                  intro x hx
                  simp only [Option.some.injEq] at hx
                  subst hx
                  simp only [valX, valC, up_val, t3]
                  have := hxG.val
                  simpa only [valX] using this.symm)
                (by
                  intro x hx
                  simp only [Option.some.injEq] at hx
                  subst hx
                  exact moved_arg t6) e3
              simpa using this
        · cases hq
    · split at hq
      · -- in place
        cases hx : opv cx f (V.erS S) (ts.head?.getD 0) o with
        | none => simp [hx] at hq
        | some x =>
          simp only [hx, Option.bind_some] at hq
          obtain ⟨xG, hxG⟩ := h.opv ha hx
          split at hq
          · next c =>
            obtain ⟨cG, rfl, hc⟩ := er_c hxG.er
            subst hc
            rw [← eat_map] at hq
            cases hs : plcCs k [erC cG] (V.erS (eat cx f S o)) with
            | none => rw [show plcCs k [erC cG] (erS (eat cx f S o)) = none from hs] at hq; simp at hq
            | some q =>
              rw [show plcCs k [erC cG] (erS (eat cx f S o)) = _ from hs] at hq
              simp only [Option.bind_some] at hq
              obtain ⟨ds, r0, S1, d1, d2, d3, d4, d5, d6, d7⟩ := plcCs_ok (cs := [cG]) (h.eat o) Emp.refl (okCs_eat (by have := hxG.ok; simpa only [okX, okCs, and_true] using this) (fun d hd => hxG.new.refs d (by simpa [refsX, refsCs] using hd))) (fun d hd => hxG.new.refs d (by simpa [refsX, refsCs] using hd)) hs
              rw [← d3] at hq
              cases hp : prepArgs cx f g (i + 1) (k + q.2.1.length) os ts.tail (V.erS S1) with
              | none => rw [show prepArgs cx f g (i + 1) (k + q.2.1.length) os ts.tail (erS S1) = none from hp] at hq; simp at hq
              | some u' =>
                rw [show prepArgs cx f g (i + 1) (k + q.2.1.length) os ts.tail (erS S1) = _ from hp] at hq
                simp only [Option.map_some, Option.some.injEq] at hq
                subst hq
                obtain ⟨ms, rs, S2, e1, e2, e3⟩ := prepArgs_ok d5.rel ha hp
                have hone : ∃ dG, ds = [dG] := by
                  have := congrArg List.length d2
                  rw [valCs_eq, valCs_eq, List.length_map, List.length_map] at this
                  rcases ds with _ | ⟨d, _ | ⟨d', ds⟩⟩
                  · simp at this
                  · exact ⟨d, rfl⟩
                  · simp at this
                obtain ⟨dG, rfl⟩ := hone
                refine ⟨some (.c dG) :: ms, r0 ++ rs, S2, ?_, e2, ?_⟩
                · simp only [List.map_cons, Option.map_some, e1, ← d1, List.map_nil, List.head?_cons, Option.getD_some]
                  rfl
                · simp only [blkCs, List.append_nil] at d7
                  refine Prep.cons (o := o) d5.rel ((Less.eat o).trans d5.less) d5.er d5.gone d5.ok ?_ ?_ ?_ ?_ e3
                  · simpa [blkO, blkX, d7] using d5.bk
                  · intro b hb
                    obtain ⟨r, hr⟩ := d5.src b (by simpa [blkO, blkX, d7] using hb)
                    exact ⟨r, (Less.eat o).blk r b hr⟩
                  · intro x hx
                    simp only [Option.some.injEq] at hx
                    subst hx
                    simp only [valCs, List.cons.injEq, and_true] at d2
                    simp only [valX, d2]
                    have := hxG.val
                    simpa only [valX] using this.symm
                  · intro x hx
                    simp only [Option.some.injEq] at hx
                    subst hx
                    intro R' S' ea' hS
                    have := d6 dG (List.mem_singleton.2 rfl) R' S' ea' hS
                    simpa only [okX, refsX] using this
          · next cs =>
            obtain ⟨cG, rfl, hc⟩ := er_agg hxG.er
            subst hc
            rw [← eat_map] at hq
            cases hs : plcCs k (cG.map erC) (V.erS (eat cx f S o)) with
            | none => rw [show plcCs k (cG.map erC) (erS (eat cx f S o)) = none from hs] at hq; simp at hq
            | some q =>
              rw [show plcCs k (cG.map erC) (erS (eat cx f S o)) = _ from hs] at hq
              simp only [Option.bind_some] at hq
              obtain ⟨ds, r0, S1, d1, d2, d3, d4, d5, d6, d7⟩ := plcCs_ok (cs := cG) (h.eat o) Emp.refl (okCs_eat (by have := hxG.ok; simpa only [okX] using this) (fun d hd => hxG.new.refs d (by simpa only [refsX] using hd))) (fun d hd => hxG.new.refs d (by simpa only [refsX] using hd)) hs
              rw [← d3] at hq
              cases hp : prepArgs cx f g (i + 1) (k + q.2.1.length) os ts.tail (V.erS S1) with
              | none => rw [show prepArgs cx f g (i + 1) (k + q.2.1.length) os ts.tail (erS S1) = none from hp] at hq; simp at hq
              | some u' =>
                rw [show prepArgs cx f g (i + 1) (k + q.2.1.length) os ts.tail (erS S1) = _ from hp] at hq
                simp only [Option.map_some, Option.some.injEq] at hq
                subst hq
                obtain ⟨ms, rs, S2, e1, e2, e3⟩ := prepArgs_ok d5.rel ha hp
                refine ⟨some (.agg ds) :: ms, r0 ++ rs, S2, ?_, e2, ?_⟩
                · simp only [List.map_cons, Option.map_some, e1, ← d1]
                  simp only [erX, mapX, mapCs_eq]
                · refine Prep.cons (o := o) d5.rel ((Less.eat o).trans d5.less) d5.er d5.gone d5.ok ?_ ?_ ?_ ?_ e3
                  · simpa [blkO, blkX, d7] using d5.bk
                  · intro b hb
                    obtain ⟨r, hr⟩ := d5.src b (by simpa [blkO, blkX, d7] using hb)
                    exact ⟨r, (Less.eat o).blk r b hr⟩
                  · intro x hx
                    simp only [Option.some.injEq] at hx
                    subst hx
                    simp only [valX, d2]
                    have := hxG.val
                    simpa only [valX] using this.symm
                  · intro x hx
                    simp only [Option.some.injEq] at hx
                    subst hx
                    intro R' S' ea' hS
                    refine ⟨by simp only [okX]; exact okCs_iff.2 fun c hc => (d6 c hc R' S' ea' hS).1, fun r hr => ?_⟩
                    simp only [refsX, refsCs_eq, List.mem_flatMap] at hr
                    obtain ⟨c, hc, hr⟩ := hr
                    exact (d6 c hc R' S' ea' hS).2 r hr
          · cases hq
      · -- later
        cases hp : prepArgs cx f g (i + 1) k os ts.tail (V.erS S) with
        | none => rw [show prepArgs cx f g (i + 1) k os ts.tail (erS S) = none from hp] at hq; simp at hq
        | some u' =>
          rw [show prepArgs cx f g (i + 1) k os ts.tail (erS S) = _ from hp] at hq
          simp only [Option.map_some, Option.some.injEq] at hq
          subst hq
          obtain ⟨ms, rs, S2, e1, e2, e3⟩ := prepArgs_ok h ha hp
          refine ⟨none :: ms, rs, S2, by simp only [List.map_cons, e1, Option.map_none], e2, ?_⟩
          have := Prep.cons (S := S) (o := o) (m := none) (r0 := []) (w1 := []) h .refl rfl (by simp) (by simp) (by simpa [blkO] using (Bk.nil : Bk w0 E0 R ea w S [])) (by simp [blkO]) (by simp) (by simp) e3
          simpa using this
end
end Go.Proofs.YtlkjnlfddadlmaaDoor.V

namespace Go.Proofs.YtlkjnlfddadlmaaDoor.V
open Go.RowKit

section
variable {cx : Ctx} {f : Nat} {isv : Nat → Bool} {w0 : World} {E0 : Nat → Prop} {P : Nat → Nat → Prop} {R R' : Nat → Prop} {ea ea' : List EA} {w w' : World} {S S' S0 : SV} {tmps : Array Value} {a : Act} {call : Callee} {Pr : Program}

theorem argCs_ok (h : Rel isv w0 E0 P R ea w S tmps) {L : List Root} {k : Nat} (H : Handed L k S S' ea ea') (hR : ∀ b, R b → R' b) (hN : ∀ r, r ∉ L → ∀ b ∈ blkR S ea r, R' b) : ∀ {cs : List CV} {ds : List CU}, okCs w P R S ea cs → (∀ b ∈ blkCs cs, R' b) → argCs (V.erS S) L k (cs.map erC) = some ds →
    ∃ es : List CV, es.map erC = ds ∧ valCs es = valCs cs ∧ okCs w (shiftP R' P) R' S' ea' es ∧ blkCs es = [] ∧ ∀ r ∈ refsCs es, isEx r = true
  | [], ds, _, _, hq => by
    simp only [List.map_nil, argCs, Option.some.injEq] at hq
    subst hq
    exact ⟨[], rfl, rfl, by simp only [okCs], rfl, by simp [refsCs]⟩
  | c :: cs, ds, hok, hb, hq => by
    simp only [List.map_cons, argCs] at hq
    simp only [okCs] at hok
    simp only [blkCs] at hb
    cases h1 : argC (V.erS S) L k (erC c) with
    | none => simp [h1] at hq
    | some d =>
      cases h2 : argCs (V.erS S) L k (cs.map erC) with
      | none => simp [h1, h2] at hq
      | some es =>
        simp only [h1, h2, Option.bind_some, Option.map_some, Option.some.injEq] at hq
        subst hq
        obtain ⟨cG, k1, k2, k3, k4, k5⟩ := argC_ok h H hR hN hok.1 (fun b hb' => hb b (List.mem_append_left _ hb')) h1
        obtain ⟨gs, l1, l2, l3, l4, l5⟩ := argCs_ok h H hR hN hok.2 (fun b hb' => hb b (List.mem_append_right _ hb')) h2
        refine ⟨cG :: gs, by simp only [List.map_cons, k1, l1], by simp only [valCs, k2, l2], by simp only [okCs]; exact ⟨k3, l3⟩, by simp only [blkCs, k4, l4, List.append_nil], fun r hr => ?_⟩
        simp only [refsCs, List.mem_append] at hr
        rcases hr with hr | hr
        · obtain ⟨j, rfl, _⟩ := k5 r hr; rfl
        · exact l5 r hr

theorem argX_ok (h : Rel isv w0 E0 P R ea w S tmps) {L : List Root} {k : Nat} (H : Handed L k S S' ea ea') (hR : ∀ b, R b → R' b) (hN : ∀ r, r ∉ L → ∀ b ∈ blkR S ea r, R' b) {x : XV} {y : XU} (hok : okX w P R S ea x) (hb : ∀ b ∈ blkX x, R' b) (hq : argX (V.erS S) L k (erX x) = some y) :
    ∃ yG, erX yG = y ∧ valX yG = valX x ∧ (okX w (shiftP R' P) R' S' ea' yG ∧ ∀ r ∈ refsX yG, isEx r = true) ∧ blkX yG = [] := by
  cases x with
  | c c =>
    simp only [erX, mapX, argX] at hq
    simp only [okX] at hok
    simp only [blkX] at hb
    cases h1 : argC (V.erS S) L k (mapC er0 c) with
    | none => simp [h1] at hq
    | some d =>
      simp only [h1, Option.map_some, Option.some.injEq] at hq
      subst hq
      obtain ⟨cG, k1, k2, k3, k4, k5⟩ := argC_ok h H hR hN hok hb h1
      refine ⟨.c cG, by simp only [erX, mapX]; exact congrArg _ k1, by simp only [valX, k2], ⟨by simp only [okX]; exact k3, fun r hr => ?_⟩, by simp only [blkX, k4]⟩
      obtain ⟨j, rfl, _⟩ := k5 r (by simpa only [refsX] using hr); rfl
  | agg cs =>
    simp only [erX, mapX, argX, mapCs_eq] at hq
    simp only [okX] at hok
    simp only [blkX] at hb
    cases h1 : argCs (V.erS S) L k (cs.map (mapC er0)) with
    | none => simp [h1] at hq
    | some ds =>
      simp only [h1, Option.map_some, Option.some.injEq] at hq
      subst hq
      obtain ⟨gs, l1, l2, l3, l4, l5⟩ := argCs_ok h H hR hN hok hb h1
      exact ⟨.agg gs, by simp only [erX, mapX, mapCs_eq]; exact congrArg _ l1, by simp only [valX, l2], ⟨by simp only [okX]; exact l3, fun r hr => l5 r (by simpa only [refsX] using hr)⟩, by simp only [blkX, l4]⟩
  | box v cs => simp [erX, mapX, argX] at hq
  | tup xs => simp [erX, mapX, argX] at hq
  | undef => simp [erX, mapX, argX] at hq

theorem blk_clr {o : Operand} {r : Root} (hr : ∀ d, r = .sl d → isVar cx f d = true) : blkR (clr cx f S o) ea r = blkR S ea r := by
  cases o with
  | tmp d =>
    simp only [V.clr]
    split
    · rfl
    · next hv =>
      split
      · refine blkR_upd fun e => ?_
        exact hv (hr d e)
      · rfl
  | _ => rfl

theorem allArgs_ok (h : Rel (isVar cx f) w0 E0 P R ea w S tmps) (ha : a.tmps = tmps) {L : List Root} {k : Nat} (hL : ∀ d, Root.sl d ∈ L → isVar cx f d = true) (H : Handed L k S S' ea ea') (hR : ∀ b, R b → R' b) (hN : ∀ r, r ∉ L → ∀ b ∈ blkR S ea r, R' b) :
    ∀ {ms : List (Option XV)} {os : List Operand} {ts : List Nat} {xs : List (Option XU)} {ys : List XU}, ms.length = os.length → (∀ (i : Nat) x o, ms[i]? = some (some x) → os[i]? = some o → valX x = a.eval o) →
    (∀ x, some x ∈ ms → okX w (shiftP R' P) R' S' ea' x ∧ ∀ r ∈ refsX x, isEx r = true) → restArgs cx f (V.erS S) (ms.map (Option.map erX)) os ts = some xs → allArgs (V.erS S) L k (ms.map (Option.map erX)) xs = some ys →
    ∃ ysG : List XV, ysG.map erX = ys ∧ ysG.map valX = os.map a.eval ∧ ysG.flatMap blkX = ms.flatMap blkO ∧ ∀ y ∈ ysG, okX w (shiftP R' P) R' S' ea' y ∧ ∀ r ∈ refsX y, isEx r = true
  | [], os, ts, xs, ys, hl, hv, hx, hq, hq' => by
    have : os = [] := by simpa using hl.symm
    subst this
    simp only [List.map_nil, allArgs, Option.some.injEq] at hq'
    subst hq'
    exact ⟨[], rfl, rfl, rfl, by simp⟩
  | m :: ms, [], ts, xs, ys, hl, _, _, _, _ => by simp at hl
  | m :: ms, o :: os, ts, xs, ys, hl, hv, hx, hq, hq' => by
    simp only [List.length_cons, Nat.add_right_cancel_iff] at hl
    have hv' : ∀ (i : Nat) x o, ms[i]? = some (some x) → os[i]? = some o → valX x = a.eval o := fun i x o' h1 h2 => hv (i + 1) x o' (by simpa using h1) (by simpa using h2)
    have hx' : ∀ x, some x ∈ ms → okX w (shiftP R' P) R' S' ea' x ∧ ∀ r ∈ refsX x, isEx r = true := fun x h1 => hx x (List.mem_cons_of_mem _ h1)
    cases m with
    | some x =>
      simp only [List.map_cons, Option.map_some, restArgs] at hq
      cases h1 : restArgs cx f (V.erS S) (ms.map (Option.map erX)) os ts.tail with
      | none => simp [h1] at hq
      | some xs' =>
        simp only [h1, Option.map_some, Option.some.injEq] at hq
        subst hq
        simp only [List.map_cons, Option.map_some, allArgs] at hq'
        cases h2 : allArgs (V.erS S) L k (ms.map (Option.map erX)) xs' with
        | none => simp [h2] at hq'
        | some ys' =>
          simp only [h2, Option.map_some, Option.some.injEq] at hq'
          subst hq'
          obtain ⟨gs, k1, k2, k3, k4⟩ := allArgs_ok h ha hL H hR hN hl hv' hx' h1 h2
          refine ⟨x :: gs, by simp only [List.map_cons, k1], by simp only [List.map_cons, k2, hv 0 x o rfl rfl], by simp only [List.flatMap_cons, k3, blkO], fun y hy => ?_⟩
          rcases List.mem_cons.1 hy with rfl | hy
          · exact hx _ List.mem_cons_self
          · exact k4 y hy
    | none =>
      simp only [List.map_cons, Option.map_none, restArgs] at hq
      cases h0 : opv cx f (V.erS S) (ts.head?.getD 0) o with
      | none => simp [h0] at hq
      | some x =>
        simp only [h0, Option.bind_some] at hq
        cases h1 : restArgs cx f (V.erS S) (ms.map (Option.map erX)) os ts.tail with
        | none => simp [h1] at hq
        | some xs' =>
          simp only [h1, Option.map_some, Option.some.injEq] at hq
          subst hq
          simp only [List.map_cons, Option.map_none, allArgs] at hq'
          cases h3 : argX (V.erS S) L k x with
          | none => simp [h3] at hq'
          | some y =>
            simp only [h3, Option.bind_some] at hq'
            cases h2 : allArgs (V.erS S) L k (ms.map (Option.map erX)) xs' with
            | none => simp [h2] at hq'
            | some ys' =>
              simp only [h2, Option.map_some, Option.some.injEq] at hq'
              subst hq'
              obtain ⟨gs, k1, k2, k3, k4⟩ := allArgs_ok h ha hL H hR hN hl hv' hx' h1 h2
              obtain ⟨xG, hxG⟩ := h.opv ha h0
              rw [← hxG.er] at h3
              have hb : ∀ b ∈ blkX xG, R' b := by
                intro b hb
                obtain ⟨r, hr⟩ := hxG.src b hb
                refine hN r (fun hrL => ?_) b hr
                refine hxG.new.sep r b hb ?_
                rw [blk_clr fun d hd => hL d (hd ▸ hrL)]
                exact hr
              obtain ⟨yG, l1, l2, l3, l4⟩ := argX_ok h H hR hN hxG.ok hb h3
              refine ⟨yG :: gs, by simp only [List.map_cons, l1, k1], by simp only [List.map_cons, l2, k2, hxG.val], by simp only [List.flatMap_cons, k3, l4, blkO, List.nil_append], fun z hz => ?_⟩
              rcases List.mem_cons.1 hz with rfl | hz
              · exact l3
              · exact k4 z hz

theorem mapM_roots : ∀ {L : List Root} {bs : List (List CU)}, L.mapM (rootCells (V.erS S)) = some bs → (∀ r ∈ L, ∃ cs, rootCells S r = some cs) ∧ bs = L.map fun r => ((rootCells S r).getD []).map erC
  | [], bs, h => by
    have : bs = [] := by simpa using h.symm
    subst this; simp
  | r :: L, bs, h => by
    simp only [List.mapM_cons] at h
    have hm : rootCells (V.erS S) r = (rootCells S r).map (·.map (mapC er0)) := rootCells_map er0 S r
    rw [hm] at h
    cases hr : rootCells S r with
    | none => rw [hr] at h; cases h
    | some cs =>
      rw [hr] at h
      cases hl : L.mapM (rootCells (V.erS S)) with
      | none => rw [show L.mapM (rootCells (erS S)) = none from hl] at h; cases h
      | some ds =>
        rw [show L.mapM (rootCells (erS S)) = _ from hl] at h
        have : bs = cs.map erC :: ds := by simpa using h.symm
        subst this
        obtain ⟨h1, h2⟩ := mapM_roots hl
        refine ⟨fun q hq => ?_, by rw [List.map_cons, ← h2, hr]; rfl⟩
        rcases List.mem_cons.1 hq with rfl | hq
        · exact ⟨cs, hr⟩
        · exact h1 q hq

theorem mapM_down (hR : ∀ b, R b → R' b) : ∀ {ext : List (List CV)} {es : List (List CU)}, (∀ e ∈ ext, okCs w (shiftP R' P) R' S ea e) → (ext.map (·.map erC)).mapM downCs = some es →
    es = ext.map (fun e => mapCs er0 (dnCs e)) ∧ ∀ e ∈ ext, ∃ d, downCs (mapCs er0 e) = some d
  | [], es, _, h => by
    have : es = [] := by simpa using h.symm
    subst this; simp
  | e :: ext, es, hok, h => by
    simp only [List.map_cons, List.mapM_cons] at h
    cases h1 : downCs (e.map erC) with
    | none => rw [h1] at h; cases h
    | some d =>
      rw [h1] at h
      cases h2 : (ext.map (·.map erC)).mapM downCs with
      | none => rw [h2] at h; cases h
      | some ds =>
        rw [h2] at h
        have : es = d :: ds := by simpa using h.symm
        subst this
        obtain ⟨k1, k2⟩ := mapM_down hR (fun e' he => hok e' (List.mem_cons_of_mem _ he)) h2
        have h1' : downCs (mapCs er0 e) = some d := by rw [mapCs_eq]; exact h1
        obtain ⟨l1, _⟩ := dnCs_ok hR (hok e List.mem_cons_self) h1'
        refine ⟨by rw [List.map_cons, ← k1, l1], fun e' he => ?_⟩
        rcases List.mem_cons.1 he with rfl | he
        · exact ⟨d, h1'⟩
        · exact k2 e' he

theorem subC_cut' (L : List Root) (cs : List CV) (p : List Nat) : subC (cutCs L cs) p = (subC cs p).map (cutCs L) := by
  cases hs : subC cs p with
  | some ds => rw [subC_cut L hs]; rfl
  | none =>
    cases p with
    | nil => simp [subC] at hs
    | cons i p =>
      simp only [subC] at hs ⊢
      rw [cutCs_eq, List.getElem?_map]
      cases hi : cs[i]? with
      | none => rfl
      | some c =>
        rw [hi] at hs
        simp only [Option.map_some]
        cases c with
        | t x =>
          simp only [cutC]
          cases x with
          | sl v tag sz n es =>
            cases tag with
            | zero =>
              simp only [Option.map_eq_none_iff] at hs
              simp only [hs]; rfl
            | succ g => rfl
          | _ => rfl
        | ptr v r q off =>
          simp only [cutC]
          by_cases hc : (L.contains r && !q.isEmpty) = true
          · rw [if_pos hc]; rfl
          · rw [if_neg hc]; rfl
        | bor v r q j off sz n =>
          simp only [cutC]
          by_cases hc : L.contains r = true
          · rw [if_pos hc]; rfl
          · rw [if_neg hc]; rfl
        | _ => rfl

theorem at_behind {L : List Root} {k : Nat} {ext : List (List CV)} {r : Root} (hr : r ∉ L) (p : List Nat) (i : Nat) : at_ (behindS S L k ext) r p i = (at_ S r p i).map (cutC L) := by
  have hp : placeOf L r 0 = none := by
    cases h : placeOf L r 0 with
    | none => rfl
    | some i => exact absurd (List.mem_of_getElem? (placeOf_at h)) hr
  have hroot : rootCells (behindS S L k ext) r = (rootCells S r).map (cutCs L) := by
    cases r with
    | sl d =>
      rw [rootCells_sl, rootCells_sl]
      simp only [backS, backX, hp]
      exact cut_cells L _
    | ex j =>
      simp only [rootCells, backS, mapFrom_get, Nat.zero_add]
      congr 1
      funext cs
      simp only [backE, hp]
  simp only [at_, hroot]
  cases rootCells S r with
  | none => rfl
  | some cs =>
    simp only [Option.map_some, Option.bind_some, subC_cut']
    cases subC cs p with
    | none => rfl
    | some ds =>
      simp only [Option.map_some, Option.bind_some]
      rw [cutCs_eq, List.getElem?_map]

theorem ok_slots {s s' : Nat → XV} {e : List (List CV)} {x : XV} (h : okX w P R ⟨s, e⟩ ea x) (hr : ∀ r ∈ refsX x, isEx r = true) : okX w P R ⟨s', e⟩ ea x :=
  okX_same (fun _ _ _ => rfl) (fun _ _ => rfl) h (fun _ _ => rfl) fun r hr' => by
    have := hr r hr'
    cases r with
    | sl d => cases this
    | ex j => exact ⟨rfl, rfl⟩

theorem flat_none {l : List XV} (h : ∀ x ∈ l, blkX x = []) : l.flatMap blkX = [] := List.flatMap_eq_nil_iff.2 h

theorem take_get {α : Type} {l : List α} {n i : Nat} {x : α} (h : (l.take n)[i]? = some x) : i < n ∧ l[i]? = some x := by
  have hl := (List.getElem?_eq_some_iff.1 h).1
  simp only [List.length_take] at hl
  have : i < n := by omega
  rw [List.getElem?_take_of_lt this] at h
  exact ⟨this, h⟩

theorem flat_congr {α : Type} {f g : α → List Nat} : ∀ {l : List α}, (∀ x ∈ l, f x = g x) → l.flatMap f = l.flatMap g
  | [], _ => rfl
  | x :: l, h => by rw [List.flatMap_cons, List.flatMap_cons, h x List.mem_cons_self, flat_congr fun y hy => h y (List.mem_cons_of_mem _ hy)]

theorem active_ok (hcall : CallOk Pr call w0 E0) (h : Rel (isVar cx f) w0 E0 P R ea w S tmps) (ha : a.tmps = tmps) {o : Oper} {c : Call} (ho : o.op = .call c) {fo : Operand} (hb : c.callee = .value fo) {z : XU} {Su : SU}
    (hq : activeCall cx f call (V.erS S) fo c.args.toList c.argTypes.toList = some (z, Su)) {K : Act → World → Prop} {Q : Exit → Act → World → Prop}
    (hk : ∀ w' S' xG, erX xG = z → V.erS S' = Su → Rel (isVar cx f) w0 E0 P R ea w' S' tmps → New (isVar cx f) w0 E0 P R ea w' S' xG → K (a.put o.dst (valX xG)) w') : o.wp Pr a w K Q := by
  unfold activeCall at hq
  split at hq
  · next g caps0 hg0 =>
    cases hp : prepArgs cx f g 0 0 c.args.toList c.argTypes.toList (V.erS S) with
    | none => simp [hp] at hq
    | some u =>
      simp only [hp, Option.bind_some] at hq
      obtain ⟨ms, rs, S2, e1, e2, pr⟩ := prepArgs_ok h ha hp
      rw [← e2] at hq
      split at hq
      · next g' caps hg =>
        obtain ⟨fG, hf1, hf2, hfok, _⟩ := opv_c pr.rel ha hg
        obtain ⟨capsG, rfl, hcaps⟩ := er_fn hf1
        subst hcaps
        simp only [okC] at hfok
        cases hrest : restArgs cx f (V.erS S2) u.1 c.args.toList c.argTypes.toList with
        | none => simp [hrest] at hq
        | some xs =>
          simp only [hrest, Option.bind_some] at hq
          revert hq
          generalize handed cx f (V.erS S2) xs (capsG.map erC) = L
          intro hq
          cases hall : allArgs (V.erS S2) L u.2.1.length u.1 xs with
          | none => simp [hall] at hq
          | some ys =>
            simp only [hall, Option.bind_some] at hq
            cases hcs : argCs (V.erS S2) L u.2.1.length (capsG.map erC) with
            | none => simp [hcs] at hq
            | some cs =>
              simp only [hcs, Option.bind_some] at hq
              cases hbs : L.mapM (rootCells (V.erS S2)) with
              | none => simp [hbs] at hq
              | some bs =>
                simp only [hbs, Option.bind_some] at hq
                split at hq
                · next hck =>
                  obtain ⟨hgg, hnd, hgood, hapart, hrows⟩ := hck
                  subst hgg
                  have hLn := nodupR_iff hnd
                  obtain ⟨hLr, hbs'⟩ := mapM_roots hbs
                  have hLv : ∀ d, Root.sl d ∈ L → isVar cx f d = true := by
                    intro d hd
                    have := List.all_eq_true.1 hgood _ hd
                    simp only [rootGood, Bool.and_eq_true] at this
                    exact this.1
                  have htup : ∀ d, Root.sl d ∈ L → isTup (S2.s d) = false := by
                    intro d hd
                    have := List.all_eq_true.1 hgood _ hd
                    simp only [rootGood, Bool.and_eq_true, Bool.not_eq_true'] at this
                    have := this.2
                    simp only [V.erS, mapS] at this
                    cases hx : S2.s d <;> rw [hx] at this <;> simp [mapX, isTup] at this <;> rfl
                  have hklen : rs.length = u.2.1.length := by have := congrArg List.length pr.er; simpa using this
                  -- what is read only for the callee
                  let M : List Nat := ms.flatMap blkO ++ rs.flatMap blkT
                  let R2 : Nat → Prop := fun b => b < w.heap.size ∧ ¬ (b ∈ M ∨ ∃ r ∈ L, b ∈ blkR S2 ea r)
                  have hRR : ∀ b, R b → R2 b := by
                    intro b hb'
                    refine ⟨pr.rel.ltR b hb', ?_⟩
                    rintro (h1 | ⟨r, _, h1⟩)
                    · exact pr.bk.notR b h1 hb'
                    · exact pr.rel.notR r b h1 hb'
                  have hN : ∀ r, r ∉ L → ∀ b ∈ blkR S2 ea r, R2 b := by
                    intro r hr b hb'
                    refine ⟨pr.rel.lt r b hb', ?_⟩
                    rintro (h1 | ⟨r', hr', h1⟩)
                    · exact pr.bk.sep r b h1 hb'
                    · have := pr.rel.dis r r' b hb' h1
                      subst this; exact hr hr'
                  have H : ∀ s : Nat → XV, Handed L u.2.1.length S2 ⟨s, inE S2 L rs⟩ ea (inEa S2 ea L rs) := by
                    intro s
                    rw [← hklen]; exact handed_ok hLr
                  have hPA : ∀ x, some x ∈ ms → okX w (shiftP R2 P) R2 ⟨fun _ => .undef, inE S2 L rs⟩ (inEa S2 ea L rs) x ∧ ∀ r ∈ refsX x, isEx r = true := fun x hx => pr.arg x hx R2 _ _ fun j t hj => by
                    rw [Nat.zero_add]
                    exact (inE_row (S := S2) (ea := ea) (L := L) hj).1
                  rw [← e1] at hrest hall
                  obtain ⟨ysG, y1, y2, y3, y4⟩ := allArgs_ok pr.rel ha hLv (H (fun _ => .undef)) hRR hN pr.len pr.val hPA hrest hall
                  obtain ⟨csG, c1, c2, c3, c4, c5⟩ := argCs_ok pr.rel (H (fun _ => .undef)) hRR hN hfok.1 (by rw [hfok.2]; simp) hcs
                  -- the callee's arguments
                  have hcsX : ∀ x ∈ csG.map (X.c), (okX w (shiftP R2 P) R2 ⟨fun _ => .undef, inE S2 L rs⟩ (inEa S2 ea L rs) x ∧ ∀ r ∈ refsX x, isEx r = true) ∧ blkX x = [] := by
                    intro x hx
                    obtain ⟨cG, hc, rfl⟩ := List.mem_map.1 hx
                    refine ⟨⟨by simp only [okX]; exact okCs_iff.1 c3 cG hc, fun r hr => c5 r ?_⟩, ?_⟩
                    · rw [refsCs_eq, List.mem_flatMap]; exact ⟨cG, hc, by simpa only [refsX] using hr⟩
                    · simp only [blkX]
                      rw [blkCs_eq, List.flatMap_eq_nil_iff] at c4
                      exact c4 cG hc
                  have hblk : (ysG ++ csG.map (X.c)).flatMap blkX = ms.flatMap blkO := by
                    rw [List.flatMap_append, y3, flat_none fun x hx => (hcsX x hx).2, List.append_nil]
                  have hF : Bk w0 E0 R ea w S2 ((ysG ++ csG.map (X.c)).flatMap blkX ++ rs.flatMap blkT) := by rw [hblk]; exact pr.bk
                  have hR2 : R2 = fun b => b < w.heap.size ∧ ¬ inB S2 ea L rs (ysG ++ csG.map (X.c)) b := by
                    funext b
                    simp only [R2, M, inB, hblk]
                  have hin := in_ok (R' := R2) pr.rel hLn hLr pr.ok hF hR2 (args := ysG ++ csG.map (X.c)) fun x hx => by
                    have : okX w (shiftP R2 P) R2 ⟨fun _ => .undef, inE S2 L rs⟩ (inEa S2 ea L rs) x ∧ ∀ r ∈ refsX x, isEx r = true := (List.mem_append.1 hx).elim (y4 x) (fun h' => (hcsX x h').1)
                    exact ⟨ok_slots this.1 this.2, this.2⟩
                  have hext : (inE S2 L rs).map (·.map erC) = u.2.1.map (fun w => [.t (up w.t)]) ++ bs.map (inCs L u.2.1.length) := by
                    simp only [inE, List.map_append, List.map_map, hbs']
                    congr 1
                    · have : u.2.1.map (fun w : Row => ([.t (up w.t)] : List CU)) = (u.2.1.map (·.t)).map fun t => [.t (up t)] := by rw [List.map_map]; rfl
                      rw [this, ← pr.er, List.map_map]
                      apply List.map_congr_left
                      intro t _
                      simp only [Function.comp, List.map_cons, List.map_nil]
                      rw [show erC (.t (up t)) = .t (erT (up t)) from rfl, show erT (up t) = up (erT t) from (up_map er0 t).symm]
                    · apply List.map_congr_left
                      intro r _
                      simp only [Function.comp]
                      rw [inCs_er, hklen]
                  cases hcl : call g' (ys ++ cs.map .c) (u.2.1.map (fun w => [.t (up w.t)]) ++ bs.map (inCs L u.2.1.length)) with
                  | none => simp [hcl] at hq
                  | some r =>
                    obtain ⟨res, ext'⟩ := r
                    simp only [hcl, Option.bind_some] at hq
                    obtain ⟨hent, hc⟩ := hcall g' _ _ res ext' hcl
                    have hC := hc w _ _ _ _ (ysG ++ csG.map (X.c)) (inE S2 L rs) pr.rel.frm (fun b hb => hb.elim (hF.own b) (fun ⟨r, _, h1⟩ => pr.rel.own r b h1)) (by
                      rw [List.map_append, y1, ← c1, List.map_map, List.map_map]
                      rfl) hext hin
                    have hargs : (c.args.map a.eval ++ (valCs capsG).toArray) = ((ysG ++ csG.map (X.c)).map valX).toArray := by
                      apply Array.ext'
                      rw [List.map_append, y2, ← c2, valCs_eq]
                      simp [valX]
                    have hrun : (execOp a.eval o).run Pr w = .ok (.enter g' ((ysG ++ csG.map (X.c)).map valX).toArray) w := by
                      have he := hent ((ysG ++ csG.map (X.c)).map valX).toArray w
                      rw [← hargs] at he ⊢
                      simpa [execOp, ho, resolve, hb, hf2, valC, Deferred.ofValue, invoke] using he
                    simp only [Oper.wp, Oper.upon, hrun]
                    refine Calls.mono hC ?_
                    intro e w' he
                    cases e with
                    | panicked chain => exact he.elim
                    | outgrown => exact he.elim
                    | returned v =>
                      obtain ⟨resG, extG, g1, g2, rfl, g3⟩ := he
                      subst g1 g2
                      cases hdx : downX (erX resG) with
                      | none => simp [hdx] at hq
                      | some x =>
                        simp only [hdx, Option.bind_some] at hq
                        cases hdm : (extG.map (·.map erC)).mapM downCs with
                        | none => simp [hdm] at hq
                        | some es =>
                          simp only [hdm, Option.bind_some] at hq
                          split at hq
                          · next hlen =>
                            have hoe : ∀ e ∈ extG, okCs w' (shiftP R2 P) R2 (calleeS resG extG) (inEa S2 ea L rs) e := by
                              intro e he
                              obtain ⟨j, hj⟩ := List.getElem?_of_mem he
                              exact (g3.okE j e hj).1
                            obtain ⟨m1, m2⟩ := mapM_down hRR hoe hdm
                            have HBs : HB (isVar cx f) w0 E0 P R R2 ea w w' S2 tmps L rs (ysG ++ csG.map (X.c)) resG extG := by
                              refine ⟨pr.rel, hLn, hLr, htup, hLv, hF, hR2, g3, fun i r cs' e hi hcs' he => ?_, fun j e he => m2 e (List.mem_of_getElem? he)⟩
                              have h1 := congrArg (fun l : List Nat => l[i]?) hlen.1
                              simp only [m1, hbs', List.getElem?_map, List.getElem?_drop, hi, Option.map_some, hcs', Option.getD_some, List.length_map] at h1
                              rw [← hklen, he] at h1
                              simp only [Option.map_some, Option.some.injEq, mapCs_eq, List.length_map, dnCs_length] at h1
                              exact h1
                            obtain ⟨yG, r1, r2, r3, r4, r5⟩ := HBs.result hdx
                            have hbk := HBs.bk
                            -- rows
                            have hone : ∀ (j : Nat) e, (extG.take rs.length)[j]? = some e → ∃ t c0, rs[j]? = some t ∧ e = [c0] ∧ valC c0 = valT t := by
                              intro j e hj
                              obtain ⟨hj1, hj2⟩ := take_get hj
                              have ht : rs[j]? = some (rs[j]'hj1) := List.getElem?_eq_getElem hj1
                              have hrow := g3.row j _ e (inE_row (S := S2) (ea := ea) (L := L) ht).2 hj2
                              rw [valCs_eq] at hrow
                              rcases e with _ | ⟨c0, _ | ⟨c1, e⟩⟩
                              · simp at hrow
                              · exact ⟨_, c0, ht, rfl, by simpa using hrow⟩
                              · simp at hrow
                            have hcells : ∀ (l : List (List CV)), (∀ e ∈ l, ∃ c0, e = [c0]) → l.map (fun e => mapCs er0 (dnCs e)) = (l.map fun e => dnC (e.head?.getD .nilp)).map (fun c => [erC c]) ∧ (blkCs (l.map fun e => dnC (e.head?.getD .nilp))) = (l.map fun e => dnCs e).flatMap blkCs := by
                              intro l
                              induction l with
                              | nil => intro _; exact ⟨rfl, rfl⟩
                              | cons e l ih =>
                                intro hl
                                obtain ⟨c0, rfl⟩ := hl e List.mem_cons_self
                                obtain ⟨i1, i2⟩ := ih fun e he => hl e (List.mem_cons_of_mem _ he)
                                refine ⟨?_, ?_⟩
                                · simp only [List.map_cons, i1, List.head?_cons, Option.getD_some, dnCs, mapCs]
                                · simp only [List.map_cons, blkCs, i2, List.head?_cons, Option.getD_some, dnCs, List.flatMap_cons, List.append_nil]
                            obtain ⟨q1, q2⟩ := hcells (extG.take rs.length) (fun e he => by
                              obtain ⟨j, hj⟩ := List.getElem?_of_mem he
                              obtain ⟨t, c0, _, h2, _⟩ := hone j e hj
                              exact ⟨c0, h2⟩)
                            have hdn : ((extG.take rs.length).map fun e => dnCs e).flatMap blkCs = (extG.take rs.length).flatMap blkCs := by
                              rw [List.flatMap_map]
                              refine flat_congr fun e he => ?_
                              obtain ⟨j, hj⟩ := List.getElem?_of_mem he
                              exact (HBs.down (take_get hj).2).2.2.1
                            have hbk2 : Bk w0 E0 R ea w' (behindS S2 L rs.length extG) (blkX yG ++ blkCs ((extG.take rs.length).map fun e => dnC (e.head?.getD .nilp))) := by
                              rw [q2, hdn]
                              exact hbk.sub (r5.append (List.Sublist.refl _))
                            have hnew : New (isVar cx f) w0 E0 P R ea w' (behindS S2 L rs.length extG) yG := New.of_bk r3 r4 (hbk2.sub (List.sublist_append_left _ _))
                            have hokc : okCs w' P R (calleeS resG extG) (inEa S2 ea L rs) ((extG.take rs.length).map fun e => dnC (e.head?.getD .nilp)) := by
                              refine okCs_iff.2 fun c hc => ?_
                              obtain ⟨e, he, rfl⟩ := List.mem_map.1 hc
                              obtain ⟨j, hj⟩ := List.getElem?_of_mem he
                              obtain ⟨t, c0, _, rfl, _⟩ := hone j e hj
                              have := (HBs.down (take_get hj).2).1
                              simp only [List.head?_cons, Option.getD_some]
                              simpa only [dnCs, okCs, and_true] using this
                            have hgone : ∀ (i : Nat) wr c, u.2.1[i]? = some wr → ((extG.take rs.length).map fun e => dnC (e.head?.getD .nilp))[i]? = some c → ∀ v, at_ (behindS S2 L rs.length extG) wr.r wr.p wr.i = some (.t (.dead v)) → v = valC c := by
                              intro i wr c hwr hc v hv
                              rw [List.getElem?_map] at hc
                              cases he : (extG.take rs.length)[i]? with
                              | none => rw [he] at hc; cases hc
                              | some e =>
                                rw [he] at hc
                                simp only [Option.map_some, Option.some.injEq] at hc
                                subst hc
                                obtain ⟨t, c0, ht, rfl, hval⟩ := hone i e he
                                have hd := HBs.down (take_get he).2
                                have hG := pr.gone i t wr ht hwr
                                have hnL : wr.r ∉ L := by
                                  have := List.all_eq_true.1 hrows wr (List.mem_of_getElem? hwr)
                                  simpa using this
                                rw [at_behind hnL] at hv
                                have e3 : valC (dnC c0) = valC c0 := by
                                  have := hd.2.1
                                  simpa only [dnCs, valCs, List.cons.injEq, and_true] using this
                                simp only [List.head?_cons, Option.getD_some, e3, hval]
                                rcases hG.2 with h1 | h1
                                · rw [h1] at hv
                                  simp only [Option.map_some, cutC, Option.some.injEq, C.t.injEq, T.dead.injEq] at hv
                                  exact hv.symm
                                · rw [h1] at hv; cases hv
                            cases hfl : fillRows u.2.1 (es.take u.2.1.length) (backS L u.2.1.length (es.drop u.2.1.length) (V.erS S2)) with
                            | none => simp [hfl] at hq
                            | some S3 =>
                              simp only [hfl, Option.map_some, Option.some.injEq, Prod.mk.injEq] at hq
                              obtain ⟨rfl, rfl⟩ := hq
                              have hback : backS L u.2.1.length (es.drop u.2.1.length) (V.erS S2) = V.erS (behindS S2 L rs.length extG) := by
                                have := backS_map er0 L rs.length ((extG.drop rs.length).map dnCs) S2
                                rw [List.map_map] at this
                                rw [← hklen, m1, ← List.map_drop]
                                exact this
                              rw [hback, m1, ← List.map_take, ← hklen, q1] at hfl
                              obtain ⟨S4, s1, s2, s3⟩ := fillRows_ok HBs.rel hnew hokc hgone hbk2 hapart hfl
                              have := hk w' S4 yG (by rw [r1, hklen]) s1 s2 s3
                              rw [r2] at this
                              exact this
                          · cases hq
                · cases hq
      · cases hq
  · cases hq
end
end Go.Proofs.YtlkjnlfddadlmaaDoor.V

namespace Go.Proofs.YtlkjnlfddadlmaaDoor.V
open Go.RowKit

section
variable {cx : Ctx} {f : Nat} {w0 : World} {E0 : Nat → Prop} {P : Nat → Nat → Prop} {R : Nat → Prop} {ea : List EA} {w w' : World} {a : Act} {call : Callee} {Pr : Program} {S S0 S1 S2 S3 : SV} {tmps : Array Value}

theorem step_active (hcall : CallOk Pr call w0 E0) {ops : Array Oper} {o : Oper} {i n : Nat} {Su Su' : SU} {c : Call} {fo : Operand} (hat : At cx f w0 E0 P R ea n Su a w) (ho : o.op = .call c) (hcal : c.callee = .value fo) (hact : isActive cx (.call c) = true) (hi : ops[i]? = some o)
    (hdst : ∀ d, o.dst = some d → d < n) (hq : stepOp cx f call Su ops o = some Su') {K : Act → World → Prop} {Q : Exit → Act → World → Prop} (hk : ∀ a' w', At cx f w0 E0 P R ea n Su' a' w' → K a' w') : wpOp Pr ops Q i K a w := by
  obtain ⟨S, hr, rfl, hd, hsz⟩ := hat
  simp only [wpOp, hi]
  unfold stepOp at hq
  cases hw : wantedV (V.erS S) ops o with
  | none => simp [hw] at hq
  | some b =>
    have hwt := wanted_ok hr hw
    cases b with
    | false =>
      rw [if_neg (by rw [hwt]; simp)]
      simp only [hw] at hq
      exact hk _ _ (skip_ok hr rfl hd hsz hdst hq)
    | true =>
      rw [if_pos hwt]
      refine .inl ?_
      simp only [hw, ho, hact, if_true, hcal] at hq
      cases hv : activeCall cx f call (V.erS S) fo c.args.toList c.argTypes.toList with
      | none => simp [hv] at hq
      | some r =>
        obtain ⟨z, Sz⟩ := r
        simp only [hv, Option.bind_some] at hq
        exact active_ok hcall hr rfl ho hcal hv fun w' S' xG e1 e2 e3 e4 => hk _ _ (putQ_ok e3 e4 e1 e2 hd hsz hdst hq)

theorem step_all (hty : TyOk Pr cx.ty) (hgro : GroOk Pr cx) (hcall : CallOk Pr call w0 E0) {n : Nat} : StepOk cx f call Pr w0 E0 P R ea n := by
  intro ops o i Su Su' a w hat hi hdst hq K Q hk
  cases ho : o.op with
  | assign x => exact step_assign hat ho hi hdst hq hk
  | store t x y => exact step_store hty hat ho hi hdst hq hk
  | call c =>
    by_cases hact : isActive cx (.call c) = true
    · have hc := hq
      unfold stepOp at hc
      split at hc
      · cases hc
      · rename_i hw
        obtain ⟨S, hr, rfl, hd, hsz⟩ := hat
        have hwt := wanted_ok hr hw
        simp only [wpOp, hi]
        rw [if_neg (by rw [hwt]; simp)]
        exact hk _ _ (skip_ok hr rfl hd hsz hdst hc)
      · simp only [ho, hact, if_true] at hc
        split at hc
        · rename_i hcal hargs
          exact step_append hty hat ho hcal hargs hact hi hdst hq hk
        · rename_i hcal
          exact step_active hcall hat ho hcal hact hi hdst hq hk
        · cases hc
    · exact step_quiet hty hgro hcall hat (by rw [ho]; simpa using hact) hi hdst hq hk
  | _ => exact step_quiet hty hgro hcall hat (by rw [ho]; rfl) hi hdst hq hk
end
end Go.Proofs.YtlkjnlfddadlmaaDoor.V
