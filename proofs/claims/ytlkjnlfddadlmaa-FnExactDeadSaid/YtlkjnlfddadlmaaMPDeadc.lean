/-
  How many values there are at each place: what is reached; a table that is right is the only one. Plain Lean, no program. No conditions.
-/
import Derived.Test.YtlkjnlfddadlmaaMPDeadb
import Derived.Test.YtlkjnlfddadlmaaMPDeada
set_option linter.unusedVariables false
set_option linter.unusedSimpArgs false
namespace Go.Proofs.Ytlkjnlfddadlmaa.V

def effO (o : O3) : Int × Int :=
  if o.1 = 1 ∨ o.1 = 2 ∨ o.1 = 3 ∨ o.1 = 4 then (0, 1)
  else if o.1 = 5 ∨ o.1 = 8 then (o.2.2, 1)
  else if o.1 = 7 ∨ o.1 = 10 ∨ o.1 = 11 ∨ o.1 = 18 then (1, 0)
  else if o.1 = 9 ∨ o.1 = 17 then (1, 1)
  else if o.1 = 6 ∨ o.1 = 12 ∨ o.1 = 13 ∨ o.1 = 14 ∨ o.1 = 15 ∨ o.1 = 16 ∨ o.1 = 20 then (2, 1)
  else (0, 0)
def badAt (o : O3) (d : Int) : Bool := decide ((effO o).1 > d - 1) || (o.1 == 2 && decide (o.2.1 ≥ d)) || (o.1 == 7 && d != 2)
def nxt (o : O3) (d : Int) : Int := d - (effO o).1 + (effO o).2
def succs (o : O3) (k : Nat) : List Int :=
  if o.1 = 7 ∨ o.1 = 21 then [] else if o.1 = 19 then [o.2.1] else if o.1 = 18 then [((k + 1 : Nat) : Int), o.2.1] else if o.1 = 10 ∨ o.1 = 11 then [((k + 1 : Nat) : Int), o.2.2] else [((k + 1 : Nat) : Int)]

/-- A place is come to with so many values. -/
inductive Rch (ops : List O3) : Nat → Int → Prop where
  | start : Rch ops 0 1
  | step {k : Nat} {d : Int} {o : O3} {k' : Nat} : Rch ops k d → ops[k]? = some o → badAt o d = false → (k' : Int) ∈ succs o k → Rch ops k' (nxt o d)

def BadD (ops : List O3) : Prop :=
  (∃ k d o, Rch ops k d ∧ ops[k]? = some o ∧ badAt o d = true) ∨ (∃ k d, Rch ops k d ∧ 60 < d) ∨ (∃ k d d', Rch ops k d ∧ Rch ops k d' ∧ d ≠ d')

def SoundD (ops : List O3) (D : List Int) : Prop := ∀ k d, D[k]? = some d → d = -1 ∨ (1 ≤ d ∧ d ≤ 60 ∧ Rch ops k d)
def ClosedAt (D : List Int) (k : Nat) (d : Int) (o : O3) : Prop := badAt o d = false ∧ ∀ k' : Nat, (k' : Int) ∈ succs o k → D[k']? = some (nxt o d)
def GoodD (ops : List O3) (D : List Int) : Prop :=
  D.length = ops.length ∧ SoundD ops D ∧ D[0]? = some 1 ∧ ∀ k d o, D[k]? = some d → d ≠ -1 → ops[k]? = some o → ClosedAt D k d o

theorem effO_puts (o : O3) : 0 ≤ (effO o).2 := by
  simp only [effO]
  repeat' split
  all_goals simp
theorem nxt_pos {o : O3} {d : Int} (h : badAt o d = false) : 1 ≤ nxt o d := by
  have := effO_puts o
  simp only [badAt, Bool.or_eq_false_iff, decide_eq_false_iff_not] at h
  simp only [nxt]
  omega

theorem good_rch {ops : List O3} {D : List Int} (h : GoodD ops D) {k : Nat} {d : Int} (hr : Rch ops k d) : D[k]? = some d ∧ 1 ≤ d ∧ d ≤ 60 := by
  induction hr with
  | start => exact ⟨h.2.2.1, by omega, by omega⟩
  | step h1 h2 h3 h4 ih =>
    obtain ⟨i1, i2, i3⟩ := ih
    have := (h.2.2.2 _ _ _ i1 (by omega) h2).2 _ h4
    have hp := nxt_pos h3
    rcases h.2.1 _ _ this with e | e
    · omega
    · exact ⟨this, e.1, e.2.1⟩

theorem good_uniq {ops : List O3} {D D' : List Int} (h : GoodD ops D) (h' : GoodD ops D') : D = D' := by
  have key : ∀ {A B : List Int}, GoodD ops A → GoodD ops B → ∀ (k : Nat) (d : Int), A[k]? = some d → d ≠ -1 → B[k]? = some d := by
    intro A B ha hb k d hk hd
    rcases ha.2.1 k d hk with e | e
    · exact (hd e).elim
    · exact (good_rch hb e.2.2).1
  refine List.ext_getElem? fun k => ?_
  by_cases hk : k < ops.length
  · obtain ⟨d, hd⟩ : ∃ d, D[k]? = some d := ⟨_, List.getElem?_eq_getElem (show k < D.length by rw [h.1]; exact hk)⟩
    obtain ⟨d', hd'⟩ : ∃ d, D'[k]? = some d := ⟨_, List.getElem?_eq_getElem (show k < D'.length by rw [h'.1]; exact hk)⟩
    by_cases e : d = -1
    · by_cases e' : d' = -1
      · rw [hd, hd', e, e']
      · rw [hd', key h' h k d' hd' e']
    · rw [hd, key h h' k d hd e]
  · rw [List.getElem?_eq_none (by rw [h.1]; omega), List.getElem?_eq_none (by rw [h'.1]; omega)]

theorem good_not_bad {ops : List O3} {D : List Int} (h : GoodD ops D) : ¬ BadD ops := by
  intro hb
  rcases hb with ⟨k, d, o, h1, h2, h3⟩ | ⟨k, d, h1, h2⟩ | ⟨k, d, d', h1, h2, h3⟩
  · obtain ⟨i1, i2, _⟩ := good_rch h h1
    have := (h.2.2.2 k d o i1 (by omega) h2).1
    rw [this] at h3; cases h3
  · have := (good_rch h h1).2.2; omega
  · have e1 := (good_rch h h1).1
    rw [(good_rch h h2).1] at e1
    exact h3 (by simpa using e1.symm)

open Classical in
noncomputable def dpOf (ops : List O3) : Option (List Int) := if h : ∃ D, GoodD ops D then some h.choose else none
theorem dpOf_good {ops : List O3} {D : List Int} (h : GoodD ops D) : dpOf ops = some D := by
  have hx : ∃ D, GoodD ops D := ⟨D, h⟩
  simp only [dpOf, dif_pos hx]
  rw [good_uniq hx.choose_spec h]
theorem dpOf_bad {ops : List O3} (h : BadD ops) : dpOf ops = none := by
  simp only [dpOf]
  rw [dif_neg]
  exact fun ⟨D, hd⟩ => good_not_bad hd h

/-! ### one place after another -/
/-- What is known ahead of each round: pend: where the place that is at work leads still. -/
def InvD (ops : List O3) (D : List Int) (todo : List Nat) (P : Nat → Int → Prop) : Prop :=
  D.length = ops.length ∧ SoundD ops D ∧ D[0]? = some 1 ∧ (∀ k ∈ todo, ∃ d, D[k]? = some d ∧ d ≠ -1) ∧
  ∀ k d o, D[k]? = some d → d ≠ -1 → k ∉ todo → ops[k]? = some o → badAt o d = false ∧ ∀ k' : Nat, (k' : Int) ∈ succs o k → D[k']? = some (nxt o d) ∨ P k' (nxt o d)

theorem inv_good {ops : List O3} {D : List Int} (h : InvD ops D [] fun _ _ => False) : GoodD ops D := by
  obtain ⟨h1, h2, h3, _, h5⟩ := h
  refine ⟨h1, h2, h3, fun k d o a b c => ?_⟩
  obtain ⟨g1, g2⟩ := h5 k d o a b (by simp) c
  exact ⟨g1, fun k' hk => (g2 k' hk).elim id fun f => f.elim⟩

/-- A place is taken from those that are to do. -/
theorem inv_take {ops : List O3} {D : List Int} {todo rest : List Nat} {at' : Nat} {d : Int} {o : O3} (h : InvD ops D todo fun _ _ => False) (ht : ∀ k, k ∈ todo ↔ k ∈ rest ∨ k = at') (hd : D[at']? = some d) (ho : ops[at']? = some o) (hb : badAt o d = false) :
    InvD ops D rest fun k v => (k : Int) ∈ succs o at' ∧ v = nxt o d := by
  obtain ⟨h1, h2, h3, h4, h5⟩ := h
  refine ⟨h1, h2, h3, fun k hk => h4 k ((ht k).2 (.inl hk)), fun k d' o' a b c e => ?_⟩
  by_cases hk : k = at'
  · subst hk
    rw [hd] at a; rw [ho] at e
    simp only [Option.some.injEq] at a e
    subst a; subst e
    exact ⟨hb, fun k' hk' => .inr ⟨hk', rfl⟩⟩
  · obtain ⟨g1, g2⟩ := h5 k d' o' a b (fun hm => ((ht k).1 hm).elim c hk) e
    exact ⟨g1, fun k' hk' => (g2 k' hk').elim .inl fun f => f.elim⟩

/-- One comes to a place that was not come to. -/
theorem inv_new {ops : List O3} {D : List Int} {todo : List Nat} {P Q : Nat → Int → Prop} {k : Nat} {v : Int} (h : InvD ops D todo P) (hk : D[k]? = some (-1)) (hv : 1 ≤ v ∧ v ≤ 60) (hr : Rch ops k v) (hP : ∀ j w, P j w → Q j w ∨ (j = k ∧ w = v)) :
    InvD ops (D.set k v) (todo ++ [k]) Q := by
  obtain ⟨h1, h2, h3, h4, h5⟩ := h
  have hkl : k < D.length := (List.getElem?_eq_some_iff.1 hk).1
  have hk0 : k ≠ 0 := fun e => by subst e; rw [hk] at h3; simp at h3
  have hset : ∀ j, (D.set k v)[j]? = if k = j then some v else D[j]? := fun j => by
    rw [List.getElem?_set]
    split
    · next e => subst e; first | rfl | rw [if_pos hkl]
    · rfl
  have mono : ∀ (j : Nat) (w : Int), D[j]? = some w → w ≠ -1 → (D.set k v)[j]? = some w := fun j w hj hw => by
    rw [hset]
    split
    · next e => subst e; rw [hk] at hj; simp only [Option.some.injEq] at hj; exact (hw hj.symm).elim
    · exact hj
  refine ⟨by rw [List.length_set]; exact h1, fun j w hj => ?_, mono 0 1 h3 (by omega), fun j hj => ?_, fun j d o a b c e => ?_⟩
  · rw [hset] at hj
    split at hj
    · next e => subst e; simp only [Option.some.injEq] at hj; subst hj; exact .inr ⟨hv.1, hv.2, hr⟩
    · exact h2 j w hj
  · rcases List.mem_append.1 hj with hj | hj
    · obtain ⟨d, a, b⟩ := h4 j hj
      exact ⟨d, mono j d a b, b⟩
    · simp only [List.mem_singleton] at hj
      subst hj
      exact ⟨v, by rw [hset, if_pos rfl], by omega⟩
  · have hjk : j ≠ k := fun e => c (by rw [e]; simp)
    rw [hset, if_neg (fun e => hjk e.symm)] at a
    obtain ⟨g1, g2⟩ := h5 j d o a b (fun hm => c (List.mem_append_left _ hm)) e
    refine ⟨g1, fun k' hk' => ?_⟩
    have hp := nxt_pos g1
    rcases g2 k' hk' with f | f
    · exact .inl (mono k' _ f (by omega))
    · rcases hP _ _ f with q | ⟨rfl, q⟩
      · exact .inr q
      · left; rw [hset, if_pos rfl, q]

/-- One comes to a place with as many as before. -/
theorem inv_old {ops : List O3} {D : List Int} {todo : List Nat} {P Q : Nat → Int → Prop} {k : Nat} {v : Int} (h : InvD ops D todo P) (hk : D[k]? = some v) (hP : ∀ j w, P j w → Q j w ∨ (j = k ∧ w = v)) : InvD ops D todo Q := by
  obtain ⟨h1, h2, h3, h4, h5⟩ := h
  refine ⟨h1, h2, h3, h4, fun j d o a b c e => ?_⟩
  obtain ⟨g1, g2⟩ := h5 j d o a b c e
  refine ⟨g1, fun k' hk' => (g2 k' hk').elim .inl fun f => ?_⟩
  rcases hP _ _ f with q | ⟨rfl, q⟩
  · exact .inr q
  · left; rw [hk, q]

theorem inv_start {ops : List O3} (hn : 0 < ops.length) : InvD ops ((List.replicate ops.length (-1)).set 0 1) [0] fun _ _ => False := by
  refine ⟨by simp, fun k d hk => ?_, ?_, fun k hk => ?_, fun k d o a b c e => ?_⟩
  · rw [List.getElem?_set] at hk
    split at hk
    · next e =>
      subst e
      simp only [List.length_replicate, hn, if_true, Option.some.injEq] at hk
      subst hk
      exact .inr ⟨by omega, by omega, .start⟩
    · rw [List.getElem?_replicate] at hk
      split at hk
      · simp only [Option.some.injEq] at hk; exact .inl hk.symm
      · cases hk
  · simp [hn]
  · simp only [List.mem_singleton] at hk
    subst hk
    exact ⟨1, by simp [hn], by omega⟩
  · simp only [List.mem_singleton] at c
    rw [List.getElem?_set, if_neg (fun e => c e.symm), List.getElem?_replicate] at a
    split at a
    · simp only [Option.some.injEq] at a; exact (b a.symm).elim
    · cases a
end Go.Proofs.Ytlkjnlfddadlmaa.V

namespace Go.Proofs.Ytlkjnlfddadlmaa.V
set_option maxRecDepth 100000

abbrev x2 (a b : Int) : XU := .tup [xi a, xi b]
abbrev xo (o : O3) : XU := xc [.int .i64 o.1, .int .i64 o.2.1, .int .i64 o.2.2]

set_option maxHeartbeats 4000000 in
theorem eff_s (o : O3) : RT 110 [xo o] [] = some (x2 (effO o).1 (effO o).2, []) := by
  obtain ⟨c, x, m⟩ := o
  refine fn_is (fn := Try.f110) rfl rfl rfl rfl ?_
  refine ⟨fun h => ?_, fun h1 => ?_⟩
  · have h := eq_of_beq h
    have e : effO (c, x, m) = (0, 1) := by simp only [effO]; rw [if_pos (by omega)]
    rw [e]; exact ⟨rfl, rfl⟩
  have h1 := ne_of_beq_false h1
  refine ⟨fun h => ?_, fun h2 => ?_⟩
  · have h := eq_of_beq h
    have e : effO (c, x, m) = (0, 1) := by simp only [effO]; rw [if_pos (by omega)]
    rw [e]; exact ⟨rfl, rfl⟩
  have h2 := ne_of_beq_false h2
  refine ⟨fun h => ?_, fun h3 => ?_⟩
  · have h := eq_of_beq h
    have e : effO (c, x, m) = (0, 1) := by simp only [effO]; rw [if_pos (by omega)]
    rw [e]; exact ⟨rfl, rfl⟩
  have h3 := ne_of_beq_false h3
  refine ⟨fun h => ?_, fun h4 => ?_⟩
  · have h := eq_of_beq h
    have e : effO (c, x, m) = (0, 1) := by simp only [effO]; rw [if_pos (by omega)]
    rw [e]; exact ⟨rfl, rfl⟩
  have h4 := ne_of_beq_false h4
  refine ⟨fun h => ?_, fun h5 => ?_⟩
  · have h := eq_of_beq h
    have e : effO (c, x, m) = (m, 1) := by simp only [effO]; rw [if_neg (by omega), if_pos (by omega)]
    rw [e]; exact ⟨rfl, rfl⟩
  have h5 := ne_of_beq_false h5
  refine ⟨fun h => ?_, fun h8 => ?_⟩
  · have h := eq_of_beq h
    have e : effO (c, x, m) = (m, 1) := by simp only [effO]; rw [if_neg (by omega), if_pos (by omega)]
    rw [e]; exact ⟨rfl, rfl⟩
  have h8 := ne_of_beq_false h8
  refine ⟨fun h => ?_, fun h7 => ?_⟩
  · have h := eq_of_beq h
    have e : effO (c, x, m) = (1, 0) := by simp only [effO]; rw [if_neg (by omega), if_neg (by omega), if_pos (by omega)]
    rw [e]; exact ⟨rfl, rfl⟩
  have h7 := ne_of_beq_false h7
  refine ⟨fun h => ?_, fun h10 => ?_⟩
  · have h := eq_of_beq h
    have e : effO (c, x, m) = (1, 0) := by simp only [effO]; rw [if_neg (by omega), if_neg (by omega), if_pos (by omega)]
    rw [e]; exact ⟨rfl, rfl⟩
  have h10 := ne_of_beq_false h10
  refine ⟨fun h => ?_, fun h11 => ?_⟩
  · have h := eq_of_beq h
    have e : effO (c, x, m) = (1, 0) := by simp only [effO]; rw [if_neg (by omega), if_neg (by omega), if_pos (by omega)]
    rw [e]; exact ⟨rfl, rfl⟩
  have h11 := ne_of_beq_false h11
  refine ⟨fun h => ?_, fun h18 => ?_⟩
  · have h := eq_of_beq h
    have e : effO (c, x, m) = (1, 0) := by simp only [effO]; rw [if_neg (by omega), if_neg (by omega), if_pos (by omega)]
    rw [e]; exact ⟨rfl, rfl⟩
  have h18 := ne_of_beq_false h18
  refine ⟨fun h => ?_, fun h9 => ?_⟩
  · have h := eq_of_beq h
    have e : effO (c, x, m) = (1, 1) := by simp only [effO]; rw [if_neg (by omega), if_neg (by omega), if_neg (by omega), if_pos (by omega)]
    rw [e]; exact ⟨rfl, rfl⟩
  have h9 := ne_of_beq_false h9
  refine ⟨fun h => ?_, fun h17 => ?_⟩
  · have h := eq_of_beq h
    have e : effO (c, x, m) = (1, 1) := by simp only [effO]; rw [if_neg (by omega), if_neg (by omega), if_neg (by omega), if_pos (by omega)]
    rw [e]; exact ⟨rfl, rfl⟩
  have h17 := ne_of_beq_false h17
  refine ⟨fun h => ?_, fun h6 => ?_⟩
  · have h := eq_of_beq h
    have e : effO (c, x, m) = (2, 1) := by simp only [effO]; rw [if_neg (by omega), if_neg (by omega), if_neg (by omega), if_neg (by omega), if_pos (by omega)]
    rw [e]; exact ⟨rfl, rfl⟩
  have h6 := ne_of_beq_false h6
  refine ⟨fun h => ?_, fun h12 => ?_⟩
  · have h := eq_of_beq h
    have e : effO (c, x, m) = (2, 1) := by simp only [effO]; rw [if_neg (by omega), if_neg (by omega), if_neg (by omega), if_neg (by omega), if_pos (by omega)]
    rw [e]; exact ⟨rfl, rfl⟩
  have h12 := ne_of_beq_false h12
  refine ⟨fun h => ?_, fun h13 => ?_⟩
  · have h := eq_of_beq h
    have e : effO (c, x, m) = (2, 1) := by simp only [effO]; rw [if_neg (by omega), if_neg (by omega), if_neg (by omega), if_neg (by omega), if_pos (by omega)]
    rw [e]; exact ⟨rfl, rfl⟩
  have h13 := ne_of_beq_false h13
  refine ⟨fun h => ?_, fun h14 => ?_⟩
  · have h := eq_of_beq h
    have e : effO (c, x, m) = (2, 1) := by simp only [effO]; rw [if_neg (by omega), if_neg (by omega), if_neg (by omega), if_neg (by omega), if_pos (by omega)]
    rw [e]; exact ⟨rfl, rfl⟩
  have h14 := ne_of_beq_false h14
  refine ⟨fun h => ?_, fun h15 => ?_⟩
  · have h := eq_of_beq h
    have e : effO (c, x, m) = (2, 1) := by simp only [effO]; rw [if_neg (by omega), if_neg (by omega), if_neg (by omega), if_neg (by omega), if_pos (by omega)]
    rw [e]; exact ⟨rfl, rfl⟩
  have h15 := ne_of_beq_false h15
  refine ⟨fun h => ?_, fun h16 => ?_⟩
  · have h := eq_of_beq h
    have e : effO (c, x, m) = (2, 1) := by simp only [effO]; rw [if_neg (by omega), if_neg (by omega), if_neg (by omega), if_neg (by omega), if_pos (by omega)]
    rw [e]; exact ⟨rfl, rfl⟩
  have h16 := ne_of_beq_false h16
  refine ⟨fun h => ?_, fun h20 => ?_⟩
  · have h := eq_of_beq h
    have e : effO (c, x, m) = (2, 1) := by simp only [effO]; rw [if_neg (by omega), if_neg (by omega), if_neg (by omega), if_neg (by omega), if_pos (by omega)]
    rw [e]; exact ⟨rfl, rfl⟩
  have h20 := ne_of_beq_false h20
  have e : effO (c, x, m) = (0, 0) := by simp only [effO]; rw [if_neg (by omega), if_neg (by omega), if_neg (by omega), if_neg (by omega), if_neg (by omega)]
  rw [e]; exact ⟨rfl, rfl⟩
theorem ret22 {g : Nat} {xs : List XU} {a b : Int} (h : RT g xs [] = some (x2 a b, [])) : Ret RT g xs (x2 a b) := ⟨_, h, rfl⟩

theorem w1 {a lo hi : Int} (h : (decide (a ≥ lo) && decide (a ≤ hi)) = true) : lo ≤ a ∧ a ≤ hi := by
  simp only [Bool.and_eq_true, decide_eq_true_eq] at h; omega
theorem w0 {a lo hi : Int} (h : (decide (a ≥ lo) && decide (a ≤ hi)) = false) : a < lo ∨ hi < a := by
  simp only [Bool.and_eq_false_iff, decide_eq_false_iff_not] at h; omega

set_option maxHeartbeats 4000000 in
theorem eff_i (o : O3) : RT 79 [xo o] [] = some (x2 (effO o).1 (effO o).2, []) := by
  obtain ⟨c, x, m⟩ := o
  refine fn_is (fn := Try.f79) rfl rfl rfl rfl ?_
  have a1 : (1 ≤ c ∧ c ≤ 4) → effO (c, x, m) = (0, 1) := fun h => by simp only [effO]; rw [if_pos (by omega)]
  have a2 : c = 5 ∨ c = 8 → effO (c, x, m) = (m, 1) := fun h => by simp only [effO]; rw [if_neg (by omega), if_pos (by omega)]
  have a3 : c = 6 ∨ c = 20 ∨ (12 ≤ c ∧ c ≤ 16) → effO (c, x, m) = (2, 1) := fun h => by simp only [effO]; rw [if_neg (by omega), if_neg (by omega), if_neg (by omega), if_neg (by omega), if_pos (by omega)]
  have a4 : c = 7 ∨ c = 10 ∨ c = 11 ∨ c = 18 → effO (c, x, m) = (1, 0) := fun h => by simp only [effO]; rw [if_neg (by omega), if_neg (by omega), if_pos (by omega)]
  have a5 : c = 9 ∨ c = 17 → effO (c, x, m) = (1, 1) := fun h => by simp only [effO]; rw [if_neg (by omega), if_neg (by omega), if_neg (by omega), if_pos (by omega)]
  have a6 : (c < 1 ∨ 4 < c) → c ≠ 5 → c ≠ 8 → c ≠ 6 → c ≠ 20 → (c < 12 ∨ 16 < c) → c ≠ 7 → c ≠ 10 → c ≠ 11 → c ≠ 18 → c ≠ 9 → c ≠ 17 → effO (c, x, m) = (0, 0) := fun _ _ _ _ _ _ _ _ _ _ _ _ => by
    simp only [effO]; rw [if_neg (by omega), if_neg (by omega), if_neg (by omega), if_neg (by omega), if_neg (by omega)]
  refine ⟨_, retB (in52 c 1 4), ?_⟩
  refine ⟨fun h => by rw [a1 (w1 h)]; exact ⟨rfl, rfl⟩, fun h1 => ?_⟩
  refine ⟨fun h => by rw [a2 (.inl (eq_of_beq h))]; exact ⟨rfl, rfl⟩, fun h5 => ?_⟩
  refine ⟨fun h => by rw [a2 (.inr (eq_of_beq h))]; exact ⟨rfl, rfl⟩, fun h8 => ?_⟩
  refine ⟨fun h => by rw [a3 (.inl (eq_of_beq h))]; exact ⟨rfl, rfl⟩, fun h6 => ?_⟩
  refine ⟨fun h => by rw [a3 (.inr (.inl (eq_of_beq h)))]; exact ⟨rfl, rfl⟩, fun h20 => ?_⟩
  refine ⟨_, retB (in52 c 12 16), ?_⟩
  refine ⟨fun h => by rw [a3 (.inr (.inr (w1 h)))]; exact ⟨rfl, rfl⟩, fun h12 => ?_⟩
  refine ⟨fun h => by rw [a4 (.inl (eq_of_beq h))]; exact ⟨rfl, rfl⟩, fun h7 => ?_⟩
  refine ⟨fun h => by rw [a4 (.inr (.inl (eq_of_beq h)))]; exact ⟨rfl, rfl⟩, fun h10 => ?_⟩
  refine ⟨fun h => by rw [a4 (.inr (.inr (.inl (eq_of_beq h))))]; exact ⟨rfl, rfl⟩, fun h11 => ?_⟩
  refine ⟨fun h => by rw [a4 (.inr (.inr (.inr (eq_of_beq h))))]; exact ⟨rfl, rfl⟩, fun h18 => ?_⟩
  refine ⟨fun h => by rw [a5 (.inl (eq_of_beq h))]; exact ⟨rfl, rfl⟩, fun h9 => ?_⟩
  refine ⟨fun h => by rw [a5 (.inr (eq_of_beq h))]; exact ⟨rfl, rfl⟩, fun h17 => ?_⟩
  rw [a6 (w0 h1) (ne_of_beq_false h5) (ne_of_beq_false h8) (ne_of_beq_false h6) (ne_of_beq_false h20) (w0 h12) (ne_of_beq_false h7) (ne_of_beq_false h10) (ne_of_beq_false h11) (ne_of_beq_false h18) (ne_of_beq_false h9) (ne_of_beq_false h17)]
  exact ⟨rfl, rfl⟩

/-- Where an op leads (the program's order). -/
theorem nexts_i (o : O3) {k : Nat} (hk : k ≤ 1048576) : RT 80 [xo o, xi k] [] = some (xl 0 1 (succs o k).length (nums (succs o k)), []) := by
  obtain ⟨c, x, m⟩ := o
  have ws : IntKind.wrap .i64 ((k : Int) + 1) = ((k + 1 : Nat) : Int) := by rw [wrap64 (by omega) (by omega)]; omega
  refine fn_is (fn := Try.f80) rfl rfl rfl rfl ?_
  have a1 : c = 7 ∨ c = 21 → succs (c, x, m) k = [] := fun h => by simp only [succs]; rw [if_pos (by omega)]
  have a2 : c = 19 → succs (c, x, m) k = [x] := fun h => by simp only [succs]; rw [if_neg (by omega), if_pos (by omega)]
  have a3 : c = 18 → succs (c, x, m) k = [IntKind.wrap .i64 ((k : Int) + 1), x] := fun h => by simp only [succs]; rw [ws, if_neg (by omega), if_neg (by omega), if_pos (by omega)]
  have a4 : c = 10 ∨ c = 11 → succs (c, x, m) k = [IntKind.wrap .i64 ((k : Int) + 1), m] := fun h => by simp only [succs]; rw [ws, if_neg (by omega), if_neg (by omega), if_neg (by omega), if_pos (by omega)]
  have a5 : c ≠ 7 → c ≠ 21 → c ≠ 19 → c ≠ 18 → c ≠ 10 → c ≠ 11 → succs (c, x, m) k = [IntKind.wrap .i64 ((k : Int) + 1)] := fun _ _ _ _ _ _ => by simp only [succs]; rw [ws, if_neg (by omega), if_neg (by omega), if_neg (by omega), if_neg (by omega)]
  refine ⟨fun h => by rw [a1 (.inl (eq_of_beq h))]; exact ⟨Nat.le_refl _, rfl, rfl⟩, fun h7 => ?_⟩
  refine ⟨fun h => by rw [a1 (.inr (eq_of_beq h))]; exact ⟨Nat.le_refl _, rfl, rfl⟩, fun h21 => ?_⟩
  refine ⟨fun h => by rw [a2 (eq_of_beq h)]; exact ⟨Nat.le_refl _, rfl, rfl⟩, fun h19 => ?_⟩
  refine ⟨fun h => by rw [a3 (eq_of_beq h)]; exact ⟨Nat.le_refl _, rfl, rfl⟩, fun h18 => ?_⟩
  refine ⟨fun h => by rw [a4 (.inl (eq_of_beq h))]; exact ⟨Nat.le_refl _, rfl, rfl⟩, fun h10 => ?_⟩
  refine ⟨fun h => by rw [a4 (.inr (eq_of_beq h))]; exact ⟨Nat.le_refl _, rfl, rfl⟩, fun h11 => ?_⟩
  rw [a5 (ne_of_beq_false h7) (ne_of_beq_false h21) (ne_of_beq_false h19) (ne_of_beq_false h18) (ne_of_beq_false h10) (ne_of_beq_false h11)]
  exact ⟨Nat.le_refl _, rfl, rfl⟩
end Go.Proofs.Ytlkjnlfddadlmaa.V

namespace Go.Proofs.Ytlkjnlfddadlmaa.V
set_option maxRecDepth 100000

/-- Places as numbers. -/
abbrev ni (l : List Nat) : List Int := l.map fun k : Nat => (k : Int)
abbrev wk (D : List Int) (T : List Nat) (ok : Bool) : List CU := [.t (.sl () 0 1 D.length (nums D)), .t (.sl () 0 1 T.length (nums (ni T))), .t (.bool ok)]
abbrev Wk := List Int × List Nat × Bool
/-- One comes to a place with so many values. -/
def goF (k : Nat) (v : Int) : Wk → Wk
  | (D, T, ok) => if (D.length : Int) ≤ k ∨ 60 < v then (D, T, false) else
    match D[k]? with
    | some d => if d < 0 then (D.set k v, T ++ [k], ok) else if d = v then (D, T, ok) else (D, T, false)
    | none => (D, T, false)

theorem nums_set : ∀ (D : List Int) (k : Nat) (v : Int), k < D.length → (nums D).take k ++ [.int .i64 v] ++ (nums D).drop (k + 1) = nums (D.set k v)
  | [], k, v, h => by simp at h
  | x :: D, 0, v, h => by simp [nums]
  | x :: D, k + 1, v, h => by
    have := nums_set D k v (by simpa using h)
    simp only [nums, List.take_succ_cons, List.drop_succ_cons, List.cons_append, this, List.set_cons_succ]
theorem nums_put {D : List Int} {k : Nat} {v : Int} (h : k < D.length) : (nums D).take (0 + (k : Int).toNat * 1) ++ [.int .i64 v] ++ (nums D).drop (0 + (k : Int).toNat * 1 + ([.int .i64 v] : List TU).length) = nums (D.set k v) := by
  rw [Nat.zero_add, Int.toNat_natCast, Nat.mul_one]; exact nums_set D k v h
theorem nums_get {D : List Int} {k : Nat} {d : Int} (h : D[k]? = some d) : ((nums D).drop (0 + (k : Int).toNat * 1)).take 1 = [.int .i64 d] := by
  rw [Nat.zero_add, Int.toNat_natCast]; exact nums_at h

theorem go_s {k : Nat} {v : Int} {D : List Int} {T : List Nat} {ok : Bool} (hk : k ≤ 1048576) (hD : D.length ≤ 1048576) (hT : T.length ≤ 1048576) :
    RT 77 [.c (.ptr () (.ex 0) [] 0), xi k, xi v] [wk D T ok] = some (.tup [], [wk (goF k v (D, T, ok)).1 (goF k v (D, T, ok)).2.1 (goF k v (D, T, ok)).2.2]) := by
  refine fn_isE (fn := Try.f77) rfl rfl rfl rfl ?_
  refine ⟨fun h => ?_, fun h => ?_⟩
  · have h := of_decide_eq_true h
    have e : goF k v (D, T, ok) = (D, T, false) := by simp only [goF]; rw [if_pos (by omega)]
    rw [e]
    exact ⟨rfl, rfl⟩
  have h := of_decide_eq_false h
  refine ⟨fun h2 => ?_, fun h2 => ?_⟩
  · have h2 := of_decide_eq_true h2
    have e : goF k v (D, T, ok) = (D, T, false) := by simp only [goF]; rw [if_pos (by omega)]
    rw [e]
    exact ⟨rfl, rfl⟩
  have h2 := of_decide_eq_false h2
  have hkD : k < D.length := by omega
  obtain ⟨d, hd⟩ : ∃ d, D[k]? = some d := ⟨_, List.getElem?_eq_getElem hkD⟩
  refine ⟨⟨by omega, by omega⟩, ?_⟩
  refine ⟨d, ⟨nums_get hd, rfl⟩, ?_⟩
  refine ⟨fun h3 => ?_, fun h3 => ?_⟩
  · have h3 := of_decide_eq_true h3
    have e : goF k v (D, T, ok) = (D.set k v, T ++ [k], ok) := by simp only [goF, hd]; rw [if_neg (by omega), if_pos h3]
    refine ⟨⟨by omega, by omega⟩, ?_⟩
    refine ⟨by rw [nums_len]; show 0 + k * 1 + 1 ≤ _; omega, ?_⟩
    rw [nums_put hkD]
    intro jk
    refine ⟨by rw [nums_len, List.length_map]; omega, ?_⟩
    refine ⟨⟨by simp only [maxLen]; omega, by show (T.length + 1) * 8 ≤ _; omega⟩, ?_⟩
    refine ⟨rfl, ?_⟩
    rw [e]
    have e1 : ((nums (ni T)).drop 0).take (T.length * 1) ++ [.int .i64 (k : Int)] = nums (ni (T ++ [k])) := by
      rw [List.drop_zero, List.take_of_length_le (by rw [nums_len, List.length_map]; omega), show ni (T ++ [k]) = ni T ++ [(k : Int)] by simp [ni], nums_append]; rfl
    simp only [wk, List.length_set, List.length_append, List.length_singleton, ← e1]
  have h3 := of_decide_eq_false h3
  refine ⟨⟨by omega, by omega⟩, ?_⟩
  refine ⟨d, ⟨nums_get hd, rfl⟩, ?_⟩
  refine ⟨fun h4 => ?_, fun h4 => ?_⟩
  · have h4 : d ≠ v := by simpa using h4
    have e : goF k v (D, T, ok) = (D, T, false) := by simp only [goF, hd]; rw [if_neg (by omega), if_neg h3, if_neg h4]
    rw [e]
    exact ⟨rfl, rfl⟩
  · have h4 : d = v := by simpa using h4
    have e : goF k v (D, T, ok) = (D, T, ok) := by simp only [goF, hd]; rw [if_neg (by omega), if_neg h3, if_pos h4]
    rw [e]
    exact ⟨rfl, rfl⟩

theorem goF_len {k : Nat} {v : Int} : ∀ w : Wk, (goF k v w).1.length = w.1.length ∧ w.2.1.length ≤ (goF k v w).2.1.length ∧ (goF k v w).2.1.length ≤ w.2.1.length + 1
  | (D, T, ok) => by
    simp only [goF]
    repeat' split
    all_goals simp

theorem nums_ups : ∀ l, ups (nums l) = nums l
  | [] => rfl
  | s :: l => by simp only [nums, ups, up, nums_ups l]

theorem goE {k : Nat} {v : Int} {w : Wk} (hk : k ≤ 1048576) (hD : w.1.length ≤ 1048576) (hT : w.2.1.length ≤ 1048576) :
    RetE RT 77 [.c (.ptr () (.ex 0) [] 0), xi k, xi v] [wk w.1 w.2.1 w.2.2] (.tup []) [wk (goF k v w).1 (goF k v w).2.1 (goF k v w).2.2] := by
  refine ⟨_, go_s hk hD hT, rfl, ?_⟩
  simp only [List.mapM_cons, List.mapM_nil, downCs, downC, down, nums_down, Option.map_some, Option.bind_some]
  rfl

/-- One goes on from a place. -/
def oneF (o : O3) (k : Nat) (d : Int) (w : Wk) : Wk :=
  if badAt o d then (w.1, w.2.1, false) else (succs o k).reverse.foldl (fun w x => goF x.toNat (nxt o d) w) w

theorem effO_le (o : O3) : (effO o).2 ≤ 1 ∧ 0 ≤ (effO o).2 := by
  simp only [effO]
  repeat' split
  all_goals simp
theorem oneF_go {o : O3} {k : Nat} {d : Int} {w : Wk} {l : List Int} (h : badAt o d = false) (hl : succs o k = l) : oneF o k d w = l.reverse.foldl (fun w x => goF x.toNat (nxt o d) w) w := by
  simp only [oneF, h, Bool.false_eq_true, if_false, hl]

set_option maxHeartbeats 4000000 in
theorem one_s {ops : List O3} {g k : Nat} {o : O3} {d : Int} {D : List Int} {T : List Nat} {ok : Bool} (hn : ops.length ≤ 1048574) (ho : ops[k]? = some o) (hd : D[k]? = some d) (hD : D.length ≤ 1048576) (hT : T.length ≤ 1048000)
    (he : 0 ≤ (effO o).1 ∧ (effO o).1 ≤ 20) (h1 : 1 ≤ d ∧ d ≤ 60) (hs : ∀ x ∈ succs o k, 0 ≤ x ∧ x ≤ 1048576) :
    RT 78 [.c (.ptr () (.ex 0) [] 0), xl (g + 1) 3 ops.length (oc ops), xi k] [wk D T ok] = some (.tup [], [wk (oneF o k d (D, T, ok)).1 (oneF o k d (D, T, ok)).2.1 (oneF o k d (D, T, ok)).2.2]) := by
  have hkl : k < ops.length := (List.getElem?_eq_some_iff.1 ho).1
  have hkD : k < D.length := (List.getElem?_eq_some_iff.1 hd).1
  obtain ⟨r, hr⟩ := oc_at ho
  obtain ⟨c, x, m⟩ := o
  simp only at hr
  have hp := effO_le (c, x, m)
  have wd : IntKind.wrap .i64 (d - 1) = d - 1 := wrap64 (by omega) (by omega)
  have wv : IntKind.wrap .i64 (IntKind.wrap .i64 (d - (effO (c, x, m)).1) + (effO (c, x, m)).2) = nxt (c, x, m) d := by
    rw [wrap64 (n := d - (effO (c, x, m)).1) (by omega) (by omega), wrap64 (by omega) (by omega)]; rfl
  have wk1 : IntKind.wrap .i64 ((k : Int) + 1) = ((k + 1 : Nat) : Int) := by rw [wrap64 (by omega) (by omega)]; omega
  have sc1 : c = 7 ∨ c = 21 → succs (c, x, m) k = [] := fun h => by simp only [succs]; rw [if_pos (by omega)]
  have sc2 : c = 19 → succs (c, x, m) k = [x] := fun h => by simp only [succs]; rw [if_neg (by omega), if_pos (by omega)]
  have sc3 : c = 18 → succs (c, x, m) k = [((k + 1 : Nat) : Int), x] := fun h => by simp only [succs]; rw [if_neg (by omega), if_neg (by omega), if_pos (by omega)]
  have sc4 : c = 10 ∨ c = 11 → succs (c, x, m) k = [((k + 1 : Nat) : Int), m] := fun h => by simp only [succs]; rw [if_neg (by omega), if_neg (by omega), if_neg (by omega), if_pos (by omega)]
  have sc5 : c ≠ 7 → c ≠ 21 → c ≠ 19 → c ≠ 18 → c ≠ 10 → c ≠ 11 → succs (c, x, m) k = [((k + 1 : Nat) : Int)] := fun _ _ _ _ _ _ => by simp only [succs]; rw [if_neg (by omega), if_neg (by omega), if_neg (by omega), if_neg (by omega)]
  refine fn_isE (fn := Try.f78) rfl rfl rfl rfl ?_
  refine ⟨⟨by omega, by omega⟩, ?_⟩
  refine ⟨c, x, m, ⟨?_, rfl⟩, ?_⟩
  · show ((oc ops).drop (k * 3)).take 3 = _
    rw [hr]; rfl
  refine ⟨⟨by omega, by omega⟩, ?_⟩
  refine ⟨d, ⟨nums_get hd, rfl⟩, ?_⟩
  refine ⟨_, ret22 (eff_s (c, x, m)), ?_⟩
  have bad : badAt (c, x, m) d = true → oneF (c, x, m) k d (D, T, ok) = (D, T, false) := fun h => by simp only [oneF, h, if_true]
  refine ⟨fun hA => ?_, fun hA => ?_⟩
  · rw [wd] at hA
    rw [bad (by simp only [badAt, hA, Bool.true_or])]
    exact ⟨rfl, rfl⟩
  rw [wd] at hA
  refine ⟨fun h2 => ?_, fun h2 => ?_⟩
  · refine ⟨fun hx => ?_, fun hx => ?_⟩
    · rw [bad (by simp only [badAt, h2, hx, Bool.true_and, Bool.true_or, Bool.or_true])]
      exact ⟨rfl, rfl⟩
    refine ⟨fun h7 => ?_, fun h7 => ?_⟩
    · have e2 := eq_of_beq h2
      have e7 := eq_of_beq h7
      omega
    have hb : badAt (c, x, m) d = false := by simp only [badAt, hA, hx, h7, Bool.and_false, Bool.false_and, Bool.or_false]
    refine ⟨fun h => absurd (h7.symm.trans h) (by decide), fun _ => ?_⟩
    refine ⟨fun h21 => ?_, fun h21 => ?_⟩
    · rw [oneF_go hb (sc1 (.inr (eq_of_beq h21)))]; exact ⟨rfl, rfl⟩
    refine ⟨fun h19 => ?_, fun h19 => ?_⟩
    · have hq := hs x (by rw [sc2 (eq_of_beq h19)]; simp)
      obtain ⟨n, rfl⟩ := Int.eq_ofNat_of_zero_le hq.1
      refine ⟨_, _, by rw [nums_ups, nums_ups, wv]; exact goE (k := n) (w := (D, T, ok)) (by omega) hD (by simp only; omega), ?_⟩
      rw [oneF_go hb (sc2 (eq_of_beq h19))]; exact ⟨rfl, rfl⟩
    refine ⟨fun h18 => ?_, fun h18 => ?_⟩
    · have hq := hs x (by rw [sc3 (eq_of_beq h18)]; simp)
      obtain ⟨n, rfl⟩ := Int.eq_ofNat_of_zero_le hq.1
      refine ⟨_, _, by rw [nums_ups, nums_ups, wv]; exact goE (k := n) (w := (D, T, ok)) (by omega) hD (by simp only; omega), ?_⟩
      obtain ⟨l1, l2, l3⟩ := goF_len (k := n) (v := nxt (c, (n : Int), m) d) (D, T, ok)
      simp only at l1 l3
      refine ⟨_, _, by rw [nums_ups, nums_ups, wv, wk1]; exact goE (k := k + 1) (w := goF n (nxt (c, (n : Int), m) d) (D, T, ok)) (by omega) (by omega) (by omega), ?_⟩
      rw [oneF_go hb (sc3 (eq_of_beq h18))]; exact ⟨rfl, rfl⟩
    refine ⟨fun h10 => ?_, fun h10 => ?_⟩
    · have hq := hs m (by rw [sc4 (.inl (eq_of_beq h10))]; simp)
      obtain ⟨n, rfl⟩ := Int.eq_ofNat_of_zero_le hq.1
      refine ⟨_, _, by rw [nums_ups, nums_ups, wv]; exact goE (k := n) (w := (D, T, ok)) (by omega) hD (by simp only; omega), ?_⟩
      obtain ⟨l1, l2, l3⟩ := goF_len (k := n) (v := nxt (c, x, (n : Int)) d) (D, T, ok)
      simp only at l1 l3
      refine ⟨_, _, by rw [nums_ups, nums_ups, wv, wk1]; exact goE (k := k + 1) (w := goF n (nxt (c, x, (n : Int)) d) (D, T, ok)) (by omega) (by omega) (by omega), ?_⟩
      rw [oneF_go hb (sc4 (.inl (eq_of_beq h10)))]; exact ⟨rfl, rfl⟩
    refine ⟨fun h11 => ?_, fun h11 => ?_⟩
    · have hq := hs m (by rw [sc4 (.inr (eq_of_beq h11))]; simp)
      obtain ⟨n, rfl⟩ := Int.eq_ofNat_of_zero_le hq.1
      refine ⟨_, _, by rw [nums_ups, nums_ups, wv]; exact goE (k := n) (w := (D, T, ok)) (by omega) hD (by simp only; omega), ?_⟩
      obtain ⟨l1, l2, l3⟩ := goF_len (k := n) (v := nxt (c, x, (n : Int)) d) (D, T, ok)
      simp only at l1 l3
      refine ⟨_, _, by rw [nums_ups, nums_ups, wv, wk1]; exact goE (k := k + 1) (w := goF n (nxt (c, x, (n : Int)) d) (D, T, ok)) (by omega) (by omega) (by omega), ?_⟩
      rw [oneF_go hb (sc4 (.inr (eq_of_beq h11)))]; exact ⟨rfl, rfl⟩
    refine ⟨_, _, by rw [nums_ups, nums_ups, wv, wk1]; exact goE (k := k + 1) (w := (D, T, ok)) (by omega) hD (by simp only; omega), ?_⟩
    rw [oneF_go hb (sc5 (ne_of_beq_false h7) (ne_of_beq_false h21) (ne_of_beq_false h19) (ne_of_beq_false h18) (ne_of_beq_false h10) (ne_of_beq_false h11))]; exact ⟨rfl, rfl⟩
  refine ⟨fun h7 => ?_, fun h7 => ?_⟩
  · refine ⟨fun hd2 => ?_, fun hd2 => ?_⟩
    · rw [bad (by simp only [badAt, h7, hd2, Bool.true_and, Bool.or_true])]
      exact ⟨rfl, rfl⟩
    have hb : badAt (c, x, m) d = false := by simp only [badAt, hA, h2, hd2, Bool.and_false, Bool.false_and, Bool.or_false]
    rw [oneF_go hb (sc1 (.inl (eq_of_beq h7)))]
    exact ⟨fun _ => ⟨rfl, rfl⟩, fun h => absurd (h7.symm.trans h) (by decide)⟩
  have hb : badAt (c, x, m) d = false := by simp only [badAt, hA, h2, h7, Bool.false_and, Bool.or_false]
  refine ⟨fun h => absurd (h7.symm.trans h) (by decide), fun _ => ?_⟩
  refine ⟨fun h21 => ?_, fun h21 => ?_⟩
  · rw [oneF_go hb (sc1 (.inr (eq_of_beq h21)))]; exact ⟨rfl, rfl⟩
  refine ⟨fun h19 => ?_, fun h19 => ?_⟩
  · have hq := hs x (by rw [sc2 (eq_of_beq h19)]; simp)
    obtain ⟨n, rfl⟩ := Int.eq_ofNat_of_zero_le hq.1
    refine ⟨_, _, by rw [nums_ups, nums_ups, wv]; exact goE (k := n) (w := (D, T, ok)) (by omega) hD (by simp only; omega), ?_⟩
    rw [oneF_go hb (sc2 (eq_of_beq h19))]; exact ⟨rfl, rfl⟩
  refine ⟨fun h18 => ?_, fun h18 => ?_⟩
  · have hq := hs x (by rw [sc3 (eq_of_beq h18)]; simp)
    obtain ⟨n, rfl⟩ := Int.eq_ofNat_of_zero_le hq.1
    refine ⟨_, _, by rw [nums_ups, nums_ups, wv]; exact goE (k := n) (w := (D, T, ok)) (by omega) hD (by simp only; omega), ?_⟩
    obtain ⟨l1, l2, l3⟩ := goF_len (k := n) (v := nxt (c, (n : Int), m) d) (D, T, ok)
    simp only at l1 l3
    refine ⟨_, _, by rw [nums_ups, nums_ups, wv, wk1]; exact goE (k := k + 1) (w := goF n (nxt (c, (n : Int), m) d) (D, T, ok)) (by omega) (by omega) (by omega), ?_⟩
    rw [oneF_go hb (sc3 (eq_of_beq h18))]; exact ⟨rfl, rfl⟩
  refine ⟨fun h10 => ?_, fun h10 => ?_⟩
  · have hq := hs m (by rw [sc4 (.inl (eq_of_beq h10))]; simp)
    obtain ⟨n, rfl⟩ := Int.eq_ofNat_of_zero_le hq.1
    refine ⟨_, _, by rw [nums_ups, nums_ups, wv]; exact goE (k := n) (w := (D, T, ok)) (by omega) hD (by simp only; omega), ?_⟩
    obtain ⟨l1, l2, l3⟩ := goF_len (k := n) (v := nxt (c, x, (n : Int)) d) (D, T, ok)
    simp only at l1 l3
    refine ⟨_, _, by rw [nums_ups, nums_ups, wv, wk1]; exact goE (k := k + 1) (w := goF n (nxt (c, x, (n : Int)) d) (D, T, ok)) (by omega) (by omega) (by omega), ?_⟩
    rw [oneF_go hb (sc4 (.inl (eq_of_beq h10)))]; exact ⟨rfl, rfl⟩
  refine ⟨fun h11 => ?_, fun h11 => ?_⟩
  · have hq := hs m (by rw [sc4 (.inr (eq_of_beq h11))]; simp)
    obtain ⟨n, rfl⟩ := Int.eq_ofNat_of_zero_le hq.1
    refine ⟨_, _, by rw [nums_ups, nums_ups, wv]; exact goE (k := n) (w := (D, T, ok)) (by omega) hD (by simp only; omega), ?_⟩
    obtain ⟨l1, l2, l3⟩ := goF_len (k := n) (v := nxt (c, x, (n : Int)) d) (D, T, ok)
    simp only at l1 l3
    refine ⟨_, _, by rw [nums_ups, nums_ups, wv, wk1]; exact goE (k := k + 1) (w := goF n (nxt (c, x, (n : Int)) d) (D, T, ok)) (by omega) (by omega) (by omega), ?_⟩
    rw [oneF_go hb (sc4 (.inr (eq_of_beq h11)))]; exact ⟨rfl, rfl⟩
  refine ⟨_, _, by rw [nums_ups, nums_ups, wv, wk1]; exact goE (k := k + 1) (w := (D, T, ok)) (by omega) hD (by simp only; omega), ?_⟩
  rw [oneF_go hb (sc5 (ne_of_beq_false h7) (ne_of_beq_false h21) (ne_of_beq_false h19) (ne_of_beq_false h18) (ne_of_beq_false h10) (ne_of_beq_false h11))]; exact ⟨rfl, rfl⟩
end Go.Proofs.Ytlkjnlfddadlmaa.V

namespace Go.Proofs.Ytlkjnlfddadlmaa.V

def neg (d : Int) : Bool := decide (d < 0)
/-- How much is to do at most. -/
def todoN (w : Wk) : Nat := w.1.countP neg + w.2.1.length

theorem cnt_set : ∀ {D : List Int} {k : Nat} {v d : Int}, D[k]? = some d → d < 0 → 0 ≤ v → (D.set k v).countP neg + 1 = D.countP neg
  | [], k, v, d, h, _, _ => by simp at h
  | x :: D, 0, v, d, h, h1, h2 => by
    simp only [List.getElem?_cons_zero, Option.some.injEq] at h
    subst h
    have e1 : neg x = true := by simp only [neg, decide_eq_true_eq]; exact h1
    have e2 : neg v = false := by simp only [neg, decide_eq_false_iff_not]; omega
    simp only [List.set_cons_zero, List.countP_cons, e1, e2]
    simp
  | x :: D, k + 1, v, d, h, h1, h2 => by
    simp only [List.getElem?_cons_succ] at h
    have := cnt_set h h1 h2
    simp only [List.set_cons_succ, List.countP_cons]
    omega

theorem goF_inv {ops : List O3} {w : Wk} {P Q : Nat → Int → Prop} {k : Nat} {v : Int} (h : InvD ops w.1 w.2.1 P) (hok : w.2.2 = true) (hk : k < ops.length) (hv : 1 ≤ v) (hr : Rch ops k v) (hP : ∀ j u, P j u → Q j u ∨ (j = k ∧ u = v)) :
    ((goF k v w).2.2 = true ∧ InvD ops (goF k v w).1 (goF k v w).2.1 Q ∧ todoN (goF k v w) ≤ todoN w) ∨ ((goF k v w).2.2 = false ∧ BadD ops) := by
  obtain ⟨D, T, ok⟩ := w
  simp only at h hok
  subst hok
  have hl := h.1
  obtain ⟨d, hd⟩ : ∃ d, D[k]? = some d := ⟨_, List.getElem?_eq_getElem (show k < D.length by omega)⟩
  simp only [goF, hd]
  by_cases h60 : 60 < v
  · rw [if_pos (.inr h60)]
    exact .inr ⟨rfl, .inr (.inl ⟨k, v, hr, h60⟩)⟩
  rw [if_neg (by omega)]
  by_cases hn : d < 0
  · rw [if_pos hn]
    have hd1 : d = -1 := by
      rcases h.2.1 k d hd with e | e
      · exact e
      · omega
    subst hd1
    refine .inl ⟨rfl, inv_new h hd ⟨hv, by omega⟩ hr hP, ?_⟩
    have := cnt_set hd hn (show 0 ≤ v by omega)
    simp only [todoN, List.length_append, List.length_singleton]
    omega
  rw [if_neg hn]
  by_cases he : d = v
  · rw [if_pos he]
    subst he
    exact .inl ⟨rfl, inv_old h hd hP, Nat.le_refl _⟩
  · rw [if_neg he]
    refine .inr ⟨rfl, .inr (.inr ⟨k, d, v, ?_, hr, he⟩)⟩
    rcases h.2.1 k d hd with e | e
    · omega
    · exact e.2.2

theorem goF_false {k : Nat} {v : Int} : ∀ {w : Wk}, w.2.2 = false → (goF k v w).2.2 = false
  | (D, T, ok), h => by
    simp only at h
    subst h
    simp only [goF]
    repeat' split
    all_goals rfl

theorem fold_false {v : Int} : ∀ (L : List Int) {w : Wk}, w.2.2 = false → (L.foldl (fun w x => goF x.toNat v w) w).2.2 = false
  | [], w, h => h
  | x :: L, w, h => fold_false L (goF_false h)

theorem fold_inv {ops : List O3} {v : Int} (hv : 1 ≤ v) : ∀ (L : List Int) {w : Wk}, (∀ x ∈ L, 0 ≤ x ∧ x < ops.length ∧ Rch ops x.toNat v) → InvD ops w.1 w.2.1 (fun j u => (j : Int) ∈ L ∧ u = v) → w.2.2 = true →
    ((L.foldl (fun w x => goF x.toNat v w) w).2.2 = true ∧ InvD ops (L.foldl (fun w x => goF x.toNat v w) w).1 (L.foldl (fun w x => goF x.toNat v w) w).2.1 (fun _ _ => False) ∧ todoN (L.foldl (fun w x => goF x.toNat v w) w) ≤ todoN w) ∨
    ((L.foldl (fun w x => goF x.toNat v w) w).2.2 = false ∧ BadD ops)
  | [], w, _, h, hok => by
    refine .inl ⟨hok, ?_, Nat.le_refl _⟩
    obtain ⟨h1, h2, h3, h4, h5⟩ := h
    exact ⟨h1, h2, h3, h4, fun k d o a b c e => ⟨(h5 k d o a b c e).1, fun k' hk' => ((h5 k d o a b c e).2 k' hk').elim .inl fun f => by simp at f⟩⟩
  | x :: L, w, hL, h, hok => by
    obtain ⟨x0, xn, xr⟩ := hL x List.mem_cons_self
    have := goF_inv (Q := fun j u => (j : Int) ∈ L ∧ u = v) h hok (show x.toNat < ops.length by omega) hv xr (fun j u hj => by
      rcases List.mem_cons.1 hj.1 with e | e
      · right; exact ⟨by omega, hj.2⟩
      · exact .inl ⟨e, hj.2⟩)
    rcases this with ⟨a, b, c⟩ | ⟨a, b⟩
    · rcases fold_inv hv L (fun y hy => hL y (List.mem_cons_of_mem _ hy)) b a with ⟨a', b', c'⟩ | ⟨a', b'⟩
      · exact .inl ⟨a', b', Nat.le_trans c' c⟩
      · exact .inr ⟨a', b'⟩
    · exact .inr ⟨fold_false L a, b⟩

/-- Places that are right. -/
def WfO (ops : List O3) : Prop := 0 < ops.length ∧ ∀ k o, ops[k]? = some o → (0 ≤ (effO o).1 ∧ (effO o).1 ≤ 20) ∧ ∀ x ∈ succs o k, 0 ≤ x ∧ x < ops.length

/-- One round. -/
theorem oneF_inv {ops : List O3} (hw : WfO ops) {D : List Int} {T : List Nat} {k : Nat} (h : InvD ops D (T ++ [k]) fun _ _ => False) :
    ∃ d o, D[k]? = some d ∧ ops[k]? = some o ∧ (1 ≤ d ∧ d ≤ 60) ∧
      (((oneF o k d (D, T, true)).2.2 = true ∧ InvD ops (oneF o k d (D, T, true)).1 (oneF o k d (D, T, true)).2.1 (fun _ _ => False) ∧ todoN (oneF o k d (D, T, true)) < todoN (D, T ++ [k], true)) ∨
      ((oneF o k d (D, T, true)).2.2 = false ∧ BadD ops)) := by
  obtain ⟨d, hd, hd1⟩ := h.2.2.2.1 k (by simp)
  have hkl : k < ops.length := by have := (List.getElem?_eq_some_iff.1 hd).1; rw [h.1] at this; exact this
  obtain ⟨o, ho⟩ : ∃ o, ops[k]? = some o := ⟨_, List.getElem?_eq_getElem hkl⟩
  have hs : 1 ≤ d ∧ d ≤ 60 ∧ Rch ops k d := (h.2.1 k d hd).elim (fun e => (hd1 e).elim) id
  refine ⟨d, o, hd, ho, ⟨hs.1, hs.2.1⟩, ?_⟩
  cases hb : badAt o d with
  | true =>
    simp only [oneF, hb, if_true]
    exact .inr ⟨trivial, .inl ⟨k, d, o, hs.2.2, ho, hb⟩⟩
  | false =>
    rw [oneF_go hb rfl]
    have ht := inv_take (rest := T) h (fun j => by simp) hd ho hb
    have := fold_inv (ops := ops) (nxt_pos hb) (succs o k).reverse (w := (D, T, true)) (fun x hx => by
      have hx := List.mem_reverse.1 hx
      obtain ⟨a, b⟩ := (hw.2 k o ho).2 x hx
      exact ⟨a, b, Rch.step hs.2.2 ho hb (by rw [Int.toNat_of_nonneg a]; exact hx)⟩) (by
      obtain ⟨h1, h2, h3, h4, h5⟩ := ht
      exact ⟨h1, h2, h3, h4, fun j d o a b c e => ⟨(h5 j d o a b c e).1, fun k' hk' => ((h5 j d o a b c e).2 k' hk').imp id fun f => ⟨List.mem_reverse.2 f.1, f.2⟩⟩⟩) rfl
    rcases this with ⟨a, b, c⟩ | h
    · refine .inl ⟨a, b, Nat.lt_of_le_of_lt c ?_⟩
      simp only [todoN, List.length_append, List.length_singleton]
      omega
    · exact .inr h
end Go.Proofs.Ytlkjnlfddadlmaa.V

namespace Go.Proofs.Ytlkjnlfddadlmaa.V
set_option maxRecDepth 100000

/-- How many there are at each place, if that is right. -/
noncomputable def dpF (fs : List FN) (i : Int) : Option (List Int) :=
  if okFuns fs = true ∧ 0 ≤ i then (match fs[i.toNat]? with | some f => dpOf f.2 | none => none) else none
abbrev dpX : Option (List Int) → XU
  | some D => .tup [xl 0 1 D.length (nums D), xb true]
  | none => .tup [xl 0 1 0 [], xb false]

theorem okFns_at : ∀ {fs : List FN} {l : List FN} {i j : Nat} {f : FN}, okFns fs i l = true → l[j]? = some f → okFn fs (i + j) f = true
  | fs, [], i, j, f, h, hj => by simp at hj
  | fs, x :: l, i, 0, f, h, hj => by
    simp only [List.getElem?_cons_zero, Option.some.injEq] at hj
    subst hj
    simp only [okFns, Bool.and_eq_true] at h
    exact h.1
  | fs, x :: l, i, j + 1, f, h, hj => by
    simp only [List.getElem?_cons_succ] at hj
    simp only [okFns, Bool.and_eq_true] at h
    have := okFns_at h.2 hj
    rwa [show i + 1 + j = i + (j + 1) by omega] at this

theorem wfO_of {fs : List FN} {i : Nat} {f : FN} (h : okFuns fs = true) (hi : fs[i]? = some f) : WfO f.2 := by
  simp only [okFuns, Bool.and_eq_true] at h
  have hf := okFns_at h.2 hi
  simp only [Nat.zero_add, okFn, Bool.and_eq_true, List.all_eq_true] at hf
  obtain ⟨⟨⟨h1, h2⟩, h3⟩, h4⟩ := hf
  simp only [wit, Bool.and_eq_true, decide_eq_true_eq] at h1 h2
  have hn : 0 < f.2.length := by omega
  refine ⟨hn, fun k o ho => ?_⟩
  have hk : k < f.2.length := (List.getElem?_eq_some_iff.1 ho).1
  have h5 := h3 o (List.mem_of_getElem? ho)
  have hlast : o.1 ≠ 7 → o.1 ≠ 19 → o.1 ≠ 21 → k + 1 < f.2.length := fun a b c => by
    rcases Nat.lt_or_ge (k + 1) f.2.length with h | h
    · exact h
    · have : f.2.length - 1 = k := by omega
      simp only [lastO, this, ho, Bool.or_eq_true, beq_iff_eq] at h4
      omega
  have hfr : ∀ x, x ∈ fs → 0 ≤ x.1 ∧ x.1 ≤ 20 := fun x hx => by
    obtain ⟨j, hj⟩ := List.getElem?_of_mem hx
    have := okFns_at h.2 hj
    simp only [Nat.zero_add, okFn, Bool.and_eq_true, wit, decide_eq_true_eq] at this
    omega
  obtain ⟨c, x, m⟩ := o
  simp only at hlast
  refine ⟨?_, ?_⟩
  · by_cases c5 : c = 5
    · subst c5
      have e : (effO ((5 : Int), x, m)).1 = m := by simp [effO]
      simp [okOp, wit] at h5
      rw [e, h5.2]
      simp only [frA]
      split
      · next f' hf' => exact hfr f' (List.mem_of_getElem? hf')
      · omega
    by_cases c8 : c = 8
    · subst c8
      have e : (effO ((8 : Int), x, m)).1 = m := by simp [effO]
      simp [okOp, wit] at h5
      rw [e]
      omega
    simp only [effO, if_neg (show ¬ (c = 5 ∨ c = 8) by omega)]
    repeat' split
    all_goals simp
  · intro y hy
    simp only [succs] at hy
    split at hy
    · simp at hy
    next n1 =>
    split at hy
    · next c19 =>
      simp only [List.mem_singleton] at hy
      subst hy; subst c19
      simp [okOp, wit] at h5
      omega
    next n2 =>
    have hk1 := hlast (by omega) n2 (by omega)
    split at hy
    · next c18 =>
      subst c18
      simp [okOp, wit] at h5
      simp only [List.mem_cons, List.not_mem_nil, or_false] at hy
      omega
    next n3 =>
    split at hy
    · next c10 =>
      have h6 : wit m 0 ((f.2.length : Int) - 1) = true := by
        rcases c10 with rfl | rfl
        · simp [okOp, wit] at h5
          simp only [wit, Bool.and_eq_true, decide_eq_true_eq]; omega
        · simp [okOp, wit] at h5
          simp only [wit, Bool.and_eq_true, decide_eq_true_eq]; omega
      simp only [Bool.and_eq_true, wit, decide_eq_true_eq] at h6
      simp only [List.mem_cons, List.not_mem_nil, or_false] at hy
      omega
    · simp only [List.mem_singleton] at hy
      omega

theorem lfill {fs : List FN} {cs : List TU} {g i g' : Nat} {f : FN} {r : List TU} {K : Ex → StA → Prop} (hil : i < fs.length) (hf : f.2.length ≤ 1048576) (e1 : cs.drop (i * 2) = .int .i64 f.1 :: .sl () (g' + 1) 3 f.2.length (oc f.2) :: r) :
    ∀ (m k : Nat), k + m = f.2.length →
    (∀ jk k, K (.exit 0) ⟨[(7, xi k), (6, .c (.ptr () (.sl 22) [] 0)), (22, .box () (wk (List.replicate f.2.length (-1)) [] true)), (0, xl (g + 1) 2 fs.length cs), (1, xi i), (4, xl 0 1 0 []), (5, xb false)], jk, []⟩) →
    ∀ jk, sem cx0 44 RT (.loop (lp Try.f44 0)) ⟨[(7, xi k), (6, .c (.ptr () (.sl 22) [] 0)), (22, .box () (wk (List.replicate k (-1)) [] true)), (0, xl (g + 1) 2 fs.length cs), (1, xi i), (4, xl 0 1 0 []), (5, xb false)], jk, []⟩ K := by
  intro m
  induction m with
  | zero =>
    intro k hk k1 jk
    refine loop_step cx0 _ RT [7, 6, 22, 0, 1, 4, 5] ?_
    refine ⟨⟨by omega, by omega⟩, ?_⟩
    refine ⟨?_, ?_⟩
    · show 1 ≤ (cs.drop (i * 2)).length
      rw [e1]; simp
    refine ⟨g' + 1, f.2.length, oc f.2, ⟨?_, rfl⟩, ?_⟩
    · show ((cs.drop (i * 2)).drop 1).take 1 = _
      rw [e1]; rfl
    refine ⟨fun h => (lt_no h (by omega)).elim, fun h => ?_⟩
    intro jk
    have := k1 jk k
    rw [show k = f.2.length by omega]
    rw [show k = f.2.length by omega] at this
    exact this
  | succ m ih =>
    intro k hk k1 jk
    refine loop_step cx0 _ RT [7, 6, 22, 0, 1, 4, 5] ?_
    refine ⟨⟨by omega, by omega⟩, ?_⟩
    refine ⟨?_, ?_⟩
    · show 1 ≤ (cs.drop (i * 2)).length
      rw [e1]; simp
    refine ⟨g' + 1, f.2.length, oc f.2, ⟨?_, rfl⟩, ?_⟩
    · show ((cs.drop (i * 2)).drop 1).take 1 = _
      rw [e1]; rfl
    refine ⟨fun h => ?_, fun h => (lt_yes h (by omega)).elim⟩
    refine ⟨by rw [nums_len]; omega, ?_⟩
    refine ⟨⟨by rw [List.length_replicate]; simp only [maxLen]; omega, by rw [List.length_replicate]; show (k + 1) * 8 ≤ _; omega⟩, ?_⟩
    have e2 : ((nums (List.replicate k (-1))).drop 0).take ((List.replicate k (-1 : Int)).length * 1) ++ [.int .i64 (-1)] = nums (List.replicate (k + 1) (-1)) := by
      rw [List.drop_zero, List.take_of_length_le (by rw [nums_len]; omega), List.replicate_succ', nums_append]; rfl
    intro jk
    have ih := ih (k + 1) (by omega) k1 jk
    simp only [wk, List.length_replicate] at ih e2 ⊢
    rw [← e2] at ih
    rw [wrapS (show k < f.2.length by omega) (by simp only [maxLen]; omega)]
    exact ih
end Go.Proofs.Ytlkjnlfddadlmaa.V

namespace Go.Proofs.Ytlkjnlfddadlmaa.V
set_option maxRecDepth 100000

abbrev stD (N i g : Nat) (cs : List TU) (D : List Int) (T : List Nat) (ok : Bool) (jk : Nat → XU) : StA :=
  ⟨[(6, .c (.ptr () (.sl 22) [] 0)), (22, .box () (wk D T ok)), (0, xl (g + 1) 2 N cs), (1, xi i), (4, xl 0 1 0 []), (5, xb false)], jk, []⟩

theorem oneE {ops : List O3} {g k : Nat} {o : O3} {d : Int} {D : List Int} {T : List Nat} {ok : Bool} (hn : ops.length ≤ 1048574) (ho : ops[k]? = some o) (hd : D[k]? = some d) (hD : D.length ≤ 1048576) (hT : T.length ≤ 1048000)
    (he : 0 ≤ (effO o).1 ∧ (effO o).1 ≤ 20) (h1 : 1 ≤ d ∧ d ≤ 60) (hs : ∀ x ∈ succs o k, 0 ≤ x ∧ x ≤ 1048576) :
    RetE RT 78 [.c (.ptr () (.ex 0) [] 0), xl (g + 1) 3 ops.length (oc ops), xi k] [wk D T ok] (.tup []) [wk (oneF o k d (D, T, ok)).1 (oneF o k d (D, T, ok)).2.1 (oneF o k d (D, T, ok)).2.2] := by
  refine ⟨_, one_s hn ho hd hD hT he h1 hs, rfl, ?_⟩
  simp only [List.mapM_cons, List.mapM_nil, downCs, downC, down, nums_down, Option.map_some, Option.bind_some]
  rfl

theorem nums_flat : ∀ l : List Int, (nums l).all flatT = true
  | [] => rfl
  | o :: l => by simp only [nums, List.all_cons, nums_flat l]; rfl

set_option maxHeartbeats 4000000 in
theorem lmain {fs : List FN} {cs : List TU} {g i g' : Nat} {f : FN} {r : List TU} {K : Ex → StA → Prop} (hil : i < fs.length) (hn : fs.length ≤ 1048576) (hf : f.2.length ≤ 3000) (hw : WfO f.2) (e1 : cs.drop (i * 2) = .int .i64 f.1 :: .sl () (g' + 1) 3 f.2.length (oc f.2) :: r)
    (k1 : ∀ jk D, GoodD f.2 D → K (.exit 2) (stD fs.length i g cs D [] true jk))
    (k2 : BadD f.2 → ∀ jk D T, K (.exit 2) (stD fs.length i g cs D T false jk)) :
    ∀ (N : Nat) (D : List Int) (T : List Nat) (ok : Bool), N ≤ 6000 → ((ok = true ∧ InvD f.2 D T (fun _ _ => False) ∧ todoN (D, T, true) ≤ N) ∨ (ok = false ∧ BadD f.2)) →
    ∀ jk, sem cx0 44 RT (.loop (lp Try.f44 1)) (stD fs.length i g cs D T ok jk) K := by
  intro N
  induction N with
  | zero =>
    intro D T ok hN h jk
    rcases h with ⟨rfl, hi, hN2⟩ | ⟨rfl, hb⟩
    · obtain rfl : T = [] := by
        simp only [todoN] at hN2
        exact List.length_eq_zero_iff.1 (by omega)
      refine loop_step cx0 _ RT [6, 22, 0, 1, 4, 5] ⟨fun _ => ?_, (fun h => by cases h)⟩
      refine ⟨fun h => by simp at h, fun h => ?_⟩
      exact fun jk => k1 jk _ (inv_good hi)
    · refine loop_step cx0 _ RT [6, 22, 0, 1, 4, 5] ⟨(fun h => by cases h), fun _ => ?_⟩
      exact fun jk => k2 hb jk _ _
  | succ N ih =>
    intro D T ok hN h jk
    rcases h with ⟨rfl, hi, hN2⟩ | ⟨rfl, hb⟩
    · rcases List.eq_nil_or_concat T with rfl | ⟨T, k, rfl⟩
      · refine loop_step cx0 _ RT [6, 22, 0, 1, 4, 5] ⟨fun _ => ?_, (fun h => by cases h)⟩
        refine ⟨fun h => by simp at h, fun h => ?_⟩
        exact fun jk => k1 jk _ (inv_good hi)
      · rw [List.concat_eq_append] at *
        obtain ⟨d, o, hd, ho, hd1, hone⟩ := oneF_inv hw hi
        have hTl : T.length ≤ 6000 := by simp only [todoN, List.length_append, List.length_singleton] at hN2; omega
        have wl : IntKind.wrap .i64 (((T ++ [k]).length : Int) - 1) = (T.length : Int) := by
          rw [List.length_append, List.length_singleton, wrap64 (by omega) (by omega)]; omega
        refine loop_step cx0 _ RT [6, 22, 0, 1, 4, 5] ⟨fun _ => ?_, (fun h => by cases h)⟩
        refine ⟨fun h => ?_, fun h => (by simp at h)⟩
        refine ⟨by rw [wl]; simp only [List.length_append, List.length_singleton]; exact ⟨by omega, by omega⟩, ?_⟩
        refine ⟨(k : Int), ⟨?_, rfl⟩, ?_⟩
        · rw [wl]
          exact nums_get (by simp [ni])
        refine ⟨by rw [wl]; simp only [List.length_append, List.length_singleton]; exact ⟨by omega, by omega, by omega⟩, ?_⟩
        have wt : (IntKind.wrap .i64 (((T ++ [k]).length : Int) - 1) - 0).toNat = T.length := by rw [wl]; omega
        have et : List.take (T.length * 1) (List.drop (0 + Int.toNat 0 * 1) (nums (ni (T ++ [k])))) = nums (ni T) := by
          rw [show ni (T ++ [k]) = ni T ++ [(k : Int)] by simp [ni], nums_append, show (0 + Int.toNat 0 * 1) = 0 from rfl, List.drop_zero, Nat.mul_one]
          rw [List.take_append_of_le_length (by rw [nums_len, List.length_map]; omega), List.take_of_length_le (by rw [nums_len, List.length_map]; omega)]
        refine ⟨by rw [wt, nums_len]; simp [ni], ?_⟩
        rw [wt, et]
        refine ⟨nums_flat _, ?_⟩
        refine ⟨⟨by simp only [maxLen]; omega, by show (0 + T.length) * 8 ≤ _; omega⟩, ?_⟩
        refine ⟨⟨by omega, by omega⟩, ?_⟩
        refine ⟨?_, ?_⟩
        · show 1 ≤ (cs.drop (i * 2)).length
          rw [e1]; simp
        refine ⟨g' + 1, f.2.length, oc f.2, ⟨?_, rfl⟩, ?_⟩
        · show ((cs.drop (i * 2)).drop 1).take 1 = _
          rw [e1]; rfl
        have hDl := hi.1
        have hwo := hw.2 k o ho
        refine ⟨_, _, by rw [oc_retag, nums_ups, List.nil_append, nums_ups, Nat.zero_add T.length]; exact oneE (T := T) (ok := true) (by omega) ho hd (by omega) (by omega) hwo.1 hd1 (fun x hx => by have := hwo.2 x hx; omega), ?_⟩
        intro jk
        refine ih _ _ _ (by omega) ?_ jk
        rcases hone with ⟨a, b, c⟩ | ⟨a, b⟩
        · exact .inl ⟨a, b, by have : todoN ((oneF o k d (D, T, true)).1, (oneF o k d (D, T, true)).2.1, true) = todoN (oneF o k d (D, T, true)) := rfl
                               omega⟩
        · exact .inr ⟨a, b⟩
    · refine loop_step cx0 _ RT [6, 22, 0, 1, 4, 5] ⟨(fun h => by cases h), fun _ => ?_⟩
      exact fun jk => k2 hb jk _ _
end Go.Proofs.Ytlkjnlfddadlmaa.V

namespace Go.Proofs.Ytlkjnlfddadlmaa.V
set_option maxRecDepth 100000

theorem dpF_no {fs : List FN} {i : Int} (h : ¬ (okFuns fs = true ∧ 0 ≤ i ∧ i ≤ (fs.length : Int) - 1)) : dpF fs i = none := by
  simp only [dpF]
  split
  · next h2 =>
    have h3 : ¬ (i ≤ (fs.length : Int) - 1) := fun h3 => h ⟨h2.1, h2.2, h3⟩
    have h4 := h2.2
    rw [List.getElem?_eq_none (by omega)]
  · rfl
theorem dpF_at {fs : List FN} {k : Nat} {f : FN} (h : okFuns fs = true) (hi : fs[k]? = some f) : dpF fs (k : Int) = dpOf f.2 := by
  simp only [dpF, h, true_and, Int.toNat_natCast, hi]
  rw [if_pos (by omega)]
theorem len_of_ok {fs : List FN} {k : Nat} {f : FN} (h : okFuns fs = true) (hi : fs[k]? = some f) : f.2.length ≤ 3000 ∧ fs.length ≤ 60 := by
  simp only [okFuns, Bool.and_eq_true] at h
  have hf := okFns_at h.2 hi
  simp only [okFn, Bool.and_eq_true, wit, decide_eq_true_eq] at hf h
  omega

theorem go0 {n : Nat} (hn : 0 < n) : goF 0 1 (List.replicate n (-1), [], true) = ((List.replicate n (-1)).set 0 1, [0], true) := by
  have h0 : (List.replicate n (-1 : Int))[0]? = some (-1) := by rw [List.getElem?_replicate, if_pos hn]
  simp only [goF, h0, List.length_replicate]
  rw [if_neg (by omega), if_pos (by omega)]; rfl

set_option maxHeartbeats 4000000 in
theorem dep_s {fs : List FN} {cs : List TU} {g : Nat} {i : Int} (hw : Wl fs) (hr : Rf fs cs) (hz : szFs fs ≤ 1048576) : RT 44 [xl (g + 1) 2 fs.length cs, xi i] [] = some (dpX (dpF fs i), []) := by
  have hz' := hz
  simp only [szFs] at hz'
  have wl : IntKind.wrap .i64 ((fs.length : Int) - 1) = (fs.length : Int) - 1 := wrap64 (by omega) (by omega)
  refine fn_is (fn := Try.f44) rfl rfl rfl rfl ?_
  refine ⟨_, retB (oks (g := g + 1) hw hr.retag hz), ?_⟩
  refine ⟨fun h => ?_, fun h => ?_⟩
  · rw [dpF_no (fun hh => by rw [hh.1] at h; cases h)]
    exact ⟨Nat.le_refl _, rfl, rfl⟩
  have hok : okFuns fs = true := by simpa using h
  refine ⟨_, retB (by rw [wl]; exact in50 i 0 ((fs.length : Int) - 1)), ?_⟩
  refine ⟨fun h => ?_, fun h => ?_⟩
  · have := wit1 h
    rw [dpF_no (fun hh => by simp only [wit, Bool.and_eq_false_iff, decide_eq_false_iff_not] at this; omega)]
    exact ⟨Nat.le_refl _, rfl, rfl⟩
  obtain ⟨i0, i1, _⟩ := wit2 h
  obtain ⟨k, rfl⟩ := Int.eq_ofNat_of_zero_le i0
  have hil : k < fs.length := by omega
  obtain ⟨f, hi⟩ : ∃ f, fs[k]? = some f := ⟨_, List.getElem?_eq_getElem hil⟩
  obtain ⟨hf3, _⟩ := len_of_ok hok hi
  obtain ⟨g', r, e1⟩ := Rf_at hr hi
  have hwf := wfO_of hok hi
  rw [dpF_at hok hi]
  refine sem_in cx0 _ RT [7, 6, 22, 0, 1, 4, 5] fun jk => ?_
  refine lfill hil (by omega) e1 f.2.length 0 (by omega) (fun jk j => ?_) jk
  refine ⟨_, _, by rw [nums_ups]; exact goE (k := 0) (v := 1) (w := (List.replicate f.2.length (-1), [], true)) (by omega) (by simp; omega) (by simp), ?_⟩
  rw [go0 hwf.1]
  refine sem_in cx0 _ RT [6, 22, 0, 1, 4, 5] fun jk => ?_
  refine lmain hil (by omega) hf3 hwf e1 (fun jk D hD => ?_) (fun hb jk D T => ?_) 6000 _ _ _ (by omega) (.inl ⟨rfl, inv_start hwf.1, ?_⟩) jk
  · rw [dpOf_good hD]
    refine ⟨(fun h => by cases h), fun _ => ?_⟩
    refine ⟨by rw [nums_len]; omega, ?_⟩
    refine ⟨?_, rfl⟩
    exact congrArg (fun x => X.tup [xl 0 1 D.length x, xb true]) (nums_whole D).symm
  · rw [dpOf_bad hb]
    exact ⟨fun _ => ⟨Nat.le_refl _, rfl, rfl⟩, (fun h => by cases h)⟩
  · simp only [todoN]
    have := List.countP_le_length (p := neg) (l := (List.replicate f.2.length (-1 : Int)).set 0 1)
    simp only [List.length_set, List.length_replicate] at this
    simp only [List.length_singleton]
    omega

theorem retDp {g : Nat} {xs : List XU} {o : Option (List Int)} (h : RT g xs [] = some (dpX o, [])) : Ret RT g xs (dpX o) := by
  refine ⟨_, h, ?_⟩
  cases o with
  | none => rfl
  | some D => simp only [dpX, downX, downXs, downC, down, nums_down, Option.map_some]; rfl
end Go.Proofs.Ytlkjnlfddadlmaa.V

namespace Go.Proofs.Ytlkjnlfddadlmaa.V
set_option maxRecDepth 100000

theorem fill_set {n k : Nat} (h : k < n) : (List.replicate k (-1 : Int) ++ List.replicate (n - k) 0).set k (-1) = List.replicate (k + 1) (-1) ++ List.replicate (n - (k + 1)) 0 := by
  rw [show n - k = (n - (k + 1)) + 1 by omega, List.replicate_succ, List.set_append_right _ _ (by simp)]
  simp only [List.length_replicate, Nat.sub_self, List.set_cons_zero, List.replicate_succ', List.append_assoc, List.singleton_append]

theorem lfillI {n g' : Nat} {ops : List O3} {K : Ex → StA → Prop} (hn : n ≤ 1048576) :
    ∀ (m k : Nat), k + m = n →
    (∀ jk k, K (.exit 0) ⟨[(39, xi k), (38, xi n), (7, xl 0 1 n (nums (List.replicate n (-1)))), (6, xl (g' + 1) 3 ops.length (oc ops)), (4, xl 0 1 0 []), (5, xb false)], jk, []⟩) →
    ∀ jk, sem cx0 47 RT (.loop (lp Try.f47 0)) ⟨[(39, xi k), (38, xi n), (7, xl 0 1 n (nums (List.replicate k (-1) ++ List.replicate (n - k) 0))), (6, xl (g' + 1) 3 ops.length (oc ops)), (4, xl 0 1 0 []), (5, xb false)], jk, []⟩ K := by
  intro m
  induction m with
  | zero =>
    intro k hk k1 jk
    refine loop_step cx0 _ RT [39, 38, 7, 6, 4, 5] ⟨fun h => (lt_no h (by omega)).elim, fun h => ?_⟩
    intro jk
    have := k1 jk k
    rw [show k = n by omega] at this ⊢
    rw [Nat.sub_self, List.replicate_zero, List.append_nil]
    exact this
  | succ m ih =>
    intro k hk k1 jk
    refine loop_step cx0 _ RT [39, 38, 7, 6, 4, 5] ⟨fun h => ?_, fun h => (lt_yes h (by omega)).elim⟩
    refine ⟨⟨by omega, by omega⟩, ?_⟩
    refine ⟨by rw [nums_len]; simp only [List.length_append, List.length_replicate]; show 0 + k * 1 + 1 ≤ _; omega, ?_⟩
    have ih := ih (k + 1) (by omega) k1
    rw [← fill_set (show k < n by omega)] at ih
    rw [nums_put (by simp; omega)]
    intro jk jk
    rw [wrapS (show k < n by omega) (by simp only [maxLen]; omega)]
    exact ih jk

abbrev stE (n g' : Nat) (ops : List O3) (D : List Int) (T : List Nat) (jk : Nat → XU) : StA :=
  ⟨[(9, xl 0 1 T.length (nums (ni T))), (7, xl 0 1 D.length (nums D)), (6, xl (g' + 1) 3 n (oc ops)), (4, xl 0 1 0 []), (5, xb false)], jk, []⟩

abbrev stN (n g' j : Nat) (ops : List O3) (L : List Int) (v : Int) (D : List Int) (T : List Nat) (jk : Nat → XU) : StA :=
  ⟨[(111, xi j), (110, xi L.length), (109, xl 0 1 L.length (nums L)), (15, xi v), (9, xl 0 1 T.length (nums (ni T))), (7, xl 0 1 D.length (nums D)), (6, xl (g' + 1) 3 n (oc ops)), (4, xl 0 1 0 []), (5, xb false)], jk, []⟩

theorem linnI {ops : List O3} {g' M : Nat} {L : List Int} {v : Int} {K : Ex → StA → Prop} (hf : ops.length ≤ 3000) (hM : M ≤ 6000) (hL : L.length ≤ 2) (hv : 1 ≤ v ∧ v ≤ 60)
    (k1 : ∀ jk D T j, InvD ops D T (fun _ _ => False) → todoN (D, T, true) ≤ M → K (.exit 4) (stN ops.length g' j ops L v D T jk))
    (k2 : BadD ops → ∀ jk D T j, K .ret (stN ops.length g' j ops L v D T jk)) :
    ∀ (l : List Int) (j : Nat), L.drop j = l → j ≤ L.length → ∀ (D : List Int) (T : List Nat), (∀ x ∈ l, 0 ≤ x ∧ x < ops.length ∧ Rch ops x.toNat v) → InvD ops D T (fun q u => (q : Int) ∈ l ∧ u = v) → todoN (D, T, true) ≤ M →
    ∀ jk, sem cx0 47 RT (.loop (lp Try.f47 2)) (stN ops.length g' j ops L v D T jk) K := by
  refine drop_ind ?_ ?_
  · intro D T _ hi hN jk
    refine loop_step cx0 _ RT [111, 110, 109, 15, 9, 7, 6, 4, 5] ⟨fun h => (lt_no h (by omega)).elim, fun h => ?_⟩
    refine fun jk => k1 jk _ _ _ ?_ hN
    obtain ⟨h1, h2, h3, h4, h5⟩ := hi
    exact ⟨h1, h2, h3, h4, fun k d o a b c e => ⟨(h5 k d o a b c e).1, fun k' hk' => ((h5 k d o a b c e).2 k' hk').elim .inl fun f => by simp at f⟩⟩
  · intro j x l hx hj ih D T hl hi hN jk
    obtain ⟨x0, xn, xr⟩ := hl x List.mem_cons_self
    obtain ⟨q, rfl⟩ := Int.eq_ofNat_of_zero_le x0
    have hDl := hi.1
    have hqD : q < D.length := by omega
    obtain ⟨d, hd⟩ : ∃ d, D[q]? = some d := ⟨_, List.getElem?_eq_getElem hqD⟩
    have hTl : T.length ≤ M := by simp only [todoN] at hN; omega
    have hg := goF_inv (w := (D, T, true)) (Q := fun q u => (q : Int) ∈ l ∧ u = v) hi rfl (show q < ops.length by omega) hv.1 xr (fun a u ha => by
      rcases List.mem_cons.1 ha.1 with e | e
      · right; exact ⟨by omega, ha.2⟩
      · exact .inl ⟨e, ha.2⟩)
    have hs := hi.2.1 q d hd
    have ws := wrapS hj (show L.length ≤ maxLen by simp only [maxLen]; omega)
    refine loop_step cx0 _ RT [111, 110, 109, 15, 9, 7, 6, 4, 5] ⟨fun h => ?_, fun h => (lt_yes h (by omega)).elim⟩
    refine ⟨⟨by omega, by omega⟩, ?_⟩
    refine ⟨(q : Int), ⟨nums_get hx, rfl⟩, ?_⟩
    refine ⟨⟨by omega, by omega⟩, ?_⟩
    refine ⟨d, ⟨nums_get hd, rfl⟩, ?_⟩
    refine ⟨fun h1 => ?_, fun h1 => ?_⟩
    · have e1 : d = -1 := by simpa using h1
      have e : goF q v (D, T, true) = (D.set q v, T ++ [q], true) := by simp only [goF, hd]; rw [if_neg (by omega), if_pos (by omega)]
      rw [e] at hg
      refine ⟨⟨by omega, by omega⟩, ?_⟩
      refine ⟨by rw [nums_len]; show 0 + q * 1 + 1 ≤ _; omega, ?_⟩
      rw [nums_put hqD]
      intro jk
      refine ⟨by rw [nums_len, List.length_map]; omega, ?_⟩
      refine ⟨⟨by simp only [maxLen]; omega, by show (T.length + 1) * 8 ≤ _; omega⟩, ?_⟩
      intro jk
      rcases hg with ⟨_, b, c⟩ | ⟨a, _⟩
      · have ih := ih _ _ (fun y hy => hl y (List.mem_cons_of_mem _ hy)) b (Nat.le_trans c hN) jk
        have e2 : ((nums (ni T)).drop 0).take (T.length * 1) ++ [.int .i64 (q : Int)] = nums (ni (T ++ [q])) := by
          rw [List.drop_zero, List.take_of_length_le (by rw [nums_len, List.length_map]; omega), show ni (T ++ [q]) = ni T ++ [(q : Int)] by simp [ni], nums_append]; rfl
        rw [ws]
        simp only [stN, List.length_set, List.length_append, List.length_singleton, ← e2] at ih
        exact ih
      · cases a
    · have e1 : d ≠ -1 := by simpa using h1
      have hd0 : 1 ≤ d := by rcases hs with e | e <;> omega
      refine ⟨⟨by omega, by omega⟩, ?_⟩
      refine ⟨d, ⟨nums_get hd, rfl⟩, ?_⟩
      refine ⟨fun h2 => ?_, fun h2 => ?_⟩
      · have h2 : d ≠ v := by simpa using h2
        have e : goF q v (D, T, true) = (D, T, false) := by simp only [goF, hd]; rw [if_neg (by omega), if_neg (by omega), if_neg h2]
        rw [e] at hg
        rcases hg with ⟨a, _⟩ | ⟨_, b⟩
        · cases a
        · exact fun jk => k2 b jk _ _ _
      · have h2 : d = v := by simpa using h2
        have e : goF q v (D, T, true) = (D, T, true) := by simp only [goF, hd]; rw [if_neg (by omega), if_neg (by omega), if_pos h2]
        rw [e] at hg
        rcases hg with ⟨_, b, c⟩ | ⟨a, _⟩
        · intro jk
          rw [ws]
          exact ih _ _ (fun y hy => hl y (List.mem_cons_of_mem _ hy)) b hN jk
        · cases a

theorem succs_len (o : O3) (k : Nat) : (succs o k).length ≤ 2 := by
  simp only [succs]
  repeat' split
  all_goals simp
theorem nxt_big {ops : List O3} {o : O3} {k : Nat} {d : Int} (hb : badAt o d = false) (hd : d ≤ 60) (h : 60 < nxt o d) (hs : ∀ x ∈ succs o k, 0 ≤ x ∧ x < ops.length ∧ Rch ops x.toNat (nxt o d)) : BadD ops := by
  cases hl : succs o k with
  | cons x l => exact .inr (.inl ⟨x.toNat, _, (hs x (by rw [hl]; simp)).2.2, h⟩)
  | nil =>
    exfalso
    obtain ⟨c, x, m⟩ := o
    have hc : c = 7 ∨ c = 21 := by
      simp only [succs] at hl
      split at hl
      · next h => exact h
      · repeat' split at hl
        all_goals simp at hl
    rcases hc with rfl | rfl
    · simp [nxt, effO] at h; omega
    · simp [nxt, effO] at h; omega
theorem step_inv {ops : List O3} (hw : WfO ops) {D : List Int} {T : List Nat} {k : Nat} (h : InvD ops D (T ++ [k]) fun _ _ => False) :
    ∃ d o, D[k]? = some d ∧ ops[k]? = some o ∧ (1 ≤ d ∧ d ≤ 60) ∧ (badAt o d = false → InvD ops D T (fun j u => (j : Int) ∈ succs o k ∧ u = nxt o d) ∧ ∀ x ∈ succs o k, 0 ≤ x ∧ x < ops.length ∧ Rch ops x.toNat (nxt o d)) ∧ (badAt o d = true → BadD ops) := by
  obtain ⟨d, hd, hd1⟩ := h.2.2.2.1 k (by simp)
  have hkl : k < ops.length := by have := (List.getElem?_eq_some_iff.1 hd).1; rw [h.1] at this; exact this
  obtain ⟨o, ho⟩ : ∃ o, ops[k]? = some o := ⟨_, List.getElem?_eq_getElem hkl⟩
  have hs : 1 ≤ d ∧ d ≤ 60 ∧ Rch ops k d := (h.2.1 k d hd).elim (fun e => (hd1 e).elim) id
  refine ⟨d, o, hd, ho, ⟨hs.1, hs.2.1⟩, fun hb => ⟨inv_take (rest := T) h (fun j => by simp) hd ho hb, fun x hx => ?_⟩, fun hb => .inl ⟨k, d, o, hs.2.2, ho, hb⟩⟩
  obtain ⟨a, b⟩ := (hw.2 k o ho).2 x hx
  exact ⟨a, b, Rch.step hs.2.2 ho hb (by rw [Int.toNat_of_nonneg a]; exact hx)⟩

set_option maxHeartbeats 4000000 in
theorem lmainI {ops : List O3} {g' : Nat} {K : Ex → StA → Prop} (hf : ops.length ≤ 3000) (hw : WfO ops)
    (k1 : ∀ jk D, GoodD ops D → K (.exit 2) (stE ops.length g' ops D [] jk))
    (k2 : BadD ops → ∀ jk D T, K .ret (stE ops.length g' ops D T jk)) :
    ∀ (N : Nat) (D : List Int) (T : List Nat), N ≤ 6000 → InvD ops D T (fun _ _ => False) → todoN (D, T, true) ≤ N →
    ∀ jk, sem cx0 47 RT (.loop (lp Try.f47 1)) (stE ops.length g' ops D T jk) K := by
  intro N
  induction N with
  | zero =>
    intro D T hN hi hN2 jk
    obtain rfl : T = [] := by
      simp only [todoN] at hN2
      exact List.length_eq_zero_iff.1 (by omega)
    refine loop_step cx0 _ RT [9, 7, 6, 4, 5] ⟨fun h => by simp at h, fun h => ?_⟩
    exact fun jk => k1 jk _ (inv_good hi)
  | succ N ih =>
    intro D T hN hi hN2 jk
    rcases List.eq_nil_or_concat T with rfl | ⟨T, k, rfl⟩
    · refine loop_step cx0 _ RT [9, 7, 6, 4, 5] ⟨fun h => by simp at h, fun h => ?_⟩
      exact fun jk => k1 jk _ (inv_good hi)
    · rw [List.concat_eq_append] at *
      have hTl : T.length ≤ 6000 := by simp only [todoN, List.length_append, List.length_singleton] at hN2; omega
      have wl : IntKind.wrap .i64 (((T ++ [k]).length : Int) - 1) = (T.length : Int) := by
        rw [List.length_append, List.length_singleton, wrap64 (by omega) (by omega)]; omega
      refine loop_step cx0 _ RT [9, 7, 6, 4, 5] ⟨fun h => ?_, fun h => (by simp at h)⟩
      refine ⟨by rw [wl]; simp only [List.length_append, List.length_singleton]; exact ⟨by omega, by omega⟩, ?_⟩
      refine ⟨(k : Int), ⟨?_, rfl⟩, ?_⟩
      · rw [wl]
        exact nums_get (by simp [ni])
      refine ⟨by rw [wl]; simp only [List.length_append, List.length_singleton]; exact ⟨by omega, by omega, by omega⟩, ?_⟩
      have wt : (IntKind.wrap .i64 (((T ++ [k]).length : Int) - 1) - 0).toNat = T.length := by rw [wl]; omega
      have et : List.take (T.length * 1) (List.drop (0 + Int.toNat 0 * 1) (nums (ni (T ++ [k])))) = nums (ni T) := by
        rw [show ni (T ++ [k]) = ni T ++ [(k : Int)] by simp [ni], nums_append, show (0 + Int.toNat 0 * 1) = 0 from rfl, List.drop_zero, Nat.mul_one]
        rw [List.take_append_of_le_length (by rw [nums_len, List.length_map]; omega), List.take_of_length_le (by rw [nums_len, List.length_map]; omega)]
      obtain ⟨d, o, hd, ho, hd1, hgood, hbad⟩ := step_inv hw hi
      obtain ⟨c, x, m⟩ := o
      have hkl : k < ops.length := (List.getElem?_eq_some_iff.1 ho).1
      have hDl := hi.1
      obtain ⟨r, hr⟩ := oc_at ho
      simp only at hr
      have hwo := (hw.2 k _ ho).1
      have hp := effO_le (c, x, m)
      have wd : IntKind.wrap .i64 (d - 1) = d - 1 := wrap64 (by omega) (by omega)
      have wv : IntKind.wrap .i64 (IntKind.wrap .i64 (d - (effO (c, x, m)).1) + (effO (c, x, m)).2) = nxt (c, x, m) d := by
        rw [wrap64 (n := d - (effO (c, x, m)).1) (by omega) (by omega), wrap64 (by omega) (by omega)]; rfl
      have big : badAt (c, x, m) d = false → 60 < nxt (c, x, m) d → BadD ops := fun hb h60 => nxt_big hb hd1.2 h60 (hgood hb).2
      refine ⟨by rw [wt, nums_len]; simp [ni], ?_⟩
      rw [wt, et]
      refine ⟨⟨by omega, by omega⟩, ?_⟩
      refine ⟨c, x, m, ⟨?_, rfl⟩, ?_⟩
      · show ((oc ops).drop (k * 3)).take 3 = _
        rw [hr]; rfl
      refine ⟨⟨by omega, by omega⟩, ?_⟩
      refine ⟨d, ⟨nums_get hd, rfl⟩, ?_⟩
      refine ⟨⟨rfl, rfl⟩, ?_⟩
      refine ⟨⟨rfl, rfl⟩, ?_⟩
      refine ⟨⟨by omega, by omega⟩, ?_⟩
      refine ⟨⟨rfl, rfl⟩, ?_⟩
      refine ⟨d, ⟨nums_get hd, rfl⟩, ?_⟩
      refine ⟨⟨rfl, rfl⟩, ?_⟩
      refine ⟨_, ret22 (eff_i (c, x, m)), ?_⟩
      refine ⟨fun hA => ?_, fun hA => ?_⟩
      · rw [wd] at hA
        exact fun jk => k2 (hbad (by simp only [badAt, hA, Bool.true_or])) jk _ _
      rw [wd] at hA
      refine ⟨fun h2 => ?_, fun h2 => ?_⟩
      · refine ⟨fun hx => ?_, fun hx => ?_⟩
        · exact fun jk => k2 (hbad (by simp only [badAt, h2, hx, Bool.true_and, Bool.true_or, Bool.or_true])) jk _ _
        refine ⟨fun h7 => ?_, fun h7 => ?_⟩
        · have e2 := eq_of_beq h2
          have e7 := eq_of_beq h7
          omega
        have hb : badAt (c, x, m) d = false := by simp only [badAt, hA, hx, h7, Bool.and_false, Bool.false_and, Bool.or_false]
        refine ⟨fun hv => ?_, fun hv => ?_⟩
        · rw [wv] at hv
          exact fun jk => k2 (big hb (of_decide_eq_true hv)) jk _ _
        rw [wv] at hv
        have hv := of_decide_eq_false hv
        refine ⟨_, retNs (nexts_i (c, x, m) (show k ≤ 1048576 by omega)), ?_⟩
        refine sem_in cx0 _ RT [111, 110, 109, 15, 9, 7, 6, 4, 5] fun jk => ?_
        rw [wv]
        obtain ⟨q1, q2⟩ := hgood hb
        refine linnI (M := N) hf (by omega) (succs_len _ _) ⟨nxt_pos hb, by omega⟩ (fun jk D T j hi hN => ?_) (fun hb jk D T j => ?_) (succs (c, x, m) k) 0 rfl (by omega) D T q2 q1 (by simp only [todoN, List.length_append, List.length_singleton] at hN2 ⊢; omega) jk
        · exact fun jk => ih D T (by omega) hi hN jk
        · exact fun jk => k2 hb jk _ _
      refine ⟨fun h7 => ?_, fun h7 => ?_⟩
      · refine ⟨fun hd2 => ?_, fun hd2 => ?_⟩
        · exact fun jk => k2 (hbad (by simp only [badAt, h7, hd2, Bool.true_and, Bool.or_true])) jk _ _
        have hb : badAt (c, x, m) d = false := by simp only [badAt, hA, h2, hd2, Bool.and_false, Bool.false_and, Bool.or_false]
        refine ⟨fun hv => ?_, fun hv => ?_⟩
        · rw [wv] at hv
          exact fun jk => k2 (big hb (of_decide_eq_true hv)) jk _ _
        rw [wv] at hv
        have hv := of_decide_eq_false hv
        refine ⟨_, retNs (nexts_i (c, x, m) (show k ≤ 1048576 by omega)), ?_⟩
        refine sem_in cx0 _ RT [111, 110, 109, 15, 9, 7, 6, 4, 5] fun jk => ?_
        rw [wv]
        obtain ⟨q1, q2⟩ := hgood hb
        refine linnI (M := N) hf (by omega) (succs_len _ _) ⟨nxt_pos hb, by omega⟩ (fun jk D T j hi hN => ?_) (fun hb jk D T j => ?_) (succs (c, x, m) k) 0 rfl (by omega) D T q2 q1 (by simp only [todoN, List.length_append, List.length_singleton] at hN2 ⊢; omega) jk
        · exact fun jk => ih D T (by omega) hi hN jk
        · exact fun jk => k2 hb jk _ _
      have hb : badAt (c, x, m) d = false := by simp only [badAt, hA, h2, h7, Bool.false_and, Bool.or_false]
      refine ⟨fun hv => ?_, fun hv => ?_⟩
      · rw [wv] at hv
        exact fun jk => k2 (big hb (of_decide_eq_true hv)) jk _ _
      rw [wv] at hv
      have hv := of_decide_eq_false hv
      refine ⟨_, retNs (nexts_i (c, x, m) (show k ≤ 1048576 by omega)), ?_⟩
      refine sem_in cx0 _ RT [111, 110, 109, 15, 9, 7, 6, 4, 5] fun jk => ?_
      rw [wv]
      obtain ⟨q1, q2⟩ := hgood hb
      refine linnI (M := N) hf (by omega) (succs_len _ _) ⟨nxt_pos hb, by omega⟩ (fun jk D T j hi hN => ?_) (fun hb jk D T j => ?_) (succs (c, x, m) k) 0 rfl (by omega) D T q2 q1 (by simp only [todoN, List.length_append, List.length_singleton] at hN2 ⊢; omega) jk
      · exact fun jk => ih D T (by omega) hi hN jk
      · exact fun jk => k2 hb jk _ _
end Go.Proofs.Ytlkjnlfddadlmaa.V

namespace Go.Proofs.Ytlkjnlfddadlmaa.V
set_option maxRecDepth 100000

theorem repl_nums : ∀ n : Nat, repl n [.int .i64 0] = nums (List.replicate n 0)
  | 0 => rfl
  | n + 1 => by rw [repl_succ, repl_nums n, List.replicate_succ]; rfl

theorem lfill0 {n g' : Nat} {ops : List O3} {K : Ex → StA → Prop} (hn : n ≤ 1048576)
    (k1 : ∀ jk k, K (.exit 0) ⟨[(39, xi k), (38, xi n), (7, xl 0 1 n (nums (List.replicate n (-1)))), (6, xl (g' + 1) 3 ops.length (oc ops)), (4, xl 0 1 0 []), (5, xb false)], jk, []⟩) (jk : Nat → XU) :
    sem cx0 47 RT (.loop (lp Try.f47 0)) ⟨[(39, xi (0 : Nat)), (38, xi n), (7, xl 0 1 n (repl n [.int .i64 0])), (6, xl (g' + 1) 3 ops.length (oc ops)), (4, xl 0 1 0 []), (5, xb false)], jk, []⟩ K := by
  have hl := lfillI (g' := g') (ops := ops) (K := K) hn n 0 (by omega) k1 jk
  rw [Nat.sub_zero, List.replicate_zero, List.nil_append, ← repl_nums] at hl
  exact hl

set_option maxHeartbeats 4000000 in
theorem dep_i {fs : List FN} {cs : List TU} {g : Nat} {i : Int} (hr : Rf fs cs) (hz : szFs fs ≤ 1048576) : RT 47 [xl (g + 1) 2 fs.length cs, xi i] [] = some (dpX (dpF fs i), []) := by
  have hz' := hz
  simp only [szFs] at hz'
  have wl : IntKind.wrap .i64 ((fs.length : Int) - 1) = (fs.length : Int) - 1 := wrap64 (by omega) (by omega)
  refine fn_is (fn := Try.f47) rfl rfl rfl rfl ?_
  refine ⟨_, retB (oki (g := g + 1) hr.retag hz), ?_⟩
  refine ⟨fun h => ?_, fun h => ?_⟩
  · rw [dpF_no (fun hh => by rw [hh.1] at h; cases h)]
    exact ⟨Nat.le_refl _, rfl, rfl⟩
  have hok : okFuns fs = true := by simpa using h
  refine ⟨_, retB (by rw [wl]; exact in52 i 0 ((fs.length : Int) - 1)), ?_⟩
  refine ⟨fun h => ?_, fun h => ?_⟩
  · have := wit1 h
    rw [dpF_no (fun hh => by simp only [wit, Bool.and_eq_false_iff, decide_eq_false_iff_not] at this; omega)]
    exact ⟨Nat.le_refl _, rfl, rfl⟩
  obtain ⟨i0, i1, _⟩ := wit2 h
  obtain ⟨k, rfl⟩ := Int.eq_ofNat_of_zero_le i0
  have hil : k < fs.length := by omega
  obtain ⟨f, hi⟩ : ∃ f, fs[k]? = some f := ⟨_, List.getElem?_eq_getElem hil⟩
  obtain ⟨hf3, _⟩ := len_of_ok hok hi
  obtain ⟨g', r, e1⟩ := Rf_at hr hi
  have hwf := wfO_of hok hi
  rw [dpF_at hok hi]
  refine ⟨⟨by omega, by omega⟩, ?_⟩
  refine ⟨?_, ?_⟩
  · show 1 ≤ (cs.drop (k * 2)).length
    rw [e1]; simp
  refine ⟨g' + 1, f.2.length, oc f.2, ⟨?_, rfl⟩, ?_⟩
  · show ((cs.drop (k * 2)).drop 1).take 1 = _
    rw [e1]; rfl
  refine ⟨⟨by omega, by omega, ?_, by simp only [maxLen]; omega⟩, ?_⟩
  · show (f.2.length : Int) * (8 : Nat) ≤ 140737488355328
    omega
  refine sem_in cx0 _ RT [39, 38, 7, 6, 4, 5] fun jk => ?_
  refine lfill0 (by omega) (fun jk j => ?_) jk
  refine ⟨⟨by omega, by have := hwf.1; omega⟩, ?_⟩
  refine ⟨by rw [nums_len, List.length_replicate]; exact hwf.1, ?_⟩
  have ep : (nums (List.replicate f.2.length (-1))).take (0 + ((0 : Nat) : Int).toNat * 1) ++ [.int .i64 1] ++ (nums (List.replicate f.2.length (-1))).drop (0 + ((0 : Nat) : Int).toNat * 1 + ([.int .i64 1] : List TU).length) = nums ((List.replicate f.2.length (-1)).set 0 1) := nums_put (by rw [List.length_replicate]; exact hwf.1)
  have eD : ((List.replicate f.2.length (-1 : Int)).set 0 1).length = f.2.length := by simp
  have main := fun K k1 k2 jk => lmainI (g' := g') (K := K) hf3 hwf k1 k2 6000 _ [0] (by omega) (inv_start hwf.1) (by
    simp only [todoN]
    have := List.countP_le_length (p := neg) (l := (List.replicate f.2.length (-1 : Int)).set 0 1)
    simp only [List.length_set, List.length_replicate] at this
    simp only [List.length_singleton]
    omega) jk
  simp only [stE, eD, ← ep] at main
  intro jk
  refine sem_in cx0 _ RT [9, 7, 6, 4, 5] fun jk => ?_
  refine main _ (fun jk D hD => ?_) (fun hb jk D T => ?_) jk
  · rw [dpOf_good hD]
    refine ⟨by rw [nums_len]; omega, ?_⟩
    refine ⟨?_, rfl⟩
    exact congrArg (fun x => X.tup [xl 0 1 D.length x, xb true]) (nums_whole D).symm
  · rw [dpOf_bad hb]
    exact ⟨Nat.le_refl _, rfl, rfl⟩
end Go.Proofs.Ytlkjnlfddadlmaa.V

namespace Go.Proofs.Ytlkjnlfddadlmaa.V
set_option maxRecDepth 100000

noncomputable def allD (fs : List FN) : Nat → List FN → Bool
  | _, [] => true
  | i, _ :: l => (dpF fs i).isSome && allD fs (i + 1) l
noncomputable def verF (fs : List FN) : Bool := allD fs 0 fs && okFuns fs

theorem lverS {fs : List FN} {cs : List TU} {g : Nat} {K : Ex → StA → Prop} (hw : Wl fs) (hr : Rf fs cs) (hz : szFs fs ≤ 1048576) :
    ∀ (l : List FN) (i : Nat), fs.drop i = l → i ≤ fs.length →
    (allD fs i l = true → ∀ jk i, K (.exit 0) ⟨[(3, xi i), (0, xl (g + 1) 2 fs.length cs), (2, xb false)], jk, []⟩) →
    (allD fs i l = false → ∀ jk i, K .ret ⟨[(3, xi i), (0, xl (g + 1) 2 fs.length cs), (2, xb false)], jk, []⟩) →
    ∀ jk, sem cx0 43 RT (.loop (lp Try.f43 0)) ⟨[(3, xi i), (0, xl (g + 1) 2 fs.length cs), (2, xb false)], jk, []⟩ K := by
  refine drop_ind ?_ ?_
  · intro k1 k2 jk
    refine loop_step cx0 _ RT [3, 0, 2] ⟨fun h => (lt_no h (by omega)).elim, fun h => ?_⟩
    exact fun jk => k1 rfl jk _
  · intro i f l hi hil ih k1 k2 jk
    have hd := dep_s (g := g + 1) (i := i) hw hr.retag hz
    refine loop_step cx0 _ RT [3, 0, 2] ⟨fun h => ?_, fun h => (lt_yes h (by omega)).elim⟩
    cases ho : dpF fs i with
    | none =>
      rw [ho] at hd
      refine ⟨X.tup [xl 0 1 0 [], xb false], retDp (o := none) hd, ?_⟩
      refine ⟨Nat.le_refl _, ?_⟩
      refine ⟨fun _ => ?_, (fun h => by cases h)⟩
      exact fun jk => k2 (by simp only [allD, ho, Option.isSome_none, Bool.false_and]) jk _
    | some D =>
      rw [ho] at hd
      refine ⟨X.tup [xl 0 1 D.length (nums D), xb true], retDp (o := some D) hd, ?_⟩
      refine ⟨by rw [nums_len]; omega, ?_⟩
      refine ⟨(fun h => by cases h), fun _ => ?_⟩
      intro jk
      rw [wrapS hil hw.1]
      exact ih (fun hh => k1 (by simp only [allD, ho, Option.isSome_some, hh, Bool.true_and])) (fun hh => k2 (by simp only [allD, hh, Bool.and_false])) jk

theorem ver_s {fs : List FN} {cs : List TU} {g : Nat} (hw : Wl fs) (hr : Rf fs cs) (hz : szFs fs ≤ 1048576) : RT 43 [xl (g + 1) 2 fs.length cs] [] = some (xb (verF fs), []) := by
  refine fn_is (fn := Try.f43) rfl rfl rfl rfl ?_
  refine sem_in cx0 _ RT [3, 0, 2] fun jk => ?_
  refine lverS hw hr hz fs 0 rfl (by omega) (fun ha jk i => ?_) (fun ha jk i => ?_) jk
  · refine ⟨_, retB (oks (g := g + 1) hw hr.retag hz), ?_⟩
    refine ⟨?_, rfl⟩
    simp only [verF, ha, Bool.true_and]; rfl
  · refine ⟨?_, rfl⟩
    simp only [verF, ha, Bool.false_and]; rfl
theorem lverI {fs : List FN} {cs : List TU} {g : Nat} {K : Ex → StA → Prop} (hk : fs.length ≤ 1048576) (hr : Rf fs cs) (hz : szFs fs ≤ 1048576) :
    ∀ (l : List FN) (i : Nat), fs.drop i = l → i ≤ fs.length →
    (allD fs i l = true → ∀ jk i, K (.exit 0) ⟨[(8, xi i), (7, xi fs.length), (0, xl (g + 1) 2 fs.length cs), (2, xb false)], jk, []⟩) →
    (allD fs i l = false → ∀ jk i, K .ret ⟨[(8, xi i), (7, xi fs.length), (0, xl (g + 1) 2 fs.length cs), (2, xb false)], jk, []⟩) →
    ∀ jk, sem cx0 46 RT (.loop (lp Try.f46 0)) ⟨[(8, xi i), (7, xi fs.length), (0, xl (g + 1) 2 fs.length cs), (2, xb false)], jk, []⟩ K := by
  refine drop_ind ?_ ?_
  · intro k1 k2 jk
    refine loop_step cx0 _ RT [8, 7, 0, 2] ⟨fun h => (lt_no h (by omega)).elim, fun h => ?_⟩
    exact fun jk => k1 rfl jk _
  · intro i f l hi hil ih k1 k2 jk
    have hd := dep_i (g := g + 1) (i := i) hr.retag hz
    refine loop_step cx0 _ RT [8, 7, 0, 2] ⟨fun h => ?_, fun h => (lt_yes h (by omega)).elim⟩
    cases ho : dpF fs i with
    | none =>
      rw [ho] at hd
      refine ⟨X.tup [xl 0 1 0 [], xb false], retDp (o := none) hd, ?_⟩
      refine ⟨Nat.le_refl _, ?_⟩
      refine ⟨fun _ => ?_, (fun h => by cases h)⟩
      exact fun jk => k2 (by simp only [allD, ho, Option.isSome_none, Bool.false_and]) jk _
    | some D =>
      rw [ho] at hd
      refine ⟨X.tup [xl 0 1 D.length (nums D), xb true], retDp (o := some D) hd, ?_⟩
      refine ⟨by rw [nums_len]; omega, ?_⟩
      refine ⟨(fun h => by cases h), fun _ => ?_⟩
      intro jk
      rw [wrapS hil (show fs.length ≤ maxLen by simp only [maxLen]; omega)]
      exact ih (fun hh => k1 (by simp only [allD, ho, Option.isSome_some, hh, Bool.true_and])) (fun hh => k2 (by simp only [allD, hh, Bool.and_false])) jk

theorem verF_len {fs : List FN} (h : 0 < fs.length) : verF fs = allD fs 0 fs := by
  cases fs with
  | nil => simp at h
  | cons f l =>
    cases hok : okFuns (f :: l) with
    | true => simp only [verF, hok, Bool.and_true]
    | false =>
      have : dpF (f :: l) 0 = none := by simp only [dpF, hok]; simp
      have e : allD (f :: l) 0 (f :: l) = false := by
        simp only [allD]
        rw [show ((0 : Nat) : Int) = 0 from rfl, this]; rfl
      simp only [verF, e, Bool.false_and]

theorem ver_i {fs : List FN} {cs : List TU} {g : Nat} (hr : Rf fs cs) (hz : szFs fs ≤ 1048576) : RT 46 [xl (g + 1) 2 fs.length cs] [] = some (xb (verF fs), []) := by
  have hz' := hz
  simp only [szFs] at hz'
  refine fn_is (fn := Try.f46) rfl rfl rfl rfl ?_
  refine sem_in cx0 _ RT [8, 7, 0, 2] fun jk => ?_
  refine lverI (by omega) hr hz fs 0 rfl (by omega) (fun ha jk i => ?_) (fun ha jk i => ?_) jk
  · refine ⟨congrArg xb ?_, rfl⟩
    rcases Nat.eq_zero_or_pos fs.length with h | h
    · obtain rfl : fs = [] := List.length_eq_zero_iff.1 h
      simp [verF, okFuns, wit]
    · rw [verF_len h, ha, decide_eq_true (by omega)]
  · refine ⟨?_, rfl⟩
    simp only [verF, ha, Bool.false_and]; rfl
end Go.Proofs.Ytlkjnlfddadlmaa.V
