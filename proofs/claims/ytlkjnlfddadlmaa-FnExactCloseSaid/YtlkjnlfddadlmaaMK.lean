/-
  slices.Grow of no list at all: an empty list with room. No conditions.
-/
import Derived.KernelRfl
import Derived.Lib.AppendZeros
import Derived.Lib.AppendZerosOnto
import Derived.Lib.Walk
import Derived.Lib.SliceRun
import Derived.WalkKit
import Derived.Shelf.RegionOpenPlain
import Derived.Test.YtlkjnlfddadlmaaProg
import Derived.Test.YtlkjnlfddadlmaaM6
set_option linter.unusedVariables false
set_option linter.unusedSimpArgs false
namespace Go.Proofs.Ytlkjnlfddadlmaa.V
open Go.RowKit Go.Lib
set_option linter.unusedVariables false
set_option linter.unusedSimpArgs false
set_option maxHeartbeats 4000000
set_option maxRecDepth 100000
theorem grow0 (w : World) : Calls Try.prog 133 #[.slice none 0 0, .int .i64 ((0 : Nat) : Int)] w fun e w' => e = .returned (.slice none 0 0) ∧ w' = w := by
 go_enter Try.func133, Try.ntmps133
 go_wp2
 go_ret
 exact ⟨rfl, rfl⟩
theorem growN (n : Nat) (w : World) (h0 : 0 < n) (hbig : n * 16 ≤ 140737488355328) : Calls Try.prog 133 #[.slice none 0 0, .int .i64 n] w fun e w' =>
  e = .returned (.slice (some ⟨w.heap.size, 0, none⟩) 0 (grownCap w n 0 9)) ∧
   w' = w.drew.alloc (.cells (#[] ++ Builtin.zeroCells (Value.string ⟨#[]⟩).cells n ++ Builtin.zeroCells (Value.string ⟨#[]⟩).cells (grownCap w n 0 9 - n)) 9) := by
 have hi0 : Try.prog.info? 9 = some Try.t9 := by kernel_rfl
 have hz0 : Try.t9.zero = some (.string ⟨#[]⟩) := by kernel_rfl
 have hs0 : Try.t9.size = 1 := by kernel_rfl
 have hb0 : Try.t9.bytes = 16 := by kernel_rfl
 have u22 : Try.prog.underlying 107 = some (.slice 9) := by kernel_rfl
 have u3 : Try.prog.underlying 3 = some (.int .i64) := by kernel_rfl
 have h1 : ¬ ((n : Int) < 0) := by omega
 have h3 : Go.RowKit.wrap64 (n : Int) = n := by unfold Go.RowKit.wrap64; omega
 have h4 : (n : Int) > 0 := by omega
 have hold : (Builtin.firstCells Try.t9.size 0 (.slice none 0 0)).run Try.prog w.drew = .ok ([] : List Value).toArray w.drew := run_firstCells_none w.drew _ 0 0 0
 have hrz : ∀ ty, (Builtin.append_ #[107, 3] ty #[.slice none 0 0, .int .i64 n]).run Try.prog w = .ok (.slice (some ⟨w.heap.size, 0, none⟩) n (grownCap w n 0 9))
   (w.drew.alloc (.cells (#[] ++ Builtin.zeroCells (Value.string ⟨#[]⟩).cells n ++ Builtin.zeroCells (Value.string ⟨#[]⟩).cells (grownCap w n 0 9 - n)) 9)) := fun ty => by
  have h := Lib.run_append_grow_zeros w 107 3 ty 9 _ _ .i64 .i64 u22 u3 hi0 hz0 none 0 0 [] hold n h0 (by rw [hs0]; omega) (by omega) (by omega)
   (by rw [hb0]; omega) (by rw [hb0]; exact growslice_fits (by omega) (by omega))
  simpa using h
 have hGn : n ≤ grownCap w n 0 9 := grownCap_ge w _ _ _
 obtain ⟨G, hG⟩ : ∃ G, G = grownCap w n 0 9 := ⟨_, rfl⟩
 rw [← hG] at hrz hGn ⊢
 have hG63 : G ≤ 9223372036854775807 := by
  have := grownCap_le_maxLen w n 0 9 (by unfold maxLen; omega)
  rw [← hG] at this
  unfold maxLen at this
  omega
 clear hold hG
 go_enter Try.func133, Try.ntmps133
 go_wp2_with (at_builtin; refine Lib.wpList_append_run _ rfl _ _ _ _ rfl _ _ rfl rfl _ _ (hrz _) ?_)
 all_goals (go_ret; exact ⟨rfl, rfl⟩)
theorem zSc (w : World) (o : Obj) : (w.drew.alloc o).heap[w.heap.size]? = some o := by
 have : (w.drew.alloc o).heap = w.heap.push o := rfl
 rw [this, Array.getElem?_push_size]
theorem zEi (k : Nat) : (Builtin.zeroCells (Value.string ⟨#[]⟩).cells k).size = k := by
 have e : (Value.string ⟨#[]⟩).cells = #[.string ⟨#[]⟩] := rfl
 rw [e]
 simp [Builtin.zeroCells]
theorem zMz : m5 Try.prog 133 ∧ ∀ (n : Nat) (w : World), n * 16 ≤ 140737488355328 → n ≤ maxLen →
  Calls Try.prog 133 #[.slice none 0 0, .int .i64 n] w fun e w' => ∃ v, e = .returned v ∧ Grow w w' ∧ (v = .slice none 0 0 ∨ ∃ cap cur ty, v = .slice (some ⟨w.heap.size, 0, none⟩) 0 cap ∧ w'.heap[w.heap.size]? = some (.cells cur ty (0, 0)) ∧ cap * 1 ≤ cur.size) := by
 refine ⟨zI9 (fn := Try.f133) rfl rfl (by kernel_rfl), fun n w h _ => ?_⟩
 rcases Nat.eq_zero_or_pos n with rfl | h0
 ·refine (grow0 w).mono fun e w' ⟨h1, h2⟩ => ?_
  subst h2
  exact ⟨_, h1, Grow.refl _, .inl rfl⟩
 ·refine (growN n w h0 h).mono fun e w' ⟨h1, h2⟩ => ?_
  subst h2
  refine ⟨_, h1, (Grow.drew w).trans (Grow.alloc _ _), .inr ⟨_, #[] ++ Builtin.zeroCells (Value.string ⟨#[]⟩).cells n ++ Builtin.zeroCells (Value.string ⟨#[]⟩).cells (grownCap w n 0 9 - n), 9, rfl, ?_, ?_⟩⟩
  ·exact zSc w _
  ·have := grownCap_ge w n 0 9
   simp only [Array.size_append, zEi, Array.size_empty]
   omega
end Go.Proofs.Ytlkjnlfddadlmaa.V
namespace Go.Proofs.Ytlkjnlfddadlmaa.V
set_option maxRecDepth 100000
def tyT : Nat → Ty
 | 1 => ⟨true, 1, false, [.nilf], [], none, 8, true, 0⟩
 | 2 => ⟨true, 1, false, [.t (.int .i64 0)], [], none, 8, true, 1⟩
 | 3 => ⟨true, 1, false, [.t (.int .i64 0)], [], none, 8, true, 1⟩
 | 4 => ⟨true, 1, false, [.t (.bool false)], [], none, 1, true, 5⟩
 | 5 => ⟨true, 1, false, [.t (.int .u8 0)], [], none, 1, true, 2⟩
 | 6 => ⟨true, 1, false, [.t (.int .u8 0)], [], none, 1, true, 2⟩
 | 7 => ⟨true, 4, true, [.t (.int .i64 0), .t (.int .i64 0), .t (.bool false), .t (.int .u8 0)], [(0, 2), (1, 3), (2, 4), (3, 6)], none, 24, true, 0⟩
 | 8 => ⟨true, 4, true, [.t (.int .i64 0), .t (.int .i64 0), .t (.bool false), .t (.int .u8 0)], [(0, 2), (1, 3), (2, 4), (3, 6)], none, 24, true, 0⟩
 | 9 => ⟨true, 1, false, [.t (.str [])], [], none, 16, true, 3⟩
 | 10 => ⟨true, 1, false, [.t (.str [])], [], none, 16, true, 3⟩
 | 11 => ⟨true, 1, false, [.t (.str [])], [], none, 16, true, 3⟩
 | 12 => ⟨true, 1, false, [.t (.int .u64 0)], [], none, 8, true, 0⟩
 | 13 => ⟨true, 2, true, [.t (.str []), .t (.int .u64 0)], [(0, 9), (1, 12)], none, 24, true, 0⟩
 | 14 => ⟨true, 2, true, [.t (.str []), .t (.int .u64 0)], [(0, 9), (1, 12)], none, 24, true, 0⟩
 | 15 => ⟨true, 1, false, [.nilp], [], none, 8, true, 6⟩
 | 16 => ⟨true, 1, false, [.nilp], [], none, 8, true, 6⟩
 | 17 => ⟨true, 1, false, [.nilp], [], none, 8, true, 6⟩
 | 18 => ⟨true, 1, true, [.nilp], [(0, 17)], none, 8, true, 0⟩
 | 19 => ⟨true, 1, true, [.nilp], [(0, 17)], none, 8, true, 0⟩
 | 20 => ⟨true, 1, false, [.t .nili], [], none, 16, true, 7⟩
 | 21 => ⟨true, 1, false, [.t (.int .i32 0)], [], none, 4, true, 0⟩
 | 22 => ⟨true, 1, false, [.t (.sl () 0 2 0 [])], [], some 52, 24, false, 0⟩
 | 23 => ⟨true, 1, false, [.nilf], [], none, 8, true, 0⟩
 | 24 => ⟨true, 1, false, [.t (.sl () 0 2 0 [])], [], some 56, 24, false, 0⟩
 | 25 => ⟨true, 1, false, [.nilf], [], none, 8, true, 0⟩
 | 26 => ⟨true, 1, false, [.nilf], [], none, 8, true, 0⟩
 | 27 => ⟨true, 1, false, [.nilf], [], none, 8, true, 0⟩
 | 28 => ⟨true, 1, false, [.nilf], [], none, 8, true, 0⟩
 | 29 => ⟨true, 1, false, [.nilf], [], none, 8, true, 0⟩
 | 30 => ⟨true, 1, false, [.nilf], [], none, 8, true, 0⟩
 | 31 => ⟨true, 1, false, [.t (.sl () 0 5 0 [])], [], some 33, 24, false, 0⟩
 | 32 => ⟨true, 5, true, [.t (.int .i64 0), .t (.int .i64 0), .t (.str []), .t (.str []), .t (.sl () 0 5 0 [])], [(0, 3), (1, 3), (2, 9), (3, 9), (4, 31)], none, 72, false, 0⟩
 | 33 => ⟨true, 5, true, [.t (.int .i64 0), .t (.int .i64 0), .t (.str []), .t (.str []), .t (.sl () 0 5 0 [])], [(0, 3), (1, 3), (2, 9), (3, 9), (4, 31)], none, 72, false, 0⟩
 | 34 => ⟨true, 1, false, [.nilf], [], none, 8, true, 0⟩
 | 35 => ⟨true, 1, false, [.t (.sl () 0 5 0 [])], [], some 37, 24, false, 0⟩
 | 36 => ⟨true, 5, true, [.t (.int .i64 0), .t (.int .i64 0), .t (.str []), .t (.str []), .t (.sl () 0 5 0 [])], [(0, 3), (1, 3), (2, 9), (3, 9), (4, 35)], none, 72, false, 0⟩
 | 37 => ⟨true, 5, true, [.t (.int .i64 0), .t (.int .i64 0), .t (.str []), .t (.str []), .t (.sl () 0 5 0 [])], [(0, 3), (1, 3), (2, 9), (3, 9), (4, 35)], none, 72, false, 0⟩
 | 38 => ⟨true, 1, false, [.nilf], [], none, 8, true, 0⟩
 | 39 => ⟨true, 1, false, [.nilf], [], none, 8, true, 0⟩
 | 40 => ⟨true, 1, false, [.nilf], [], none, 8, true, 0⟩
 | 41 => ⟨true, 1, false, [.nilf], [], none, 8, true, 0⟩
 | 42 => ⟨true, 1, false, [.nilf], [], none, 8, true, 0⟩
 | 43 => ⟨true, 1, false, [.nilf], [], none, 8, true, 0⟩
 | 44 => ⟨true, 1, false, [.t (.sl () 0 4 0 [])], [], some 77, 24, false, 0⟩
 | 46 => ⟨true, 1, false, [.nilf], [], none, 8, true, 0⟩
 | 47 => ⟨true, 1, false, [.nilf], [], none, 8, true, 0⟩
 | 48 => ⟨true, 1, false, [.nilf], [], none, 8, true, 0⟩
 | 49 => ⟨true, 1, false, [.nilf], [], none, 8, true, 0⟩
 | 50 => ⟨true, 1, false, [.t (.sl () 0 3 0 [])], [], some 140, 24, false, 0⟩
 | 51 => ⟨true, 2, true, [.t (.int .i64 0), .t (.sl () 0 3 0 [])], [(0, 3), (1, 50)], none, 32, false, 0⟩
 | 52 => ⟨true, 2, true, [.t (.int .i64 0), .t (.sl () 0 3 0 [])], [(0, 3), (1, 50)], none, 32, false, 0⟩
 | 53 => ⟨true, 1, false, [.nilf], [], none, 8, true, 0⟩
 | 54 => ⟨true, 1, false, [.t (.sl () 0 3 0 [])], [], some 58, 24, false, 0⟩
 | 55 => ⟨true, 2, true, [.t (.int .i64 0), .t (.sl () 0 3 0 [])], [(0, 3), (1, 54)], none, 32, false, 0⟩
 | 56 => ⟨true, 2, true, [.t (.int .i64 0), .t (.sl () 0 3 0 [])], [(0, 3), (1, 54)], none, 32, false, 0⟩
 | 57 => ⟨true, 3, true, [.t (.int .i64 0), .t (.int .i64 0), .t (.int .i64 0)], [(0, 3), (1, 3), (2, 3)], none, 24, true, 0⟩
 | 58 => ⟨true, 3, true, [.t (.int .i64 0), .t (.int .i64 0), .t (.int .i64 0)], [(0, 3), (1, 3), (2, 3)], none, 24, true, 0⟩
 | 59 => ⟨true, 1, false, [.nilf], [], none, 8, true, 0⟩
 | 60 => ⟨true, 1, false, [.nilf], [], none, 8, true, 0⟩
 | 61 => ⟨true, 1, false, [.nilf], [], none, 8, true, 0⟩
 | 62 => ⟨true, 1, false, [.nilf], [], none, 8, true, 0⟩
 | 63 => ⟨true, 1, false, [.t (.sl () 0 1 0 [])], [], some 3, 24, false, 0⟩
 | 65 => ⟨true, 1, false, [.nilf], [], none, 8, true, 0⟩
 | 66 => ⟨true, 1, false, [.nilf], [], none, 8, true, 0⟩
 | 67 => ⟨true, 1, false, [.nilf], [], none, 8, true, 0⟩
 | 68 => ⟨true, 1, false, [.nilf], [], none, 8, true, 0⟩
 | 69 => ⟨true, 1, false, [.nilf], [], none, 8, true, 0⟩
 | 70 => ⟨true, 1, false, [.nilf], [], none, 8, true, 0⟩
 | 71 => ⟨true, 1, false, [.nilf], [], none, 8, true, 0⟩
 | 72 => ⟨true, 1, false, [.nilp], [], none, 8, true, 6⟩
 | 73 => ⟨true, 1, false, [.t (.sl () 0 3 0 [])], [], some 75, 24, false, 0⟩
 | 74 => ⟨true, 3, true, [.t (.int .i64 0), .t (.int .i64 0), .t (.sl () 0 3 0 [])], [(0, 3), (1, 3), (2, 73)], none, 40, false, 0⟩
 | 75 => ⟨true, 3, true, [.t (.int .i64 0), .t (.int .i64 0), .t (.sl () 0 3 0 [])], [(0, 3), (1, 3), (2, 73)], none, 40, false, 0⟩
 | 76 => ⟨true, 4, true, [.t (.int .i64 0), .t (.int .i64 0), .t (.int .i64 0), .t (.sl () 0 3 0 [])], [(0, 3), (1, 75)], none, 48, false, 0⟩
 | 77 => ⟨true, 4, true, [.t (.int .i64 0), .t (.int .i64 0), .t (.int .i64 0), .t (.sl () 0 3 0 [])], [(0, 3), (1, 75)], none, 48, false, 0⟩
 | 78 => ⟨true, 2, true, [.t (.sl () 0 4 0 []), .t (.bool false)], [(0, 44), (1, 4)], none, 32, false, 0⟩
 | 79 => ⟨true, 2, true, [.t (.sl () 0 4 0 []), .t (.bool false)], [(0, 44), (1, 4)], none, 32, false, 0⟩
 | 80 => ⟨true, 1, false, [.nilf], [], none, 8, true, 0⟩
 | 81 => ⟨true, 1, false, [.nilp], [], none, 8, true, 6⟩
 | 82 => ⟨true, 1, false, [.t (.sl () 0 3 0 [])], [], some 120, 24, false, 0⟩
 | 83 => ⟨true, 5, true, [.t (.bool false), .nilp, .t (.sl () 0 3 0 []), .t (.sl () 0 3 0 []), .t (.str [])], [(0, 4), (1, 81), (2, 82), (3, 82), (4, 9)], none, 80, false, 0⟩
 | 84 => ⟨true, 5, true, [.t (.bool false), .nilp, .t (.sl () 0 3 0 []), .t (.sl () 0 3 0 []), .t (.str [])], [(0, 4), (1, 81), (2, 82), (3, 82), (4, 9)], none, 80, false, 0⟩
 | 85 => ⟨true, 1, false, [.nilf], [], none, 8, true, 0⟩
 | 86 => ⟨true, 1, false, [.nilp], [], none, 8, true, 6⟩
 | 87 => ⟨true, 1, true, [.t (.sl () 0 4 0 [])], [(0, 44)], none, 24, false, 0⟩
 | 88 => ⟨true, 1, true, [.t (.sl () 0 4 0 [])], [(0, 44)], none, 24, false, 0⟩
 | 89 => ⟨true, 1, false, [.nilf], [], none, 8, true, 0⟩
 | 90 => ⟨true, 1, false, [.nilf], [], none, 8, true, 0⟩
 | 91 => ⟨true, 1, false, [.nilf], [], none, 8, true, 0⟩
 | 92 => ⟨true, 1, false, [.nilf], [], none, 8, true, 0⟩
 | 93 => ⟨true, 1, false, [.nilf], [], none, 8, true, 0⟩
 | 94 => ⟨true, 1, false, [.nilf], [], none, 8, true, 0⟩
 | 95 => ⟨true, 1, false, [.nilf], [], none, 8, true, 0⟩
 | 96 => ⟨true, 1, false, [.nilf], [], none, 8, true, 0⟩
 | 97 => ⟨true, 1, false, [.nilf], [], none, 8, true, 0⟩
 | 98 => ⟨true, 1, false, [.nilp], [], none, 8, true, 6⟩
 | 99 => ⟨true, 3, true, [.t (.sl () 0 1 0 []), .t (.sl () 0 1 0 []), .t (.bool false)], [(0, 63), (1, 63), (2, 4)], none, 56, false, 0⟩
 | 100 => ⟨true, 3, true, [.t (.sl () 0 1 0 []), .t (.sl () 0 1 0 []), .t (.bool false)], [(0, 63), (1, 63), (2, 4)], none, 56, false, 0⟩
 | 101 => ⟨true, 1, false, [.nilf], [], none, 8, true, 0⟩
 | 102 => ⟨true, 1, false, [.nilf], [], none, 8, true, 0⟩
 | 104 => ⟨true, 1, false, [.nilf], [], none, 8, true, 0⟩
 | 105 => ⟨true, 1, false, [.nilf], [], none, 8, true, 0⟩
 | 106 => ⟨true, 1, false, [.nilf], [], none, 8, true, 0⟩
 | 107 => ⟨true, 1, false, [.t (.sl () 0 1 0 [])], [], some 9, 24, false, 0⟩
 | 108 => ⟨true, 1, false, [.nilf], [], none, 8, true, 0⟩
 | 109 => ⟨true, 1, false, [.nilf], [], none, 8, true, 0⟩
 | 110 => ⟨true, 1, false, [.nilf], [], none, 8, true, 0⟩
 | 111 => ⟨true, 1, false, [.nilp], [], none, 8, true, 6⟩
 | 112 => ⟨true, 1, false, [.nilp], [], none, 8, true, 6⟩
 | 113 => ⟨true, 11, true, [.t (.int .i64 0), .t (.int .i64 0), .nilp, .nilp, .t (.str []), .t (.int .i64 0), .t (.int .i64 0), .t (.str []), .t (.str []), .t (.sl () 0 5 0 []), .nilp], [(0, 3), (1, 3), (2, 111), (3, 111), (4, 9), (5, 37), (10, 112)], none, 128, false, 0⟩
 | 114 => ⟨true, 11, true, [.t (.int .i64 0), .t (.int .i64 0), .nilp, .nilp, .t (.str []), .t (.int .i64 0), .t (.int .i64 0), .t (.str []), .t (.str []), .t (.sl () 0 5 0 []), .nilp], [(0, 3), (1, 3), (2, 111), (3, 111), (4, 9), (5, 37), (10, 112)], none, 128, false, 0⟩
 | 115 => ⟨true, 1, false, [.nilf], [], none, 8, true, 0⟩
 | 116 => ⟨true, 1, false, [.nilf], [], none, 8, true, 0⟩
 | 117 => ⟨true, 1, false, [.nilf], [], none, 8, true, 0⟩
 | 118 => ⟨true, 1, false, [.nilf], [], none, 8, true, 0⟩
 | 119 => ⟨true, 3, true, [.t (.str []), .t (.int .i64 0), .t (.int .i64 0)], [(0, 9), (1, 3), (2, 3)], none, 32, true, 0⟩
 | 120 => ⟨true, 3, true, [.t (.str []), .t (.int .i64 0), .t (.int .i64 0)], [(0, 9), (1, 3), (2, 3)], none, 32, true, 0⟩
 | 121 => ⟨true, 1, false, [.nilf], [], none, 8, true, 0⟩
 | 122 => ⟨true, 1, false, [.nilf], [], none, 8, true, 0⟩
 | 123 => ⟨true, 1, false, [.nilf], [], none, 8, true, 0⟩
 | 124 => ⟨true, 1, false, [.nilf], [], none, 8, true, 0⟩
 | 125 => ⟨true, 1, false, [.nilf], [], none, 8, true, 0⟩
 | 126 => ⟨true, 1, false, [.nilf], [], none, 8, true, 0⟩
 | 127 => ⟨true, 1, false, [.nilf], [], none, 8, true, 0⟩
 | 128 => ⟨true, 1, false, [.t (.sl () 0 3 0 [])], [], some 133, 24, false, 0⟩
 | 129 => ⟨true, 1, false, [.nilf], [], none, 8, true, 0⟩
 | 130 => ⟨true, 1, false, [.nilf], [], none, 8, true, 0⟩
 | 131 => ⟨true, 1, false, [.nilf], [], none, 8, true, 0⟩
 | 132 => ⟨true, 3, true, [.t (.str []), .t (.int .i64 0), .t (.int .i64 0)], [(0, 9), (1, 3), (2, 3)], none, 32, true, 0⟩
 | 133 => ⟨true, 3, true, [.t (.str []), .t (.int .i64 0), .t (.int .i64 0)], [(0, 9), (1, 3), (2, 3)], none, 32, true, 0⟩
 | 134 => ⟨true, 1, false, [.nilp], [], none, 8, true, 6⟩
 | 135 => ⟨true, 3, true, [.t (.sl () 0 4 0 []), .t (.int .i64 0), .t (.int .i64 0)], [(0, 44), (1, 3), (2, 3)], none, 40, false, 0⟩
 | 136 => ⟨true, 3, true, [.t (.sl () 0 4 0 []), .t (.int .i64 0), .t (.int .i64 0)], [(0, 44), (1, 3), (2, 3)], none, 40, false, 0⟩
 | 137 => ⟨true, 1, false, [.nilf], [], none, 8, true, 0⟩
 | 138 => ⟨true, 1, false, [.nilf], [], none, 8, true, 0⟩
 | 139 => ⟨true, 1, false, [.nilf], [], none, 8, true, 0⟩
 | 140 => ⟨true, 3, true, [.t (.int .i64 0), .t (.int .i64 0), .t (.int .i64 0)], [(0, 3), (1, 3), (2, 3)], none, 24, true, 0⟩
 | 141 => ⟨true, 1, false, [.nilf], [], none, 8, true, 0⟩
 | 142 => ⟨true, 1, false, [.nilf], [], none, 8, true, 0⟩
 | 143 => ⟨true, 1, false, [.nilf], [], none, 8, true, 0⟩
 | 144 => ⟨true, 1, false, [.nilf], [], none, 8, true, 0⟩
 | 145 => ⟨true, 1, false, [.nilf], [], none, 8, true, 0⟩
 | 146 => ⟨true, 1, false, [.nilf], [], none, 8, true, 0⟩
 | 147 => ⟨true, 1, false, [.nilf], [], none, 8, true, 0⟩
 | 148 => ⟨true, 1, false, [.nilf], [], none, 8, true, 0⟩
 | 149 => ⟨true, 1, false, [.t (.sl () 0 1 0 [])], [], some 5, 24, false, 4⟩
 | 150 => ⟨true, 1, false, [.nilf], [], none, 8, true, 0⟩
 | 151 => ⟨true, 1, false, [.nilf], [], none, 8, true, 0⟩
 | 152 => ⟨true, 1, false, [.nilf], [], none, 8, true, 0⟩
 | 153 => ⟨true, 1, false, [.nilf], [], none, 8, true, 0⟩
 | 154 => ⟨true, 1, false, [.nilf], [], none, 8, true, 0⟩
 | 155 => ⟨true, 1, false, [.t (.sl () 0 1 0 [])], [], some 107, 24, false, 0⟩
 | 156 => ⟨true, 1, false, [.nilf], [], none, 8, true, 0⟩
 | 157 => ⟨true, 1, false, [.nilf], [], none, 8, true, 0⟩
 | 158 => ⟨true, 1, false, [.nilf], [], none, 8, true, 0⟩
 | 159 => ⟨true, 1, false, [.nilf], [], none, 8, true, 0⟩
 | 160 => ⟨true, 4, true, [.nilp, .nilp, .nilp, .t (.str [])], [(0, 17), (1, 17), (2, 17), (3, 9)], none, 40, true, 0⟩
 | 161 => ⟨true, 4, true, [.nilp, .nilp, .nilp, .t (.str [])], [(0, 17), (1, 17), (2, 17), (3, 9)], none, 40, true, 0⟩
 | 165 => ⟨true, 1, false, [.nilf], [], none, 8, true, 0⟩
 | 166 => ⟨true, 1, false, [.t (.int .u32 0)], [], none, 4, true, 0⟩
 | 167 => ⟨true, 1, false, [.t (.int .u8 0)], [], none, 1, true, 2⟩
 | 168 => ⟨true, 1, false, [.t (.int .u8 0)], [], none, 1, true, 2⟩
 | 169 => ⟨true, 1, false, [.nilf], [], none, 8, true, 0⟩
 | 170 => ⟨true, 1, false, [.nilp], [], none, 8, true, 6⟩
 | 171 => ⟨true, 1, false, [.t (.int .i32 0)], [], none, 4, true, 0⟩
 | 172 => ⟨true, 1, false, [.t (.int .i32 0)], [], none, 4, true, 0⟩
 | 173 => ⟨true, 11, true, [.t (.int .u64 0), .t (.int .u64 0), .t (.int .u32 0), .t (.int .u8 0), .t (.int .u8 0), .t (.int .u8 0), .t (.int .u8 0), .nilf, .nilp, .t (.int .i32 0), .t (.int .i32 0)], [(0, 12), (1, 12), (2, 166), (3, 167), (4, 5), (5, 5), (6, 168), (7, 169), (8, 170), (9, 171), (10, 172)], none, 48, true, 0⟩
 | 174 => ⟨true, 11, true, [.t (.int .u64 0), .t (.int .u64 0), .t (.int .u32 0), .t (.int .u8 0), .t (.int .u8 0), .t (.int .u8 0), .t (.int .u8 0), .nilf, .nilp, .t (.int .i32 0), .t (.int .i32 0)], [(0, 12), (1, 12), (2, 166), (3, 167), (4, 5), (5, 5), (6, 168), (7, 169), (8, 170), (9, 171), (10, 172)], none, 48, true, 0⟩
 | 175 => ⟨true, 3, true, [.t (.str []), .nilp, .nilp], [(0, 9), (1, 111), (2, 112)], none, 32, true, 0⟩
 | 176 => ⟨true, 3, true, [.t (.str []), .nilp, .nilp], [(0, 9), (1, 111), (2, 112)], none, 32, true, 0⟩
 | _ => ⟨false, 0, false, [], [], none, 0, false, 0⟩
def thT : Nat → Nat
 | 2 => 0
 | 3 => 11
 | 4 => 7
 | 5 => 11
 | 6 => 7
 | 7 => 14
 | 8 => 6
 | 9 => 7
 | 10 => 5
 | 11 => 9
 | 12 => 6
 | 13 => 6
 | 14 => 6
 | 15 => 8
 | 16 => 9
 | 17 => 5
 | 18 => 3
 | 19 => 4
 | 20 => 3
 | 21 => 5
 | 22 => 5
 | 23 => 5
 | 24 => 4
 | 25 => 4
 | 26 => 6
 | 27 => 6
 | 28 => 6
 | 29 => 6
 | 30 => 6
 | 31 => 5
 | 32 => 5
 | 33 => 7
 | 34 => 6
 | 35 => 4
 | 36 => 6
 | 37 => 7
 | 38 => 3
 | 39 => 6
 | 40 => 5
 | 41 => 6
 | 42 => 6
 | 43 => 6
 | 44 => 9
 | 45 => 3
 | 46 => 6
 | 47 => 18
 | 48 => 6
 | 49 => 3
 | 50 => 5
 | 51 => 5
 | 52 => 5
 | 53 => 3
 | 54 => 6
 | 55 => 7
 | 56 => 6
 | 57 => 6
 | 58 => 6
 | 59 => 5
 | 60 => 5
 | 61 => 5
 | 62 => 6
 | 63 => 13
 | 64 => 4
 | 65 => 12
 | 66 => 6
 | 67 => 5
 | 68 => 6
 | 69 => 6
 | 70 => 5
 | 71 => 7
 | 72 => 8
 | 73 => 5
 | 74 => 7
 | 75 => 12
 | 76 => 6
 | 77 => 6
 | 78 => 11
 | 79 => 5
 | 80 => 5
 | 81 => 5
 | 82 => 6
 | 83 => 3
 | 84 => 7
 | 85 => 11
 | 86 => 4
 | 87 => 7
 | 88 => 4
 | 89 => 12
 | 90 => 12
 | 91 => 3
 | 92 => 9
 | 93 => 16
 | 94 => 13
 | 95 => 5
 | 96 => 11
 | 97 => 5
 | 98 => 11
 | 99 => 6
 | 100 => 17
 | 101 => 6
 | 102 => 12
 | 103 => 5
 | 104 => 3
 | 105 => 3
 | 106 => 4
 | 107 => 4
 | 108 => 3
 | 109 => 5
 | 110 => 4
 | 111 => 5
 | 112 => 3
 | 113 => 3
 | 114 => 6
 | 115 => 8
 | 116 => 4
 | 117 => 3
 | 118 => 5
 | 119 => 9
 | 120 => 6
 | 121 => 3
 | 122 => 3
 | 123 => 3
 | 124 => 6
 | 125 => 6
 | 126 => 6
 | 127 => 3
 | 128 => 4
 | 129 => 3
 | 130 => 6
 | 131 => 6
 | 132 => 6
 | 133 => 5
 | 134 => 8
 | 135 => 3
 | _ => 0
def tsT : Nat → List Nat
 | 7 => [19, 27, 73]
 | 15 => [18]
 | 16 => [17]
 | 43 => [12]
 | 46 => [11]
 | 47 => [71, 109]
 | 55 => [22, 51]
 | 78 => [22]
 | 100 => [36]
 | 133 => [22]
 | _ => []
def vsT : Nat → List Nat
 | 9 => [35, 53]
 | 11 => [34, 45]
 | 26 => [13, 16]
 | 27 => [12]
 | 37 => [59]
 | 38 => [4, 7]
 | 44 => [22]
 | 47 => [129, 115]
 | 51 => [32, 66, 106, 90]
 | 55 => [78, 56, 27]
 | 63 => [34, 72, 45, 21, 26]
 | 65 => [128, 14, 19, 25, 36, 97, 101, 105, 108, 112, 116, 120]
 | 66 => [27]
 | 72 => [66, 36, 129, 105, 16, 52, 85, 117, 26, 95]
 | 75 => [21, 26, 31, 39, 46, 66, 74, 79, 88, 97]
 | 78 => [64, 71, 78, 61]
 | 79 => [33, 8, 19, 52]
 | 80 => [7, 10, 15, 22]
 | 84 => [8, 14, 20, 26]
 | 87 => [8, 15, 22, 29]
 | 93 => [43]
 | 95 => [33, 37, 6, 9, 13, 20, 29]
 | 98 => [70, 110, 81, 57, 90, 63]
 | 102 => [77, 47, 113, 53, 87, 60]
 | 110 => [6, 11, 16, 21, 24]
 | 112 => [4, 8, 14, 24]
 | 115 => [29]
 | 117 => [4, 8, 14, 24]
 | 120 => [26]
 | 121 => [5]
 | 127 => [4, 10, 13, 17]
 | 129 => [4, 10, 13, 21, 25]
 | _ => []
def movT : Nat → List Nat
 | 95 => [1]
 | _ => []
def nstT (g : Nat) : Bool := ([] : List Nat).contains g
def tkeT (g : Nat) : Bool := [94].contains g
def dptT : Nat → Nat
 | 26 => 0
 | 63 => 0
 | 93 => 0
 | 94 => 0
 | 96 => 0
 | _ => 3
def actT (g : Nat) : Bool := [13, 22, 29, 41, 57, 63, 65, 68, 77, 78, 86, 92, 93, 94, 95, 96, 100, 102, 107, 134, 135].contains g
def plcT : Nat → List Nat
 | 13 => [0]
 | 22 => [0]
 | 29 => [0]
 | 41 => [0]
 | 57 => [0]
 | 68 => [0]
 | _ => []
def ordT (f id k : Nat) : Bool := match f, id with
 | 9, 12 => [15].contains k
 | 9, 15 => [15].contains k
 | 11, 13 => [9].contains k
 | 11, 15 => [9].contains k
 | 24, 2 => [11].contains k
 | 25, 2 => [11].contains k
 | 26, 7 => [7].contains k
 | 27, 5 => [7].contains k
 | 32, 5 => [15, 16].contains k
 | 36, 5 => [8, 9].contains k
 | 44, 10 => [12].contains k
 | 44, 11 => [16].contains k
 | 47, 15 => [9, 10].contains k
 | 50, 5 => [9, 11].contains k
 | 51, 5 => [9, 11].contains k
 | 51, 7 => [14].contains k
 | 54, 6 => [5, 7].contains k
 | 55, 6 => [6].contains k
 | 55, 10 => [17].contains k
 | 63, 9 => [8, 9].contains k
 | 63, 12 => [13, 14].contains k
 | 63, 15 => [11, 12].contains k
 | 63, 16 => [13, 14].contains k
 | 63, 18 => [6, 7, 8].contains k
 | 65, 7 => [8, 9].contains k
 | 65, 13 => [10, 11].contains k
 | 65, 14 => [8, 9].contains k
 | 65, 15 => [7, 10].contains k
 | 72, 8 => [14].contains k
 | 72, 12 => [17].contains k
 | 75, 2 => [6, 7].contains k
 | 75, 14 => [12].contains k
 | 75, 16 => [6, 7].contains k
 | 75, 20 => [6, 7, 8].contains k
 | 75, 22 => [6, 7, 8].contains k
 | 85, 10 => [12].contains k
 | 89, 4 => [8, 9].contains k
 | 90, 4 => [8, 9].contains k
 | 93, 8 => [13].contains k
 | 93, 13 => [12, 15, 17].contains k
 | 94, 2 => [9].contains k
 | 98, 16 => [9].contains k
 | 98, 20 => [18].contains k
 | 99, 5 => [11].contains k
 | 100, 17 => [8].contains k
 | 102, 13 => [15].contains k
 | 102, 17 => [24].contains k
 | 115, 6 => [7].contains k
 | 134, 6 => [8].contains k
 | _, _ => false
def shrT (f id k : Nat) : List Nat := match f, id, k with
 | 9, 12, 7 => [5]
 | 9, 12, 8 => [6]
 | 9, 15, 7 => [5]
 | 9, 15, 8 => [6]
 | 12, 6, 5 => [5]
 | 28, 6, 5 => [5]
 | 32, 5, 7 => [0]
 | 32, 5, 8 => [4]
 | 36, 5, 3 => [5]
 | 44, 10, 4 => [6]
 | 44, 11, 2 => [6]
 | 44, 11, 6 => [6]
 | 47, 15, 5 => [10]
 | 51, 7, 7 => [3]
 | 55, 6, 10 => [22]
 | 55, 10, 7 => [3]
 | 56, 6, 5 => [5]
 | 63, 9, 4 => [6]
 | 63, 12, 8 => [6]
 | 63, 12, 10 => [3]
 | 63, 15, 4 => [6]
 | 63, 15, 6 => [6]
 | 63, 16, 8 => [6]
 | 63, 16, 10 => [3]
 | 63, 18, 4 => [6]
 | 65, 7, 3 => [4]
 | 65, 13, 3 => [4]
 | 65, 13, 5 => [4]
 | 65, 14, 4 => [2]
 | 72, 12, 10 => [5]
 | 75, 2, 3 => [7]
 | 75, 14, 5 => [7]
 | 75, 16, 3 => [7]
 | 75, 20, 4 => [7]
 | 75, 22, 4 => [7]
 | 76, 6, 5 => [5]
 | 82, 1, 3 => [2]
 | 82, 1, 11 => [2]
 | 82, 1, 20 => [2]
 | 82, 6, 5 => [2]
 | 82, 6, 6 => [5]
 | 85, 1, 6 => [3]
 | 89, 10, 7 => [11]
 | 89, 10, 10 => [4]
 | 89, 10, 11 => [11]
 | 89, 10, 14 => [5]
 | 89, 10, 15 => [11]
 | 90, 10, 7 => [11]
 | 90, 10, 11 => [4]
 | 90, 10, 12 => [11]
 | 90, 10, 17 => [5]
 | 90, 10, 18 => [11]
 | 98, 7, 8 => [6]
 | 98, 7, 12 => [10]
 | 98, 20, 11 => [6]
 | 99, 5, 5 => [0]
 | 99, 5, 6 => [5]
 | 102, 13, 6 => [0]
 | 102, 17, 17 => [4]
 | 115, 6, 4 => [3]
 | 130, 6, 5 => [5]
 | _, _, _ => []
def pndT (f id k : Nat) : List Nat := match f, id, k with
 | 47, 15, 9 => [4, 5, 6, 7]
 | 63, 18, 6 => [0, 1]
 | 65, 15, 7 => [0]
 | 75, 2, 6 => [3, 4, 5]
 | 93, 13, 12 => [0, 1]
 | _, _, _ => []
def palT (f id k : Nat) : List Nat := match f, id, k with
 | 63, 12, 13 => [12]
 | 63, 15, 11 => [10]
 | 63, 16, 13 => [12]
 | _, _, _ => []
def prmT (f id : Nat) : List Nat := match f, id with
 | 55, 6 => [0, 1, 2, 3, 4, 5, 6, 7, 9, 8, 10]
 | 63, 12 => [0, 1, 2, 3, 4, 5, 6, 7, 8, 9, 10, 11, 13, 12, 14]
 | 63, 15 => [0, 1, 2, 3, 4, 5, 6, 7, 8, 9, 11, 10, 12]
 | 63, 16 => [0, 1, 2, 3, 4, 5, 6, 7, 8, 9, 10, 11, 13, 12, 14]
 | _, _ => []
def tlT (f id : Nat) : Option Nat := match f, id with
 | 55, 6 => some 7
 | _, _ => none
def zXy : List Nat := [2, 3, 4, 5, 6, 7, 8, 9, 10, 11, 12, 13, 14, 15, 16, 17, 18, 19, 20, 21, 22, 23, 24, 25, 26, 27, 28, 29, 30, 31, 32, 33, 34, 35, 36, 37, 38, 39, 40, 41, 42, 43, 44, 45, 46, 47, 48, 49, 50, 51, 52, 53, 54, 55, 56, 57, 58, 59, 60, 61, 62, 63, 64, 65, 66, 67, 68, 69, 70, 71, 72, 73, 74, 75, 76, 77, 78, 79, 80, 81, 82, 83, 84, 85, 86, 87, 88, 89, 90, 91, 92, 93, 94, 95, 96, 97, 98, 99, 100, 101, 102, 103, 104, 105, 106, 107, 108, 109, 110, 111, 112, 113, 114, 115, 116, 117, 118, 119, 120, 121, 122, 123, 124, 125, 126, 127, 128, 129, 130, 131, 132, 133, 134, 135]
def orcT : Nat → Option (List XU → Option XU)
 | _ => none
def groT : Nat → Option (Nat × Nat)
 | 133 => some (1, 16)
 | _ => none
def cx0 : Ctx := { ty := tyT, th := thT, vs := vsT, ts := tsT, act := actT, plc := plcT, nst := nstT, tke := tkeT, dpt := dptT, mov := movT, good := zXy.contains, ord := ordT, shr := shrT, pnd := pndT, pal := palT, prm := prmT, tl := tlT, orc := orcT, gro := groT }
def T0 : World → Prop := fun _ => True
theorem horc : ∀ g h args x, cx0.orc g = some h → h args = some x → m5 Try.prog g ∧
  ∀ (w : World) (E : Nat → Prop) (P : Nat → Nat → Prop) (R : Nat → Prop) (ea : List EA) (argsG : List XV), iP T0 w E → argsG.map erX = args → In w E P R ea argsG [] →
   Calls Try.prog g (argsG.map zS).toArray w (fun
    | .returned v, w' => ∃ resG, erX resG = x ∧ v = zS resG ∧ Out w E P R ea w' resG []
    | _, _ => False) := by
 intro g h args x ho hx
 simp only [cx0, orcT] at ho
 cases ho
theorem aI : zBb Try.prog cx0 := by
 intro g q ho
 simp only [cx0, groT] at ho
 split at ho
 ·cases ho; exact zMz
 ·cases ho
theorem cxOk : CtxOk Try.prog cx0 T0 := zSx (by kernel_rfl) 178 (by kernel_rfl) (fun t ht => by unfold cx0 tyT; simp only; split <;> first | rfl | omega) zXy (fun _ => rfl) (by kernel_rfl) horc aI
end Go.Proofs.Ytlkjnlfddadlmaa.V
