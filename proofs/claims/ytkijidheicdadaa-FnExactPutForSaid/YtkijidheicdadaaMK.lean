/-
  strings.IndexByte: what it answers. No conditions.
-/
import Derived.KernelRfl
import Derived.Lib.Strings
import Derived.Lib.Slices
import Derived.Lib.Walk
import Derived.Lib.Bytealg
import Derived.WalkKit
import Derived.Test.YtkijidheicdadaaProg
import Derived.Test.YtkijidheicdadaaM6
import Derived.Lib.AppendZeros
import Derived.Lib.AppendZerosOnto
import Derived.Lib.SliceRun
import Derived.Shelf.RegionOpenPlain
set_option linter.unusedVariables false
set_option linter.unusedSimpArgs false
namespace Go.Proofs.Ytkijidheicdadaa.V
open Go.RowKit
set_option maxHeartbeats 1000000
set_option maxRecDepth 100000

theorem lite_IndexByte (s : ByteArray) (c : Int) (w : World) :
    Calls Try.prog 90 #[.string s, .int .u8 c] w fun e w' => e = .returned (.int .i64 (Lib.indexByte s.data.toList c.toNat.toUInt8)) ∧ w' = w := by
  go_enter Try.func90, Try.ntmps90
  go_wp2
  rw [run_callFunc_extern Try.func93 (by kernel_rfl) (by kernel_rfl) (by kernel_rfl) (e := Extern.BytealgIndexByte.indexByte) (by kernel_rfl), Lib.run_indexByteString]
  simp only [Result.andThen]
  rw [Oper.upon_value]
  go_wp2
  go_ret
  exact ⟨rfl, rfl⟩

theorem strings_IndexByte (s : ByteArray) (c : Int) (w : World) :
    Calls Try.prog 81 #[.string s, .int .u8 c] w fun e w' => e = .returned (.int .i64 (Lib.indexByte s.data.toList c.toNat.toUInt8)) ∧ w' = w := by
  go_enter Try.func81, Try.ntmps81
  go_wp2_with (go_at_call 90; refine (lite_IndexByte _ _ _).mono ?_; rintro e w' ⟨rfl, rfl⟩)
  go_ret
  exact ⟨rfl, rfl⟩

def orcIndexByte : List XU → Option XU := orcSB fun s c => Lib.indexByte s c.toNat.toUInt8

theorem orcIndexByte_ok : OrcOk Try.prog 81 orcIndexByte := orc_sb (enters_prog (fn := Try.f81) rfl rfl (by kernel_rfl)) strings_IndexByte
end Go.Proofs.Ytkijidheicdadaa.V

namespace Go.Proofs.Ytkijidheicdadaa.V
open Go.RowKit Go.Lib
set_option linter.unusedVariables false
set_option linter.unusedSimpArgs false
set_option maxHeartbeats 4000000
set_option maxRecDepth 100000

theorem grow0 (w : World) : Calls Try.prog 92 #[.slice none 0 0, .int .i64 ((0 : Nat) : Int)] w fun e w' => e = .returned (.slice none 0 0) ∧ w' = w := by
  go_enter Try.func92, Try.ntmps92
  go_wp2
  go_ret
  exact ⟨rfl, rfl⟩

theorem growN (n : Nat) (w : World) (h0 : 0 < n) (hbig : n * 16 ≤ 140737488355328) : Calls Try.prog 92 #[.slice none 0 0, .int .i64 n] w fun e w' =>
    e = .returned (.slice (some ⟨w.heap.size, 0, none⟩) 0 (grownCap w n 0 9)) ∧
      w' = w.drew.alloc (.cells (#[] ++ Builtin.zeroCells (Value.string ⟨#[]⟩).cells n ++ Builtin.zeroCells (Value.string ⟨#[]⟩).cells (grownCap w n 0 9 - n)) 9) := by
  have hi0 : Try.prog.info? 9 = some Try.t9 := by kernel_rfl
  have hz0 : Try.t9.zero = some (.string ⟨#[]⟩) := by kernel_rfl
  have hs0 : Try.t9.size = 1 := by kernel_rfl
  have hb0 : Try.t9.bytes = 16 := by kernel_rfl
  have u22 : Try.prog.underlying 50 = some (.slice 9) := by kernel_rfl
  have u3 : Try.prog.underlying 3 = some (.int .i64) := by kernel_rfl
  have h1 : ¬ ((n : Int) < 0) := by omega
  have h3 : Go.RowKit.wrap64 (n : Int) = n := by unfold Go.RowKit.wrap64; omega
  have h4 : (n : Int) > 0 := by omega
  have hold : (Builtin.firstCells Try.t9.size 0 (.slice none 0 0)).run Try.prog w.drew = .ok ([] : List Value).toArray w.drew := run_firstCells_none w.drew _ 0 0 0
  have hrz : ∀ ty, (Builtin.append_ #[50, 3] ty #[.slice none 0 0, .int .i64 n]).run Try.prog w = .ok (.slice (some ⟨w.heap.size, 0, none⟩) n (grownCap w n 0 9))
      (w.drew.alloc (.cells (#[] ++ Builtin.zeroCells (Value.string ⟨#[]⟩).cells n ++ Builtin.zeroCells (Value.string ⟨#[]⟩).cells (grownCap w n 0 9 - n)) 9)) := fun ty => by
    have h := Lib.run_append_grow_zeros w 50 3 ty 9 _ _ .i64 .i64 u22 u3 hi0 hz0 none 0 0 [] hold n h0 (by rw [hs0]; omega) (by omega) (by omega)
      (by rw [hb0]; omega) (by rw [hb0]; exact growslice_fits (by omega) (by omega))
    simpa using h
  have hGn : n ≤ grownCap w n 0 9 := grownCap_ge w _ _ _
  obtain ⟨G, hG⟩ : ∃ G, G = grownCap w n 0 9 := ⟨_, rfl⟩
  rw [← hG] at hrz hGn ⊢
  have hG63 : G ≤ 9223372036854775807 := by
    have := grownCap_le_maxLen w n 0 9 (by unfold maxLen; omega)
    rw [← hG] at this
    unfold maxLen at this
    omega
  clear hold hG
  go_enter Try.func92, Try.ntmps92
  go_wp2_with (at_builtin; refine Lib.wpList_append_run _ rfl _ _ _ _ rfl _ _ rfl rfl _ _ (hrz _) ?_)
  all_goals (go_ret; exact ⟨rfl, rfl⟩)

theorem alloc_at (w : World) (o : Obj) : (w.drew.alloc o).heap[w.heap.size]? = some o := by
  have : (w.drew.alloc o).heap = w.heap.push o := rfl
  rw [this, Array.getElem?_push_size]

theorem zeroCells_size (k : Nat) : (Builtin.zeroCells (Value.string ⟨#[]⟩).cells k).size = k := by
  have e : (Value.string ⟨#[]⟩).cells = #[.string ⟨#[]⟩] := rfl
  rw [e]
  simp [Builtin.zeroCells]

theorem gro_string : Enters Try.prog 92 ∧ ∀ (n : Nat) (w : World), n * 16 ≤ 140737488355328 → n ≤ maxLen →
    Calls Try.prog 92 #[.slice none 0 0, .int .i64 n] w fun e w' => ∃ v, e = .returned v ∧ Grow w w' ∧ (v = .slice none 0 0 ∨ ∃ cap cur ty, v = .slice (some ⟨w.heap.size, 0, none⟩) 0 cap ∧ w'.heap[w.heap.size]? = some (.cells cur ty (0, 0)) ∧ cap * 1 ≤ cur.size) := by
  refine ⟨enters_prog (fn := Try.f92) rfl rfl (by kernel_rfl), fun n w h _ => ?_⟩
  rcases Nat.eq_zero_or_pos n with rfl | h0
  · refine (grow0 w).mono fun e w' ⟨h1, h2⟩ => ?_
    subst h2
    exact ⟨_, h1, Grow.refl _, .inl rfl⟩
  · refine (growN n w h0 h).mono fun e w' ⟨h1, h2⟩ => ?_
    subst h2
    refine ⟨_, h1, (Grow.drew w).trans (Grow.alloc _ _), .inr ⟨_, #[] ++ Builtin.zeroCells (Value.string ⟨#[]⟩).cells n ++ Builtin.zeroCells (Value.string ⟨#[]⟩).cells (grownCap w n 0 9 - n), 9, rfl, ?_, ?_⟩⟩
    · exact alloc_at w _
    · have := grownCap_ge w n 0 9
      simp only [Array.size_append, zeroCells_size, Array.size_empty]
      omega
end Go.Proofs.Ytkijidheicdadaa.V

namespace Go.Proofs.Ytkijidheicdadaa.V
set_option maxRecDepth 100000

def tyT : Nat → Ty
  | 1 => ⟨true, 1, false, [.nilf], [], none, 8, true, 0⟩
  | 2 => ⟨true, 1, false, [.t (.int .i64 0)], [], none, 8, true, 1⟩
  | 3 => ⟨true, 1, false, [.t (.int .i64 0)], [], none, 8, true, 1⟩
  | 4 => ⟨true, 1, false, [.t (.bool false)], [], none, 1, true, 5⟩
  | 5 => ⟨true, 1, false, [.t (.int .u8 0)], [], none, 1, true, 2⟩
  | 6 => ⟨true, 1, false, [.t (.int .u8 0)], [], none, 1, true, 2⟩
  | 7 => ⟨true, 4, true, [.t (.int .i64 0), .t (.int .i64 0), .t (.bool false), .t (.int .u8 0)], [(0, 2), (1, 3), (2, 4), (3, 6)], none, 24, true, 0⟩
  | 8 => ⟨true, 4, true, [.t (.int .i64 0), .t (.int .i64 0), .t (.bool false), .t (.int .u8 0)], [(0, 2), (1, 3), (2, 4), (3, 6)], none, 24, true, 0⟩
  | 9 => ⟨true, 1, false, [.t (.str [])], [], none, 16, true, 3⟩
  | 10 => ⟨true, 1, false, [.t (.str [])], [], none, 16, true, 3⟩
  | 11 => ⟨true, 1, false, [.t (.str [])], [], none, 16, true, 3⟩
  | 12 => ⟨true, 1, false, [.t (.int .u64 0)], [], none, 8, true, 0⟩
  | 13 => ⟨true, 2, true, [.t (.str []), .t (.int .u64 0)], [(0, 9), (1, 12)], none, 24, true, 0⟩
  | 14 => ⟨true, 2, true, [.t (.str []), .t (.int .u64 0)], [(0, 9), (1, 12)], none, 24, true, 0⟩
  | 15 => ⟨true, 1, false, [.nilp], [], none, 8, true, 6⟩
  | 16 => ⟨true, 1, false, [.nilp], [], none, 8, true, 6⟩
  | 17 => ⟨true, 1, false, [.nilp], [], none, 8, true, 6⟩
  | 18 => ⟨true, 1, true, [.nilp], [(0, 17)], none, 8, true, 0⟩
  | 19 => ⟨true, 1, true, [.nilp], [(0, 17)], none, 8, true, 0⟩
  | 20 => ⟨true, 1, false, [.t .nili], [], none, 16, true, 7⟩
  | 21 => ⟨true, 1, false, [.t (.int .i32 0)], [], none, 4, true, 0⟩
  | 22 => ⟨true, 1, false, [.t (.sl () 0 3 0 [])], [], some 58, 24, false, 0⟩
  | 23 => ⟨true, 1, false, [.nilf], [], none, 8, true, 0⟩
  | 24 => ⟨true, 1, false, [.nilf], [], none, 8, true, 0⟩
  | 25 => ⟨true, 1, false, [.t (.sl () 0 3 0 [])], [], some 56, 24, false, 0⟩
  | 26 => ⟨true, 1, false, [.nilf], [], none, 8, true, 0⟩
  | 27 => ⟨true, 1, false, [.nilf], [], none, 8, true, 0⟩
  | 28 => ⟨true, 1, false, [.nilf], [], none, 8, true, 0⟩
  | 29 => ⟨true, 1, false, [.t (.sl () 0 5 0 [])], [], some 31, 24, false, 0⟩
  | 30 => ⟨true, 5, true, [.t (.int .i64 0), .t (.int .i64 0), .t (.str []), .t (.str []), .t (.sl () 0 5 0 [])], [(0, 3), (1, 3), (2, 9), (3, 9), (4, 29)], none, 72, false, 0⟩
  | 31 => ⟨true, 5, true, [.t (.int .i64 0), .t (.int .i64 0), .t (.str []), .t (.str []), .t (.sl () 0 5 0 [])], [(0, 3), (1, 3), (2, 9), (3, 9), (4, 29)], none, 72, false, 0⟩
  | 32 => ⟨true, 1, false, [.nilf], [], none, 8, true, 0⟩
  | 33 => ⟨true, 1, false, [.nilf], [], none, 8, true, 0⟩
  | 34 => ⟨true, 1, false, [.t (.sl () 0 5 0 [])], [], some 36, 24, false, 0⟩
  | 35 => ⟨true, 5, true, [.t (.int .i64 0), .t (.int .i64 0), .t (.str []), .t (.str []), .t (.sl () 0 5 0 [])], [(0, 3), (1, 3), (2, 9), (3, 9), (4, 34)], none, 72, false, 0⟩
  | 36 => ⟨true, 5, true, [.t (.int .i64 0), .t (.int .i64 0), .t (.str []), .t (.str []), .t (.sl () 0 5 0 [])], [(0, 3), (1, 3), (2, 9), (3, 9), (4, 34)], none, 72, false, 0⟩
  | 37 => ⟨true, 1, false, [.nilf], [], none, 8, true, 0⟩
  | 38 => ⟨true, 1, false, [.nilf], [], none, 8, true, 0⟩
  | 39 => ⟨true, 1, false, [.nilf], [], none, 8, true, 0⟩
  | 40 => ⟨true, 1, false, [.nilf], [], none, 8, true, 0⟩
  | 41 => ⟨true, 1, false, [.t (.sl () 0 1 0 [])], [], some 3, 24, false, 0⟩
  | 42 => ⟨true, 1, false, [.nilf], [], none, 8, true, 0⟩
  | 43 => ⟨true, 1, false, [.nilf], [], none, 8, true, 0⟩
  | 44 => ⟨true, 1, false, [.nilf], [], none, 8, true, 0⟩
  | 45 => ⟨true, 1, false, [.nilf], [], none, 8, true, 0⟩
  | 46 => ⟨true, 1, false, [.nilf], [], none, 8, true, 0⟩
  | 47 => ⟨true, 1, false, [.nilf], [], none, 8, true, 0⟩
  | 48 => ⟨true, 1, false, [.nilf], [], none, 8, true, 0⟩
  | 49 => ⟨true, 1, false, [.nilf], [], none, 8, true, 0⟩
  | 50 => ⟨true, 1, false, [.t (.sl () 0 1 0 [])], [], some 9, 24, false, 0⟩
  | 51 => ⟨true, 1, false, [.nilf], [], none, 8, true, 0⟩
  | 52 => ⟨true, 1, false, [.nilf], [], none, 8, true, 0⟩
  | 53 => ⟨true, 1, false, [.nilf], [], none, 8, true, 0⟩
  | 54 => ⟨true, 1, false, [.nilf], [], none, 8, true, 0⟩
  | 55 => ⟨true, 3, true, [.t (.int .i64 0), .t (.int .i64 0), .t (.int .i64 0)], [(0, 3), (1, 3), (2, 3)], none, 24, true, 0⟩
  | 56 => ⟨true, 3, true, [.t (.int .i64 0), .t (.int .i64 0), .t (.int .i64 0)], [(0, 3), (1, 3), (2, 3)], none, 24, true, 0⟩
  | 57 => ⟨true, 1, false, [.nilf], [], none, 8, true, 0⟩
  | 58 => ⟨true, 3, true, [.t (.int .i64 0), .t (.int .i64 0), .t (.int .i64 0)], [(0, 3), (1, 3), (2, 3)], none, 24, true, 0⟩
  | 59 => ⟨true, 1, false, [.nilf], [], none, 8, true, 0⟩
  | 60 => ⟨true, 1, false, [.nilf], [], none, 8, true, 0⟩
  | 61 => ⟨true, 1, false, [.nilf], [], none, 8, true, 0⟩
  | 62 => ⟨true, 1, false, [.nilf], [], none, 8, true, 0⟩
  | 63 => ⟨true, 1, false, [.nilf], [], none, 8, true, 0⟩
  | 64 => ⟨true, 1, false, [.nilf], [], none, 8, true, 0⟩
  | 65 => ⟨true, 1, false, [.nilf], [], none, 8, true, 0⟩
  | 66 => ⟨true, 1, false, [.nilf], [], none, 8, true, 0⟩
  | 67 => ⟨true, 1, false, [.nilf], [], none, 8, true, 0⟩
  | 68 => ⟨true, 1, false, [.nilf], [], none, 8, true, 0⟩
  | 69 => ⟨true, 1, false, [.nilf], [], none, 8, true, 0⟩
  | 70 => ⟨true, 1, false, [.nilf], [], none, 8, true, 0⟩
  | 71 => ⟨true, 1, false, [.nilf], [], none, 8, true, 0⟩
  | 72 => ⟨true, 1, false, [.nilf], [], none, 8, true, 0⟩
  | 73 => ⟨true, 1, false, [.nilf], [], none, 8, true, 0⟩
  | 74 => ⟨true, 1, false, [.nilf], [], none, 8, true, 0⟩
  | 75 => ⟨true, 1, false, [.nilf], [], none, 8, true, 0⟩
  | 76 => ⟨true, 1, false, [.nilf], [], none, 8, true, 0⟩
  | 77 => ⟨true, 1, false, [.nilf], [], none, 8, true, 0⟩
  | 78 => ⟨true, 1, false, [.nilf], [], none, 8, true, 0⟩
  | 79 => ⟨true, 1, false, [.nilf], [], none, 8, true, 0⟩
  | 80 => ⟨true, 1, false, [.nilf], [], none, 8, true, 0⟩
  | 81 => ⟨true, 1, false, [.nilf], [], none, 8, true, 0⟩
  | 82 => ⟨true, 1, false, [.nilf], [], none, 8, true, 0⟩
  | 83 => ⟨true, 1, false, [.nilf], [], none, 8, true, 0⟩
  | 84 => ⟨true, 1, false, [.nilf], [], none, 8, true, 0⟩
  | 85 => ⟨true, 1, false, [.nilf], [], none, 8, true, 0⟩
  | 86 => ⟨true, 1, false, [.nilf], [], none, 8, true, 0⟩
  | 87 => ⟨true, 1, false, [.t (.sl () 0 1 0 [])], [], some 5, 24, false, 4⟩
  | 88 => ⟨true, 1, false, [.nilf], [], none, 8, true, 0⟩
  | 89 => ⟨true, 1, false, [.t (.sl () 0 1 0 [])], [], some 50, 24, false, 0⟩
  | 90 => ⟨true, 1, false, [.nilf], [], none, 8, true, 0⟩
  | 91 => ⟨true, 1, false, [.nilf], [], none, 8, true, 0⟩
  | 92 => ⟨true, 4, true, [.nilp, .nilp, .nilp, .t (.str [])], [(0, 17), (1, 17), (2, 17), (3, 9)], none, 40, true, 0⟩
  | 93 => ⟨true, 4, true, [.nilp, .nilp, .nilp, .t (.str [])], [(0, 17), (1, 17), (2, 17), (3, 9)], none, 40, true, 0⟩
  | 97 => ⟨true, 1, false, [.nilf], [], none, 8, true, 0⟩
  | 98 => ⟨true, 1, false, [.t (.int .u32 0)], [], none, 4, true, 0⟩
  | 99 => ⟨true, 1, false, [.t (.int .u8 0)], [], none, 1, true, 2⟩
  | 100 => ⟨true, 1, false, [.t (.int .u8 0)], [], none, 1, true, 2⟩
  | 101 => ⟨true, 1, false, [.nilf], [], none, 8, true, 0⟩
  | 102 => ⟨true, 1, false, [.nilp], [], none, 8, true, 6⟩
  | 103 => ⟨true, 1, false, [.t (.int .i32 0)], [], none, 4, true, 0⟩
  | 104 => ⟨true, 1, false, [.t (.int .i32 0)], [], none, 4, true, 0⟩
  | 105 => ⟨true, 11, true, [.t (.int .u64 0), .t (.int .u64 0), .t (.int .u32 0), .t (.int .u8 0), .t (.int .u8 0), .t (.int .u8 0), .t (.int .u8 0), .nilf, .nilp, .t (.int .i32 0), .t (.int .i32 0)], [(0, 12), (1, 12), (2, 98), (3, 99), (4, 5), (5, 5), (6, 100), (7, 101), (8, 102), (9, 103), (10, 104)], none, 48, true, 0⟩
  | 106 => ⟨true, 11, true, [.t (.int .u64 0), .t (.int .u64 0), .t (.int .u32 0), .t (.int .u8 0), .t (.int .u8 0), .t (.int .u8 0), .t (.int .u8 0), .nilf, .nilp, .t (.int .i32 0), .t (.int .i32 0)], [(0, 12), (1, 12), (2, 98), (3, 99), (4, 5), (5, 5), (6, 100), (7, 101), (8, 102), (9, 103), (10, 104)], none, 48, true, 0⟩
  | _ => ⟨false, 0, false, [], [], none, 0, false, 0⟩

def thT : Nat → Nat
  | 2 => 0
  | 3 => 9
  | 4 => 7
  | 5 => 7
  | 6 => 7
  | 7 => 7
  | 8 => 7
  | 9 => 7
  | 10 => 11
  | 11 => 9
  | 12 => 16
  | 13 => 11
  | 14 => 5
  | 15 => 6
  | 16 => 5
  | 17 => 6
  | 18 => 6
  | 19 => 5
  | 20 => 3
  | 21 => 4
  | 22 => 3
  | 23 => 5
  | 24 => 3
  | 25 => 3
  | 26 => 5
  | 27 => 6
  | 28 => 5
  | 29 => 6
  | 30 => 6
  | 31 => 7
  | 32 => 4
  | 33 => 5
  | 34 => 3
  | 35 => 4
  | 36 => 6
  | 37 => 5
  | 38 => 6
  | 39 => 6
  | 40 => 5
  | 41 => 6
  | 42 => 7
  | 43 => 10
  | 44 => 5
  | 45 => 3
  | 46 => 4
  | 47 => 6
  | 48 => 6
  | 49 => 6
  | 50 => 7
  | 51 => 4
  | 52 => 7
  | 53 => 5
  | 54 => 6
  | 55 => 5
  | 56 => 6
  | 57 => 3
  | 58 => 5
  | 59 => 5
  | 60 => 3
  | 61 => 5
  | 62 => 5
  | 63 => 3
  | 64 => 6
  | 65 => 6
  | 66 => 3
  | 67 => 6
  | 68 => 9
  | 69 => 8
  | 70 => 4
  | 71 => 11
  | 72 => 6
  | 73 => 5
  | 74 => 6
  | 75 => 6
  | 76 => 8
  | 77 => 3
  | 78 => 4
  | 79 => 4
  | 80 => 3
  | 81 => 5
  | 82 => 6
  | 83 => 6
  | 84 => 8
  | 85 => 9
  | 86 => 5
  | 87 => 6
  | 88 => 5
  | 89 => 3
  | 90 => 5
  | 91 => 6
  | 92 => 5
  | _ => 0

def tsT : Nat → List Nat
  | 33 => [9]
  | 92 => [22]
  | _ => []

def vsT : Nat → List Nat
  | 26 => [7, 10]
  | 27 => [8, 11]
  | 74 => [26]
  | 84 => [29]
  | _ => []

def movT : Nat → List Nat
  | 64 => [1]
  | 76 => [2]
  | _ => []

def nstT (g : Nat) : Bool := ([] : List Nat).contains g

def actT (g : Nat) : Bool := [37, 38, 48, 62, 63, 64, 65, 66, 67, 69, 70, 76, 77, 82].contains g

def plcT : Nat → List Nat
  | 37 => [0]
  | 38 => [0]
  | 48 => [0]
  | 67 => [0]
  | _ => []

def ordT (f id k : Nat) : Bool := match f, id with
  | 12, 10 => [7].contains k
  | 12, 33 => [7].contains k
  | 30, 5 => [20].contains k
  | 34, 1 => [2, 3].contains k
  | 43, 9 => [5, 7].contains k
  | 43, 10 => [7, 9].contains k
  | 64, 2 => [12].contains k
  | 68, 5 => [13].contains k
  | 69, 6 => [8].contains k
  | 71, 7 => [15, 17].contains k
  | 72, 6 => [5, 7].contains k
  | 76, 6 => [10, 11].contains k
  | 84, 6 => [7].contains k
  | 86, 5 => [9, 11].contains k
  | _, _ => false

def shrT (f id k : Nat) : List Nat := match f, id, k with
  | 18, 6, 5 => [5]
  | 30, 5, 6 => [1]
  | 36, 6, 5 => [5]
  | 47, 6, 5 => [5]
  | 56, 6, 5 => [5]
  | 64, 2, 4 => [1]
  | 64, 2, 5 => [2]
  | 68, 5, 7 => [3]
  | 68, 5, 8 => [8]
  | 71, 7, 9 => [4]
  | 71, 7, 10 => [10]
  | 76, 6, 5 => [3]
  | 76, 6, 6 => [7]
  | 84, 6, 4 => [3]
  | _, _, _ => []

def goodL : List Nat := [2, 3, 4, 5, 6, 7, 8, 9, 10, 11, 12, 13, 14, 15, 16, 17, 18, 19, 20, 21, 22, 23, 24, 25, 26, 27, 28, 29, 30, 31, 32, 33, 34, 35, 36, 37, 38, 39, 40, 41, 42, 43, 44, 45, 46, 47, 48, 49, 50, 51, 52, 53, 54, 55, 56, 57, 58, 59, 60, 61, 62, 63, 64, 65, 66, 67, 68, 69, 70, 71, 72, 73, 74, 75, 76, 77, 78, 79, 80, 81, 82, 83, 84, 85, 86, 87, 88, 89, 90, 91, 92]

def orcT : Nat → Option (List XU → Option XU)
  | 81 => some orcIndexByte
  | _ => none

def groT : Nat → Option (Nat × Nat)
  | 92 => some (1, 16)
  | _ => none

def cx0 : Ctx := { ty := tyT, th := thT, vs := vsT, ts := tsT, act := actT, plc := plcT, nst := nstT, mov := movT, good := goodL.contains, ord := ordT, shr := shrT, orc := orcT, gro := groT }

theorem horc : ∀ g h args x, cx0.orc g = some h → h args = some x → Enters Try.prog g ∧
    ∀ (w : World) (E : Nat → Prop) (P : Nat → Nat → Prop) (R : Nat → Prop) (ea : List EA) (argsG : List XV), argsG.map erX = args → In w E P R ea argsG [] →
      Calls Try.prog g (argsG.map valX).toArray w (fun
        | .returned v, w' => ∃ resG, erX resG = x ∧ v = valX resG ∧ Out w E P R ea w' resG []
        | _, _ => False) := by
  intro g h args x ho hx
  simp only [cx0, orcT] at ho
  split at ho
  · cases ho; exact orcIndexByte_ok args x hx
  · cases ho

theorem hgro : GroOk Try.prog cx0 := by
  intro g q ho
  simp only [cx0, groT] at ho
  split at ho
  · cases ho; exact gro_string
  · cases ho

theorem cxOk : CtxOk Try.prog cx0 := ctxOk_of (by kernel_rfl) 108 (by kernel_rfl) (fun t ht => by unfold cx0 tyT; simp only; split <;> first | rfl | omega) goodL (fun _ => rfl) (by kernel_rfl) horc hgro

end Go.Proofs.Ytkijidheicdadaa.V
