/-
  DERIVED: THE SHELF's CONTRACTS AT THIS DUMP, IN PLAIN WORDS (tools/lay-plain.mjs out of 'TrydShelf.lean', which tools/lay-shelf.mjs wrote): THE SAME DECLARATIONS UNDER THE SAME NAMES: 'import', 'namespace', 'open', 'def', 'theorem' AND NOTHING ELSE: no command of the shelf's: FOR A HAND-IN. Each laying: the table of numbers ('.._ren') and one theorem, a field a fact of the dump's own or the kernel's comparison; each contract: ONE APPLICATION.
-/
import Derived.Shelf.Strings.Builder1
import Derived.Shelf.Strings.Builder2
import Derived.Shelf.Strings.OnBuilder
import Derived.Shelf.Strconv.Itoa0
import Derived.Shelf.Strconv.Itoa1
import Derived.Shelf.LaysM
import Derived.Shelf.Strconv.Itoa2
import Derived.Shelf.Strconv.Itoa3
import Derived.Test.YtlkjnlfddadlmaaDoorProg
import Derived.Test.YtlkjnlfddadlmaaDoorM6
import Derived.KernelRfl
import Derived.Lib.AppendZeros
import Derived.Lib.AppendZerosOnto
import Derived.Lib.Walk
import Derived.Lib.SliceRun
import Derived.WalkKit
import Derived.Shelf.RegionOpenPlain
set_option linter.unusedVariables false
set_option linter.unusedSimpArgs false
namespace Go.Proofs
open Go.Shelf
def Tryd.lays156_ren : Go.Shelf.Ren := ⟨fun | 156 => 21 | 165 => 36 | 166 => 37 | 169 => 38 | 240 => 60 | 241 => 61 | 276 => 77 | 277 => 78 | n => n, fun | 31 => 40 | 9 => 9 | 3 => 3 | 4 => 4 | 0 => 0 | 20 => 20 | 72 => 56 | 76 => 60 | 70 => 54 | 37 => 53 | 75 => 59 | 127 => 75 | 164 => 90 | 5 => 5 | 80 => 62 | n => n, fun | n => n⟩
theorem Tryd.lays156 : Go.Proofs.Lays.n156 Tryd.prog Tryd.lays156_ren := {
  mixed := by kernel_rfl
  f156 := Tryd.func21.trans (congrArg some (by kernel_rfl))
  f165 := Tryd.func36.trans (congrArg some (by kernel_rfl))
  f166 := Tryd.func37.trans (congrArg some (by kernel_rfl))
  f169 := Tryd.func38.trans (congrArg some (by kernel_rfl))
  f240 := Tryd.func60.trans (congrArg some (by kernel_rfl))
  f241 := Tryd.func61.trans (congrArg some (by kernel_rfl))
  f276 := Tryd.func77.trans (congrArg some (by kernel_rfl))
  f277 := Tryd.func78.trans (congrArg some (by kernel_rfl))
  t0 := Tryd.underlying0
  a0 := Tryd.isAgg0
  z0 := Tryd.sizeOf0
  v0 := Tryd.zeroValue0
  t3 := Tryd.underlying3
  a3 := Tryd.isAgg3
  z3 := Tryd.sizeOf3
  v3 := Tryd.zeroValue3
  t4 := Tryd.underlying4
  a4 := Tryd.isAgg4
  z4 := Tryd.sizeOf4
  v4 := Tryd.zeroValue4
  t9 := Tryd.underlying9
  a9 := Tryd.isAgg9
  z9 := Tryd.sizeOf9
  v9 := Tryd.zeroValue9
  t20 := Tryd.underlying20
  a20 := Tryd.isAgg20
  z20 := Tryd.sizeOf20
  v20 := Tryd.zeroValue20
  t31 := Tryd.underlying40
  a31 := Tryd.isAgg40
  z31 := Tryd.sizeOf40
  v31 := Tryd.zeroValue40
  t37 := Tryd.underlying53
  a37 := Tryd.isAgg53
  z37 := Tryd.sizeOf53
  v37 := Tryd.zeroValue53
  t70 := Tryd.underlying54
  a70 := Tryd.isAgg54
  z70 := Tryd.sizeOf54
  v70 := Tryd.zeroValue54
  t72 := Tryd.underlying56
  a72 := Tryd.isAgg56
  z72 := Tryd.sizeOf56
  v72 := Tryd.zeroValue56
  t75 := Tryd.underlying59
  a75 := Tryd.isAgg59
  z75 := Tryd.sizeOf59
  v75 := Tryd.zeroValue59
  t76 := Tryd.underlying60
  a76 := Tryd.isAgg60
  z76 := Tryd.sizeOf60
  v76 := Tryd.zeroValue60
  t127 := Tryd.underlying75
  a127 := Tryd.isAgg75
  z127 := Tryd.sizeOf75
  v127 := Tryd.zeroValue75
  t164 := Tryd.underlying90
  a164 := Tryd.isAgg90
  z164 := Tryd.sizeOf90
  v164 := Tryd.zeroValue90 }
theorem Tryd.Builder_Extra_156 : Builder.Extra Tryd.prog Tryd.lays156_ren := {
  sizeBuilder := by kernel_rfl
  liesBuilder := by kernel_rfl
  t5 := Tryd.underlying5
  a5 := Tryd.isAgg5
  z5 := Tryd.sizeOf5
  v5 := Tryd.zeroValue5
  infoByte := by kernel_rfl
  cellsByte := by kernel_rfl
  sizeByte := by kernel_rfl
  neB5 := by decide }
open Go.RowKit in
theorem Tryd.strings_Join_none (a : Option Addr) (c : Nat) (sep : ByteArray) (w : World) :
    Calls Tryd.prog 21 #[.slice a 0 c, .string sep] w fun e w' => e = .returned (.string ⟨#[]⟩) ∧ w' = w := Any.strings_Join_none Tryd.lays156 Tryd.Builder_Extra_156 a c sep w
open Go.RowKit in
theorem Tryd.strings_Join (bk o c : Nat) (xs : List ByteArray) (sep : ByteArray) (w : World) (hcells : ∀ (j : Nat) x, xs[j]? = some x → w.cell? ⟨bk, o + j, none⟩ = some (.string x)) (hbk : bk < w.heap.size) (hN : xs.length ≤ 140737488355328) (hcap : xs.length ≤ c) (hlen : (Lib.join (xs.map (·.data.toList)) sep.data.toList).length ≤ 140737488355328) :
    Calls Tryd.prog 21 #[.slice (some ⟨bk, o, none⟩) xs.length c, .string sep] w fun e w' => e = .returned (.string ⟨(Lib.join (xs.map (·.data.toList)) sep.data.toList).toArray⟩) ∧ Below w.heap.size w w' := Any.strings_Join Tryd.lays156 Tryd.Builder_Extra_156 bk o c xs sep w hcells hbk hN hcap hlen
def Tryd.laysM171_ren : Go.Shelf.Ren := ⟨fun | 171 => 35 | 243 => 59 | 246 => 76 | 283 => 84 | 284 => 85 | 285 => 86 | 286 => 87 | 129 => 89 | 317 => 88 | 318 => 90 | 319 => 91 | 320 => 92 | 337 => 93 | 338 => 94 | n => n, fun | 3 => 3 | 9 => 9 | 2 => 2 | 4 => 4 | 171 => 96 | 0 => 0 | 53 => 97 | 37 => 53 | 5 => 5 | 173 => 100 | 212 => 102 | 51 => 103 | 20 => 20 | 213 => 104 | 46 => 105 | 232 => 108 | 233 => 109 | n => n, fun | 17 => 1 | 18 => 2 | 19 => 3 | n => n⟩
theorem Tryd.laysM171 : Go.Proofs.LaysM.n171 Tryd.prog Tryd.laysM171_ren := {
  mixed := by kernel_rfl
  f129 := Tryd.func89.trans (congrArg some (by kernel_rfl))
  f171 := Tryd.func35.trans (congrArg some (by kernel_rfl))
  f243 := Tryd.func59.trans (congrArg some (by kernel_rfl))
  f246 := Tryd.func76.trans (congrArg some (by kernel_rfl))
  f283 := Tryd.func84.trans (congrArg some (by kernel_rfl))
  f284 := Tryd.func85.trans (congrArg some (by kernel_rfl))
  f285 := Tryd.func86.trans (congrArg some (by kernel_rfl))
  f286 := Tryd.func87.trans (congrArg some (by kernel_rfl))
  f317 := Tryd.func88.trans (congrArg some (by kernel_rfl))
  f318 := Tryd.func90.trans (congrArg some (by kernel_rfl))
  f319 := Tryd.func91.trans (congrArg some (by kernel_rfl))
  f320 := Tryd.func92.trans (congrArg some (by kernel_rfl))
  f337 := Tryd.func93.trans (congrArg some (by kernel_rfl))
  f338 := Tryd.func94.trans (congrArg some (by kernel_rfl))
  t0 := Tryd.underlying0
  a0 := Tryd.isAgg0
  z0 := Tryd.sizeOf0
  v0 := Tryd.zeroValue0
  t2 := Tryd.underlying2
  a2 := Tryd.isAgg2
  z2 := Tryd.sizeOf2
  v2 := Tryd.zeroValue2
  t3 := Tryd.underlying3
  a3 := Tryd.isAgg3
  z3 := Tryd.sizeOf3
  v3 := Tryd.zeroValue3
  t4 := Tryd.underlying4
  a4 := Tryd.isAgg4
  z4 := Tryd.sizeOf4
  v4 := Tryd.zeroValue4
  t5 := Tryd.underlying5
  a5 := Tryd.isAgg5
  z5 := Tryd.sizeOf5
  v5 := Tryd.zeroValue5
  t9 := Tryd.underlying9
  a9 := Tryd.isAgg9
  z9 := Tryd.sizeOf9
  v9 := Tryd.zeroValue9
  t20 := Tryd.underlying20
  a20 := Tryd.isAgg20
  z20 := Tryd.sizeOf20
  v20 := Tryd.zeroValue20
  t37 := Tryd.underlying53
  a37 := Tryd.isAgg53
  z37 := Tryd.sizeOf53
  v37 := Tryd.zeroValue53
  t46 := Tryd.underlying105
  a46 := Tryd.isAgg105
  z46 := Tryd.sizeOf105
  v46 := Tryd.zeroValue105
  t51 := Tryd.underlying103
  a51 := Tryd.isAgg103
  z51 := Tryd.sizeOf103
  v51 := Tryd.zeroValue103
  t53 := Tryd.underlying97
  a53 := Tryd.isAgg97
  z53 := Tryd.sizeOf97
  v53 := Tryd.zeroValue97
  t171 := Tryd.underlying96
  a171 := Tryd.isAgg96
  z171 := Tryd.sizeOf96
  v171 := Tryd.zeroValue96
  t173 := Tryd.underlying100
  a173 := Tryd.isAgg100
  z173 := Tryd.sizeOf100
  v173 := Tryd.zeroValue100
  t212 := Tryd.underlying102
  a212 := Tryd.isAgg102
  z212 := Tryd.sizeOf102
  v212 := Tryd.zeroValue102
  t213 := Tryd.underlying104
  a213 := Tryd.isAgg104
  z213 := Tryd.sizeOf104
  t232 := Tryd.underlying108
  a232 := Tryd.isAgg108
  z232 := Tryd.sizeOf108
  v232 := Tryd.zeroValue108
  t233 := Tryd.underlying109
  a233 := Tryd.isAgg109
  z233 := Tryd.sizeOf109
  v233 := Tryd.zeroValue109
  g17 := by kernel_rfl
  g18 := by kernel_rfl
  g19 := by kernel_rfl
  i0 := by kernel_rfl
  i2 := by kernel_rfl
  i3 := by kernel_rfl
  i4 := by kernel_rfl
  i5 := by kernel_rfl
  i9 := by kernel_rfl
  i20 := by kernel_rfl
  i37 := by kernel_rfl
  i46 := by kernel_rfl
  i51 := by kernel_rfl
  i53 := by kernel_rfl
  i171 := by kernel_rfl
  i173 := by kernel_rfl
  i212 := by kernel_rfl
  i232 := by kernel_rfl
  i233 := by kernel_rfl
  m17 := by kernel_rfl
  m18 := by kernel_rfl
  m19 := by kernel_rfl }
open Go.RowKit Go.Sort Go.Lib in
theorem Tryd.strconv_Itoa (n : Int) (h0 : -9223372036854775808 ≤ n) (h1 : n ≤ 9223372036854775807) (w : World) (htab : Lib.TabIs Tryd.prog w "internal/strconv.uint64pow10" .u64 Lib.pow10Tab) :
    Calls Tryd.prog 35 #[.int .i64 n] w fun e w' => e = .returned (.string ⟨(Lib.itoa n).toArray⟩) ∧ ∃ k os, w' = grow (w.drewN k) os := Any.strconv_Itoa Tryd.laysM171 n h0 h1 w htab
end Go.Proofs

namespace Go.Proofs.YtlkjnlfddadlmaaDoor.V
open Go.RowKit
set_option maxRecDepth 100000

def strOf : TU → Option (List UInt8)
  | .str s => some s
  | _ => none

def strsOf : List TU → Option (List (List UInt8))
  | [] => some []
  | c :: cs => match strOf c, strsOf cs with
    | some s, some l => some (s :: l)
    | _, _ => none

def orcJoin : List XU → Option XU
  | [.c (.t (.sl _ g 1 n cs)), .c (.t (.str sep))] => if g = 0 ∨ n ≠ cs.length ∨ 140737488355328 < n then none else
      match strsOf cs with
      | some xs => if (Lib.join xs sep).length ≤ 140737488355328 then some (.c (.t (.str (Lib.join xs sep)))) else none
      | none => none
  | _ => none

theorem strsOf_ok : ∀ {cs : List TV} {xs : List (List UInt8)}, strsOf (cs.map erT) = some xs → cs = xs.map .str
  | [], xs, h => by simp only [List.map_nil, strsOf, Option.some.injEq] at h; subst h; rfl
  | c :: cs, xs, h => by
    simp only [List.map_cons, strsOf] at h
    split at h
    · next s l h1 h2 =>
      simp only [Option.some.injEq] at h
      subst h
      have e : c = .str s := by
        cases c <;> simp [erT, mapT, strOf] at h1
        subst h1; rfl
      rw [e, strsOf_ok h2]; rfl
    · cases h

theorem er_slX {x : XV} {g z n : Nat} {cs : List TU} (h : erX x = .c (.t (.sl () g z n cs))) : ∃ a cs', x = .c (.t (.sl a g z n cs')) ∧ cs'.map erT = cs := by
  obtain ⟨c, rfl, hc⟩ := er_c h
  obtain ⟨t, rfl, ht⟩ := er_t hc
  cases t <;> simp [erT, mapT] at ht
  obtain ⟨rfl, rfl, rfl, h2⟩ := ht
  rw [mapTs_eq] at h2
  exact ⟨_, _, rfl, h2⟩

theorem orcJoin_ok {T : World → Prop} : OrcOk Tryd.prog T 21 orcJoin := by
  intro args x hx
  refine ⟨enters_prog (fn := Tryd.f21) rfl rfl (by kernel_rfl), fun w E P R ea argsG hT ha hin => ?_⟩
  unfold orcJoin at hx
  split at hx
  · next u g n cs sep =>
    split at hx
    · cases hx
    · next hg =>
      split at hx
      · next xs hxs =>
        split at hx
        · next hlen =>
          simp only [Option.some.injEq] at hx
          subst hx
          rcases argsG with _ | ⟨a, _ | ⟨b, _ | ⟨d, l⟩⟩⟩
          · simp at ha
          · simp at ha
          · simp only [List.map_cons, List.map_nil, List.cons.injEq, and_true] at ha
            obtain ⟨h1, h2⟩ := ha
            obtain ⟨ad, cs', e1, e3⟩ := er_slX h1
            have e2 := er_strX h2
            subst e1 e2
            subst e3
            have e4 := strsOf_ok hxs
            subst e4
            have hok : okT w P R (.sl ad g 1 n (xs.map .str)) := by
              have := hin.okS 0
              simpa [slots0, okX, okC] using this
            simp only [okT] at hok
            obtain ⟨hl, -, hs⟩ := hok
            have hn : n = xs.length := by simpa using hl.symm
            have hg0 : g ≠ 0 := fun e => hg (.inl e)
            rw [if_neg hg0] at hs
            obtain ⟨⟨A, cap, rfl, hcap, hcells⟩, -, -⟩ := hs
            simp only [List.map_cons, List.map_nil, valX, valC, valT]
            rcases hcells with h0 | ⟨q, rfl, hsp, hP, hc⟩
            · have hx0 : xs = [] := List.eq_nil_of_length_eq_zero (by omega)
              subst h0 hx0
              refine (Tryd.strings_Join_none A cap ⟨sep.toArray⟩ w).mono fun e w' ⟨h3, h4⟩ => ?_
              subst h3 h4
              exact ⟨.c (.t (.str [])), rfl, by simp [valX, valC, valT], out_data hin (Grow.refl _) (by simp [okT]) (by simp [blkT])⟩
            · have hb := hin.ltR _ (hin.PR _ _ hP)
              obtain ⟨qb, qo, qs⟩ := q
              simp only at hsp hb hc
              subst hsp hn
              have hj : (xs.map fun s => (⟨s.toArray⟩ : ByteArray)).map (·.data.toList) = xs := by rw [List.map_map]; exact List.map_id_fun'  ▸ List.map_congr_left fun _ _ => by simp
              have key := Tryd.strings_Join qb qo cap (xs.map fun s => ⟨s.toArray⟩) ⟨sep.toArray⟩ w (fun j x hjx => ?_) hb (by simp; omega) (by simpa using hcap) (by rw [hj]; simpa using hlen)
              · rw [hj] at key
                simp only [List.length_map, List.toList_toArray] at key
                refine key.mono fun e w' ⟨h3, h4⟩ => ?_
                subst h3
                exact ⟨.c (.t (.str (Lib.join xs sep))), rfl, by simp [valX, valC, valT], out_data hin ⟨h4.os, h4.tape, h4.output, h4.size, h4.block⟩ (by simp [okT]) (by simp [blkT])⟩
              · refine hc j _ ?_
                rw [List.getElem?_map] at hjx ⊢
                rw [List.getElem?_map]
                cases hq : xs[j]? with
                | none => rw [hq] at hjx; cases hjx
                | some y => rw [hq] at hjx; simp only [Option.map_some, Option.some.injEq] at hjx ⊢; rw [← hjx]; rfl
          · simp at ha
        · cases hx
      · cases hx
  · cases hx
end Go.Proofs.YtlkjnlfddadlmaaDoor.V

namespace Go.Proofs.YtlkjnlfddadlmaaDoor.V
open Go.RowKit Go.Lib
set_option linter.unusedVariables false
set_option linter.unusedSimpArgs false
set_option maxHeartbeats 4000000
set_option maxRecDepth 100000

theorem grow0 (w : World) : Calls Tryd.prog 71 #[.slice none 0 0, .int .i64 ((0 : Nat) : Int)] w fun e w' => e = .returned (.slice none 0 0) ∧ w' = w := by
  go_enter Tryd.func71, Tryd.ntmps71
  go_wp2
  go_ret
  exact ⟨rfl, rfl⟩

theorem growN (n : Nat) (w : World) (h0 : 0 < n) (hbig : n * 16 ≤ 140737488355328) : Calls Tryd.prog 71 #[.slice none 0 0, .int .i64 n] w fun e w' =>
    e = .returned (.slice (some ⟨w.heap.size, 0, none⟩) 0 (grownCap w n 0 9)) ∧
      w' = w.drew.alloc (.cells (#[] ++ Builtin.zeroCells (Value.string ⟨#[]⟩).cells n ++ Builtin.zeroCells (Value.string ⟨#[]⟩).cells (grownCap w n 0 9 - n)) 9) := by
  have hi0 : Tryd.prog.info? 9 = some Tryd.t9 := by kernel_rfl
  have hz0 : Tryd.t9.zero = some (.string ⟨#[]⟩) := by kernel_rfl
  have hs0 : Tryd.t9.size = 1 := by kernel_rfl
  have hb0 : Tryd.t9.bytes = 16 := by kernel_rfl
  have u22 : Tryd.prog.underlying 40 = some (.slice 9) := by kernel_rfl
  have u3 : Tryd.prog.underlying 3 = some (.int .i64) := by kernel_rfl
  have h1 : ¬ ((n : Int) < 0) := by omega
  have h3 : Go.RowKit.wrap64 (n : Int) = n := by unfold Go.RowKit.wrap64; omega
  have h4 : (n : Int) > 0 := by omega
  have hold : (Builtin.firstCells Tryd.t9.size 0 (.slice none 0 0)).run Tryd.prog w.drew = .ok ([] : List Value).toArray w.drew := run_firstCells_none w.drew _ 0 0 0
  have hrz : ∀ ty, (Builtin.append_ #[40, 3] ty #[.slice none 0 0, .int .i64 n]).run Tryd.prog w = .ok (.slice (some ⟨w.heap.size, 0, none⟩) n (grownCap w n 0 9))
      (w.drew.alloc (.cells (#[] ++ Builtin.zeroCells (Value.string ⟨#[]⟩).cells n ++ Builtin.zeroCells (Value.string ⟨#[]⟩).cells (grownCap w n 0 9 - n)) 9)) := fun ty => by
    have h := Lib.run_append_grow_zeros w 40 3 ty 9 _ _ .i64 .i64 u22 u3 hi0 hz0 none 0 0 [] hold n h0 (by rw [hs0]; omega) (by omega) (by omega)
      (by rw [hb0]; omega) (by rw [hb0]; exact growslice_fits (by omega) (by omega))
    simpa using h
  have hGn : n ≤ grownCap w n 0 9 := grownCap_ge w _ _ _
  obtain ⟨G, hG⟩ : ∃ G, G = grownCap w n 0 9 := ⟨_, rfl⟩
  rw [← hG] at hrz hGn ⊢
  have hG63 : G ≤ 9223372036854775807 := by
    have := grownCap_le_maxLen w n 0 9 (by unfold maxLen; omega)
    rw [← hG] at this
    unfold maxLen at this
    omega
  clear hold hG
  go_enter Tryd.func71, Tryd.ntmps71
  go_wp2_with (at_builtin; refine Lib.wpList_append_run _ rfl _ _ _ _ rfl _ _ rfl rfl _ _ (hrz _) ?_)
  all_goals (go_ret; exact ⟨rfl, rfl⟩)

theorem alloc_at (w : World) (o : Obj) : (w.drew.alloc o).heap[w.heap.size]? = some o := by
  have : (w.drew.alloc o).heap = w.heap.push o := rfl
  rw [this, Array.getElem?_push_size]

theorem zeroCells_size (k : Nat) : (Builtin.zeroCells (Value.string ⟨#[]⟩).cells k).size = k := by
  have e : (Value.string ⟨#[]⟩).cells = #[.string ⟨#[]⟩] := rfl
  rw [e]
  simp [Builtin.zeroCells]

theorem gro_string : Enters Tryd.prog 71 ∧ ∀ (n : Nat) (w : World), n * 16 ≤ 140737488355328 → n ≤ maxLen →
    Calls Tryd.prog 71 #[.slice none 0 0, .int .i64 n] w fun e w' => ∃ v, e = .returned v ∧ Grow w w' ∧ (v = .slice none 0 0 ∨ ∃ cap cur ty, v = .slice (some ⟨w.heap.size, 0, none⟩) 0 cap ∧ w'.heap[w.heap.size]? = some (.cells cur ty (0, 0)) ∧ cap * 1 ≤ cur.size) := by
  refine ⟨enters_prog (fn := Tryd.f71) rfl rfl (by kernel_rfl), fun n w h _ => ?_⟩
  rcases Nat.eq_zero_or_pos n with rfl | h0
  · refine (grow0 w).mono fun e w' ⟨h1, h2⟩ => ?_
    subst h2
    exact ⟨_, h1, Grow.refl _, .inl rfl⟩
  · refine (growN n w h0 h).mono fun e w' ⟨h1, h2⟩ => ?_
    subst h2
    refine ⟨_, h1, (Grow.drew w).trans (Grow.alloc _ _), .inr ⟨_, #[] ++ Builtin.zeroCells (Value.string ⟨#[]⟩).cells n ++ Builtin.zeroCells (Value.string ⟨#[]⟩).cells (grownCap w n 0 9 - n), 9, rfl, ?_, ?_⟩⟩
    · exact alloc_at w _
    · have := grownCap_ge w n 0 9
      simp only [Array.size_append, zeroCells_size, Array.size_empty]
      omega
end Go.Proofs.YtlkjnlfddadlmaaDoor.V

namespace Go.Proofs.YtlkjnlfddadlmaaDoor.V
open Go.RowKit
set_option maxRecDepth 100000

def orcItoa : List XU → Option XU := orcIS (fun n => -9223372036854775808 ≤ n ∧ n ≤ 9223372036854775807) Lib.itoa

theorem orcItoa_ok : OrcOk Tryd.prog (fun w => Lib.TabIs Tryd.prog w "internal/strconv.uint64pow10" .u64 Lib.pow10Tab) 35 orcItoa :=
  orc_is (enters_prog (fn := Tryd.f35) rfl rfl (by kernel_rfl)) (fun n w hT hD => (Tryd.strconv_Itoa n hD.1 hD.2 w hT).mono fun e w' ⟨h1, k, os, h2⟩ => by
    subst h1 h2
    refine ⟨rfl, ⟨rfl, rfl, rfl, ?_, fun i hi => ?_⟩⟩
    · show w.heap.size ≤ (w.heap ++ os).size
      simp
    · show (w.heap ++ os)[i]? = w.heap[i]?
      rw [Array.getElem?_append_left hi])
end Go.Proofs.YtlkjnlfddadlmaaDoor.V

namespace Go.Proofs.YtlkjnlfddadlmaaDoor.V
set_option maxRecDepth 100000

def tyT : Nat → Ty
  | 1 => ⟨true, 1, false, [.nilf], [], none, 8, true, 0⟩
  | 2 => ⟨true, 1, false, [.t (.int .i64 0)], [], none, 8, true, 1⟩
  | 3 => ⟨true, 1, false, [.t (.int .i64 0)], [], none, 8, true, 1⟩
  | 4 => ⟨true, 1, false, [.t (.bool false)], [], none, 1, true, 5⟩
  | 5 => ⟨true, 1, false, [.t (.int .u8 0)], [], none, 1, true, 2⟩
  | 6 => ⟨true, 1, false, [.t (.int .u8 0)], [], none, 1, true, 2⟩
  | 7 => ⟨true, 4, true, [.t (.int .i64 0), .t (.int .i64 0), .t (.bool false), .t (.int .u8 0)], [(0, 2), (1, 3), (2, 4), (3, 6)], none, 24, true, 0⟩
  | 8 => ⟨true, 4, true, [.t (.int .i64 0), .t (.int .i64 0), .t (.bool false), .t (.int .u8 0)], [(0, 2), (1, 3), (2, 4), (3, 6)], none, 24, true, 0⟩
  | 9 => ⟨true, 1, false, [.t (.str [])], [], none, 16, true, 3⟩
  | 10 => ⟨true, 1, false, [.t (.str [])], [], none, 16, true, 3⟩
  | 11 => ⟨true, 1, false, [.t (.str [])], [], none, 16, true, 3⟩
  | 12 => ⟨true, 1, false, [.t (.int .u64 0)], [], none, 8, true, 0⟩
  | 13 => ⟨true, 2, true, [.t (.str []), .t (.int .u64 0)], [(0, 9), (1, 12)], none, 24, true, 0⟩
  | 14 => ⟨true, 2, true, [.t (.str []), .t (.int .u64 0)], [(0, 9), (1, 12)], none, 24, true, 0⟩
  | 15 => ⟨true, 1, false, [.nilp], [], none, 8, true, 6⟩
  | 16 => ⟨true, 1, false, [.nilp], [], none, 8, true, 6⟩
  | 17 => ⟨true, 1, false, [.nilp], [], none, 8, true, 6⟩
  | 18 => ⟨true, 1, true, [.nilp], [(0, 17)], none, 8, true, 0⟩
  | 19 => ⟨true, 1, true, [.nilp], [(0, 17)], none, 8, true, 0⟩
  | 20 => ⟨true, 1, false, [.t .nili], [], none, 16, true, 7⟩
  | 21 => ⟨true, 1, false, [.t (.int .i32 0)], [], none, 4, true, 0⟩
  | 22 => ⟨true, 1, false, [.t (.sl () 0 1 0 [])], [], some 3, 24, false, 0⟩
  | 23 => ⟨true, 1, false, [.nilf], [], none, 8, true, 0⟩
  | 24 => ⟨true, 1, false, [.nilf], [], none, 8, true, 0⟩
  | 25 => ⟨true, 1, false, [.nilf], [], none, 8, true, 0⟩
  | 26 => ⟨true, 1, false, [.nilf], [], none, 8, true, 0⟩
  | 27 => ⟨true, 1, false, [.t (.sl () 0 5 0 [])], [], some 29, 24, false, 0⟩
  | 28 => ⟨true, 5, true, [.t (.int .i64 0), .t (.int .i64 0), .t (.str []), .t (.str []), .t (.sl () 0 5 0 [])], [(0, 3), (1, 3), (2, 9), (3, 9), (4, 27)], none, 72, false, 0⟩
  | 29 => ⟨true, 5, true, [.t (.int .i64 0), .t (.int .i64 0), .t (.str []), .t (.str []), .t (.sl () 0 5 0 [])], [(0, 3), (1, 3), (2, 9), (3, 9), (4, 27)], none, 72, false, 0⟩
  | 30 => ⟨true, 1, false, [.nilf], [], none, 8, true, 0⟩
  | 31 => ⟨true, 1, false, [.t (.sl () 0 5 0 [])], [], some 33, 24, false, 0⟩
  | 32 => ⟨true, 5, true, [.t (.int .i64 0), .t (.int .i64 0), .t (.str []), .t (.str []), .t (.sl () 0 5 0 [])], [(0, 3), (1, 3), (2, 9), (3, 9), (4, 31)], none, 72, false, 0⟩
  | 33 => ⟨true, 5, true, [.t (.int .i64 0), .t (.int .i64 0), .t (.str []), .t (.str []), .t (.sl () 0 5 0 [])], [(0, 3), (1, 3), (2, 9), (3, 9), (4, 31)], none, 72, false, 0⟩
  | 34 => ⟨true, 1, false, [.nilf], [], none, 8, true, 0⟩
  | 35 => ⟨true, 1, false, [.nilf], [], none, 8, true, 0⟩
  | 36 => ⟨true, 1, false, [.nilf], [], none, 8, true, 0⟩
  | 37 => ⟨true, 1, false, [.nilf], [], none, 8, true, 0⟩
  | 38 => ⟨true, 1, false, [.nilf], [], none, 8, true, 0⟩
  | 39 => ⟨true, 1, false, [.nilf], [], none, 8, true, 0⟩
  | 40 => ⟨true, 1, false, [.t (.sl () 0 1 0 [])], [], some 9, 24, false, 0⟩
  | 41 => ⟨true, 1, false, [.nilf], [], none, 8, true, 0⟩
  | 42 => ⟨true, 1, false, [.nilf], [], none, 8, true, 0⟩
  | 43 => ⟨true, 1, false, [.nilf], [], none, 8, true, 0⟩
  | 44 => ⟨true, 1, false, [.nilf], [], none, 8, true, 0⟩
  | 45 => ⟨true, 1, false, [.nilp], [], none, 8, true, 6⟩
  | 46 => ⟨true, 1, true, [.t (.int .i64 0)], [(0, 3)], none, 8, true, 0⟩
  | 47 => ⟨true, 1, true, [.t (.int .i64 0)], [(0, 3)], none, 8, true, 0⟩
  | 48 => ⟨true, 1, false, [.nilf], [], none, 8, true, 0⟩
  | 49 => ⟨true, 1, false, [.nilf], [], none, 8, true, 0⟩
  | 50 => ⟨true, 1, false, [.nilp], [], none, 8, true, 6⟩
  | 51 => ⟨true, 1, false, [.nilf], [], none, 8, true, 0⟩
  | 52 => ⟨true, 1, false, [.nilf], [], none, 8, true, 0⟩
  | 53 => ⟨true, 1, false, [.t (.sl () 0 1 0 [])], [], some 5, 24, false, 4⟩
  | 54 => ⟨true, 1, false, [.nilp], [], none, 8, true, 6⟩
  | 55 => ⟨true, 2, true, [.nilp, .t (.sl () 0 1 0 [])], [(0, 54), (1, 53)], none, 32, false, 0⟩
  | 56 => ⟨true, 2, true, [.nilp, .t (.sl () 0 1 0 [])], [(0, 54), (1, 53)], none, 32, false, 0⟩
  | 57 => ⟨true, 1, false, [.nilf], [], none, 8, true, 0⟩
  | 58 => ⟨true, 1, false, [.t .nili], [], none, 16, true, 7⟩
  | 59 => ⟨true, 1, false, [.t .nili], [], none, 16, true, 7⟩
  | 61 => ⟨true, 1, false, [.nilf], [], none, 8, true, 0⟩
  | 62 => ⟨true, 1, false, [.nilf], [], none, 8, true, 0⟩
  | 63 => ⟨true, 1, false, [.nilf], [], none, 8, true, 0⟩
  | 64 => ⟨true, 1, false, [.nilf], [], none, 8, true, 0⟩
  | 65 => ⟨true, 1, false, [.t (.sl () 0 2 0 [])], [], some 82, 24, false, 0⟩
  | 66 => ⟨true, 1, false, [.nilf], [], none, 8, true, 0⟩
  | 67 => ⟨true, 1, false, [.nilf], [], none, 8, true, 0⟩
  | 68 => ⟨true, 1, false, [.nilf], [], none, 8, true, 0⟩
  | 69 => ⟨true, 1, false, [.nilf], [], none, 8, true, 0⟩
  | 70 => ⟨true, 1, false, [.nilf], [], none, 8, true, 0⟩
  | 71 => ⟨true, 1, false, [.nilf], [], none, 8, true, 0⟩
  | 72 => ⟨true, 1, false, [.nilf], [], none, 8, true, 0⟩
  | 73 => ⟨true, 1, false, [.nilf], [], none, 8, true, 0⟩
  | 74 => ⟨true, 1, false, [.nilf], [], none, 8, true, 0⟩
  | 75 => ⟨true, 1, false, [.nilp], [], none, 8, true, 6⟩
  | 76 => ⟨true, 1, false, [.nilf], [], none, 8, true, 0⟩
  | 77 => ⟨true, 1, false, [.nilf], [], none, 8, true, 0⟩
  | 78 => ⟨true, 1, false, [.nilf], [], none, 8, true, 0⟩
  | 79 => ⟨true, 1, false, [.nilf], [], none, 8, true, 0⟩
  | 80 => ⟨true, 1, false, [.nilf], [], none, 8, true, 0⟩
  | 81 => ⟨true, 2, true, [.t (.str []), .t (.str [])], [(0, 9), (1, 9)], none, 32, true, 0⟩
  | 82 => ⟨true, 2, true, [.t (.str []), .t (.str [])], [(0, 9), (1, 9)], none, 32, true, 0⟩
  | 83 => ⟨true, 1, false, [.t (.sl () 0 1 0 [])], [], some 40, 24, false, 0⟩
  | 84 => ⟨true, 1, false, [.nilf], [], none, 8, true, 0⟩
  | 85 => ⟨true, 1, false, [.nilf], [], none, 8, true, 0⟩
  | 86 => ⟨true, 1, false, [.nilf], [], none, 8, true, 0⟩
  | 87 => ⟨true, 1, false, [.nilf], [], none, 8, true, 0⟩
  | 88 => ⟨true, 1, false, [.nilf], [], none, 8, true, 0⟩
  | 89 => ⟨true, 1, false, [.nilf], [], none, 8, true, 0⟩
  | 91 => ⟨true, 1, false, [.nilf], [], none, 8, true, 0⟩
  | 92 => ⟨true, 1, false, [.nilf], [], none, 8, true, 0⟩
  | 93 => ⟨true, 1, false, [.nilf], [], none, 8, true, 0⟩
  | 94 => ⟨true, 1, false, [.nilf], [], none, 8, true, 0⟩
  | 95 => ⟨true, 1, false, [.nilf], [], none, 8, true, 0⟩
  | 97 => ⟨true, 1, false, [.t (.int .u64 0)], [], none, 8, true, 0⟩
  | 98 => ⟨true, 1, false, [.nilf], [], none, 8, true, 0⟩
  | 99 => ⟨true, 1, false, [.nilf], [], none, 8, true, 0⟩
  | 101 => ⟨true, 1, false, [.nilf], [], none, 8, true, 0⟩
  | 103 => ⟨true, 1, false, [.t (.int .u32 0)], [], none, 4, true, 0⟩
  | 105 => ⟨true, 1, false, [.t (.int .u64 0)], [], none, 8, true, 0⟩
  | 106 => ⟨true, 1, false, [.nilf], [], none, 8, true, 0⟩
  | 107 => ⟨true, 1, false, [.nilf], [], none, 8, true, 0⟩
  | 110 => ⟨true, 4, true, [.nilp, .nilp, .nilp, .t (.str [])], [(0, 17), (1, 17), (2, 17), (3, 9)], none, 40, true, 0⟩
  | 111 => ⟨true, 4, true, [.nilp, .nilp, .nilp, .t (.str [])], [(0, 17), (1, 17), (2, 17), (3, 9)], none, 40, true, 0⟩
  | 115 => ⟨true, 1, false, [.nilf], [], none, 8, true, 0⟩
  | 116 => ⟨true, 1, false, [.t (.int .u8 0)], [], none, 1, true, 2⟩
  | 117 => ⟨true, 1, false, [.t (.int .u8 0)], [], none, 1, true, 2⟩
  | 118 => ⟨true, 1, false, [.nilf], [], none, 8, true, 0⟩
  | 119 => ⟨true, 1, false, [.t (.int .i32 0)], [], none, 4, true, 0⟩
  | 120 => ⟨true, 1, false, [.t (.int .i32 0)], [], none, 4, true, 0⟩
  | 121 => ⟨true, 11, true, [.t (.int .u64 0), .t (.int .u64 0), .t (.int .u32 0), .t (.int .u8 0), .t (.int .u8 0), .t (.int .u8 0), .t (.int .u8 0), .nilf, .nilp, .t (.int .i32 0), .t (.int .i32 0)], [(0, 12), (1, 12), (2, 103), (3, 116), (4, 5), (5, 5), (6, 117), (7, 118), (8, 75), (9, 119), (10, 120)], none, 48, true, 0⟩
  | 122 => ⟨true, 11, true, [.t (.int .u64 0), .t (.int .u64 0), .t (.int .u32 0), .t (.int .u8 0), .t (.int .u8 0), .t (.int .u8 0), .t (.int .u8 0), .nilf, .nilp, .t (.int .i32 0), .t (.int .i32 0)], [(0, 12), (1, 12), (2, 103), (3, 116), (4, 5), (5, 5), (6, 117), (7, 118), (8, 75), (9, 119), (10, 120)], none, 48, true, 0⟩
  | _ => ⟨false, 0, false, [], [], none, 0, false, 0⟩

def thT : Nat → Nat
  | 2 => 0
  | 3 => 6
  | 4 => 11
  | 5 => 11
  | 6 => 5
  | 7 => 5
  | 8 => 6
  | 9 => 6
  | 10 => 5
  | 11 => 3
  | 12 => 4
  | 13 => 4
  | 14 => 5
  | 15 => 5
  | 16 => 5
  | 17 => 3
  | 18 => 3
  | 19 => 6
  | 20 => 3
  | 21 => 11
  | 22 => 6
  | 23 => 3
  | 24 => 12
  | 25 => 5
  | 26 => 3
  | 27 => 14
  | 28 => 6
  | 29 => 6
  | 30 => 6
  | 31 => 5
  | 32 => 5
  | 33 => 6
  | 34 => 8
  | 35 => 3
  | 36 => 4
  | 37 => 6
  | 38 => 3
  | 39 => 5
  | 40 => 5
  | 41 => 6
  | 42 => 6
  | 43 => 3
  | 44 => 7
  | 45 => 11
  | 46 => 2
  | 47 => 6
  | 48 => 9
  | 49 => 6
  | 50 => 4
  | 51 => 3
  | 52 => 7
  | 53 => 3
  | 54 => 5
  | 55 => 3
  | 56 => 10
  | 57 => 3
  | 58 => 6
  | 59 => 3
  | 60 => 2
  | 61 => 5
  | 62 => 5
  | 63 => 3
  | 64 => 3
  | 65 => 3
  | 66 => 6
  | 67 => 8
  | 68 => 3
  | 69 => 3
  | 70 => 5
  | 71 => 5
  | 72 => 11
  | 73 => 9
  | 74 => 8
  | 75 => 4
  | 76 => 10
  | 79 => 7
  | 80 => 6
  | 81 => 7
  | 82 => 6
  | 83 => 3
  | 84 => 3
  | 85 => 4
  | 86 => 17
  | 87 => 19
  | 88 => 3
  | 89 => 3
  | 90 => 3
  | 91 => 3
  | 92 => 3
  | 93 => 3
  | 94 => 3
  | 117 => 0
  | _ => 0

def tsT : Nat → List Nat
  | 61 => [13]
  | 71 => [22]
  | 76 => [44]
  | _ => []

def vsT : Nat → List Nat
  | 11 => [8]
  | 21 => [13, 15]
  | 24 => [39, 50, 21, 28]
  | 27 => [39, 26]
  | 32 => [36, 53]
  | 34 => [37, 45]
  | 49 => [26]
  | 63 => [4, 8, 14, 24]
  | 67 => [29]
  | 68 => [4, 8, 14, 24]
  | _ => []

def movT : Nat → List Nat
  | _ => []

def nstT (g : Nat) : Bool := ([] : List Nat).contains g

def tkeT (g : Nat) : Bool := ([] : List Nat).contains g

def dptT : Nat → Nat
  | _ => 3

def actT (g : Nat) : Bool := [15, 24, 27, 29, 36, 37, 38, 43, 46, 60, 61, 74, 75].contains g

def plcT : Nat → List Nat
  | 15 => [0]
  | 29 => [0]
  | _ => []

def ordT (f id k : Nat) : Bool := match f, id with
  | 24, 23 => [9, 11, 13].contains k
  | 27, 17 => [16, 18, 20].contains k
  | 31, 5 => [9, 11].contains k
  | 32, 5 => [9, 11].contains k
  | 32, 9 => [11].contains k
  | 32, 10 => [15].contains k
  | 33, 6 => [5, 7].contains k
  | 34, 6 => [5, 7].contains k
  | 34, 10 => [10, 11].contains k
  | 38, 1 => [11].contains k
  | 45, 10 => [12].contains k
  | 56, 9 => [5, 7].contains k
  | 56, 10 => [7, 9].contains k
  | 61, 0 => [15].contains k
  | 67, 6 => [7].contains k
  | 72, 7 => [15, 17].contains k
  | 73, 5 => [13].contains k
  | 74, 6 => [8].contains k
  | 86, 7 => [12, 14].contains k
  | 86, 8 => [12, 14].contains k
  | 86, 9 => [12, 14].contains k
  | 86, 10 => [12, 14].contains k
  | 86, 17 => [12, 14].contains k
  | 86, 18 => [12, 14].contains k
  | 86, 23 => [12, 14].contains k
  | _, _ => false

def shrT (f id k : Nat) : List Nat := match f, id, k with
  | 9, 6, 5 => [5]
  | 27, 17, 10 => [9]
  | 27, 17, 11 => [12]
  | 28, 6, 5 => [5]
  | 32, 9, 4 => [3]
  | 32, 9, 6 => [3]
  | 32, 10, 10 => [3]
  | 34, 10, 4 => [3]
  | 36, 3, 5 => [0]
  | 38, 1, 5 => [0]
  | 41, 1, 3 => [2]
  | 41, 1, 11 => [2]
  | 41, 1, 20 => [2]
  | 41, 6, 5 => [2]
  | 41, 6, 6 => [5]
  | 45, 1, 6 => [3]
  | 61, 0, 9 => [0]
  | 67, 6, 4 => [3]
  | 72, 7, 9 => [4]
  | 72, 7, 10 => [10]
  | 73, 5, 7 => [3]
  | 73, 5, 8 => [8]
  | 86, 7, 3 => [0]
  | 86, 7, 4 => [4]
  | 86, 7, 9 => [9]
  | 86, 8, 3 => [0]
  | 86, 8, 4 => [4]
  | 86, 8, 9 => [8]
  | 86, 9, 3 => [0]
  | 86, 9, 4 => [4]
  | 86, 9, 9 => [11]
  | 86, 10, 3 => [0]
  | 86, 10, 4 => [4]
  | 86, 10, 9 => [10]
  | 86, 17, 3 => [0]
  | 86, 17, 4 => [4]
  | 86, 17, 9 => [15]
  | 86, 18, 3 => [0]
  | 86, 18, 4 => [4]
  | 86, 18, 9 => [14]
  | 86, 23, 3 => [0]
  | 86, 23, 4 => [4]
  | 86, 23, 9 => [16]
  | _, _, _ => []

def pndT (f id k : Nat) : List Nat := match f, id, k with
  | 24, 23, 9 => [0, 1]
  | 27, 17, 16 => [0, 1]
  | 34, 10, 10 => [4, 5, 6, 7]
  | 86, 7, 12 => [3, 4, 5, 9, 10]
  | 86, 8, 12 => [3, 4, 5, 9, 10]
  | 86, 9, 12 => [3, 4, 5, 9, 10]
  | 86, 10, 12 => [3, 4, 5, 9, 10]
  | 86, 17, 12 => [3, 4, 5, 9, 10]
  | 86, 18, 12 => [3, 4, 5, 9, 10]
  | 86, 23, 12 => [3, 4, 5, 9, 10]
  | _, _, _ => []

def palT (f id k : Nat) : List Nat := match f, id, k with
  | _, _, _ => []

def prmT (f id : Nat) : List Nat := match f, id with
  | _, _ => []

def tlT (f id : Nat) : Option Nat := match f, id with
  | _, _ => none

def goodL : List Nat := [2, 3, 4, 5, 6, 7, 8, 9, 10, 11, 12, 13, 14, 15, 16, 17, 18, 19, 20, 21, 22, 23, 24, 25, 26, 27, 28, 29, 30, 31, 32, 33, 34, 35, 36, 37, 38, 39, 40, 41, 42, 43, 44, 45, 46, 47, 48, 49, 50, 51, 52, 53, 54, 55, 56, 57, 58, 59, 60, 61, 62, 63, 64, 65, 66, 67, 68, 69, 70, 71, 72, 73, 74, 75, 76, 79, 80, 81, 82, 83, 84, 85, 86, 87, 88, 89, 90, 91, 92, 93, 94, 117]

def orcT : Nat → Option (List XU → Option XU)
  | 21 => some orcJoin
  | 35 => some orcItoa
  | _ => none

def groT : Nat → Option (Nat × Nat)
  | 71 => some (1, 16)
  | _ => none

def cx0 : Ctx := { ty := tyT, th := thT, vs := vsT, ts := tsT, act := actT, plc := plcT, nst := nstT, tke := tkeT, dpt := dptT, mov := movT, good := goodL.contains, ord := ordT, shr := shrT, pnd := pndT, pal := palT, prm := prmT, tl := tlT, orc := orcT, gro := groT }

def T0 : World → Prop := fun w => Lib.TabIs Tryd.prog w "internal/strconv.uint64pow10" .u64 Lib.pow10Tab

theorem horc : ∀ g h args x, cx0.orc g = some h → h args = some x → Enters Tryd.prog g ∧
    ∀ (w : World) (E : Nat → Prop) (P : Nat → Nat → Prop) (R : Nat → Prop) (ea : List EA) (argsG : List XV), TabOk T0 w E → argsG.map erX = args → In w E P R ea argsG [] →
      Calls Tryd.prog g (argsG.map valX).toArray w (fun
        | .returned v, w' => ∃ resG, erX resG = x ∧ v = valX resG ∧ Out w E P R ea w' resG []
        | _, _ => False) := by
  intro g h args x ho hx
  simp only [cx0, orcT] at ho
  split at ho
  · cases ho; exact orcJoin_ok args x hx
  · cases ho; exact orcItoa_ok args x hx
  · cases ho

theorem hgro : GroOk Tryd.prog cx0 := by
  intro g q ho
  simp only [cx0, groT] at ho
  split at ho
  · cases ho; exact gro_string
  · cases ho

theorem cxOk : CtxOk Tryd.prog cx0 T0 := ctxOk_of (by kernel_rfl) 123 (by kernel_rfl) (fun t ht => by unfold cx0 tyT; simp only; split <;> first | rfl | omega) goodL (fun _ => rfl) (by kernel_rfl) horc hgro

end Go.Proofs.YtlkjnlfddadlmaaDoor.V
