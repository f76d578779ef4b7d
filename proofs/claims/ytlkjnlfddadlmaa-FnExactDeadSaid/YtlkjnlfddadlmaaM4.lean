/-
  Quiet operations see of a frame no more than their operands, and what these refer to. No conditions.
-/
import Derived.Test.YtlkjnlfddadlmaaM3
import Derived.Deep.AppendSrc
import Derived.Laws.AppendOwn
import Derived.Deep.Upon
set_option linter.unusedVariables false
set_option linter.unusedSimpArgs false
namespace Go.Proofs.Ytlkjnlfddadlmaa.V

def clear {α : Type} (L : List Nat) (S : St α) : St α := { S with s := fun t => if t ∈ L then .undef else S.s t }

theorem clear_nil {α : Type} (S : St α) : clear [] S = S := by cases S; simp [clear]
theorem clear_app {α : Type} (L M : List Nat) (S : St α) : clear M (clear L S) = clear (L ++ M) S := by
  simp only [clear, List.mem_append]
  congr 1
  funext t
  by_cases h1 : t ∈ L <;> by_cases h2 : t ∈ M <;> simp [h1, h2]

section
variable {cx : Ctx} {f : Nat} {call : Callee} {S1 S2 : SU}

/-- What two frames have alike for some operands. -/
structure Agr (S1 S2 : SU) (os : List Operand) : Prop where
  sl : ∀ d, Operand.tmp d ∈ os → S1.s d = .undef ∨ S1.s d = S2.s d
  rt : ∀ d, Operand.tmp d ∈ os → ∀ r ∈ refsOf (S1.s d), rootCells S1 r = none ∨ rootCells S1 r = rootCells S2 r

theorem Agr.sub {os os' : List Operand} (h : Agr S1 S2 os) (hs : ∀ x ∈ os', x ∈ os) : Agr S1 S2 os' := ⟨fun d hd => h.sl d (hs _ hd), fun d hd => h.rt d (hs _ hd)⟩

theorem Agr.clear {os : List Operand} (h : Agr S1 S2 os) {L : List Nat} (hL : ∀ t ∈ L, isVar cx f t = false) (hr : ∀ d, Operand.tmp d ∈ os → ∀ k, Root.sl k ∈ refsOf (S1.s d) → k ∉ L) : Agr (V.clear L S1) (V.clear L S2) os := by
  refine ⟨fun d hd => ?_, fun d hd r hr' => ?_⟩
  · simp only [V.clear]
    split
    · exact .inl rfl
    · exact h.sl d hd
  · simp only [V.clear] at hr'
    split at hr'
    · simp [refsOf] at hr'
    · have := h.rt d hd r hr'
      cases r with
      | sl k =>
        have hk := hr d hd k hr'
        simpa [rootCells, V.clear, hk] using this
      | ex j => simpa [rootCells, V.clear] using this

theorem Agr.refl {os : List Operand} : Agr S1 S1 os := ⟨fun _ _ => .inr rfl, fun _ _ _ _ => .inr rfl⟩

/-- The same frame, or operands that refer to names alone. -/
def HR (cx : Ctx) (f : Nat) (S1 S2 : SU) (os : List Operand) : Prop := S1 = S2 ∨ ∀ d, Operand.tmp d ∈ os → ∀ k, Root.sl k ∈ refsOf (S1.s d) → isVar cx f k = true

theorem HR.agr {os : List Operand} (hr : HR cx f S1 S2 os) (h : Agr S1 S2 os) {L : List Nat} (hL : ∀ t ∈ L, isVar cx f t = false) : Agr (V.clear L S1) (V.clear L S2) os := by
  rcases hr with rfl | hr
  · exact Agr.refl
  · exact h.clear (cx := cx) (f := f) hL (fun d hd k hk hkL => by
      have := hr d hd k hk
      rw [hL k hkL] at this; cases this)

theorem HR.clear {os : List Operand} (hr : HR cx f S1 S2 os) (L : List Nat) : HR cx f (V.clear L S1) (V.clear L S2) os := by
  rcases hr with rfl | hr
  · exact .inl rfl
  · refine .inr fun d hd k hk => ?_
    simp only [V.clear] at hk
    split at hk
    · simp [refsOf] at hk
    · exact hr d hd k hk

theorem opv_mono {os : List Operand} (h : Agr S1 S2 os) {t : Nat} {o : Operand} {x : XU} (ho : o ∈ os) (hx : opv cx f S1 t o = some x) : opv cx f S2 t o = some x := by
  cases o with
  | tmp d =>
    simp only [opv] at hx ⊢
    rcases h.sl d ho with e | e
    · rw [e] at hx; simp [rdS] at hx
    · rw [← e]; exact hx
  | const v => exact hx
  | func g => exact hx
  | global g => exact hx

theorem clr_mono {os : List Operand} (h : Agr S1 S2 os) {t : Nat} {o : Operand} {x : XU} (ho : o ∈ os) (hx : opv cx f S1 t o = some x) :
    ∃ L, clr cx f S1 o = clear L S1 ∧ clr cx f S2 o = clear L S2 ∧ ∀ t ∈ L, Operand.tmp t ∈ os ∧ isVar cx f t = false ∧ hasOwn (S1.s t) = true := by
  cases o with
  | tmp d =>
    simp only [opv] at hx
    have e : S1.s d = S2.s d := by
      rcases h.sl d ho with e | e
      · rw [e] at hx; simp [rdS] at hx
      · exact e
    simp only [clr]
    by_cases hv : isVar cx f d = true
    · exact ⟨[], by simp [hv, clear_nil], by simp [hv, clear_nil], by simp⟩
    · by_cases hw : hasOwn (S1.s d) = true
      · refine ⟨[d], ?_, ?_, fun t ht => ?_⟩
        · simp only [hv, hw, if_true, clear, List.mem_singleton]; rfl
        · rw [← e]; simp only [hv, hw, if_true, clear, List.mem_singleton]; rfl
        · simp only [List.mem_singleton] at ht; subst ht; exact ⟨ho, by simpa using hv, hw⟩
      · exact ⟨[], by simp [hv, hw, clear_nil], by rw [← e]; simp [hv, hw, clear_nil], by simp⟩
  | const v => exact ⟨[], by simp [clr, clear_nil], by simp [clr, clear_nil], by simp⟩
  | func g => exact ⟨[], by simp [clr, clear_nil], by simp [clr, clear_nil], by simp⟩
  | global g => exact ⟨[], by simp [clr, clear_nil], by simp [clr, clear_nil], by simp⟩

/-! ### what an operand refers to -/
theorem rootsC_rdc (r : Root) (p : List Nat) (i : Nat) : ∀ c : CU, ∀ k ∈ rootsC true (rdc r p i c), k = r ∨ k ∈ rootsC true c := by
  intro c k hk
  cases c with
  | t x => cases x with
    | sl v tag sz n cs => cases tag with
      | zero => simp only [rdc, rootsC, if_true, List.mem_singleton] at hk; exact .inl hk
      | succ m => simp [rdc, rootsC] at hk
    | _ => simp [rdc, rootsC] at hk
  | lst v sz n cs => simp [rdc, rootsC] at hk
  | _ => exact .inr hk

theorem rootsCs_rdcs (r : Root) : ∀ (i : Nat) (cs : List CU), ∀ k ∈ rootsCs true (rdcs r i cs), k = r ∨ k ∈ rootsCs true cs
  | _, [], k, hk => by simp [rdcs, rootsCs] at hk
  | i, c :: cs, k, hk => by
    simp only [rdcs, rootsCs, List.mem_append] at hk ⊢
    rcases hk with hk | hk
    · exact (rootsC_rdc r [] i c k hk).imp id .inl
    · exact (rootsCs_rdcs r (i + 1) cs k hk).imp id .inr

theorem zeroIs_roots {c : CU} {v : Value} (h : zeroIs c v = true) : rootsC true c = [] := by
  unfold zeroIs at h
  split at h <;> first | rfl | cases h

theorem zerosAre_roots : ∀ {cs : List CU} {vs : List Value}, zerosAre cs vs = true → rootsCs true cs = []
  | [], vs, _ => rfl
  | c :: cs, [], h => by simp [zerosAre] at h
  | c :: cs, v :: vs, h => by
    simp only [zerosAre, Bool.and_eq_true] at h
    simp only [rootsCs, zeroIs_roots h.1, zerosAre_roots h.2, List.append_nil]

theorem constX_refs {t : Nat} {v : Value} {x : XU} (h : constX cx t v = some x) : refsOf x = [] := by
  unfold constX at h
  split at h
  all_goals (try split at h)
  all_goals (cases h; try rfl)
  next hc =>
    simp only [Bool.and_eq_true] at hc
    simp only [refsOf, zerosAre_roots hc.2]

theorem opv_roots {os : List Operand} (h : Agr S1 S2 os) {t : Nat} {o : Operand} {x : XU} (ho : o ∈ os) (hx : opv cx f S1 t o = some x) : ∀ r ∈ refsOf x, rootCells S1 r = none ∨ rootCells S1 r = rootCells S2 r := by
  intro r hr
  cases o with
  | tmp d =>
    simp only [opv] at hx
    have e : S1.s d = S2.s d := by
      rcases h.sl d ho with e | e
      · rw [e] at hx; simp [rdS] at hx
      · exact e
    have own : rootCells S1 (.sl d) = rootCells S2 (.sl d) := by simp only [rootCells, e]
    have hrt := h.rt d ho
    cases hs : S1.s d with
    | undef => rw [hs] at hx; simp [rdS] at hx
    | tup xs =>
      rw [hs] at hx
      simp only [rdS] at hx
      split at hx
      · cases hx
      · simp only [Option.some.injEq] at hx; subst hx; simp [refsOf] at hr
    | c y =>
      rw [hs] at hx hrt
      simp only [rdS] at hx
      split at hx <;> simp only [Option.some.injEq] at hx <;> subst hx
      · rcases rootsC_rdc (.sl d) [] 0 y r hr with rfl | hr
        · exact .inr own
        · exact hrt r hr
      · exact hrt r hr
    | agg cs =>
      rw [hs] at hx hrt
      simp only [rdS] at hx
      split at hx <;> simp only [Option.some.injEq] at hx <;> subst hx
      · rcases rootsCs_rdcs (.sl d) 0 cs r hr with rfl | hr
        · exact .inr own
        · exact hrt r hr
      · exact hrt r hr
    | box v cs =>
      rw [hs] at hx hrt
      simp only [rdS] at hx
      split at hx <;> simp only [Option.some.injEq] at hx <;> subst hx
      · simp only [refsOf, rootsC, List.mem_singleton] at hr
        subst hr; exact .inr own
      · exact hrt r hr
  | const v => rw [constX_refs hx] at hr; simp at hr
  | func g => simp only [opv, Option.some.injEq] at hx; subst hx; simp [refsOf, rootsC, rootsCs] at hr
  | global g => simp [opv] at hx

theorem at_mono {r : Root} (h : rootCells S1 r = none ∨ rootCells S1 r = rootCells S2 r) {p : List Nat} {i : Nat} {c : CU} (ha : at_ S1 r p i = some c) : at_ S2 r p i = some c := by
  simp only [at_] at ha ⊢
  rcases h with e | e
  · rw [e] at ha; simp at ha
  · rw [← e]; exact ha

theorem loadN_mono {r : Root} (h : rootCells S1 r = none ∨ rootCells S1 r = rootCells S2 r) {p : List Nat} : ∀ {n off : Nat} {cs : List CU}, loadN S1 r p off n = some cs → loadN S2 r p off n = some cs
  | 0, off, cs, hl => hl
  | n + 1, off, cs, hl => by
    simp only [loadN] at hl ⊢
    cases ha : at_ S1 r p off with
    | none => simp [ha] at hl
    | some c =>
      simp only [ha, Option.bind_some] at hl
      rw [at_mono h ha]
      cases hn : loadN S1 r p (off + 1) n with
      | none => simp [hn] at hl
      | some ds => rw [hn] at hl; simp only [Option.bind_some]; rw [loadN_mono h hn]; exact hl

theorem listAt_mono {r : Root} (h : rootCells S1 r = none ∨ rootCells S1 r = rootCells S2 r) {p : List Nat} {i off m : Nat} {cs : List TU} (hl : listAt S1 r p i off m = some cs) : listAt S2 r p i off m = some cs := by
  unfold listAt at hl ⊢
  cases ha : at_ S1 r p i with
  | none => simp [ha] at hl
  | some c => rw [ha] at hl; rw [at_mono h ha]; exact hl

mutual
theorem snapC_mono : ∀ {c d : CU}, (∀ r ∈ rootsC true c, rootCells S1 r = none ∨ rootCells S1 r = rootCells S2 r) → snapC S1 c = some d → snapC S2 c = some d
  | .t x, d, _, hs => by simpa only [snapC] using hs
  | .bor v r p i off sz n, d, h, hs => by
    simp only [snapC] at hs ⊢
    split at hs
    · rename_i hz
      rw [if_pos hz]
      cases hl : listAt S1 r p i off (n * sz) with
      | none => simp [hl] at hs
      | some ds => rw [hl] at hs; rw [listAt_mono (h r (by simp [rootsC])) hl]; exact hs
    · cases hs
  | .rptr v cs, d, _, hs => by simpa only [snapC] using hs
  | .nilp, d, _, hs => by simpa only [snapC] using hs
  | .nilf, d, _, hs => by simpa only [snapC] using hs
  | .fn g [], d, _, hs => by simpa only [snapC] using hs
  | .fn g (c :: cs), d, _, hs => by simp [snapC] at hs
  | .ptr v r p off, d, _, hs => by simp [snapC] at hs
  | .lst v sz n cs, d, h, hs => by
    simp only [snapC] at hs ⊢
    cases hc : snapCs S1 cs with
    | none => simp [hc] at hs
    | some ds => rw [hc] at hs; rw [snapCs_mono (by simpa only [rootsC] using h) hc]; exact hs
theorem snapCs_mono : ∀ {cs ds : List CU}, (∀ r ∈ rootsCs true cs, rootCells S1 r = none ∨ rootCells S1 r = rootCells S2 r) → snapCs S1 cs = some ds → snapCs S2 cs = some ds
  | [], ds, _, hs => by simpa only [snapCs] using hs
  | c :: cs, ds, h, hs => by
    simp only [snapCs] at hs ⊢
    simp only [rootsCs, List.mem_append] at h
    cases hc : snapC S1 c with
    | none => simp [hc] at hs
    | some d =>
      simp only [hc, Option.bind_some] at hs
      rw [snapC_mono (fun r hr => h r (.inl hr)) hc]
      cases hcs : snapCs S1 cs with
      | none => simp [hcs] at hs
      | some es => rw [hcs] at hs; simp only [Option.bind_some]; rw [snapCs_mono (fun r hr => h r (.inr hr)) hcs]; exact hs
end

theorem snapX_mono {x y : XU} (h : ∀ r ∈ refsOf x, rootCells S1 r = none ∨ rootCells S1 r = rootCells S2 r) (hs : snapX S1 x = some y) : snapX S2 x = some y := by
  cases x with
  | c c =>
    simp only [snapX] at hs ⊢
    cases hc : snapC S1 c with
    | none => simp [hc] at hs
    | some d => rw [hc] at hs; rw [snapC_mono h hc]; exact hs
  | agg cs =>
    simp only [snapX] at hs ⊢
    cases hc : snapCs S1 cs with
    | none => simp [hc] at hs
    | some d => rw [hc] at hs; rw [snapCs_mono h hc]; exact hs
  | _ => simp [snapX] at hs

theorem snapArgs_mono : ∀ {as : List Operand} {ts : List Nat} {xs : List XU}, Agr S1 S2 as → snapArgs cx f S1 as ts = some xs → snapArgs cx f S2 as ts = some xs
  | [], ts, xs, _, hs => by simpa only [snapArgs] using hs
  | o :: os, ts, xs, h, hs => by
    simp only [snapArgs] at hs ⊢
    cases hx : opv cx f S1 (ts.head?.getD 0) o with
    | none => simp [hx] at hs
    | some x =>
      simp only [hx, Option.bind_some] at hs
      rw [opv_mono h List.mem_cons_self hx]
      simp only [Option.bind_some]
      cases hy : snapX S1 x with
      | none => simp [hy] at hs
      | some y =>
        simp only [hy, Option.bind_some] at hs
        rw [snapX_mono (opv_roots h List.mem_cons_self hx) hy]
        simp only [Option.bind_some]
        cases hz : snapArgs cx f S1 os ts.tail with
        | none => simp [hz] at hs
        | some zs => rw [hz] at hs; rw [snapArgs_mono (h.sub (fun x hx => List.mem_cons_of_mem _ hx)) hz]; exact hs

end
end Go.Proofs.Ytlkjnlfddadlmaa.V

namespace Go.Proofs.Ytlkjnlfddadlmaa.V

section
variable {cx : Ctx} {f : Nat} {call : Callee} {S1 S2 : SU}

/-- The same value, and the same temporaries used up. -/
def Mono (cx : Ctx) (f : Nat) (S1 S2 : SU) (os : List Operand) (S1' : SU) (Q : SU → Prop) : Prop :=
  ∃ L, S1' = clear L S1 ∧ Q (clear L S2) ∧ ∀ t ∈ L, Operand.tmp t ∈ os ∧ isVar cx f t = false ∧ hasOwn (S1.s t) = true

theorem Mono.none {os : List Operand} {Q : SU → Prop} (h : Q S2) : Mono cx f S1 S2 os S1 Q := ⟨[], (clear_nil S1).symm, by rw [clear_nil]; exact h, by simp⟩

theorem Mono.clr {os : List Operand} {Q : SU → Prop} (h : Agr S1 S2 os) {t : Nat} {o : Operand} {x : XU} (ho : o ∈ os) (hx : opv cx f S1 t o = some x) (hQ : Q (V.clr cx f S2 o)) : Mono cx f S1 S2 os (V.clr cx f S1 o) Q := by
  obtain ⟨L, e1, e2, e3⟩ := clr_mono h ho hx
  exact ⟨L, e1, by rw [← e2]; exact hQ, e3⟩

theorem buildV_mono (place : Nat → Option (Nat × Nat)) : ∀ {ps : List (Nat × Operand)} {cells : List CU} {S1 S2 : SU} {os : List Operand} {r : List CU × SU}, Agr S1 S2 os → (∀ p ∈ ps, p.2 ∈ os) → HR cx f S1 S2 os →
    buildV cx f place ps cells S1 = some r → Mono cx f S1 S2 os r.2 fun S2' => buildV cx f place ps cells S2 = some (r.1, S2')
  | [], cells, S1, S2, os, r, _, _, _, hq => by
    simp only [buildV, Option.some.injEq] at hq
    subst hq
    exact Mono.none rfl
  | (i, o) :: ps, cells, S1, S2, os, r, h, hp, hr, hq => by
    simp only [buildV] at hq
    have ho : o ∈ os := hp (i, o) List.mem_cons_self
    cases hpl : place i with
    | none => simp [hpl] at hq
    | some q =>
      simp only [hpl, Option.bind_some] at hq
      cases hx : opv cx f S1 q.2 o with
      | none => simp [hx] at hq
      | some x =>
        simp only [hx, Option.bind_some] at hq
        cases hc : cellsX x with
        | none => simp [hc] at hq
        | some cs =>
          simp only [hc, Option.bind_some] at hq
          split at hq
          · rename_i hok
            obtain ⟨L, e1, e2, e3⟩ := clr_mono h ho hx
            rw [e1] at hq
            have hag : Agr (clear L S1) (clear L S2) os := hr.agr h (fun t ht => (e3 t ht).2.1)
            have hr' := hr.clear L
            obtain ⟨M, f1, f2, f3⟩ := buildV_mono place hag (fun p hp' => hp p (List.mem_cons_of_mem _ hp')) hr' hq
            refine ⟨L ++ M, by rw [f1, clear_app], ?_, fun t ht => ?_⟩
            · simp only [buildV, hpl, Option.bind_some, opv_mono h ho hx, hc, if_pos hok, e2]
              rw [← clear_app]; exact f2
            · rcases List.mem_append.1 ht with ht | ht
              · exact e3 t ht
              · obtain ⟨g1, g2, g3⟩ := f3 t ht
                refine ⟨g1, g2, ?_⟩
                simp only [clear] at g3
                split at g3
                · simp [hasOwn] at g3
                · exact g3
          · cases hq

theorem optInt_mono {os : List Operand} (h : Agr S1 S2 os) {o : Option Operand} (ho : ∀ x, o = some x → x ∈ os) {n : Option Int} (hn : optInt cx f S1 o = some n) : optInt cx f S2 o = some n := by
  cases o with
  | none => exact hn
  | some o =>
    simp only [optInt] at hn ⊢
    cases hx : opv cx f S1 0 o with
    | none => simp [hx, intOf] at hn
    | some x => rw [hx] at hn; rw [opv_mono h (ho o rfl) hx]; exact hn

theorem capsV_mono : ∀ {os : List Operand} {cs : List CU}, Agr S1 S2 os → capsV cx f S1 os = some cs → capsV cx f S2 os = some cs
  | [], cs, _, hc => by simpa only [capsV] using hc
  | o :: os, cs, h, hc => by
    simp only [capsV] at hc ⊢
    cases hx : opv cx f S1 0 o with
    | none => simp [hx] at hc
    | some x =>
      rw [hx] at hc
      rw [opv_mono h List.mem_cons_self hx]
      simp only [Option.bind_some] at hc ⊢
      cases x with
      | c c =>
        simp only at hc ⊢
        split at hc
        · cases hc
        · rename_i hno
          rw [if_neg hno]
          cases hy : capsV cx f S1 os with
          | none => simp [hy] at hc
          | some ds => rw [hy] at hc; rw [capsV_mono (h.sub (fun x hx => List.mem_cons_of_mem _ hx)) hy]; exact hc
      | _ => simp at hc

theorem intOf_mono {os : List Operand} (h : Agr S1 S2 os) {t : Nat} {o : Operand} (ho : o ∈ os) {n : Int} (hn : intOf (opv cx f S1 t o) = some n) : intOf (opv cx f S2 t o) = some n := by
  cases hx : opv cx f S1 t o with
  | none => simp [hx, intOf] at hn
  | some x => rw [hx] at hn; rw [opv_mono h ho hx]; exact hn

theorem int64Of_mono {os : List Operand} (h : Agr S1 S2 os) {t : Nat} {o : Operand} (ho : o ∈ os) {n : Int} (hn : int64Of (opv cx f S1 t o) = some n) : int64Of (opv cx f S2 t o) = some n := by
  cases hx : opv cx f S1 t o with
  | none => simp [hx, int64Of] at hn
  | some x => rw [hx] at hn; rw [opv_mono h ho hx]; exact hn

theorem boolOf_mono {os : List Operand} (h : Agr S1 S2 os) {t : Nat} {o : Operand} (ho : o ∈ os) {n : Bool} (hn : boolOf (opv cx f S1 t o) = some n) : boolOf (opv cx f S2 t o) = some n := by
  cases hx : opv cx f S1 t o with
  | none => simp [hx, boolOf] at hn
  | some x => rw [hx] at hn; rw [opv_mono h ho hx]; exact hn

theorem readL_mono {c : CU} (h : ∀ r ∈ rootsC true c, rootCells S1 r = none ∨ rootCells S1 r = rootCells S2 r) {q : Nat × Nat × List TU} (hq : readL S1 c = some q) : readL S2 c = some q := by
  cases c with
  | t x => cases x with
    | sl v tag sz n cs => exact hq
    | _ => simp [readL] at hq
  | bor v r p i off sz n =>
    simp only [readL] at hq ⊢
    cases hl : listAt S1 r p i off (n * sz) with
    | none => simp [hl] at hq
    | some cs => rw [hl] at hq; rw [listAt_mono (h r (by simp [rootsC])) hl]; exact hq
  | _ => simp [readL] at hq

theorem convV_mono {so : Bool} {ks kd : Nat} {c d : CU} (h : ∀ r ∈ rootsC true c, rootCells S1 r = none ∨ rootCells S1 r = rootCells S2 r) (hq : convV so ks kd S1 c = some d) : convV so ks kd S2 c = some d := by
  have key : ∀ {e : CU}, (if kd = 3 ∧ ks = 4 then (readL S1 e).bind fun q => if q.1 = 1 then (bytesOf q.2.2).map fun bs => C.t (T.str bs) else none else none) = some d → (∀ r ∈ rootsC true e, rootCells S1 r = none ∨ rootCells S1 r = rootCells S2 r) →
      (if kd = 3 ∧ ks = 4 then (readL S2 e).bind fun q => if q.1 = 1 then (bytesOf q.2.2).map fun bs => C.t (T.str bs) else none else none) = some d := by
    intro e he hr
    split at he
    · rename_i hk
      rw [if_pos hk]
      cases hl : readL S1 e with
      | none => simp [hl] at he
      | some q => rw [hl] at he; rw [readL_mono hr hl]; exact he
    · cases he
  cases c with
  | t x => cases x with
    | int k n => exact hq
    | str s => exact hq
    | _ => exact key hq h
  | _ => exact key hq h

theorem quietCall_mono {os : List Operand} (h : Agr S1 S2 os) {fo : Operand} {args : List Operand} {ts : List Nat} (hf : fo ∈ os) (ha : ∀ x ∈ args, x ∈ os) {x : XU} (hq : quietCall cx f call S1 fo args ts = some x) : quietCall cx f call S2 fo args ts = some x := by
  unfold quietCall at hq ⊢
  cases hx : opv cx f S1 0 fo with
  | none => simp [hx] at hq
  | some y =>
    rw [hx] at hq
    rw [opv_mono h hf hx]
    cases y with
    | c c => cases c with
      | fn g caps => cases caps with
        | nil =>
          simp only at hq ⊢
          split at hq
          · cases hq
          · rename_i hno
            rw [if_neg hno]
            cases hs : snapArgs cx f S1 args ts with
            | none => simp [hs] at hq
            | some xs => rw [hs] at hq; rw [snapArgs_mono (h.sub ha) hs]; exact hq
        | cons => simp at hq
      | _ => simp at hq
    | _ => simp at hq

theorem extractV_mono {os : List Operand} (h : Agr S1 S2 os) {o : Operand} {i : Nat} (ho : o ∈ os) {x : XU} (hq : extractV cx f S1 o i = some x) : extractV cx f S2 o i = some x := by
  cases o with
  | tmp d =>
    simp only [extractV] at hq ⊢
    rcases h.sl d ho with e | e
    · rw [e] at hq; simp at hq
    · rw [← e]; exact hq
  | _ => simp [extractV] at hq

theorem growV_mono {c : Call} (h : Agr S1 S2 c.operands.toList) {x : XU} (hq : growV cx f S1 c = some x) : growV cx f S2 c = some x := by
  have hargs : ∀ y ∈ c.args.toList, y ∈ c.operands.toList := by
    intro y hy; simp only [Call.operands, Array.toList_append, List.mem_append]; exact .inr hy
  unfold growV at hq ⊢
  split at hq
  · next g y hcal hax =>
    try simp only [hcal, hax]
    split at hq
    · next q n hg hn =>
      simp only [hg, int64Of_mono h (hargs y (by rw [hax]; simp)) hn]
      exact hq
    · cases hq
  · cases hq

theorem qcall_mono {t : Nat} {c : Call} {x : XU} {S1' : SU} (h : Agr S1 S2 c.operands.toList) (hq : qcall cx f call S1 t c = some (x, S1')) : S1' = S1 ∧ qcall cx f call S2 t c = some (x, S2) := by
  have hargs : ∀ y ∈ c.args.toList, y ∈ c.operands.toList := by
    intro y hy; simp only [Call.operands, Array.toList_append, List.mem_append]; exact .inr hy
  unfold qcall at hq ⊢
  split at hq
  · rename_i y t' hcal hax hts
    have hy : y ∈ c.operands.toList := hargs y (by rw [hax]; simp)
    try simp only [hcal, hax, hts]
    cases hz : opv cx f S1 t' y with
    | none => simp [hz] at hq
    | some z =>
      rw [hz] at hq
      rw [opv_mono h hy hz]
      cases z with
      | c z =>
        simp only at hq ⊢
        split at hq
        · rename_i hl
          rw [if_pos hl]
          cases hv : lenV z with
          | none => simp [hv] at hq
          | some n =>
            simp only [hv, Option.map_some, Option.some.injEq, Prod.mk.injEq] at hq ⊢
            exact ⟨hq.2.symm, hq.1, trivial⟩
        · cases hq
      | _ => simp at hq
  · rename_i b y z hcal hax
    try simp only [hcal, hax]
    have hy : y ∈ c.operands.toList := hargs y (by rw [hax]; simp)
    have hz : z ∈ c.operands.toList := hargs z (by rw [hax]; simp)
    simp only [mmV] at hq ⊢
    split at hq
    · rename_i a b' h1 h2
      rw [int64Of_mono h hy h1, int64Of_mono h hz h2]
      cases hm : mm b a b' with
      | none => simp [hm] at hq
      | some n =>
        simp only [hm, Option.map_some, Option.some.injEq, Prod.mk.injEq] at hq ⊢
        exact ⟨hq.2.symm, hq.1, trivial⟩
    · cases hq
  · rename_i fo hcal
    try simp only [hcal]
    split at hq
    · next hg =>
      rw [if_pos hg]
      cases hz : growV cx f S1 c with
      | none => simp [hz] at hq
      | some z =>
        rw [growV_mono h hz]
        simp only [hz, Option.map_some, Option.some.injEq, Prod.mk.injEq] at hq ⊢
        exact ⟨hq.2.symm, hq.1, trivial⟩
    · next hg =>
      rw [if_neg hg]
      cases hz : quietCall cx f call S1 fo c.args.toList c.argTypes.toList with
      | none => simp [hz] at hq
      | some z =>
        rw [quietCall_mono h (by simp [Call.operands, hcal]) hargs hz]
        simp only [hz, Option.map_some, Option.some.injEq, Prod.mk.injEq] at hq ⊢
        exact ⟨hq.2.symm, hq.1, trivial⟩
  · cases hq
end
end Go.Proofs.Ytlkjnlfddadlmaa.V

namespace Go.Proofs.Ytlkjnlfddadlmaa.V

section
variable {cx : Ctx} {f : Nat} {call : Callee} {S1 S2 : SU}

theorem qval_mono {t : Nat} {op : Op} {x : XU} {S1' : SU} (h : Agr S1 S2 op.operands.toList) (hr : HR cx f S1 S2 op.operands.toList) (hq : qval cx f call S1 t op = some (x, S1')) :
    Mono cx f S1 S2 op.operands.toList S1' fun S2' => qval cx f call S2 t op = some (x, S2') := by
  cases op with
  | move y =>
    simp only [qval] at hq ⊢
    have hy : y ∈ (Op.move y).operands.toList := by simp [Op.operands]
    cases hx : opv cx f S1 t y with
    | none => simp [hx] at hq
    | some z =>
      simp only [hx, Option.map_some, Option.some.injEq, Prod.mk.injEq] at hq
      obtain ⟨rfl, rfl⟩ := hq
      exact Mono.clr h hy hx (by simp [opv_mono h hy hx])
  | pick c y z =>
    simp only [qval] at hq ⊢
    have hc : c ∈ (Op.pick c y z).operands.toList := by simp [Op.operands]
    have hy : y ∈ (Op.pick c y z).operands.toList := by simp [Op.operands]
    have hz : z ∈ (Op.pick c y z).operands.toList := by simp [Op.operands]
    split at hq
    · rename_i hb
      cases hx : opv cx f S1 t y with
      | none => simp [hx] at hq
      | some v =>
        simp only [hx, Option.map_some, Option.some.injEq, Prod.mk.injEq] at hq
        obtain ⟨rfl, rfl⟩ := hq
        exact Mono.clr h hy hx (by simp [boolOf_mono h hc hb, opv_mono h hy hx])
    · rename_i hb
      cases hx : opv cx f S1 t z with
      | none => simp [hx] at hq
      | some v =>
        simp only [hx, Option.map_some, Option.some.injEq, Prod.mk.injEq] at hq
        obtain ⟨rfl, rfl⟩ := hq
        exact Mono.clr h hz hx (by simp [boolOf_mono h hc hb, opv_mono h hz hx])
    · cases hq
  | alloc e =>
    simp only [qval] at hq ⊢
    split at hq
    · rename_i hok
      simp only [Option.some.injEq, Prod.mk.injEq] at hq
      obtain ⟨rfl, rfl⟩ := hq
      exact Mono.none (by simp [hok])
    · cases hq
  | box e y =>
    simp only [qval] at hq ⊢
    have hy : y ∈ (Op.box e y).operands.toList := by simp [Op.operands]
    cases hx : opv cx f S1 e y with
    | none => simp [hx] at hq
    | some z =>
      simp only [hx, Option.bind_some] at hq
      cases hc : cellsX z with
      | none => simp [hc] at hq
      | some cs =>
        simp only [hc, Option.bind_some] at hq
        split at hq
        · rename_i hok
          simp only [Option.some.injEq, Prod.mk.injEq] at hq
          obtain ⟨rfl, rfl⟩ := hq
          exact Mono.clr h hy hx (by simp only [opv_mono h hy hx, Option.bind_some, hc, if_pos hok])
        · cases hq
  | build e ps =>
    simp only [qval] at hq ⊢
    split at hq
    · rename_i hok
      cases hb : buildV cx f (fun i => (cx.ty e).fs[i]?) ps.toList (cx.ty e).zs S1 with
      | none => simp [hb] at hq
      | some r =>
        simp only [hb, Option.map_some, Option.some.injEq, Prod.mk.injEq] at hq
        obtain ⟨rfl, rfl⟩ := hq
        obtain ⟨L, e1, e2, e3⟩ := buildV_mono (cx := cx) (f := f) _ h (fun p hp => by simp only [Op.operands, List.mem_map]; exact ⟨p, hp, rfl⟩) hr hb
        exact ⟨L, e1, by simp only [if_pos hok, e2, Option.map_some], e3⟩
    · cases hq
  | buildSlice e n ps =>
    simp only [qval] at hq ⊢
    split at hq
    · rename_i el he
      split at hq
      · rename_i hok
        cases hb : buildV cx f (fun i => if i < n then some (i * (cx.ty el).sz, el) else none) ps.toList (repl n (cx.ty el).zs) S1 with
        | none => simp [hb] at hq
        | some r =>
          simp only [hb, Option.map_some, Option.some.injEq, Prod.mk.injEq] at hq
          obtain ⟨rfl, rfl⟩ := hq
          obtain ⟨L, e1, e2, e3⟩ := buildV_mono (cx := cx) (f := f) _ h (fun p hp => by simp only [Op.operands, List.mem_map]; exact ⟨p, hp, rfl⟩) hr hb
          exact ⟨L, e1, by simp only [he, if_pos hok, e2, Option.map_some], e3⟩
      · cases hq
    · cases hq
  | load e y =>
    simp only [qval] at hq ⊢
    have hy : y ∈ (Op.load e y).operands.toList := by simp [Op.operands]
    split at hq
    · rename_i _ r p off hx
      rw [opv_mono h hy hx]
      have hroot := opv_roots h hy hx r (by simp [refsOf, rootsC])
      simp only
      split at hq
      · rename_i hok
        cases hl : loadN S1 r p off (cx.ty e).sz with
        | none => simp [hl] at hq
        | some cs =>
          simp only [hl, Option.bind_some] at hq
          cases hm : mkX cx e cs with
          | none => simp [hm] at hq
          | some z =>
            simp only [hm, Option.map_some, Option.some.injEq, Prod.mk.injEq] at hq
            obtain ⟨rfl, rfl⟩ := hq
            exact Mono.none (by simp only [if_pos hok, loadN_mono hroot hl, Option.bind_some, hm, Option.map_some])
      · cases hq
    · rename_i _ cs hx
      rw [opv_mono h hy hx]
      simp only
      split at hq
      · rename_i hok
        cases hm : mkX cx e ((cs.take (cx.ty e).sz).map .t) with
        | none => rw [hm] at hq; cases hq
        | some z =>
          simp only [hm, Option.map_some, Option.some.injEq, Prod.mk.injEq] at hq
          obtain ⟨rfl, rfl⟩ := hq
          exact Mono.none (by simp only [if_pos hok, hm, Option.map_some])
      · cases hq
    · cases hq
  | fieldAddr e y i =>
    simp only [qval] at hq ⊢
    have hy : y ∈ (Op.fieldAddr e y i).operands.toList := by simp [Op.operands]
    split at hq
    · rename_i off ft z hf hx
      rw [hf, opv_mono h hy hx]
      simp only
      split at hq
      · rename_i hok
        cases ha : addrV z off with
        | none => simp [ha] at hq
        | some u =>
          simp only [ha, Option.map_some, Option.some.injEq, Prod.mk.injEq] at hq
          obtain ⟨rfl, rfl⟩ := hq
          exact Mono.none (by simp only [if_pos hok, ha, Option.map_some])
      · cases hq
    · cases hq
  | field e y i =>
    simp only [qval] at hq ⊢
    have hy : y ∈ (Op.field e y i).operands.toList := by simp [Op.operands]
    split at hq
    · rename_i off ft cs hf hx
      split at hq
      · rename_i hok
        cases hm : mkX cx ft ((cs.drop off).take (cx.ty ft).sz) with
        | none => simp [hm] at hq
        | some z =>
          simp only [hm, Option.map_some, Option.some.injEq, Prod.mk.injEq] at hq
          obtain ⟨rfl, rfl⟩ := hq
          exact Mono.clr h hy hx (by simp only [hf, opv_mono h hy hx, if_pos hok, hm, Option.map_some])
      · cases hq
    · cases hq
  | indexAddr e y i =>
    simp only [qval] at hq ⊢
    have hy : y ∈ (Op.indexAddr e y i).operands.toList := by simp [Op.operands]
    have hi : i ∈ (Op.indexAddr e y i).operands.toList := by simp [Op.operands]
    split at hq
    · rename_i el _ r p j off sz n k he hx hk
      rw [he, opv_mono h hy hx, intOf_mono h hi hk]
      simp only
      split at hq
      · rename_i hok
        simp only [Option.some.injEq, Prod.mk.injEq] at hq
        obtain ⟨rfl, rfl⟩ := hq
        exact Mono.none (by simp only [if_pos hok])
      · cases hq
    · rename_i el _ tag sz n cs k he hx hk
      rw [he, opv_mono h hy hx, intOf_mono h hi hk]
      simp only
      split at hq
      · rename_i hok
        simp only [Option.some.injEq, Prod.mk.injEq] at hq
        obtain ⟨rfl, rfl⟩ := hq
        exact Mono.none (by simp only [if_pos hok])
      · cases hq
    · cases hq
  | index e y i =>
    simp only [qval] at hq ⊢
    have hy : y ∈ (Op.index e y i).operands.toList := by simp [Op.operands]
    have hi : i ∈ (Op.index e y i).operands.toList := by simp [Op.operands]
    split at hq
    · rename_i s k hx hk
      rw [opv_mono h hy hx, intOf_mono h hi hk]
      simp only
      split at hq
      · rename_i hok
        simp only [Option.some.injEq, Prod.mk.injEq] at hq
        obtain ⟨rfl, rfl⟩ := hq
        exact Mono.none (by simp only [if_pos hok])
      · cases hq
    · cases hq
  | binOp op xt y z yt =>
    simp only [qval] at hq ⊢
    have hy : y ∈ (Op.binOp op xt y z yt).operands.toList := by simp [Op.operands]
    have hz : z ∈ (Op.binOp op xt y z yt).operands.toList := by simp [Op.operands]
    split at hq
    · rename_i u v hu hv
      rw [opv_mono h hy hu, opv_mono h hz hv]
      simp only
      cases hb : binV (kindOf cx xt) (isConstO y || isConstO z) op u v with
      | none => simp [hb] at hq
      | some c =>
        simp only [hb, Option.map_some, Option.some.injEq, Prod.mk.injEq] at hq
        obtain ⟨rfl, rfl⟩ := hq
        exact Mono.none rfl
    · cases hq
  | nilCheck y =>
    simp only [qval] at hq ⊢
    have hy : y ∈ (Op.nilCheck y).operands.toList := by simp [Op.operands]
    split at hq
    · rename_i v r p off hu
      rw [opv_mono h hy hu]
      simp only [Option.some.injEq, Prod.mk.injEq] at hq ⊢
      obtain ⟨rfl, rfl⟩ := hq
      exact Mono.none ⟨rfl, rfl⟩
    · rename_i v cs hu
      rw [opv_mono h hy hu]
      simp only [Option.some.injEq, Prod.mk.injEq] at hq ⊢
      obtain ⟨rfl, rfl⟩ := hq
      exact Mono.none ⟨rfl, rfl⟩
    · cases hq
  | unOp op xt y =>
    simp only [qval] at hq ⊢
    have hy : y ∈ (Op.unOp op xt y).operands.toList := by simp [Op.operands]
    split at hq
    · rename_i u hu
      rw [opv_mono h hy hu]
      simp only
      cases hb : unV op u with
      | none => simp [hb] at hq
      | some c =>
        simp only [hb, Option.map_some, Option.some.injEq, Prod.mk.injEq] at hq
        obtain ⟨rfl, rfl⟩ := hq
        exact Mono.none rfl
    · cases hq
  | convert s d y =>
    simp only [qval] at hq ⊢
    have hy : y ∈ (Op.convert s d y).operands.toList := by simp [Op.operands]
    split at hq
    · rename_i u hu
      rw [opv_mono h hy hu]
      have hroot := opv_roots h hy hu
      simp only
      cases hb : convV (cx.ty s).ok (kindOf cx s) (kindOf cx d) S1 u with
      | none => simp [hb] at hq
      | some c =>
        simp only [hb, Option.map_some, Option.some.injEq, Prod.mk.injEq] at hq
        obtain ⟨rfl, rfl⟩ := hq
        exact Mono.none (by rw [convV_mono hroot hb]; rfl)
    · cases hq
  | extract y i =>
    simp only [qval] at hq ⊢
    have hy : y ∈ (Op.extract y i).operands.toList := by simp [Op.operands]
    cases hx : extractV cx f S1 y i with
    | none => simp [hx] at hq
    | some z =>
      simp only [hx, Option.map_some, Option.some.injEq, Prod.mk.injEq] at hq
      obtain ⟨rfl, rfl⟩ := hq
      exact Mono.none (by rw [extractV_mono h hy hx]; rfl)
  | slice e y lo hi mx =>
    cases mx with
    | some m => simp [qval] at hq
    | none =>
      simp only [qval] at hq ⊢
      have hy : y ∈ (Op.slice e y lo hi none).operands.toList := by simp [Op.operands]
      have hlo : ∀ z, lo = some z → z ∈ (Op.slice e y lo hi none).operands.toList := by rintro z rfl; simp [Op.operands]
      have hhi : ∀ z, hi = some z → z ∈ (Op.slice e y lo hi none).operands.toList := by rintro z rfl; simp [Op.operands]
      split at hq
      · rename_i u l k hu hl hk
        rw [opv_mono h hy hu, optInt_mono h hlo hl, optInt_mono h hhi hk]
        simp only
        split at hq
        · rename_i hok
          cases hs : sliceV u l k with
          | none => simp [hs] at hq
          | some c =>
            simp only [hs, Option.map_some, Option.some.injEq, Prod.mk.injEq] at hq
            obtain ⟨rfl, rfl⟩ := hq
            exact Mono.none (by simp only [if_pos hok, hs, Option.map_some])
        · cases hq
      · cases hq
  | makeSlice e l c =>
    simp only [qval] at hq ⊢
    have hl : l ∈ (Op.makeSlice e l c).operands.toList := by simp [Op.operands]
    have hc : c ∈ (Op.makeSlice e l c).operands.toList := by simp [Op.operands]
    split at hq
    · rename_i el n m he hn hm
      rw [he, intOf_mono h hl hn, intOf_mono h hc hm]
      simp only
      split at hq
      · rename_i hok
        cases hz : allT (cx.ty el).zs with
        | none => simp [hz] at hq
        | some zs =>
          simp only [hz, Option.map_some, Option.some.injEq, Prod.mk.injEq] at hq
          obtain ⟨rfl, rfl⟩ := hq
          exact Mono.none (by simp only [if_pos hok, hz, Option.map_some])
      · cases hq
    · cases hq
  | makeFunc g first caps =>
    cases g with
    | func g =>
      simp only [qval] at hq ⊢
      split at hq
      · rename_i hok
        cases hz : capsV cx f S1 caps.toList with
        | none => simp [hz] at hq
        | some zs =>
          simp only [hz, Option.map_some, Option.some.injEq, Prod.mk.injEq] at hq
          obtain ⟨rfl, rfl⟩ := hq
          exact Mono.none (by simp only [if_pos hok, capsV_mono (h.sub (fun x hx => by simp only [Op.operands, Array.toList_append, List.mem_append]; exact .inr hx)) hz, Option.map_some])
      · cases hq
    | _ => simp [qval] at hq
  | call c =>
    simp only [qval] at hq ⊢
    obtain ⟨rfl, h2⟩ := qcall_mono h hq
    exact Mono.none h2
  | _ => simp [qval] at hq
end
end Go.Proofs.Ytlkjnlfddadlmaa.V

namespace Go.Proofs.Ytlkjnlfddadlmaa.V

section
variable {cx : Ctx} {f : Nat} {call : Callee} {S1 S2 : SU}

theorem listU_mono {os : List Operand} (h : Agr S1 S2 os) {t : Nat} {o : Operand} {x : XU} (ho : o ∈ os) (hx : opv cx f S1 t o = some x) {r : Root} {p : List Nat} {i off m : Nat} (hr : r ∈ refsOf x) {cs : List TU} (hl : listAt S1 r p i off m = some cs) : listAt S2 r p i off m = some cs :=
  listAt_mono (opv_roots h ho hx r hr) hl

/-- The head of a soft append. -/
theorem headV_soft {os : List Operand} (h : Agr S1 S2 os) {o : Operand} (ho : o ∈ os) {t : Nat} {v : Unit} {tag sz n : Nat} {cs : List TU} (hx : opv cx f S1 t o = some (.c (.t (.sl v tag sz n cs)))) (htag : tag = 0) {q : List TU × Nat × Nat × SU} (hq : headV cx f S1 o t = some q) :
    ∃ L, q = (cs, sz, n, clear L S1) ∧ headV cx f S2 o t = some (cs, sz, n, clear L S2) ∧ ∀ t ∈ L, Operand.tmp t ∈ os ∧ isVar cx f t = false ∧ hasOwn (S1.s t) = true := by
  subst htag
  obtain ⟨L, e1, e2, e3⟩ := clr_mono h ho hx
  refine ⟨L, ?_, ?_, e3⟩
  · simp only [headV, hx, Option.some.injEq, e1] at hq; exact hq.symm
  · simp only [headV, opv_mono h ho hx, e2]

theorem appendV_mono {c : Call} {s x : Operand} {t t' : Nat} (h : Agr S1 S2 c.operands.toList) (hr : HR cx f S1 S2 c.operands.toList) (hs : s ∈ c.operands.toList) (hx : x ∈ c.operands.toList)
    (hsoft : ((match opv cx f S1 t s with
        | some (.c (.t (.sl _ 0 _ _ _))) => true
        | _ => false) && (match opv cx f S1 t' x with
        | some (.c (.t _)) => true
        | some (.c (.bor _ _ _ _ _ _ _)) => match (cx.ty t).el with
          | some el => (cx.ty el).flat
          | none => false
        | _ => false)) = true) {z : XU} {S1' : SU} (hq : appendV cx f S1 [t, t'] s x = some (z, S1')) :
    Mono cx f S1 S2 c.operands.toList S1' fun S2' => appendV cx f S2 [t, t'] s x = some (z, S2') := by
  simp only [Bool.and_eq_true] at hsoft
  obtain ⟨hs1, hs2⟩ := hsoft
  simp only [appendV] at hq ⊢
  cases hel : (cx.ty t).el with
  | none => simp [hel] at hq
  | some el =>
    simp only [hel] at hq hs2 ⊢
    cases ht : tailV cx f S1 x t' (cx.ty el).flat with
    | none => simp [ht] at hq
    | some q =>
      obtain ⟨ys, sz', m, Sa⟩ := q
      simp only [ht, Option.bind_some] at hq
      -- the tail
      have tail : ∃ L, Sa = clear L S1 ∧ tailV cx f S2 x t' (cx.ty el).flat = some (ys, sz', m, clear L S2) ∧ ∀ t ∈ L, Operand.tmp t ∈ c.operands.toList ∧ isVar cx f t = false ∧ hasOwn (S1.s t) = true := by
        cases hxv : opv cx f S1 t' x with
        | none => simp [hxv] at hs2
        | some xv =>
          cases xv with
          | c xc =>
            cases xc with
            | t y =>
              cases y with
              | sl v tag sz n cs =>
                cases tag with
                | zero =>
                  simp only [tailV, hxv] at ht
                  obtain ⟨L, e1, e2, e3⟩ := headV_soft h hx hxv rfl ht
                  simp only [Prod.mk.injEq] at e1
                  obtain ⟨rfl, rfl, rfl, rfl⟩ := e1
                  exact ⟨L, rfl, by simp only [tailV, opv_mono h hx hxv]; exact e2, e3⟩
                | succ g =>
                  simp only [tailV, hxv, Option.some.injEq, Prod.mk.injEq] at ht
                  obtain ⟨rfl, rfl, rfl, rfl⟩ := ht
                  exact ⟨[], (clear_nil _).symm, by simp only [tailV, opv_mono h hx hxv, clear_nil], by simp⟩
              | str b =>
                simp only [tailV, hxv, Option.some.injEq, Prod.mk.injEq] at ht
                obtain ⟨rfl, rfl, rfl, rfl⟩ := ht
                exact ⟨[], (clear_nil _).symm, by simp only [tailV, opv_mono h hx hxv, clear_nil], by simp⟩
              | _ => simp [tailV, hxv, headV] at ht
            | bor v r p i off sz n =>
              simp only [hxv] at hs2
              simp only [tailV, hxv, hs2, if_true] at ht
              cases hl : listAt S1 r p i off (n * sz) with
              | none => simp [hl] at ht
              | some cs =>
                simp only [hl, Option.bind_some] at ht
                split at ht
                · rename_i hfl
                  simp only [Option.some.injEq, Prod.mk.injEq] at ht
                  obtain ⟨rfl, rfl, rfl, rfl⟩ := ht
                  exact ⟨[], (clear_nil _).symm, by simp only [tailV, opv_mono h hx hxv, hs2, if_true, listU_mono h hx hxv (by simp [refsOf, rootsC]) hl, Option.bind_some, if_pos hfl, clear_nil], by simp⟩
                · cases ht
            | _ => simp [hxv] at hs2
          | _ => simp [hxv] at hs2
      obtain ⟨L, rfl, e2, e3⟩ := tail
      have hag : Agr (clear L S1) (clear L S2) c.operands.toList := hr.agr h (fun t ht => (e3 t ht).2.1)
      rw [e2]
      simp only [Option.bind_some]
      cases hh : headV cx f (clear L S1) s t with
      | none => simp [hh] at hq
      | some q =>
        obtain ⟨zs, sz, n, Sb⟩ := q
        simp only [hh, Option.bind_some] at hq
        cases hsv : opv cx f S1 t s with
        | none => simp [hsv] at hs1
        | some sv =>
          rw [hsv] at hs1
          -- the head was not used up by the tail
          have hsv' : opv cx f (clear L S1) t s = some sv := by
            cases s with
            | tmp d =>
              simp only [opv, clear] at hh hsv ⊢
              by_cases hd : d ∈ L
              · exfalso
                simp [headV, opv, clear, hd, rdS] at hh
              · simp only [hd, if_false]; exact hsv
            | _ => exact hsv
          split at hs1
          · rename_i heq
            simp only [Option.some.injEq] at heq
            subst heq
            obtain ⟨M, f1, f2, f3⟩ := headV_soft hag hs hsv' rfl hh
            simp only [Prod.mk.injEq] at f1
            obtain ⟨rfl, rfl, rfl, rfl⟩ := f1
            split at hq
            · rename_i hok
              simp only [Option.some.injEq, Prod.mk.injEq] at hq
              obtain ⟨rfl, rfl⟩ := hq
              refine ⟨L ++ M, clear_app L M S1, ?_, fun k hk => ?_⟩
              · simp only [f2, Option.bind_some, if_pos hok, clear_app]
              · rcases List.mem_append.1 hk with hk | hk
                · exact e3 k hk
                · obtain ⟨g1, g2, g3⟩ := f3 k hk
                  refine ⟨g1, g2, ?_⟩
                  simp only [clear] at g3
                  split at g3
                  · simp [hasOwn] at g3
                  · exact g3
            · cases hq
          · cases hs1

/-! ### what a soft operation does -/
structure Eff where
  dst : Option Nat
  x : XU
  L : List Nat

def Eff.app (e : Eff) (S : SU) : SU :=
  match e.dst with
  | none => clear e.L S
  | some d => { clear e.L S with s := upd (clear e.L S).s d e.x }

theorem clear_congr {L M : List Nat} {S : SU} (h : clear L S1 = clear M S1) (hL : ∀ t ∈ L, hasOwn (S1.s t) = true) (hM : ∀ t ∈ M, hasOwn (S1.s t) = true) : clear L S = clear M S := by
  have key : ∀ t, (t ∈ L) = (t ∈ M) := by
    intro t
    have ht := congrFun (congrArg St.s h) t
    simp only [clear] at ht
    apply propext
    constructor
    · intro hl
      by_cases hm : t ∈ M
      · exact hm
      · rw [if_pos hl, if_neg hm] at ht
        have := hL t hl
        rw [← ht] at this
        simp [hasOwn] at this
    · intro hm
      by_cases hl : t ∈ L
      · exact hl
      · rw [if_neg hl, if_pos hm] at ht
        have := hM t hm
        rw [ht] at this
        simp [hasOwn] at this
  simp only [clear, key]

theorem mem_looks {ops : Array Oper} {o : Oper} {d : Nat} (h : Operand.tmp d ∈ o.op.operands.toList) : d ∈ o.looksAt ops := by
  simp only [Oper.looksAt, List.mem_append, List.mem_filterMap]
  exact .inl ⟨_, h, rfl⟩

theorem wanted_mono {ops : Array Oper} {o : Oper} (h : ∀ d ∈ o.looksAt ops, S1.s d = .undef ∨ S1.s d = S2.s d) {b : Bool} (hw : wantedV S1 ops o = some b) : wantedV S2 ops o = some b := by
  unfold wantedV at hw ⊢
  cases hg : o.guard with
  | none => rw [hg] at hw; exact hw
  | some g =>
    obtain ⟨j, want⟩ := g
    rw [hg] at hw
    simp only at hw ⊢
    cases hd : (ops[j]?).bind (·.dst) with
    | none => rw [hd] at hw; cases hw
    | some d =>
      rw [hd] at hw
      simp only at hw ⊢
      have hm : d ∈ o.looksAt ops := by
        simp only [Oper.looksAt, hg, hd, List.mem_append]
        right; simp
      rcases h d hm with e | e
      · rw [e] at hw; simp at hw
      · rw [← e]; exact hw

/-- What a soft operation reckons, wanted. -/
def softV (cx : Ctx) (f : Nat) (call : Callee) (S : SU) (o : Oper) : Option (XU × SU) :=
  match o.op with
  | .call c => if isActive cx (.call c) then (match c.callee, c.args.toList with
      | .builtin .append, [s, x] => appendV cx f S c.argTypes.toList s x
      | _, _ => none) else qcall cx f call S o.type c
  | op => qval cx f call S o.type op

theorem softV_mono {o : Oper} (hsoft : (!isActive cx o.op || softApp cx f S1 o) = true) (h : Agr S1 S2 o.op.operands.toList) (hr : HR cx f S1 S2 o.op.operands.toList) {x : XU} {S1' : SU} (hq : softV cx f call S1 o = some (x, S1')) :
    Mono cx f S1 S2 o.op.operands.toList S1' fun S2' => softV cx f call S2 o = some (x, S2') := by
  by_cases hact : isActive cx o.op = true
  · simp only [hact, Bool.not_true, Bool.false_or] at hsoft
    cases ho : o.op with
    | call c =>
      rw [ho] at hact h hr
      simp only [softV, ho, hact, if_true] at hq ⊢
      simp only [softApp, ho] at hsoft
      split at hsoft
      · rename_i s y t t' hcal hargs hts
        simp only [hcal, hargs, hts] at hq ⊢
        exact appendV_mono h hr (by simp [Op.operands, Call.operands, hargs]) (by simp [Op.operands, Call.operands, hargs]) hsoft hq
      · cases hsoft
    | _ => simp [softApp, ho] at hsoft
  · have e : ∀ S, softV cx f call S o = qval cx f call S o.type o.op := by
      intro S
      simp only [softV]
      split
      · rename_i c hc
        rw [hc] at hact ⊢
        rw [if_neg hact]; rfl
      · rfl
    rw [e] at hq
    simp only [e]
    exact qval_mono h hr hq

theorem stepOp_soft {ops : Array Oper} {o : Oper} {S : SU} (hsoft : (!isActive cx o.op || softApp cx f S o) = true) (hw : wantedV S ops o = some true) : stepOp cx f call S ops o = (softV cx f call S o).bind fun r => putQ cx f r.2 o.dst r.1 := by
  by_cases hact : isActive cx o.op = true
  · simp only [hact, Bool.not_true, Bool.false_or] at hsoft
    cases ho : o.op with
    | call c =>
      rw [ho] at hact
      simp only [softApp, ho] at hsoft
      split at hsoft
      · rename_i s y t t' hcal hargs hts
        simp only [stepOp, hw, ho, softV, hact, if_true, hcal, hargs]
      · cases hsoft
    | _ => simp [softApp, ho] at hsoft
  · cases ho : o.op with
    | call c => rw [ho] at hact; simp only [stepOp, hw, ho, softV, hact]; rfl
    | assign x => simp [ho, isActive] at hact
    | store t x y => simp [ho, isActive] at hact
    | _ => simp only [stepOp, hw, ho, softV]

theorem putQ_app {o : Oper} {x : XU} {L : List Nat} {S S' : SU} (hL : ∀ t ∈ L, isVar cx f t = false) (h : putQ cx f (clear L S) o.dst x = some S') : S' = (⟨o.dst, x, L⟩ : Eff).app S ∧ ∀ d, o.dst = some d → isVar cx f d = true → S.s d = .undef := by
  cases hd : o.dst with
  | none => rw [hd] at h; simp only [putQ, Option.some.injEq] at h; exact ⟨h.symm, fun d h => by cases h⟩
  | some d =>
    rw [hd] at h
    simp only [putQ] at h
    split at h
    · cases h
    · rename_i hc
      simp only [Option.some.injEq] at h
      refine ⟨h.symm, fun d' hd' hv => ?_⟩
      simp only [Option.some.injEq] at hd'
      subst hd'
      rw [hv] at hc
      have hn : d ∉ L := fun hd => by have := hL d hd; rw [hv] at this; cases this
      simp only [clear, hn, if_false, Bool.true_and, Bool.not_eq_true', Bool.not_eq_false] at hc
      cases hs : S.s d <;> simp [hs, isUndef] at hc
      rfl

theorem app_putQ {o : Oper} {x : XU} {L : List Nat} {S : SU} (hL : ∀ t ∈ L, isVar cx f t = false) (h : ∀ d, o.dst = some d → isVar cx f d = true → S.s d = .undef) : putQ cx f (clear L S) o.dst x = some ((⟨o.dst, x, L⟩ : Eff).app S) := by
  cases hd : o.dst with
  | none => rfl
  | some d =>
    simp only [putQ]
    rw [if_neg]
    · rfl
    · intro hc
      simp only [Bool.and_eq_true, Bool.not_eq_true'] at hc
      have hn : d ∉ L := fun hd => by have := hL d hd; rw [hc.1] at this; cases this
      have := h d hd hc.1
      simp [clear, hn, this, isUndef] at hc

theorem softApp_mono {o : Oper} (h : Agr S1 S2 o.op.operands.toList) (hs : softApp cx f S1 o = true) : softApp cx f S2 o = true := by
  unfold softApp at hs ⊢
  cases ho : o.op with
  | call c =>
    rw [ho] at hs h
    simp only at hs ⊢
    split at hs
    · rename_i s x t t' hcal hargs hts
      have hsm : s ∈ (Op.call c).operands.toList := by simp [Op.operands, Call.operands, hargs]
      have hxm : x ∈ (Op.call c).operands.toList := by simp [Op.operands, Call.operands, hargs]
      try simp only [hcal, hargs, hts]
      cases h1 : opv cx f S1 t s with
      | none => simp [h1] at hs
      | some v =>
        cases h2 : opv cx f S1 t' x with
        | none => simp [h2] at hs
        | some u => rw [h1, h2] at hs; rw [opv_mono h hsm h1, opv_mono h hxm h2]; exact hs
    · cases hs
  | _ => rw [ho] at hs; cases hs

/-- A soft step, and what it does wherever else it is done. -/
theorem soft_eff {ops : Array Oper} {o : Oper} {S1' : SU} (hsoft : softC cx f ops S1 o = true) (hq : stepOp cx f call S1 ops o = some S1') :
    ∃ e : Eff, e.dst = o.dst ∧ S1' = e.app S1 ∧ (∀ t ∈ e.L, Operand.tmp t ∈ o.op.operands.toList ∧ isVar cx f t = false ∧ hasOwn (S1.s t) = true) ∧ (∀ d, o.dst = some d → isVar cx f d = true → S1.s d = .undef) ∧
      ∀ S2, (∀ d ∈ o.looksAt ops, S1.s d = .undef ∨ S1.s d = S2.s d) → Agr S1 S2 o.op.operands.toList → HR cx f S1 S2 o.op.operands.toList → (∀ d, o.dst = some d → isVar cx f d = true → S2.s d = .undef) →
        stepOp cx f call S2 ops o = some (e.app S2) ∧ softC cx f ops S2 o = true := by
  cases hw : wantedV S1 ops o with
  | none => simp [stepOp, hw] at hq
  | some b =>
    cases b with
    | false =>
      simp only [stepOp, hw] at hq
      have hq' : putQ cx f (clear [] S1) o.dst (.tup []) = some S1' := by rw [clear_nil]; exact hq
      obtain ⟨h1, h2⟩ := putQ_app (L := []) (by simp) hq'
      refine ⟨⟨o.dst, .tup [], []⟩, rfl, h1, by simp, h2, fun S2 hl _ _ hd => ?_⟩
      simp only [stepOp, softC, wanted_mono hl hw]
      have := app_putQ (cx := cx) (f := f) (x := .tup []) (L := []) (by simp) hd
      rw [clear_nil] at this
      exact ⟨this, by simp⟩
    | true =>
      have hsoft' : (!isActive cx o.op || softApp cx f S1 o) = true := by simpa [softC, hw] using hsoft
      rw [stepOp_soft hsoft' hw] at hq
      cases hv : softV cx f call S1 o with
      | none => simp [hv] at hq
      | some r =>
        obtain ⟨x, Sx⟩ := r
        simp only [hv, Option.bind_some] at hq
        obtain ⟨L, rfl, _, hL⟩ := softV_mono hsoft' (S2 := S1) Agr.refl (.inl rfl) hv
        obtain ⟨h1, h2⟩ := putQ_app (fun t ht => (hL t ht).2.1) hq
        refine ⟨⟨o.dst, x, L⟩, rfl, h1, hL, h2, fun S2 hl hag hr hd => ?_⟩
        have hs2 : (!isActive cx o.op || softApp cx f S2 o) = true := by
          simp only [Bool.or_eq_true] at hsoft' ⊢
          exact hsoft'.imp id (softApp_mono hag)
        refine ⟨?_, by simp only [softC, Bool.or_eq_true] at hs2 ⊢; exact hs2.imp .inl id⟩
        rw [stepOp_soft hs2 (wanted_mono hl hw)]
        obtain ⟨M, m1, m2, hM⟩ := softV_mono hsoft' hag hr hv
        rw [m2]
        simp only [Option.bind_some]
        rw [← clear_congr m1 (fun t ht => (hL t ht).2.2) (fun t ht => (hM t ht).2.2)]
        exact app_putQ (fun t ht => (hL t ht).2.1) hd
end
end Go.Proofs.Ytlkjnlfddadlmaa.V

namespace Go.Proofs.Ytlkjnlfddadlmaa.V

section
variable {cx : Ctx} {f : Nat} {call : Callee}

theorem app_s (e : Eff) (S : SU) (t : Nat) : (e.app S).s t = if e.dst = some t then e.x else if t ∈ e.L then .undef else S.s t := by
  unfold Eff.app
  cases hd : e.dst with
  | none => simp [clear]
  | some d =>
    simp only [upd, clear, Option.some.injEq]
    by_cases h : t = d
    · subst h; simp
    · simp [h, Ne.symm h]

theorem app_e (e : Eff) (S : SU) : (e.app S).e = S.e := by
  unfold Eff.app
  cases e.dst <;> rfl

theorem St.ext' {S T : SU} (h1 : ∀ t, S.s t = T.s t) (h2 : S.e = T.e) : S = T := by
  cases S; cases T
  simp only at h1 h2
  subst h2
  congr 1
  funext t; exact h1 t

theorem app_comm {a b : Eff} {S : SU} (h1 : ∀ d, a.dst = some d → b.dst ≠ some d) (h2 : ∀ d, a.dst = some d → d ∉ b.L) (h3 : ∀ d, b.dst = some d → d ∉ a.L) : a.app (b.app S) = b.app (a.app S) := by
  refine St.ext' (fun t => ?_) (by simp only [app_e])
  simp only [app_s]
  by_cases ha : a.dst = some t
  · have hb := h1 t ha
    have hl := h2 t ha
    simp [ha, hb, hl]
  · by_cases hb : b.dst = some t
    · have hl := h3 t hb
      simp [ha, hb, hl]
    · by_cases hla : t ∈ a.L <;> by_cases hlb : t ∈ b.L <;> simp [ha, hb, hla, hlb]

def replay (eff : Nat → Eff) (L : Nat → Bool) (b : Nat) : Nat → SU → SU
  | 0, S => S
  | m + 1, S => if L (b + m) then (eff (b + m)).app (replay eff L b m S) else replay eff L b m S

theorem replay_e (eff : Nat → Eff) (L : Nat → Bool) (b : Nat) (S : SU) : ∀ m, (replay eff L b m S).e = S.e
  | 0 => rfl
  | m + 1 => by
    simp only [replay]
    split
    · rw [app_e]; exact replay_e eff L b S m
    · exact replay_e eff L b S m

theorem replay_congr {eff : Nat → Eff} {L L' : Nat → Bool} {b : Nat} {S : SU} : ∀ {m}, (∀ k, b ≤ k → k < b + m → L k = L' k) → replay eff L b m S = replay eff L' b m S
  | 0, _ => rfl
  | m + 1, h => by
    have ih := replay_congr (eff := eff) (S := S) (m := m) (fun k h1 h2 => h k h1 (by omega))
    simp only [replay, h (b + m) (by omega) (by omega), ih]

/-! ### the static check -/
def ons (o : Oper) : List Nat := (o.after.toList.filter (Region.binds .any ·)).map (·.on)

def maskOf (T : List Nat) : List Nat → Nat
  | [] => 0
  | j :: js => 2 ^ j ||| T.getD j 0 ||| maskOf T js

theorem maskOf_spec {T : List Nat} {i : Nat} : ∀ {D : List Nat}, (maskOf T D).testBit i = true → ∃ j ∈ D, i = j ∨ (T.getD j 0).testBit i = true
  | [], h => by simp [maskOf] at h
  | j :: js, h => by
    simp only [maskOf, Nat.testBit_or, Bool.or_eq_true] at h
    rcases h with (h | h) | h
    · rw [Nat.testBit_two_pow] at h
      exact ⟨j, List.mem_cons_self, .inl (by simpa using Eq.symm (of_decide_eq_true h))⟩
    · exact ⟨j, List.mem_cons_self, .inr h⟩
    · obtain ⟨k, hk, h'⟩ := maskOf_spec h
      exact ⟨k, List.mem_cons_of_mem _ hk, h'⟩

def befT : List Oper → List Nat → List Nat
  | [], acc => acc
  | o :: os, acc => befT os (acc ++ [maskOf acc (ons o)])

def tmpsOf (o : Oper) : List Nat := o.op.operands.toList.filterMap fun | .tmp t => some t | _ => none

theorem mem_tmpsOf {o : Oper} {t : Nat} : t ∈ tmpsOf o ↔ Operand.tmp t ∈ o.op.operands.toList := by
  simp only [tmpsOf, List.mem_filterMap]
  constructor
  · rintro ⟨x, hx, h⟩
    split at h
    · simp only [Option.some.injEq] at h; subst h; exact hx
    · cases h
  · intro h; exact ⟨_, h, rfl⟩

def pairCk (cx : Ctx) (f id : Nat) (ops : Array Oper) (T : List Nat) (k : Nat) (ok : Oper) (i : Nat) : Bool :=
  match ops[i]? with
  | none => true
  | some oi => (oi.dst.isNone || oi.dst != ok.dst || cx.ord f id i || cx.ord f id k) && ((T.getD k 0).testBit i ||
      (!cx.ord f id k && !cx.ord f id i && oi.apart ops ok && (oi.looksAt ops).all fun t => !(tmpsOf ok).contains t || (cx.shr f id k).contains t) ||
      (cx.ord f id k && !cx.ord f id i && oi.apart ops ok && (cx.pnd f id k).contains i))

def isAct3 : Op → Bool
  | .assign _ => true
  | .store _ _ _ => true
  | .call _ => true
  | _ => false

def drawCk (cx : Ctx) (f id : Nat) (ops : Array Oper) (T : List Nat) : Bool :=
  (List.range ops.size).all fun k => match ops[k]? with
    | none => true
    | some o => (!cx.ord f id k || (cx.pnd f id k).isEmpty || isAct3 o.op) && (ons o).all (fun j => decide (j < k)) && T.getD k 0 == maskOf T (ons o) && (List.range k).all (pairCk cx f id ops T k o)

structure DrawOk (cx : Ctx) (f id : Nat) (ops : Array Oper) (T : List Nat) : Prop where
  on : ∀ k o, ops[k]? = some o → ∀ e ∈ o.after, Region.binds .any e = true → e.on < k
  bef : ∀ k o, ops[k]? = some o → ∀ i, (T.getD k 0).testBit i = true → ∃ e ∈ o.after, Region.binds .any e = true ∧ (i = e.on ∨ (T.getD e.on 0).testBit i = true)
  dst : ∀ i k oi ok d, i ≠ k → ops[i]? = some oi → ops[k]? = some ok → oi.dst = some d → ok.dst = some d → cx.ord f id i = true ∨ cx.ord f id k = true
  ord : ∀ i k oi ok, i < k → ops[i]? = some oi → ops[k]? = some ok → cx.ord f id i = true ∨ cx.ord f id k = true → (T.getD k 0).testBit i = true ∨ (cx.ord f id k = true ∧ cx.ord f id i = false ∧ i ∈ cx.pnd f id k)
  apart : ∀ i k oi ok, i < k → ops[i]? = some oi → ops[k]? = some ok → (T.getD k 0).testBit i = false → oi.apart ops ok = true
  shr : ∀ i k oi ok, i < k → ops[i]? = some oi → ops[k]? = some ok → (T.getD k 0).testBit i = false → cx.ord f id k = false → ∀ t ∈ oi.looksAt ops, Operand.tmp t ∈ ok.op.operands.toList → t ∈ cx.shr f id k

  act : ∀ k o, ops[k]? = some o → cx.ord f id k = true → cx.pnd f id k ≠ [] → isAct3 o.op = true

theorem drawCk_spec {id : Nat} {ops : Array Oper} {T : List Nat} (h : drawCk cx f id ops T = true) : DrawOk cx f id ops T := by
  simp only [drawCk, List.all_eq_true, List.mem_range] at h
  have hk0 : ∀ k o, ops[k]? = some o → (cx.ord f id k = true → cx.pnd f id k ≠ [] → isAct3 o.op = true) ∧ (∀ j ∈ ons o, j < k) ∧ T.getD k 0 = maskOf T (ons o) ∧ ∀ i, i < k → pairCk cx f id ops T k o i = true := by
    intro k o ho
    have := h k (Array.getElem?_eq_some_iff.1 ho).1
    rw [ho] at this
    simp only [Bool.and_eq_true, List.all_eq_true, decide_eq_true_eq, beq_iff_eq, List.mem_range, Bool.or_eq_true, Bool.not_eq_true', List.isEmpty_iff] at this
    exact ⟨fun h1 h2 => by rcases this.1.1.1 with (h3 | h3) | h3
                           · rw [h1] at h3; cases h3
                           · exact absurd h3 h2
                           · exact h3, this.1.1.2, this.1.2, this.2⟩
  have hk : ∀ k o, ops[k]? = some o → (∀ j ∈ ons o, j < k) ∧ T.getD k 0 = maskOf T (ons o) ∧ ∀ i, i < k → pairCk cx f id ops T k o i = true := fun k o ho => (hk0 k o ho).2
  have hons : ∀ (o : Oper) j, j ∈ ons o ↔ ∃ e ∈ o.after, Region.binds .any e = true ∧ j = e.on := by
    intro o j
    simp only [ons, List.mem_map, List.mem_filter, Array.mem_toList_iff]
    constructor
    · rintro ⟨e, ⟨h1, h2⟩, rfl⟩; exact ⟨e, h1, h2, rfl⟩
    · rintro ⟨e, h1, h2, rfl⟩; exact ⟨e, ⟨h1, h2⟩, rfl⟩
  have hp : ∀ i k oi ok, i < k → ops[i]? = some oi → ops[k]? = some ok → (oi.dst = none ∨ oi.dst ≠ ok.dst ∨ cx.ord f id i = true ∨ cx.ord f id k = true) ∧ ((T.getD k 0).testBit i = true ∨
      (cx.ord f id k = false ∧ cx.ord f id i = false ∧ oi.apart ops ok = true ∧ ∀ t ∈ oi.looksAt ops, Operand.tmp t ∈ ok.op.operands.toList → t ∈ cx.shr f id k) ∨
      (cx.ord f id k = true ∧ cx.ord f id i = false ∧ oi.apart ops ok = true ∧ i ∈ cx.pnd f id k)) := by
    intro i k oi ok hik hi hk'
    have := (hk k ok hk').2.2 i hik
    simp only [pairCk, hi, Bool.and_eq_true, Bool.or_eq_true, Option.isNone_iff_eq_none, bne_iff_ne, ne_eq, Bool.not_eq_true', List.all_eq_true, List.contains_iff_mem] at this
    refine ⟨by rcases this.1 with ((h | h) | h) | h <;> simp [h], ?_⟩
    rcases this.2 with (h | h) | h
    · exact .inl h
    · refine .inr (.inl ⟨h.1.1.1, h.1.1.2, h.1.2, fun t ht hto => ?_⟩)
      rcases h.2 t ht with h' | h'
      · have := mem_tmpsOf.2 hto
        simp [this] at h'
      · exact h'
    · exact .inr (.inr ⟨h.1.1.1, h.1.1.2, h.1.2, h.2⟩)
  constructor
  · intro k o ho e he hb
    exact (hk k o ho).1 _ ((hons o _).2 ⟨e, he, hb, rfl⟩)
  · intro k o ho i hi
    rw [(hk k o ho).2.1] at hi
    obtain ⟨j, hj, h'⟩ := maskOf_spec hi
    obtain ⟨e, he, hb, rfl⟩ := (hons o j).1 hj
    exact ⟨e, he, hb, h'⟩
  · intro i k oi ok d hne hi hk' hdi hdk
    rcases Nat.lt_or_gt_of_ne hne with hlt | hlt
    · rcases (hp i k oi ok hlt hi hk').1 with h' | h' | h' | h'
      · rw [hdi] at h'; cases h'
      · rw [hdi, hdk] at h'; exact absurd rfl h'
      · exact .inl h'
      · exact .inr h'
    · rcases (hp k i ok oi hlt hk' hi).1 with h' | h' | h' | h'
      · rw [hdk] at h'; cases h'
      · rw [hdi, hdk] at h'; exact absurd rfl h'
      · exact .inr h'
      · exact .inl h'
  · intro i k oi ok hik hi hk' ho
    rcases (hp i k oi ok hik hi hk').2 with h' | h' | h'
    · exact .inl h'
    · rcases ho with ho | ho
      · rw [h'.2.1] at ho; cases ho
      · rw [h'.1] at ho; cases ho
    · exact .inr ⟨h'.1, h'.2.1, h'.2.2.2⟩
  · intro i k oi ok hik hi hk' hb
    rcases (hp i k oi ok hik hi hk').2 with h' | h' | h'
    · rw [hb] at h'; cases h'
    · exact h'.2.2.1
    · exact h'.2.2.1
  · intro i k oi ok hik hi hk' hb hno
    rcases (hp i k oi ok hik hi hk').2 with h' | h' | h'
    · rw [hb] at h'; cases h'
    · exact h'.2.2.2
    · rw [h'.1] at hno; cases hno
  · exact fun k o ho => (hk0 k o ho).1

/-! ### what is listed holds all that stands before it -/
def Closed (ops : Array Oper) (L : Nat → Bool) : Prop := ∀ k o, L k = true → ops[k]? = some o → ∀ e ∈ o.after, Region.binds .any e = true → L e.on = true

theorem DrawOk.closed {id : Nat} {ops : Array Oper} {T : List Nat} (h : DrawOk cx f id ops T) {L : Nat → Bool} (hc : Closed ops L) : ∀ (n k : Nat) (o : Oper), k < n → ops[k]? = some o → (∀ e ∈ o.after, Region.binds .any e = true → L e.on = true) → ∀ i, (T.getD k 0).testBit i = true → L i = true ∧ i < k
  | 0, k, o, hk, _, _, _, _ => by omega
  | n + 1, k, o, hk, ho, hr, i, hi => by
    obtain ⟨e, he, hb, h'⟩ := h.bef k o ho i hi
    have hlt := h.on k o ho e he hb
    rcases h' with rfl | h'
    · exact ⟨hr e he hb, hlt⟩
    · have hlt2 : k < ops.size := (Array.getElem?_eq_some_iff.1 ho).1
      have hoe : ops[e.on]? = some (ops[e.on]'(by omega)) := Array.getElem?_eq_getElem (by omega)
      have := DrawOk.closed h hc n e.on _ (by omega) hoe (fun e' he' hb' => hc e.on _ (hr e he hb) hoe e' he' hb') i h'
      exact ⟨this.1, by omega⟩
end
end Go.Proofs.Ytlkjnlfddadlmaa.V

namespace Go.Proofs.Ytlkjnlfddadlmaa.V

section
variable {cx : Ctx} {f : Nat} {call : Callee} {eff : Nat → Eff} {L : Nat → Bool} {b : Nat} {B : SU}

theorem var_none {d : Nat} : ∀ {m : Nat}, (∀ k, b ≤ k → k < b + m → d ∉ (eff k).L) → (∀ k, b ≤ k → k < b + m → L k = true → (eff k).dst ≠ some d) → (replay eff L b m B).s d = B.s d
  | 0, _, _ => rfl
  | m + 1, hv, hn => by
    have ih := var_none (m := m) (fun k h1 h2 => hv k h1 (by omega)) (fun k h1 h2 => hn k h1 (by omega))
    simp only [replay]
    split
    · rename_i hl
      rw [app_s, if_neg (hn _ (by omega) (by omega) hl), if_neg (hv _ (by omega) (by omega))]; exact ih
    · exact ih

theorem var_one {d k0 : Nat} (hL : L k0 = true) (hd : (eff k0).dst = some d) (hb : b ≤ k0) : ∀ {m : Nat}, k0 < b + m → (∀ k, b ≤ k → k < b + m → d ∉ (eff k).L) → (∀ k, b ≤ k → k < b + m → k ≠ k0 → (eff k).dst ≠ some d) → (replay eff L b m B).s d = (eff k0).x
  | 0, h, _, _ => by omega
  | m + 1, h, hv, hn => by
    simp only [replay]
    by_cases e : b + m = k0
    · subst e
      rw [if_pos hL, app_s, if_pos hd]
    · have ih := var_one hL hd hb (m := m) (by omega) (fun k h1 h2 => hv k h1 (by omega)) (fun k h1 h2 => hn k h1 (by omega))
      split
      · rw [app_s, if_neg (hn _ (by omega) (by omega) e), if_neg (hv _ (by omega) (by omega))]; exact ih
      · exact ih

theorem pre_agree {i t : Nat} (hun : ∀ k, b ≤ k → k < i → L k = false → (eff k).dst ≠ some t) : ∀ {m : Nat}, b + m ≤ i → (replay eff (fun _ => true) b m B).s t = .undef ∨ (replay eff (fun _ => true) b m B).s t = (replay eff L b m B).s t
  | 0, _ => .inr rfl
  | m + 1, h => by
    have ih := pre_agree hun (m := m) (by omega)
    simp only [replay, if_true]
    cases hl : L (b + m) with
    | true =>
      simp only [if_true, app_s]
      by_cases h1 : (eff (b + m)).dst = some t
      · simp [h1]
      · by_cases h2 : t ∈ (eff (b + m)).L
        · simp [h1, h2]
        · simp only [h1, h2, if_false]; exact ih
    | false =>
      have hne := hun (b + m) (by omega) (by omega) hl
      simp only [Bool.false_eq_true, if_false, app_s, if_neg hne]
      by_cases h2 : t ∈ (eff (b + m)).L
      · simp [h2]
      · simp only [h2, if_false]; exact ih

theorem suf_same {i t : Nat} (hb : b ≤ i) : ∀ {m : Nat}, i ≤ b + m → (∀ k, i ≤ k → k < b + m → L k = true → (eff k).dst ≠ some t ∧ t ∉ (eff k).L) → (replay eff L b m B).s t = (replay eff L b (i - b) B).s t
  | 0, h, _ => by
    have : i - b = 0 := by omega
    rw [this]
  | m + 1, h, hk => by
    by_cases e : i = b + m + 1
    · have : i - b = m + 1 := by omega
      rw [this]
    · have ih := suf_same hb (m := m) (by omega) (fun k h1 h2 => hk k h1 (by omega))
      simp only [replay]
      split
      · rename_i hl
        obtain ⟨h1, h2⟩ := hk (b + m) (by omega) (by omega) hl
        rw [app_s, if_neg h1, if_neg h2]; exact ih
      · exact ih

def with1 (L : Nat → Bool) (i : Nat) : Nat → Bool := fun k => k == i || L k

theorem add_one {i : Nat} (hb : b ≤ i) (hi : L i = false) : ∀ {m : Nat}, i < b + m → (∀ k, i < k → k < b + m → L k = true → (∀ d, (eff i).dst = some d → (eff k).dst ≠ some d ∧ d ∉ (eff k).L) ∧ ∀ d, (eff k).dst = some d → d ∉ (eff i).L) →
    replay eff (with1 L i) b m B = (eff i).app (replay eff L b m B)
  | 0, h, _ => by omega
  | m + 1, h, hk => by
    by_cases e : i = b + m
    · subst e
      have e1 : replay eff (with1 L (b + m)) b m B = replay eff L b m B := replay_congr (fun k h1 h2 => by
        have : k ≠ b + m := by omega
        simp [with1, this])
      simp only [replay, hi, with1, beq_self_eq_true, Bool.true_or, if_true, Bool.false_eq_true, if_false]
      rw [← e1]
    · have ih := add_one hb hi (m := m) (by omega) (fun k h1 h2 => hk k h1 (by omega))
      have hw : with1 L i (b + m) = L (b + m) := by
        have : ¬ b + m = i := Ne.symm e
        simp [with1, this]
      simp only [replay, hw, ih]
      split
      · rename_i hl
        obtain ⟨h1, h2⟩ := hk (b + m) (by omega) (by omega) hl
        exact (app_comm (fun d hd => (h1 d hd).1) (fun d hd => (h1 d hd).2) h2).symm
      · rfl
end

section
variable {cx : Ctx} {f : Nat} {w0 : World} {E0 : Nat → Prop} {P : Nat → Nat → Prop} {R : Nat → Prop} {ea : List EA} {w w' : World} {a : Act} {call : Callee} {Pr : Program}

/-- A frame that a walk stands at refers to names alone, and to what there is. -/
theorem At.wf {n : Nat} {Su : SU} (h : At cx f w0 E0 P R ea n Su a w) : ∀ t d, Root.sl d ∈ refsOf (Su.s t) → isVar cx f d = true ∧ Su.s d ≠ .undef := by
  obtain ⟨S, hr, rfl, _, _⟩ := h
  intro t d hd
  have hm : Root.sl d ∈ refsX (S.s t) := by
    have e : refsOf ((V.erS S).s t) = refsOf (erX (S.s t)) := rfl
    rw [e] at hd
    by_cases ht : ∃ ys, S.s t = .tup ys
    · obtain ⟨ys, ht⟩ := ht
      rw [ht] at hd; simp [erX, mapX, refsOf] at hd
    · rwa [refsOf_er (fun ys e => ht ⟨ys, e⟩)] at hd
  refine ⟨hr.refS t d hm, fun hu => ?_⟩
  obtain ⟨cs, hc⟩ := okX_root hr.eaL (hr.okS t) _ hm
  have : S.s d = .undef := by
    have hu' : erX (S.s d) = .undef := hu
    cases hs : S.s d <;> simp [hs, erX, mapX] at hu'
    rfl
  simp [rootCells, this] at hc

/-- What each soft operation does. -/
structure EffP (cx : Ctx) (f : Nat) (call : Callee) (ops : Array Oper) (S1 S1' : SU) (o : Oper) (e : Eff) : Prop where
  dst : e.dst = o.dst
  app : S1' = e.app S1
  L : ∀ t ∈ e.L, Operand.tmp t ∈ o.op.operands.toList ∧ isVar cx f t = false ∧ hasOwn (S1.s t) = true
  new : ∀ d, o.dst = some d → isVar cx f d = true → S1.s d = .undef
  mono : ∀ S2, (∀ d ∈ o.looksAt ops, S1.s d = .undef ∨ S1.s d = S2.s d) → Agr S1 S2 o.op.operands.toList → HR cx f S1 S2 o.op.operands.toList → (∀ d, o.dst = some d → isVar cx f d = true → S2.s d = .undef) →
    stepOp cx f call S2 ops o = some (e.app S2) ∧ softC cx f ops S2 o = true

theorem stepD_step {id k : Nat} {ops : Array Oper} {S S' : SU} {o : Oper} (h : stepD cx f call id ops k S o = some S') : (cx.ord f id k = true ∨ softC cx f ops S o = true) ∧ (∀ t ∈ cx.shr f id k, isVar cx f t = true ∨ hasOwn (S.s t) = false) ∧ stepOp cx f call S ops o = some S' ∧ redoP cx f id ops S' (pndOf cx f id k) := by
  unfold stepD at h
  split at h
  · rename_i hc
    simp only [Bool.and_eq_true, Bool.or_eq_true, List.all_eq_true, Bool.not_eq_true'] at hc
    cases hs : stepOp cx f call S ops o with
    | none => simp [hs] at h
    | some S1 =>
      simp only [hs, Option.bind_some] at h
      unfold chkD at h
      split at h
      · next he => simp only [Option.some.injEq] at h; subst h; exact ⟨hc.1, hc.2, rfl, by rw [he]; trivial⟩
      · next y Y he =>
        split at h
        · next hr => simp only [Option.some.injEq] at h; subst h; exact ⟨hc.1, hc.2, rfl, by rw [he]; exact hr⟩
        · cases h
  · cases h

def Eff.nil : Eff := ⟨none, .undef, []⟩
theorem app_nil (S : SU) : Eff.nil.app S = S := St.ext' (fun t => by rw [app_s]; simp [Eff.nil]) (app_e _ _)

/-- A run in the text's order, of what is not listed yet. -/
structure TRun (cx : Ctx) (f : Nat) (call : Callee) (id : Nat) (ops : Array Oper) (S : Nat → SU) (L0 : Nat → Bool) (eff : Nat → Eff) : Prop where
  done : ∀ k, L0 k = true → S (k + 1) = S k ∧ eff k = Eff.nil
  step : ∀ k o, ops[k]? = some o → L0 k = false → stepD cx f call id ops k (S k) o = some (S (k + 1))
  soft : ∀ k o, ops[k]? = some o → L0 k = false → softC cx f ops (S k) o = true → EffP cx f call ops (S k) (S (k + 1)) o (eff k)

theorem effs (id : Nat) (ops : Array Oper) (S : Nat → SU) (L0 : Nat → Bool) (hD : ∀ k, L0 k = true → S (k + 1) = S k) (hS : ∀ k o, ops[k]? = some o → L0 k = false → stepD cx f call id ops k (S k) o = some (S (k + 1))) :
    ∃ eff : Nat → Eff, TRun cx f call id ops S L0 eff := by
  have : ∀ k, ∃ e : Eff, (L0 k = true → e = Eff.nil) ∧ ∀ o, ops[k]? = some o → L0 k = false → softC cx f ops (S k) o = true → EffP cx f call ops (S k) (S (k + 1)) o e := by
    intro k
    cases hl : L0 k with
    | true => exact ⟨Eff.nil, fun _ => rfl, fun o _ h => by cases h⟩
    | false =>
      cases ho : ops[k]? with
      | none => exact ⟨Eff.nil, (fun h => by cases h), (fun o h => by cases h)⟩
      | some o =>
        by_cases hs : softC cx f ops (S k) o = true
        · obtain ⟨e, h1, h2, h3, h4, h5⟩ := soft_eff hs (stepD_step (hS k o ho hl)).2.2.1
          exact ⟨e, (fun h => by cases h), fun o' h' _ _ => by simp only [Option.some.injEq] at h'; subst h'; exact ⟨h1, h2, h3, h4, h5⟩⟩
        · exact ⟨Eff.nil, (fun h => by cases h), fun o' h' _ hs' => by simp only [Option.some.injEq] at h'; subst h'; exact absurd hs' hs⟩
  obtain ⟨eff, h⟩ := Classical.axiomOfChoice this
  exact ⟨eff, ⟨fun k hk => ⟨hD k hk, (h k).1 hk⟩, hS, fun k => (h k).2⟩⟩

section seg
variable {id : Nat} {ops : Array Oper} {T : List Nat} {S : Nat → SU} {eff : Nat → Eff} {b c : Nat} {L0 : Nat → Bool}

theorem seg_text (hT : TRun cx f call id ops S L0 eff) (hc : c ≤ ops.size)
    (hsoft : ∀ k o, b ≤ k → k < c → L0 k = false → ops[k]? = some o → softC cx f ops (S k) o = true) : ∀ m, b + m ≤ c → S (b + m) = replay eff (fun _ => true) b m (S b)
  | 0, _ => rfl
  | m + 1, h => by
    have ih := seg_text hT hc hsoft m (by omega)
    have ho : ops[b + m]? = some (ops[b + m]'(by omega)) := Array.getElem?_eq_getElem (by omega)
    simp only [replay, if_true]
    rw [← ih]
    cases hl : L0 (b + m) with
    | true =>
      obtain ⟨h1, h2⟩ := hT.done _ hl
      rw [h2, app_nil]; exact h1
    | false => exact (hT.soft (b + m) _ ho hl (hsoft (b + m) _ (by omega) (by omega) hl ho)).app

theorem seg_step (hd : DrawOk cx f id ops T) (hT : TRun cx f call id ops S L0 eff) (hc : c ≤ ops.size)
    (hsoft : ∀ k o, b ≤ k → k < c → L0 k = false → ops[k]? = some o → softC cx f ops (S k) o = true) (hno : ∀ k, b ≤ k → k < c → L0 k = false → cx.ord f id k = false) {L : Nat → Bool} (hL0 : ∀ k, L0 k = true → L k = true) (hcl : Closed ops L) {n : Nat} {cur : SU} (hat : At cx f w0 E0 P R ea n cur a w)
    (hcur : cur = replay eff L b (c - b) (S b)) {i : Nat} {o : Oper} (hbi : b ≤ i) (hic : i < c) (hi : ops[i]? = some o) (hLi : L i = false) (hrd : ∀ e ∈ o.after, Region.binds .any e = true → L e.on = true) :
    stepOp cx f call cur ops o = some ((eff i).app cur) ∧ softC cx f ops cur o = true ∧ (eff i).app cur = replay eff (with1 L i) b (c - b) (S b) := by
  have hget : ∀ k (hk : k < c), ops[k]? = some (ops[k]'(Nat.lt_of_lt_of_le hk hc)) := fun k hk => Array.getElem?_eq_getElem (by omega)
  have hun : ∀ k, L k = false → L0 k = false := fun k hk => by
    cases h : L0 k with
    | false => rfl
    | true => rw [hL0 k h] at hk; cases hk
  have hE : ∀ k (hk1 : b ≤ k) (hk2 : k < c), L0 k = false → EffP cx f call ops (S k) (S (k + 1)) (ops[k]'(by omega)) (eff k) := fun k hk1 hk2 hk3 => hT.soft k _ (hget k hk2) hk3 (hsoft k _ hk1 hk2 hk3 (hget k hk2))
  have hEi : EffP cx f call ops (S i) (S (i + 1)) o (eff i) := hT.soft i o hi (hun i hLi) (hsoft i o hbi hic (hun i hLi) hi)
  have hdn : ∀ k (hk1 : b ≤ k) (hk2 : k < c) d, (eff k).dst = some d → L0 k = false ∧ (ops[k]'(by omega)).dst = some d := fun k hk1 hk2 d hk => by
    cases h : L0 k with
    | false => exact ⟨rfl, by rw [← (hE k hk1 hk2 h).dst]; exact hk⟩
    | true => rw [(hT.done k h).2] at hk; cases hk
  -- what is not ordered with i
  have hlow : ∀ k, b ≤ k → k < i → L k = false → (ops[k]?.getD o).apart ops o = true := by
    intro k h1 h2 h3
    have hk := hget k (by omega)
    rw [hk]
    refine hd.apart k i _ o h2 hk hi ?_
    cases hb : (T.getD i 0).testBit k with
    | false => rfl
    | true =>
      have := (hd.closed hcl (i + 1) i o (by omega) hi hrd k hb).1
      rw [h3] at this; cases this
  have hunk : ∀ k, i < k → k < c → L k = true → (T.getD k 0).testBit i = false := by
    intro k h1 h2 h3
    have hk := hget k h2
    cases hb : (T.getD k 0).testBit i with
    | false => rfl
    | true =>
      have := (hd.closed hcl (k + 1) k _ (by omega) hk (fun e he hb' => hcl k _ h3 hk e he hb') i hb).1
      rw [hLi] at this; cases this
  have hhigh : ∀ k (h1 : i < k) (h2 : k < c), L k = true → o.apart ops (ops[k]'(Nat.lt_of_lt_of_le h2 hc)) = true ∧ ∀ t ∈ o.looksAt ops, t ∉ (eff k).L := by
    intro k h1 h2 h3
    have hk := hget k h2
    have hu := hunk k h1 h2 h3
    refine ⟨hd.apart i k o _ h1 hi hk hu, fun t ht hL => ?_⟩
    cases h0 : L0 k with
    | true => rw [(hT.done k h0).2] at hL; simp [Eff.nil] at hL
    | false =>
      obtain ⟨g1, g2, g3⟩ := (hE k (by omega) h2 h0).L t hL
      have hsh := hd.shr i k o _ h1 hi hk hu (hno k (by omega) h2 h0) t ht g1
      rcases (stepD_step (hT.step k _ hk h0)).2.1 t hsh with h' | h'
      · rw [g2] at h'; cases h'
      · rw [g3] at h'; cases h'
  have htext : S i = replay eff (fun _ => true) b (i - b) (S b) := by
    have := seg_text hT hc hsoft (i - b) (by omega)
    rwa [show b + (i - b) = i by omega] at this
  -- the slots that the operation looks at
  have hslot : ∀ t ∈ o.looksAt ops, (S i).s t = .undef ∨ (S i).s t = cur.s t := by
    intro t ht
    have h1 := pre_agree (eff := eff) (L := L) (B := S b) (b := b) (i := i) (t := t) (fun k h1 h2 h3 => by
      have hap := hlow k h1 h2 h3
      have hk := hget k (by omega)
      rw [hk, Option.getD_some] at hap
      rw [(hE k h1 (by omega) (hun k h3)).dst]
      intro e
      exact (Oper.apart_spec hap).1 t e ht) (m := i - b) (by omega)
    have h2 := suf_same (eff := eff) (L := L) (B := S b) (t := t) hbi (m := c - b) (by omega) (fun k h1 h2 h3 => by
      have hne : k ≠ i := fun e => by rw [e, hLi] at h3; cases h3
      obtain ⟨g1, g2⟩ := hhigh k (by omega) (by omega) h3
      refine ⟨?_, g2 t ht⟩
      intro e
      exact (Oper.apart_spec g1).2.2 t (hdn k (by omega) (by omega) t e).2 ht)
    rw [← htext] at h1
    rw [hcur, h2]
    exact h1
  -- who writes a name
  have hvL : ∀ d, isVar cx f d = true → ∀ k, b ≤ k → k < c → d ∉ (eff k).L := by
    intro d hv k h1 h2 hd'
    cases h0 : L0 k with
    | true => rw [(hT.done k h0).2] at hd'; simp [Eff.nil] at hd'
    | false =>
      have := ((hE k h1 h2 h0).L d hd').2.1
      rw [hv] at this; cases this
  have huniq : ∀ d k0 k, b ≤ k0 → k0 < c → b ≤ k → k < c → (eff k0).dst = some d → k ≠ k0 → (eff k).dst ≠ some d := by
    intro d k0 k h1 h2 h3 h4 hk0 hne hk
    obtain ⟨u0, hk0⟩ := hdn k0 h1 h2 d hk0
    obtain ⟨u1, hk⟩ := hdn k h3 h4 d hk
    rcases hd.dst k k0 _ _ d hne (hget k h4) (hget k0 h2) hk hk0 with h' | h'
    · rw [hno k h3 h4 u1] at h'; cases h'
    · rw [hno k0 h1 h2 u0] at h'; cases h'
  have hfresh : ∀ d, isVar cx f d = true → ∀ k0, b ≤ k0 → k0 < c → (eff k0).dst = some d → (S b).s d = .undef := by
    intro d hv k0 h1 h2 hk0
    obtain ⟨u0, hk0'⟩ := hdn k0 h1 h2 d hk0
    have h3 := (hE k0 h1 h2 u0).new d hk0' hv
    have h4 := seg_text hT hc hsoft (k0 - b) (by omega)
    rw [show b + (k0 - b) = k0 by omega] at h4
    rw [h4, var_none (fun k g1 g2 => hvL d hv k g1 (by omega)) (fun k g1 g2 _ => huniq d k0 k h1 h2 g1 (by omega) hk0 (by omega))] at h3
    exact h3
  have hroot : ∀ d, isVar cx f d = true → cur.s d ≠ .undef → (S i).s d = .undef ∨ (S i).s d = cur.s d := by
    intro d hv hne
    by_cases hw : ∃ k0, b ≤ k0 ∧ k0 < c ∧ (eff k0).dst = some d
    · obtain ⟨k0, h1, h2, h3⟩ := hw
      have hf := hfresh d hv k0 h1 h2 h3
      by_cases hL : L k0 = true
      · have e1 : cur.s d = (eff k0).x := by
          rw [hcur]
          exact var_one hL h3 h1 (by omega) (fun k g1 g2 => hvL d hv k g1 (by omega)) (fun k g1 g2 g3 => huniq d k0 k h1 h2 g1 (by omega) h3 g3)
        by_cases hlt : k0 < i
        · right
          rw [e1, htext]
          exact var_one (L := fun _ => true) rfl h3 h1 (by omega) (fun k g1 g2 => hvL d hv k g1 (by omega)) (fun k g1 g2 g3 => huniq d k0 k h1 h2 g1 (by omega) h3 g3)
        · left
          rw [htext, var_none (fun k g1 g2 => hvL d hv k g1 (by omega)) (fun k g1 g2 _ => huniq d k0 k h1 h2 g1 (by omega) h3 (by omega))]
          exact hf
      · exfalso
        apply hne
        rw [hcur, var_none (fun k g1 g2 => hvL d hv k g1 (by omega)) (fun k g1 g2 g3 => huniq d k0 k h1 h2 g1 (by omega) h3 (fun e => hL (e ▸ g3)))]
        exact hf
    · right
      have hn : ∀ k, b ≤ k → k < c → (eff k).dst ≠ some d := fun k h1 h2 h3 => hw ⟨k, h1, h2, h3⟩
      rw [hcur, htext, var_none (fun k g1 g2 => hvL d hv k g1 (by omega)) (fun k g1 g2 _ => hn k g1 (by omega)), var_none (fun k g1 g2 => hvL d hv k g1 (by omega)) (fun k g1 g2 _ => hn k g1 (by omega))]
  have hwf := hat.wf
  have hrefs : ∀ t ∈ o.looksAt ops, ∀ d, Root.sl d ∈ refsOf ((S i).s t) → isVar cx f d = true ∧ cur.s d ≠ .undef := by
    intro t ht d hr
    rcases hslot t ht with e | e
    · rw [e] at hr; simp [refsOf] at hr
    · rw [e] at hr; exact hwf t d hr
  have hagr : Agr (S i) cur o.op.operands.toList := by
    refine ⟨fun t ht => hslot t (mem_looks ht), fun t ht r hr => ?_⟩
    cases r with
    | sl d =>
      obtain ⟨h1, h2⟩ := hrefs t (mem_looks ht) d hr
      rcases hroot d h1 h2 with e | e
      · left; simp [rootCells, e]
      · right; simp only [rootCells, e]
    | ex j =>
      right
      have e : (S i).e = cur.e := by rw [htext, hcur, replay_e, replay_e]
      simp only [rootCells, e]
  have hnew : ∀ d, o.dst = some d → isVar cx f d = true → cur.s d = .undef := by
    intro d hdst hv
    have hk : (eff i).dst = some d := by rw [hEi.dst]; exact hdst
    rw [hcur, var_none (fun k g1 g2 => hvL d hv k g1 (by omega)) (fun k g1 g2 g3 => huniq d i k hbi hic g1 (by omega) hk (fun e => by rw [e, hLi] at g3; cases g3))]
    exact hfresh d hv i hbi hic hk
  obtain ⟨h1, h2⟩ := hEi.mono cur hslot hagr (.inr fun t ht k hk => (hrefs t (mem_looks ht) k hk).1) hnew
  refine ⟨h1, h2, ?_⟩
  rw [hcur]
  refine (add_one hbi hLi (by omega) (fun k g1 g2 g3 => ?_)).symm
  obtain ⟨hap, _⟩ := hhigh k g1 (by omega) g3
  have hsp := Oper.apart_spec hap
  refine ⟨fun d hd' => ?_, fun d hd' hL => ?_⟩
  · rw [hEi.dst] at hd'
    refine ⟨fun e => hsp.2.1 d hd' (hdn k (by omega) (by omega) d e).2, fun hL => ?_⟩
    cases h0 : L0 k with
    | true => rw [(hT.done k h0).2] at hL; simp [Eff.nil] at hL
    | false => exact hsp.1 d hd' (mem_looks ((hE k (by omega) (by omega) h0).L d hL).1)
  · exact hsp.2.2 d (hdn k (by omega) (by omega) d hd').2 (mem_looks (hEi.L d hL).1)
end seg

/-- Each step that the evaluator takes the machine takes too. -/
def StepOk (cx : Ctx) (f : Nat) (call : Callee) (Pr : Program) (w0 : World) (E0 : Nat → Prop) (P : Nat → Nat → Prop) (R : Nat → Prop) (ea : List EA) (n : Nat) : Prop :=
  ∀ (ops : Array Oper) (o : Oper) (i : Nat) (Su Su' : SU) (a : Act) (w : World), At cx f w0 E0 P R ea n Su a w → ops[i]? = some o → (∀ d, o.dst = some d → d < n) → stepOp cx f call Su ops o = some Su' →
    ∀ (K : Act → World → Prop) (Q : Exit → Act → World → Prop), (∀ a' w', At cx f w0 E0 P R ea n Su' a' w' → K a' w') → wpOp Pr ops Q i K a w

theorem next_ord (g : Nat → Bool) (n : Nat) : ∀ (m b : Nat), b + m = n → ∃ c, b ≤ c ∧ c ≤ n ∧ (∀ k, b ≤ k → k < c → g k = false) ∧ (c = n ∨ g c = true)
  | 0, b, h => ⟨b, Nat.le_refl _, by omega, fun k h1 h2 => by omega, .inl (by omega)⟩
  | m + 1, b, h => by
    by_cases hg : g b = true
    · exact ⟨b, Nat.le_refl _, by omega, fun k h1 h2 => by omega, .inr hg⟩
    · obtain ⟨c, h1, h2, h3, h4⟩ := next_ord g n m (b + 1) (by omega)
      refine ⟨c, by omega, h2, fun k h5 h6 => ?_, h4⟩
      by_cases e : k = b
      · subst e; simpa using hg
      · exact h3 k (by omega) h6

/-- How many are still to come. -/
def left (n : Nat) (listed : Array Bool) : Nat := ((List.range n).filter fun i => !listed.getD i false).length

theorem filter_lt {β : Type} {p q : β → Bool} : ∀ {l : List β}, (∀ x ∈ l, q x = true → p x = true) → (∃ x ∈ l, p x = true ∧ q x = false) → (l.filter q).length < (l.filter p).length
  | [], _, h => by obtain ⟨x, hx, _⟩ := h; cases hx
  | y :: l, h1, h2 => by
    have hle : (l.filter q).length ≤ (l.filter p).length := by
      clear h2
      induction l with
      | nil => simp
      | cons z l ih =>
        have ih := ih (fun x hx => h1 x (by rcases List.mem_cons.1 hx with rfl | hx <;> simp [*]))
        have hz := h1 z (by simp)
        simp only [List.filter_cons]
        cases hq : q z <;> cases hp : p z <;> simp_all <;> omega
    by_cases hy : p y = true ∧ q y = false
    · simp only [List.filter_cons, hy.1, hy.2, if_true, List.length_cons, Bool.false_eq_true, if_false]
      omega
    · obtain ⟨x, hx, hx1, hx2⟩ := h2
      rcases List.mem_cons.1 hx with rfl | hx
      · exact absurd ⟨hx1, hx2⟩ hy
      · have ih := filter_lt (fun x hx => h1 x (List.mem_cons_of_mem _ hx)) ⟨x, hx, hx1, hx2⟩
        have hyy := h1 y (List.mem_cons_self)
        simp only [List.filter_cons]
        cases hq : q y <;> cases hp : p y <;> simp_all

theorem left_set {n i : Nat} {listed : Array Bool} (hi : i < n) (hs : listed.size = n) (hl : listed.getD i false = false) : left n (listed.setIfInBounds i true) < left n listed := by
  unfold left
  refine filter_lt (fun x hx h => ?_) ⟨i, List.mem_range.2 hi, by simp [hl], ?_⟩
  · simp only [Bool.not_eq_true'] at h ⊢
    cases hx' : listed.getD x false with
    | false => rfl
    | true => rw [getD_set_true hx'] at h; cases h
  · have : i < listed.size := by omega
    simp [this]

/-! ### slots that nobody looks at -/
theorem mem_dsts {ops : Array Oper} {Y : List Nat} {t : Nat} : t ∈ dsts ops Y ↔ ∃ y ∈ Y, ∃ o, ops[y]? = some o ∧ o.dst = some t := by
  simp only [dsts, List.mem_filterMap, Option.bind_eq_some_iff]

/-- The same but for some slots. -/
def Same (Z : List Nat) (a b : Act) : Prop := a.defers = b.defers ∧ a.tmps.size = b.tmps.size ∧ ∀ t, t ∉ Z → a.tmps[t]? = b.tmps[t]?

theorem Same.refl {Z : List Nat} {a : Act} : Same Z a a := ⟨rfl, rfl, fun _ _ => rfl⟩
theorem Same.put {Z : List Nat} {a b : Act} (h : Same Z a b) (d : Option Nat) (v : Value) : Same Z (a.put d v) (b.put d v) := by
  cases d with
  | none => exact h
  | some d =>
    refine ⟨h.1, by simp only [Act.put, Array.size_setIfInBounds]; exact h.2.1, fun t ht => ?_⟩
    simp only [Act.put, Array.getElem?_setIfInBounds, h.2.1, h.2.2 t ht]
theorem Same.later {Z : List Nat} {a b : Act} (h : Same Z a b) {d : Nat} (hd : d ∈ Z) (v : Value) : Same Z a (b.put (some d) v) := by
  refine ⟨h.1, by simp only [Act.put, Array.size_setIfInBounds]; exact h.2.1, fun t ht => ?_⟩
  have : d ≠ t := fun e => ht (e ▸ hd)
  simp only [Act.put, Array.getElem?_setIfInBounds, if_neg this]
  exact h.2.2 t ht
theorem Same.eval {Z : List Nat} {a b : Act} (h : Same Z a b) {x : Operand} (hx : ∀ t, x = .tmp t → t ∉ Z) : a.eval x = b.eval x := by
  cases x with
  | tmp t =>
    have := h.2.2 t (hx t rfl)
    simp only [Act.eval, Array.getD_eq_getD_getElem?, this]
  | _ => rfl

theorem upon_same {Z : List Nat} {o : Oper} {a b : Act} {K : Act → World → Prop} {Q : Exit → Act → World → Prop} {r : Result Next} (hs : Same Z a b) (h : o.upon Pr b (fun b w => ∀ a, Same Z a b → K a w) (fun e b w => ∀ a, Same Z a b → Q e a w) r) : o.upon Pr a K Q r := by
  cases r with
  | ok n w' =>
    cases n <;> simp only [Oper.upon] at h ⊢
    case value v => exact h _ (hs.put _ _)
    case skip => exact h _ (hs.put _ _)
    case defer d => exact h _ (Same.put (a := { a with defers := d :: a.defers }) (b := { b with defers := d :: b.defers }) ⟨by simp only [hs.1], hs.2.1, hs.2.2⟩ _ _)
    case enter f args =>
      refine Calls.mono h fun e w'' he => ?_
      cases e with
      | returned v => exact he _ (hs.put _ _)
      | panicked c => exact he _ hs
      | outgrown => obtain ⟨b', w3, h'⟩ := he; exact ⟨b', w3, h' b' Same.refl⟩
    case row r args => exact Rows.mono h fun v w'' he => he _ (hs.put _ _)
  | halt x w' =>
    cases x <;> simp only [Oper.upon] at h ⊢
    case panic v => exact h _ hs

theorem execOp_same {o : Oper} (h3 : isAct3 o.op = true) {ρ ρ' : Operand → Value} (h : ∀ x ∈ o.op.operands.toList, ρ x = ρ' x) : execOp ρ o = execOp ρ' o := by
  cases ho : o.op with
  | assign x =>
    rw [ho] at h
    simp only [execOp, ho, h x (by simp [Op.operands])]
  | store t a x =>
    rw [ho] at h
    simp only [execOp, ho, h a (by simp [Op.operands]), h x (by simp [Op.operands])]
  | call c =>
    rw [ho] at h
    have hc : ∀ x ∈ c.operands.toList, ρ x = ρ' x := by simpa [Op.operands] using h
    have ha : c.args.map ρ = c.args.map ρ' := by
      apply Array.map_congr_left
      intro x hx
      refine hc x ?_
      cases hcal : c.callee <;> simp [Call.operands, hcal, hx]
    have hr : resolve ρ c o.type = resolve ρ' c o.type := by
      unfold resolve
      rw [ha]
      cases hcal : c.callee with
      | builtin b => rfl
      | invoke recv name => simp only [hc recv (by simp [Call.operands, hcal])]
      | value f => simp only [hc f (by simp [Call.operands, hcal])]
    simp only [execOp, ho, hr]
  | _ => rw [ho] at h3; simp [isAct3] at h3

theorem wpOp_same {Z : List Nat} {ops : Array Oper} {o : Oper} {i : Nat} {a b : Act} {w : World} {K : Act → World → Prop} {Q : Exit → Act → World → Prop} (hi : ops[i]? = some o) (h3 : isAct3 o.op = true) (hl : ∀ t ∈ o.looksAt ops, t ∉ Z) (hs : Same Z a b)
    (h : wpOp Pr ops (fun e b w => ∀ a, Same Z a b → Q e a w) i (fun b w => ∀ a, Same Z a b → K a w) b w) : wpOp Pr ops Q i K a w := by
  simp only [wpOp, hi] at h ⊢
  have e1 : execOp a.eval o = execOp b.eval o := execOp_same h3 fun x hx => hs.eval fun t ht => hl t (mem_looks (ht ▸ hx))
  have e2 : Region.wanted o (yielded ops a.tmps) = Region.wanted o (yielded ops b.tmps) := by
    unfold Region.wanted
    cases hg : o.guard with
    | none => rfl
    | some g =>
      obtain ⟨j, want⟩ := g
      simp only [yielded]
      cases hd : (ops[j]?).bind (·.dst) with
      | none => rfl
      | some d =>
        have hm : d ∈ o.looksAt ops := by
          simp only [Oper.looksAt, hg, hd, List.mem_append]
          right; simp
        simp only [Option.bind_some, hs.2.2 d (hl d hm)]
  rw [e2]
  split
  · rename_i hw
    simp only [hw, if_true] at h
    rcases h with h | ⟨h1, h2⟩
    · left
      unfold Oper.wp at h ⊢
      rw [e1]
      exact upon_same hs h
    · right
      obtain ⟨b', w3, h'⟩ := h2
      exact ⟨by unfold Oper.asks at h1 ⊢; rw [e1]; exact h1, b', w3, h' b' Same.refl⟩
  · rename_i hw
    simp only [hw] at h
    exact h _ (hs.put _ _)

theorem hide_s {α : Type} (Z : List Nat) (S : St α) (t : Nat) : (hide Z S).s t = if t ∈ Z then .undef else S.s t := rfl
theorem hide_nil {α : Type} (S : St α) : hide [] S = S := by cases S; simp [hide]

theorem Rel.hide {S : SV} {tmps : Array Value} (h : Rel (isVar cx f) w0 E0 P R ea w S tmps) : ∀ {Z : List Nat}, (∀ d ∈ Z, isVar cx f d = false) → Rel (isVar cx f) w0 E0 P R ea w (V.hide Z S) tmps
  | [], _ => by rw [hide_nil]; exact h
  | d :: Z, hZ => by
    have ih := h.hide (Z := Z) (fun d hd => hZ d (List.mem_cons_of_mem _ hd))
    have hv := hZ d List.mem_cons_self
    have := ih.clear (ih.noMen (d := d) (fun h' => by rw [hv] at h'; cases h'))
    have e : V.hide (d :: Z) S = { V.hide Z S with s := upd (V.hide Z S).s d .undef } := by
      simp only [V.hide]
      congr 1
      funext t
      simp only [upd, List.mem_cons]
      by_cases h1 : t = d
      · simp [h1]
      · simp [h1]
    rw [e]; exact this

theorem At.hide {n : Nat} {Su : SU} {b : Act} {Z : List Nat} (h : At cx f w0 E0 P R ea n Su b w) (hZ : ∀ d ∈ Z, isVar cx f d = false) (hs : Same Z a b) : At cx f w0 E0 P R ea n (V.hide Z Su) a w := by
  obtain ⟨S, hr, rfl, hd, hsz⟩ := h
  have hr' := hr.hide hZ
  refine ⟨V.hide Z S, { hr' with val := fun d hd' => ?_, hi := fun d hd' => hr'.hi d (by rw [← hs.2.1]; exact hd') }, ?_, by rw [hs.1]; exact hd, by rw [hs.2.1]; exact hsz⟩
  · by_cases hm : d ∈ Z
    · left; simp [V.hide, hm]
    · rw [hs.2.2 d hm]
      exact hr'.val d (by rw [← hs.2.1]; exact hd')
  · simp only [V.erS, mapS, V.hide]
    congr 1
    funext t
    split
    · simp [mapX]
    · rfl

theorem redo_mem {id : Nat} {ops : Array Oper} {S1 : SU} {k : Nat} : ∀ {Y : List Nat}, redoP cx f id ops S1 Y → k ∈ Y → ∃ Y2, (∀ z ∈ Y, k ≤ z → z = k ∨ z ∈ Y2) ∧ (∀ z ∈ Y2, z ∈ Y ∧ k < z) ∧
    ∃ o d, ops[k]? = some o ∧ o.dst = some d ∧ isPure o.op = true ∧ isVar cx f d = false ∧ cx.ord f id k = false ∧ (∀ t ∈ cx.shr f id k, isVar cx f t = true ∨ hasOwn (S1.s t) = false) ∧ stepOp cx f noCall (V.hide (dsts ops (k :: Y2)) S1) ops o = some (V.hide (dsts ops Y2) S1)
  | y :: Y, h, hk => by
    obtain ⟨⟨hs, o, d, h1⟩, h2⟩ := h
    rcases List.mem_cons.1 hk with rfl | hk
    · exact ⟨Y, fun z hz hkz => (List.mem_cons.1 hz), fun z hz => ⟨List.mem_cons_of_mem _ hz, hs z hz⟩, o, d, h1⟩
    · obtain ⟨Y2, g1, g2, g3⟩ := redo_mem h2 hk
      refine ⟨Y2, fun z hz hkz => ?_, fun z hz => ⟨List.mem_cons_of_mem _ (g2 z hz).1, (g2 z hz).2⟩, g3⟩
      rcases List.mem_cons.1 hz with e | hz
      · have := hs k hk; omega
      · exact g1 z hz hkz

/-- One that only looks, done where some more is known. -/
theorem redo_step {id : Nat} {ops : Array Oper} {T : List Nat} {S1 : SU} (hd : DrawOk cx f id ops T) {Y : List Nat} (hr : redoP cx f id ops S1 Y) {M : List Nat} (hM : ∀ y ∈ M, y ∈ Y) (hwf : ∀ t d, Root.sl d ∈ refsOf (S1.s t) → isVar cx f d = true ∧ S1.s d ≠ .undef) {k : Nat} (hk : k ∈ M) {o : Oper} (ho : ops[k]? = some o) :
    isPure o.op = true ∧ cx.ord f id k = false ∧ (∃ d, o.dst = some d ∧ isVar cx f d = false) ∧ stepD cx f call id ops k (V.hide (dsts ops (M.filter fun y => decide (k ≤ y))) S1) o = some (V.hide (dsts ops (M.filter fun y => decide (k + 1 ≤ y))) S1) := by
  obtain ⟨Y2, g1, g2, o', d, k1, k2, k3, k4, k5, k6, k7⟩ := redo_mem hr (hM k hk)
  rw [ho] at k1
  simp only [Option.some.injEq] at k1
  subst k1
  refine ⟨k3, k5, ⟨d, k2, k4⟩, ?_⟩
  have hord : ∀ y ∈ Y, cx.ord f id y = false := fun y hy => by
    obtain ⟨_, _, _, _, _, _, _, _, _, h5, _⟩ := redo_mem hr hy
    exact h5
  have hsub : ∀ t, t ∈ dsts ops (M.filter fun y => decide (k ≤ y)) → t ∈ dsts ops (k :: Y2) := by
    intro t ht
    obtain ⟨y, hy, oy, h1, h2⟩ := mem_dsts.1 ht
    simp only [List.mem_filter, decide_eq_true_eq] at hy
    refine mem_dsts.2 ⟨y, ?_, oy, h1, h2⟩
    rcases g1 y (hM y hy.1) hy.2 with e | e
    · rw [e]; exact List.mem_cons_self
    · exact List.mem_cons_of_mem _ e
  have hdn : ∀ Z : List Nat, (∀ z ∈ Z, z ∈ Y ∧ k < z) → d ∉ dsts ops Z := by
    intro Z hZ hm
    obtain ⟨y, hy, oy, h1, h2⟩ := mem_dsts.1 hm
    obtain ⟨h3, h4⟩ := hZ y hy
    rcases hd.dst y k oy o d (by omega) h1 ho h2 k2 with h' | h'
    · rw [hord y h3] at h'; cases h'
    · rw [k5] at h'; cases h'
  have hd2 : d ∉ dsts ops Y2 := hdn Y2 g2
  have hd3 : d ∉ dsts ops (M.filter fun y => decide (k + 1 ≤ y)) := hdn _ fun z hz => by
    simp only [List.mem_filter, decide_eq_true_eq] at hz
    exact ⟨hM z hz.1, by omega⟩
  have hsoft : ∀ S, softC cx f ops S o = true := fun S => by simp only [softC, isPure_quiet k3, Bool.not_false, Bool.true_or]
  obtain ⟨e, e1, e2, e3, e4, e5⟩ := soft_eff (hsoft _) k7
  -- nothing is used up
  have hL : e.L = [] := by
    rw [List.eq_nil_iff_forall_not_mem]
    intro t ht
    obtain ⟨_, _, h3⟩ := e3 t ht
    have hn : t ∉ dsts ops (k :: Y2) := fun hm => by simp [hide_s, hm, hasOwn] at h3
    have hne : S1.s t ≠ .undef := fun hu => by simp [hide_s, hu, hasOwn] at h3
    have hn2 : t ∉ dsts ops Y2 := fun hm => hn (by
      obtain ⟨y, hy, r⟩ := mem_dsts.1 hm
      exact mem_dsts.2 ⟨y, List.mem_cons_of_mem _ hy, r⟩)
    have htd : some d ≠ some t := fun h => by
      simp only [Option.some.injEq] at h
      subst h
      exact hn (mem_dsts.2 ⟨k, List.mem_cons_self, o, ho, k2⟩)
    have := congrArg (fun S : SU => S.s t) e2
    simp only [hide_s, if_neg hn2, app_s, e1, k2, if_neg htd, if_pos ht] at this
    exact hne this
  have hx : e.x = S1.s d := by
    have := congrArg (fun S : SU => S.s d) e2
    simp only [hide_s, if_neg hd2, app_s, e1, k2, if_true] at this
    exact this.symm
  have hsl : ∀ t, (V.hide (dsts ops (k :: Y2)) S1).s t = .undef ∨ (V.hide (dsts ops (k :: Y2)) S1).s t = (V.hide (dsts ops (M.filter fun y => decide (k ≤ y))) S1).s t := by
    intro t
    by_cases h1 : t ∈ dsts ops (k :: Y2)
    · left; simp [hide_s, h1]
    · right
      have : t ∉ dsts ops (M.filter fun y => decide (k ≤ y)) := fun h => h1 (hsub t h)
      simp only [hide_s, if_neg h1, if_neg this]
  have hrt : ∀ t q, Root.sl q ∈ refsOf ((V.hide (dsts ops (k :: Y2)) S1).s t) → isVar cx f q = true := by
    intro t q hq
    by_cases h1 : t ∈ dsts ops (k :: Y2)
    · simp [hide_s, h1, refsOf] at hq
    · simp only [hide_s, if_neg h1] at hq
      exact (hwf t q hq).1
  obtain ⟨m1, _⟩ := e5 (V.hide (dsts ops (M.filter fun y => decide (k ≤ y))) S1) (fun t _ => hsl t)
    ⟨fun t _ => hsl t, fun t _ r hr => by
      cases r with
      | sl q =>
        rcases hsl q with h | h
        · left; simp [rootCells, h]
        · right; simp only [rootCells, h]
      | ex j => right; rfl⟩
    (.inr fun t _ q hq => hrt t q hq) (fun d' hd' hv => by rw [k2] at hd'; simp only [Option.some.injEq] at hd'; subst hd'; rw [k4] at hv; cases hv)
  have happ : e.app (V.hide (dsts ops (M.filter fun y => decide (k ≤ y))) S1) = V.hide (dsts ops (M.filter fun y => decide (k + 1 ≤ y))) S1 := by
    refine St.ext' (fun t => ?_) (by rw [app_e]; rfl)
    rw [app_s, e1, k2, hL, hx]
    by_cases h1 : t = d
    · subst h1
      simp only [if_true, hide_s, if_neg hd3]
    · have h2 : ¬ some d = some t := fun h => h1 (by simpa using h.symm)
      simp only [if_neg h2, List.not_mem_nil, if_false, hide_s]
      have : t ∈ dsts ops (M.filter fun y => decide (k ≤ y)) ↔ t ∈ dsts ops (M.filter fun y => decide (k + 1 ≤ y)) := by
        constructor
        · intro h
          obtain ⟨y, hy, oy, h3, h4⟩ := mem_dsts.1 h
          simp only [List.mem_filter, decide_eq_true_eq] at hy
          refine mem_dsts.2 ⟨y, ?_, oy, h3, h4⟩
          have : y ≠ k := fun e => by
            subst e
            rw [ho] at h3
            simp only [Option.some.injEq] at h3
            subst h3
            rw [k2] at h4
            exact h1 (by simpa using h4.symm)
          simp only [List.mem_filter, decide_eq_true_eq]
          exact ⟨hy.1, by omega⟩
        · intro h
          obtain ⟨y, hy, oy, h3, h4⟩ := mem_dsts.1 h
          simp only [List.mem_filter, decide_eq_true_eq] at hy
          refine mem_dsts.2 ⟨y, ?_, oy, h3, h4⟩
          simp only [List.mem_filter, decide_eq_true_eq]
          exact ⟨hy.1, by omega⟩
      simp only [this]
  have k6' : (cx.shr f id k).all (fun t => isVar cx f t || !hasOwn ((V.hide (dsts ops (M.filter fun y => decide (k ≤ y))) S1).s t)) = true := by
    rw [List.all_eq_true]
    intro t ht
    rcases k6 t ht with h | h
    · simp [h]
    · by_cases h1 : t ∈ dsts ops (M.filter fun y => decide (k ≤ y))
      · simp [hide_s, h1, hasOwn]
      · simp only [hide_s, if_neg h1, h, Bool.not_false, Bool.or_true]
  unfold stepD
  rw [if_pos (by rw [hsoft, Bool.or_true, Bool.true_and]; exact k6'), stepOp_pure k3, m1, happ]
  simp only [Option.bind_some, chkD, pndOf, k5, Bool.false_eq_true, if_false]

theorem replay_nil {eff : Nat → Eff} {L : Nat → Bool} {b : Nat} {S : SU} : ∀ {m : Nat}, (∀ k, b ≤ k → k < b + m → L k = true → eff k = Eff.nil) → replay eff L b m S = S
  | 0, _ => rfl
  | m + 1, h => by
    have ih := replay_nil (m := m) (eff := eff) (L := L) (b := b) (S := S) (fun k h1 h2 => h k h1 (by omega))
    simp only [replay]
    split
    · next hl => rw [h _ (by omega) (by omega) hl, app_nil]; exact ih
    · exact ih

theorem draw_any {id : Nat} {ops : Array Oper} {T : List Nat} {n : Nat} (hd : DrawOk cx f id ops T) (hstep : StepOk cx f call Pr w0 E0 P R ea n) (hpure : PureOk cx f w0 E0 P R ea n)
    (hdst : ∀ (k : Nat) (o : Oper) (d : Nat), ops[k]? = some o → o.dst = some d → d < n) {Sn : SU}
    {Q : Exit → Act → World → Prop} (hQ : ∀ a w, At cx f w0 E0 P R ea n Sn a w → Q .normal a w) :
    ∀ (fuel : Nat) (S : Nat → SU) (eff : Nat → Eff) (L0 : Nat → Bool) (listed : Array Bool) (c : Nat) (cur : SU) (a : Act) (w : World), TRun cx f call id ops S L0 eff → S ops.size = Sn →
      left ops.size listed ≤ fuel → listed.size = ops.size → c ≤ ops.size → (∀ k, L0 k = true → listed.getD k false = true) → (∀ k, c ≤ k → listed.getD k false = false) →
      (∀ k, k < c → L0 k = false → cx.ord f id k = false) → (c = ops.size ∨ cx.ord f id c = true) → Closed ops (fun k => listed.getD k false) → At cx f w0 E0 P R ea n cur a w → cur = replay eff (fun k => listed.getD k false) 0 c (S 0) →
      wpAny Pr .any ops Q fuel listed a w := by
  intro fuel
  induction fuel with
  | zero =>
    intro S eff L0 listed c cur a w hT hSn hleft hsz hcn hL0 hhi hno hc hcl hat hcur
    have hall : ∀ k, k < ops.size → listed.getD k false = true := by
      intro k hk
      have h0 : left ops.size listed = 0 := by omega
      simp only [left, List.length_eq_zero_iff, List.filter_eq_nil_iff, List.mem_range] at h0
      simpa using h0 k hk
    have hcc : c = ops.size := by
      rcases Nat.lt_or_ge c ops.size with h | h
      · have := hhi c (Nat.le_refl _); rw [hall c h] at this; cases this
      · omega
    have hsoft : ∀ k o, 0 ≤ k → k < c → L0 k = false → ops[k]? = some o → softC cx f ops (S k) o = true := fun k o _ h1 h2 ho => by
      rcases (stepD_step (hT.step k o ho h2)).1 with h' | h'
      · rw [hno k h1 h2] at h'; cases h'
      · exact h'
    refine ⟨?_, hQ a w ?_⟩
    · rw [List.eq_nil_iff_forall_not_mem]
      intro j hj
      obtain ⟨h1, o, ho, _⟩ := mem_ready.1 hj
      have hlt := (Array.getElem?_eq_some_iff.1 ho).1
      have := hall j hlt
      have h2 : j < listed.size := by omega
      simp [h2] at h1 this
      rw [h1] at this; cases this
    · have := seg_text hT hcn hsoft c (by omega)
      rw [Nat.zero_add] at this
      rw [← hSn, ← hcc, this]
      have e : replay eff (fun k => listed.getD k false) 0 c (S 0) = replay eff (fun _ => true) 0 c (S 0) := replay_congr (fun k h1 h2 => hall k (by omega))
      rw [← e, ← hcur]; exact hat
  | succ fuel ih =>
    intro S eff L0 listed c cur a w hT hSn hleft hsz hcn hL0 hhi hno hc hcl hat hcur
    have hsoft : ∀ k o, 0 ≤ k → k < c → L0 k = false → ops[k]? = some o → softC cx f ops (S k) o = true := fun k o _ h1 h2 ho => by
      rcases (stepD_step (hT.step k o ho h2)).1 with h' | h'
      · rw [hno k h1 h2] at h'; cases h'
      · exact h'
    -- where all are listed
    have fin : (∀ k, k < ops.size → listed.getD k false = true) → Q .normal a w := by
      intro hall
      have hcc : c = ops.size := by
        rcases Nat.lt_or_ge c ops.size with h | h
        · have := hhi c (Nat.le_refl _); rw [hall c h] at this; cases this
        · omega
      refine hQ a w ?_
      have := seg_text hT hcn hsoft c (by omega)
      rw [Nat.zero_add] at this
      rw [← hSn, ← hcc, this]
      have e : replay eff (fun k => listed.getD k false) 0 c (S 0) = replay eff (fun _ => true) 0 c (S 0) := replay_congr (fun k h1 h2 => hall k (by omega))
      rw [← e, ← hcur]; exact hat
    refine ⟨fun hnil => fin fun k hk => ?_, fun i hi => ?_⟩
    · -- the first that is not listed is ready
      cases hl : listed.getD k false with
      | true => rfl
      | false =>
        exfalso
        have : ∀ m, ∀ k, k < m → k < ops.size → listed.getD k false = false → False := by
          intro m
          induction m with
          | zero => intro k hk; omega
          | succ m ihm =>
            intro k hkm hk hlk
            have ho : ops[k]? = some ops[k] := Array.getElem?_eq_getElem hk
            have hr : k ∈ Region.ready .any ops listed := by
              refine mem_ready.2 ⟨?_, _, ho, fun e he hb => ?_⟩
              · have h2 : k < listed.size := by omega
                simp [h2] at hlk ⊢; exact hlk
              · cases hle : listed.getD e.on false with
                | true => rfl
                | false =>
                  have hlt := hd.on k _ ho e he hb
                  exact (ihm e.on (by omega) (by omega) hle).elim
            rw [hnil] at hr; cases hr
        exact this (k + 1) k (by omega) hk hl
    · obtain ⟨h1, o, ho, hrd⟩ := mem_ready.1 hi
      have hlt := (Array.getElem?_eq_some_iff.1 ho).1
      have hLi : listed.getD i false = false := by
        have h2 : i < listed.size := by omega
        simp [h2] at h1 ⊢; exact h1
      have hset : ∀ k, (listed.setIfInBounds i true).getD k false = with1 (fun k => listed.getD k false) i k := by
        intro k
        by_cases e : k = i
        · subst e
          have h2 : k < listed.size := by omega
          simp [with1, h2]
        · rw [getD_set_ne false (Ne.symm e)]; simp [with1, e]
      have hcl' : Closed ops (fun k => (listed.setIfInBounds i true).getD k false) := by
        intro k o' hk ho' e he hb
        simp only [hset, with1, Bool.or_eq_true, beq_iff_eq] at hk ⊢
        right
        rcases hk with rfl | hk
        · rw [ho] at ho'; simp only [Option.some.injEq] at ho'; subst ho'; exact hrd e he hb
        · exact hcl k o' hk ho' e he hb
      have hleft' : left ops.size (listed.setIfInBounds i true) ≤ fuel := by
        have := left_set hlt hsz hLi; omega
      have hL0i : L0 i = false := by
        cases h : L0 i with
        | false => rfl
        | true => rw [hL0 i h] at hLi; cases hLi
      rcases Nat.lt_or_ge i c with hic | hic
      · -- a soft one
        obtain ⟨g1, g2, g3⟩ := seg_step hd hT (b := 0) hcn hsoft (fun k _ h => hno k h) hL0 hcl hat hcur (Nat.zero_le i) hic ho hLi hrd
        refine hstep ops o i cur _ a w hat ho (fun d hd' => hdst i o d ho hd') g1 _ Q (fun a' w' hat' => ?_)
        refine ih S eff L0 (listed.setIfInBounds i true) c _ a' w' hT hSn hleft' (by simpa using hsz) hcn ?_ ?_ hno hc hcl' hat' ?_
        · intro k hk; rw [hset]; simp only [with1, hL0 k hk, Bool.or_true]
        · intro k hk; rw [hset]
          have : k ≠ i := by omega
          simp only [with1, hhi k hk, Bool.or_false, beq_eq_false_iff_ne]; exact this
        · rw [g3]; exact replay_congr (fun k _ _ => (hset k).symm)
      · -- an active one
        have hco : cx.ord f id c = true := by
          rcases hc with h | h
          · omega
          · exact h
        have hici : i = c := by
          rcases Nat.lt_or_ge c i with h | h
          · exfalso
            have hoc : ops[c]? = some (ops[c]'(by omega)) := Array.getElem?_eq_getElem (by omega)
            rcases hd.ord c i _ o h hoc ho (.inl hco) with hb | ⟨_, hb, _⟩
            · have := (hd.closed hcl (i + 1) i o (by omega) ho hrd c hb).1
              rw [hhi c (Nat.le_refl _)] at this; cases this
            · rw [hco] at hb; cases hb
          · omega
        subst hici
        have hbit : ∀ k, k < i → listed.getD k false = false → (T.getD i 0).testBit k = false := by
          intro k hk hl
          cases hb : (T.getD i 0).testBit k with
          | false => rfl
          | true =>
            have := (hd.closed hcl (i + 1) i o (by omega) ho hrd k hb).1
            rw [hl] at this; cases this
        have hpn : ∀ k, k < i → listed.getD k false = false → k ∈ cx.pnd f id i := by
          intro k hk hl
          have hok : ops[k]? = some (ops[k]'(by omega)) := Array.getElem?_eq_getElem (by omega)
          rcases hd.ord k i _ o hk hok ho (.inr hco) with hb | ⟨_, _, hb⟩
          · rw [hbit k hk hl] at hb; cases hb
          · exact hb
        obtain ⟨_, _, hsi, hredo⟩ := stepD_step (hT.step i o ho hL0i)
        rw [show pndOf cx f id i = cx.pnd f id i from if_pos hco] at hredo
        obtain ⟨M, hM⟩ : ∃ M, M = (List.range i).filter fun k => !listed.getD k false := ⟨_, rfl⟩
        have hMm : ∀ k, k ∈ M ↔ k < i ∧ listed.getD k false = false := by
          intro k; rw [hM]; simp only [List.mem_filter, List.mem_range, Bool.not_eq_true']
        have hMp : ∀ y ∈ M, y ∈ cx.pnd f id i := fun y hy => hpn y ((hMm y).1 hy).1 ((hMm y).1 hy).2
        have hZ : ∀ d ∈ dsts ops M, isVar cx f d = false := by
          intro d hd'
          obtain ⟨y, hy, oy, h3, h4⟩ := mem_dsts.1 hd'
          obtain ⟨_, _, _, o', d', k1, k2, _, k4, _⟩ := redo_mem hredo (hMp y hy)
          rw [h3] at k1
          simp only [Option.some.injEq] at k1
          subst k1
          rw [h4] at k2
          simp only [Option.some.injEq] at k2
          subst k2; exact k4
        -- those that are not listed yet, done where nobody sees it
        have comp : ∀ m, m ≤ i → ∃ b, At cx f w0 E0 P R ea n (replay eff (fun k => listed.getD k false || decide (k < m)) 0 i (S 0)) b w ∧ Same (dsts ops M) a b := by
          intro m
          induction m with
          | zero =>
            intro _
            refine ⟨a, ?_, Same.refl⟩
            have e : replay eff (fun k => listed.getD k false || decide (k < 0)) 0 i (S 0) = cur := by
              rw [hcur]; exact replay_congr (fun k _ _ => by simp)
            rw [e]; exact hat
          | succ m ihm =>
            intro hm
            obtain ⟨b, hb1, hb2⟩ := ihm (by omega)
            have hmask : ∀ k, (listed.getD k false || decide (k < m + 1)) = with1 (fun k => listed.getD k false || decide (k < m)) m k := by
              intro k
              simp only [with1]
              by_cases e : k = m
              · subst e; simp
              · have : decide (k < m + 1) = decide (k < m) := by rw [decide_eq_decide]; omega
                rw [this]; simp [e]
            cases hl : listed.getD m false with
            | true =>
              refine ⟨b, ?_, hb2⟩
              have e : replay eff (fun k => listed.getD k false || decide (k < m + 1)) 0 i (S 0) = replay eff (fun k => listed.getD k false || decide (k < m)) 0 i (S 0) := replay_congr (fun k _ _ => by
                rw [hmask]
                simp only [with1]
                by_cases e : k = m
                · subst e; simp only [beq_self_eq_true, Bool.true_or, hl]
                · simp [e])
              rw [e]; exact hb1
            | false =>
              have hom : ops[m]? = some (ops[m]'(by omega)) := Array.getElem?_eq_getElem (by omega)
              have hmM : m ∈ M := (hMm m).2 ⟨by omega, hl⟩
              have hclm : Closed ops (fun k => listed.getD k false || decide (k < m)) := by
                intro k o' hk ho' e he hb
                simp only [Bool.or_eq_true, decide_eq_true_eq] at hk ⊢
                rcases hk with hk | hk
                · exact .inl (hcl k o' hk ho' e he hb)
                · right; have := hd.on k o' ho' e he hb; omega
              obtain ⟨g1, _, g3⟩ := seg_step hd hT (b := 0) hcn hsoft (fun k _ h => hno k h) (L := fun k => listed.getD k false || decide (k < m)) (fun k hk => by simp only [hL0 k hk, Bool.true_or]) hclm hb1 rfl (Nat.zero_le m) (by omega) hom (by simp only [hl, Nat.lt_irrefl, decide_false, Bool.or_false]) (fun e he hb => by
                have := hd.on m _ hom e he hb
                simp only [this, decide_true, Bool.or_true])
              obtain ⟨_, _, _, o', d', k1, k2, k3, _⟩ := redo_mem hredo (hMp m hmM)
              rw [hom] at k1
              simp only [Option.some.injEq] at k1
              subst k1
              rw [stepOp_pure k3] at g1
              obtain ⟨v, hv⟩ := hpure ops _ _ _ b w hb1 k3 (fun d hd' => hdst m _ d hom hd') g1
              rw [g3] at hv
              refine ⟨b.put (ops[m]'(by omega)).dst v, ?_, ?_⟩
              · have e : replay eff (fun k => listed.getD k false || decide (k < m + 1)) 0 i (S 0) = replay eff (with1 (fun k => listed.getD k false || decide (k < m)) m) 0 (i - 0) (S 0) := replay_congr (fun k _ _ => hmask k)
                rw [e]; exact hv
              · rw [k2]; exact hb2.later (mem_dsts.2 ⟨m, hmM, _, hom, k2⟩) v
        obtain ⟨b, hb1, hb2⟩ := comp i (Nat.le_refl i)
        have hcS : replay eff (fun k => listed.getD k false || decide (k < i)) 0 i (S 0) = S i := by
          have := seg_text hT hcn hsoft i (by omega)
          rw [Nat.zero_add] at this
          rw [this]
          exact replay_congr (fun k _ h2 => by simp only [show k < i by omega, decide_true, Bool.or_true])
        rw [hcS] at hb1
        -- what comes behind
        have cont : ∀ b' w', At cx f w0 E0 P R ea n (S (i + 1)) b' w' → ∀ a', Same (dsts ops M) a' b' → wpAny Pr .any ops Q fuel (listed.setIfInBounds i true) a' w' := by
          intro b' w' hb' a' hs
          have hwf := hb'.wf
          obtain ⟨S', hS'⟩ : ∃ S' : Nat → SU, S' = fun k => if k ≤ i + 1 then V.hide (dsts ops (M.filter fun y => decide (k ≤ y))) (S (i + 1)) else S k := ⟨_, rfl⟩
          have hlo : ∀ k, k ≤ i + 1 → S' k = V.hide (dsts ops (M.filter fun y => decide (k ≤ y))) (S (i + 1)) := fun k hk => by rw [hS']; exact if_pos hk
          have hgt : ∀ k, i + 1 ≤ k → S' k = S k := by
            intro k hk
            by_cases e : k = i + 1
            · subst e
              rw [hlo _ (Nat.le_refl _)]
              have : (M.filter fun y => decide (i + 1 ≤ y)) = [] := by
                rw [List.filter_eq_nil_iff]
                intro y hy
                have := ((hMm y).1 hy).1
                simp only [decide_eq_true_eq]; omega
              rw [this]; exact hide_nil _
            · rw [hS']; exact if_neg (by omega)
          have hLk : ∀ k, (listed.setIfInBounds i true).getD k false = true → k ≤ i ∧ k ∉ M := by
            intro k hk
            rw [hset] at hk
            simp only [with1, Bool.or_eq_true, beq_iff_eq] at hk
            rcases hk with rfl | hk
            · exact ⟨Nat.le_refl _, fun h => by have := ((hMm k).1 h).1; omega⟩
            · refine ⟨?_, fun h => by rw [((hMm k).1 h).2] at hk; cases hk⟩
              rcases Nat.lt_or_ge k i with h | h
              · omega
              · rw [hhi k h] at hk; cases hk
          have hLn : ∀ k, (listed.setIfInBounds i true).getD k false = false → k ≠ i ∧ listed.getD k false = false := by
            intro k hk
            rw [hset] at hk
            simp only [with1, Bool.or_eq_false_iff, beq_eq_false_iff_ne] at hk
            exact hk
          obtain ⟨eff', hT'⟩ := effs (cx := cx) (f := f) (call := call) id ops S' (fun k => (listed.setIfInBounds i true).getD k false) (fun k hk => by
            obtain ⟨h1, h2⟩ := hLk k hk
            rw [hlo k (by omega), hlo (k + 1) (by omega)]
            congr 2
            refine List.filter_congr fun y hy => ?_
            have : y ≠ k := fun e => h2 (e ▸ hy)
            rw [decide_eq_decide]; omega) (fun k o' ho' hk => by
            obtain ⟨h1, h2⟩ := hLn k hk
            rcases Nat.lt_or_ge k i with h | h
            · rw [hlo k (by omega), hlo (k + 1) (by omega)]
              exact (redo_step hd hredo hMp hwf ((hMm k).2 ⟨h, h2⟩) ho').2.2.2
            · rw [hgt k (by omega), hgt (k + 1) (by omega)]
              refine hT.step k o' ho' ?_
              cases h0 : L0 k with
              | false => rfl
              | true => rw [hL0 k h0] at h2; cases h2)
          obtain ⟨c', k1, k2, k3, k4⟩ := next_ord (fun k => cx.ord f id k) ops.size (ops.size - (i + 1)) (i + 1) (by omega)
          refine ih S' eff' (fun k => (listed.setIfInBounds i true).getD k false) (listed.setIfInBounds i true) c' (V.hide (dsts ops M) (S (i + 1))) a' w' hT' ?_ hleft' (by simpa using hsz) k2 (fun k h => h) ?_ ?_ k4 hcl' (hb'.hide hZ hs) ?_
          · rw [hgt _ (by omega)]; exact hSn
          · intro k hk
            rw [hset]
            have : k ≠ i := by omega
            simp only [with1, hhi k (by omega), Bool.or_false, beq_eq_false_iff_ne]; exact this
          · intro k hk hl
            obtain ⟨h1, h2⟩ := hLn k hl
            rcases Nat.lt_or_ge k i with h | h
            · obtain ⟨_, _, _, _, _, _, _, _, _, h5, _⟩ := redo_mem hredo (hMp k ((hMm k).2 ⟨h, h2⟩))
              exact h5
            · exact k3 k (by omega) hk
          · rw [replay_nil (fun k _ _ h => (hT'.done k h).2), hlo 0 (by omega)]
            congr 2
            exact (List.filter_eq_self.2 fun y _ => by simp).symm
        by_cases hM0 : M = []
        · have hab : a = b := by
            obtain ⟨h1, _, h3⟩ := hb2
            rw [hM0] at h3
            have h4 : a.tmps = b.tmps := Array.ext_getElem? fun t => h3 t (by simp [dsts])
            cases a; cases b; simp only at h1 h4; subst h1 h4; rfl
          subst hab
          exact hstep ops o i _ _ a w hb1 ho (fun d hd' => hdst i o d ho hd') hsi _ Q (fun a' w' hat' => cont a' w' hat' a' Same.refl)
        · have h3 : isAct3 o.op = true := by
            obtain ⟨y, hy⟩ := List.exists_mem_of_ne_nil M hM0
            exact hd.act i o ho hco (List.ne_nil_of_mem (hMp y hy))
          refine wpOp_same ho h3 (fun t ht hm => ?_) hb2 (hstep ops o i _ _ b w hb1 ho (fun d hd' => hdst i o d ho hd') hsi _ _ (fun b' w' hat' a' hs => cont b' w' hat' a' hs))
          obtain ⟨y, hy, oy, h4, h5⟩ := mem_dsts.1 hm
          obtain ⟨h6, h7⟩ := (hMm y).1 hy
          exact (Oper.apart_spec (hd.apart y i oy o h6 h4 ho (hbit y h6 h7))).1 t h5 ht

theorem At.drew {n : Nat} {Su : SU} (h : At cx f w0 E0 P R ea n Su a w) : At cx f w0 E0 P R ea n Su a w.drew := by
  obtain ⟨S, hr, h1, h2, h3⟩ := h
  exact ⟨S, hr.grow (Grow.drew w), h1, h2, h3⟩

theorem stepsD_all {id : Nat} {ops : Array Oper} : ∀ {l : List Oper} {k : Nat} {S0 S1 : SU}, stepsD cx f call id ops k l S0 = some S1 → ∃ S : Nat → SU, S k = S0 ∧ S (k + l.length) = S1 ∧ ∀ j o, l[j]? = some o → stepD cx f call id ops (k + j) (S (k + j)) o = some (S (k + j + 1))
  | [], k, S0, S1, h => by
    simp only [stepsD, Option.some.injEq] at h
    exact ⟨fun _ => S0, rfl, by simp [h], by simp⟩
  | o :: l, k, S0, S1, h => by
    simp only [stepsD] at h
    cases hs : stepD cx f call id ops k S0 o with
    | none => simp [hs] at h
    | some S' =>
      simp only [hs, Option.bind_some] at h
      obtain ⟨S, h1, h2, h3⟩ := stepsD_all h
      refine ⟨fun j => if j = k then S0 else S j, by simp, ?_, fun j o' hj => ?_⟩
      · have : k + (o :: l).length ≠ k := by simp
        simp only [this, if_false]
        rw [← h2]; congr 1; simp; omega
      · cases j with
        | zero =>
          simp only [List.getElem?_cons_zero, Option.some.injEq] at hj
          subst hj
          have : ¬ (k + 0 + 1 = k) := by omega
          simp only [Nat.add_zero, if_true, Nat.add_eq_left, Nat.succ_ne_self, if_false]
          rw [hs, h1]
        | succ j =>
          simp only [List.getElem?_cons_succ] at hj
          have e1 : ¬ (k + (j + 1) = k) := by omega
          have e2 : ¬ (k + (j + 1) + 1 = k) := by omega
          simp only [e1, e2, if_false]
          have := h3 j o' hj
          rw [show k + 1 + j = k + (j + 1) by omega] at this
          exact this

theorem draw_wp {id : Nat} {ops : Array Oper} {T : List Nat} {S0 S1 : SU} {n : Nat} (hm : Pr.follows .mixedOrders = true) (hd : DrawOk cx f id ops T) (hstep : StepOk cx f call Pr w0 E0 P R ea n) (hpure : PureOk cx f w0 E0 P R ea n) (hdst : ∀ (k : Nat) (o : Oper) (d : Nat), ops[k]? = some o → o.dst = some d → d < n)
    (hq : stepsD cx f call id ops 0 ops.toList S0 = some S1) (hat : At cx f w0 E0 P R ea n S0 a w) {Q : Exit → Act → World → Prop} (hQ : ∀ a w, At cx f w0 E0 P R ea n S1 a w → Q .normal a w) : (Code.region id ops true).wp Pr Q a w := by
  obtain ⟨S, h1, h2, h3⟩ := stepsD_all hq
  have hS : ∀ k o, ops[k]? = some o → (fun _ : Nat => false) k = false → stepD cx f call id ops k (S k) o = some (S (k + 1)) := by
    intro k o ho _
    have := h3 k o (by simpa using ho)
    simpa using this
  obtain ⟨eff, hT⟩ := effs id ops S (fun _ => false) (fun k hk => by cases hk) hS
  obtain ⟨c, k1, k2, k3, k4⟩ := next_ord (fun k => cx.ord f id k) ops.size ops.size 0 (by omega)
  refine wp_region_any hm ?_
  have hrep : ∀ k, (Array.replicate ops.size false).getD k false = false := by
    intro k
    rcases Nat.lt_or_ge k ops.size with h | h <;> simp [h]
  refine draw_any hd hstep hpure hdst hQ ops.size S eff (fun _ => false) _ c (S 0) a _ hT ?_ ?_ (by simp) k2 (fun k hk => by cases hk) (fun k _ => hrep k) (fun k hk _ => k3 k (Nat.zero_le k) hk) k4 ?_ (by rw [h1]; exact hat.drew) ?_
  · have : (0 : Nat) + ops.toList.length = ops.size := by simp
    rw [this] at h2; exact h2
  · have := List.length_filter_le (fun i => !(Array.replicate ops.size false).getD i false) (List.range ops.size)
    simpa [left] using this
  · intro k o hk; have hk' : (Array.replicate ops.size false).getD k false = true := hk; rw [hrep k] at hk'; cases hk'
  · refine (replay_nil (fun k _ _ hk => ?_)).symm
    rw [hrep k] at hk; cases hk
end
end Go.Proofs.Ytlkjnlfddadlmaa.V

namespace Go.Proofs.Ytlkjnlfddadlmaa.V
open Go.RowKit

section
variable {cx : Ctx} {f : Nat} {w0 : World} {E0 : Nat → Prop} {P : Nat → Nat → Prop} {R : Nat → Prop} {ea : List EA} {w w' : World} {a : Act} {call : Callee} {Pr : Program}

/-- A loop by its rounds. -/
theorem loop_rounds {c : Code} {Q : Exit → Act → World → Prop} (I : Nat → Act → World → Prop) (h0 : ∀ a w, ¬ I 0 a w) (round : ∀ n a w, I (n + 1) a w → c.wp Pr (Exit.then (I n) Q) a w) {n : Nat} (h : I n a w) : (Code.loop c).wp Pr Q a w := by
  intro b k cs
  have key : ∀ n a w, I n a w → ∃ e a' w', Q e a' w' ∧ Arrives Pr (lone (b.at a (.code c :: .inLoop c :: k)) cs w) b k cs e a' w' := by
    intro n
    induction n with
    | zero => intro a w hI; exact absurd hI (h0 a w)
    | succ n ih =>
      intro a w hI
      obtain ⟨e, a₁, w₁, hq, harr⟩ := round n a w hI b (.inLoop c :: k) cs
      cases e with
      | normal =>
        obtain ⟨e₂, a₂, w₂, hq₂, harr₂⟩ := ih a₁ w₁ hq
        exact ⟨e₂, a₂, w₂, hq₂, .of_steps (Steps.trans harr (.one step_inLoop)) harr₂⟩
      | exit id => exact ⟨_, a₁, w₁, hq, .pass (x := .inLoop c) rfl (fun _ _ => .inl (by simp)) harr⟩
      | goto l => exact ⟨_, a₁, w₁, hq, .pass (x := .inLoop c) rfl (fun _ _ => .inl (by simp)) harr⟩
      | ret => exact ⟨_, a₁, w₁, hq, .pass (x := .inLoop c) rfl (fun _ _ => .inl (by simp)) harr⟩
      | panic ch => exact ⟨_, a₁, w₁, hq, .pass (x := .inLoop c) rfl (fun _ _ => .inl (by simp)) harr⟩
      | outgrown => exact ⟨_, a₁, w₁, hq, .pass (x := .inLoop c) rfl (fun _ _ => .inl (by simp)) harr⟩
  obtain ⟨e, a', w', hq, harr⟩ := key n a w h
  exact ⟨e, a', w', hq, .of_steps (.one step_loop) harr⟩

theorem prep_ok {n : Nat} : ∀ {l : List Oper} {Su : SU}, At cx f w0 E0 P R ea n Su a w → At cx f w0 E0 P R ea n (prep cx f Su l) a w
  | [], Su, h => h
  | o :: os, Su, h => by
    have key : ∀ d, At cx f w0 E0 P R ea n { kill (.sl d) [] Su with s := upd (kill (.sl d) [] Su).s d .undef } a w := by
      intro d
      obtain ⟨S, hr, rfl, h2, h3⟩ := h
      have h5 := (hr.kill (.sl d) []).clear (noMen_kill d)
      refine ⟨_, h5, ?_, h2, h3⟩
      have hk : kill (.sl d) [] (V.erS S) = V.erS (kill (.sl d) [] S) := kill_map er0 S (.sl d) []
      rw [hk]
      simp only [V.erS, mapS]
      congr 1
      funext i
      by_cases e : i = d <;> simp [upd, e, mapX]
    simp only [prep]
    cases o.dst with
    | none => exact prep_ok h
    | some d =>
      simp only
      split
      · exact prep_ok (key _)
      · exact prep_ok h

theorem wpOps_range {n : Nat} (hstep : StepOk cx f call Pr w0 E0 P R ea n) {ops : Array Oper} (hdst : ∀ (k : Nat) (o : Oper) (d : Nat), ops[k]? = some o → o.dst = some d → d < n) {Q : Exit → Act → World → Prop} {S1 : SU}
    (hQ : ∀ a w, At cx f w0 E0 P R ea n S1 a w → Q .normal a w) : ∀ {m k : Nat} {Su : SU} {a : Act} {w : World}, k + m = ops.size → At cx f w0 E0 P R ea n Su a w → stepOps cx f call ops (ops.toList.drop k) Su = some S1 → wpOps Pr ops Q (List.range' k m) a w
  | 0, k, Su, a, w, hk, hat, hq => by
    rw [List.drop_eq_nil_of_le (by simp; omega)] at hq
    simp only [stepOps, Option.some.injEq] at hq
    subst hq
    exact hQ a w hat
  | m + 1, k, Su, a, w, hk, hat, hq => by
    have hlt : k < ops.size := by omega
    rw [List.drop_eq_getElem_cons (by simpa using hlt)] at hq
    simp only [stepOps, Array.getElem_toList] at hq
    cases hs : stepOp cx f call Su ops (ops[k]'hlt) with
    | none => simp [hs] at hq
    | some S' =>
      simp only [hs, Option.bind_some] at hq
      have ho : ops[k]? = some (ops[k]'hlt) := Array.getElem?_eq_getElem hlt
      rw [List.range'_succ, wpOps_cons]
      exact hstep ops _ k Su S' a w hat ho (fun d hd => hdst k _ d ho hd) hs _ Q (fun a' w' hat' => wpOps_range hstep hdst hQ (by omega) hat' hq)

def codeCk (cx : Ctx) (f n : Nat) : Code → Bool
  | .region id ops draw => ops.toList.all (fun o => match o.dst with | some d => decide (d < n) | none => true) && (!draw || drawCk cx f id ops (befT ops.toList []))
  | .seq a b => codeCk cx f n a && codeCk cx f n b
  | .cond _ a b => codeCk cx f n a && codeCk cx f n b
  | .block _ c => codeCk cx f n c
  | .loop c => codeCk cx f n c
  | _ => true

def exitOf : Ex → Exit
  | .nrm => .normal
  | .exit id => .exit id
  | .ret => .ret

theorem exec_ok {n lf : Nat} (hm : Pr.follows .mixedOrders = true) (hstep : StepOk cx f call Pr w0 E0 P R ea n) (hpure : PureOk cx f w0 E0 P R ea n) : ∀ (c : Code) {Su Su' : SU} {ex : Ex} {a : Act} {w : World} {Q : Exit → Act → World → Prop}, codeCk cx f n c = true → At cx f w0 E0 P R ea n Su a w → execC cx f call lf c Su = some (ex, Su') →
    (∀ a' w', At cx f w0 E0 P R ea n Su' a' w' → Q (exitOf ex) a' w') → c.wp Pr Q a w := by
  intro c
  induction c with
  | skip =>
    intro Su Su' ex a w Q _ hat hq hQ
    simp only [execC, Option.some.injEq, Prod.mk.injEq] at hq
    obtain ⟨rfl, rfl⟩ := hq
    exact wp_skip (hQ a w hat)
  | region id ops draw =>
    intro Su Su' ex a w Q hck hat hq hQ
    simp only [codeCk, Bool.and_eq_true, List.all_eq_true, Bool.or_eq_true, Bool.not_eq_true'] at hck
    have hdst : ∀ (k : Nat) (o : Oper) (d : Nat), ops[k]? = some o → o.dst = some d → d < n := by
      intro k o d ho hd
      have := hck.1 o (List.mem_of_getElem? (by simpa using ho : ops.toList[k]? = some o))
      rw [hd] at this
      simpa using this
    have hat' := prep_ok (l := ops.toList) hat
    cases draw with
    | false =>
      simp only [execC, Bool.false_eq_true, if_false] at hq
      cases hs : stepOps cx f call ops ops.toList (prep cx f Su ops.toList) with
      | none => simp [hs] at hq
      | some S1 =>
        simp only [hs, Option.map_some, Option.some.injEq, Prod.mk.injEq] at hq
        obtain ⟨rfl, rfl⟩ := hq
        refine wp_region ?_
        rw [List.range_eq_range']
        exact wpOps_range hstep hdst hQ (by omega) hat' (by simpa using hs)
    | true =>
      simp only [execC, if_true] at hq
      cases hs : stepsD cx f call id ops 0 ops.toList (prep cx f Su ops.toList) with
      | none => simp [hs] at hq
      | some S1 =>
        simp only [hs, Option.map_some, Option.some.injEq, Prod.mk.injEq] at hq
        obtain ⟨rfl, rfl⟩ := hq
        exact draw_wp hm (drawCk_spec (hck.2.resolve_left (by simp))) hstep hpure hdst hs hat' hQ
  | seq x y ihx ihy =>
    intro Su Su' ex a w Q hck hat hq hQ
    simp only [codeCk, Bool.and_eq_true] at hck
    simp only [execC] at hq
    split at hq
    · rename_i S1 h1
      exact wp_seq (ihx hck.1 hat h1 (fun a' w' hat' => ihy hck.2 hat' hq hQ))
    · rename_i h1
      refine wp_seq (ihx hck.1 hat hq (fun a' w' hat' => ?_))
      cases ex with
      | nrm => exact absurd hq (h1 Su')
      | exit id => exact hQ a' w' hat'
      | ret => exact hQ a' w' hat'
  | cond o x y ihx ihy =>
    intro Su Su' ex a w Q hck hat hq hQ
    simp only [codeCk, Bool.and_eq_true] at hck
    simp only [execC] at hq
    have hb : ∀ b, boolOf (opv cx f Su 0 o) = some b → a.eval o = .bool b := by
      intro b hb
      obtain ⟨S, hr, rfl, _, _⟩ := hat
      exact opv_bool hr rfl hb
    split at hq
    · rename_i h1
      exact wp_cond_true (hb _ h1) (ihx hck.1 hat hq hQ)
    · rename_i h1
      exact wp_cond_false (hb _ h1) (ihy hck.2 hat hq hQ)
    · cases hq
  | block id x ih =>
    intro Su Su' ex a w Q hck hat hq hQ
    simp only [codeCk] at hck
    simp only [execC] at hq
    split at hq
    · rename_i id' S1 h1
      refine wp_block (ih hck hat h1 (fun a' w' hat' => ?_))
      split at hq
      · rename_i e
        simp only [Option.some.injEq, Prod.mk.injEq] at hq
        obtain ⟨rfl, rfl⟩ := hq
        simp only [exitOf, Exit.inBlock, e, if_true]
        exact hQ a' w' hat'
      · rename_i e
        simp only [Option.some.injEq, Prod.mk.injEq] at hq
        obtain ⟨rfl, rfl⟩ := hq
        simp only [exitOf, Exit.inBlock, e, if_false]
        exact hQ a' w' hat'
    · rename_i h1
      refine wp_block (ih hck hat hq (fun a' w' hat' => ?_))
      cases ex with
      | nrm => exact hQ a' w' hat'
      | exit id' => exact absurd hq (h1 id' Su')
      | ret => exact hQ a' w' hat'
  | loop x ih =>
    intro Su Su' ex a w Q hck hat hq hQ
    simp only [codeCk] at hck
    simp only [execC] at hq
    refine loop_rounds (n := lf) (fun m a w => ∃ S, At cx f w0 E0 P R ea n S a w ∧ iter m (execC cx f call lf x) S = some (ex, Su')) (fun a w h => ?_) (fun m a w h => ?_) ⟨Su, hat, hq⟩
    · obtain ⟨S, _, h⟩ := h
      simp [iter] at h
    · obtain ⟨S, hat, h⟩ := h
      simp only [iter] at h
      split at h
      · rename_i S1 h1
        exact ih hck hat h1 (fun a' w' hat' => ⟨S1, hat', h⟩)
      · rename_i h1
        refine ih hck hat h (fun a' w' hat' => ?_)
        cases ex with
        | nrm => exact absurd h (h1 Su')
        | exit id' => exact hQ a' w' hat'
        | ret => exact hQ a' w' hat'
  | exit id =>
    intro Su Su' ex a w Q _ hat hq hQ
    simp only [execC, Option.some.injEq, Prod.mk.injEq] at hq
    obtain ⟨rfl, rfl⟩ := hq
    exact wp_exit (hQ a w hat)
  | ret =>
    intro Su Su' ex a w Q _ hat hq hQ
    simp only [execC, Option.some.injEq, Prod.mk.injEq] at hq
    obtain ⟨rfl, rfl⟩ := hq
    exact wp_ret (hQ a w hat)
  | rangeFunc => intro Su Su' ex a w Q _ _ hq; simp [execC] at hq
  | scope => intro Su Su' ex a w Q _ _ hq; simp [execC] at hq
  | label => intro Su Su' ex a w Q _ _ hq; simp [execC] at hq
  | goto => intro Su Su' ex a w Q _ _ hq; simp [execC] at hq
  | refuse => intro Su Su' ex a w Q _ _ hq; simp [execC] at hq
end
end Go.Proofs.Ytlkjnlfddadlmaa.V

namespace Go.Proofs.Ytlkjnlfddadlmaa.V
open Go.RowKit

section
variable {cx : Ctx} {f : Nat} {w0 : World} {E0 : Nat → Prop} {P : Nat → Nat → Prop} {R : Nat → Prop} {ea : List EA} {w w' : World} {a : Act} {call : Callee} {Pr : Program} {S S0 S1 S2 S3 : SV} {tmps : Array Value}

/-- What refers to boxes of the caller's alone is as good behind it. -/
structure EmpE (ea : List EA) (S S2 : SV) : Prop where
  ok : ∀ (w : World) (P : Nat → Nat → Prop) (R : Nat → Prop) (c : CV), (∀ r ∈ refsC c, isEx r = true) → okC w P R S ea c → alive S2 c = true → okC w P R S2 ea c
  al : ∀ c : CV, (∀ r ∈ refsC c, isEx r = true) → alive S2 c = true → alive S c = true
  blk : ∀ k, ∀ b ∈ blkR S2 ea k, b ∈ blkR S ea k

theorem EmpE.refl : EmpE ea S S := ⟨fun _ _ _ _ _ h _ => h, fun _ _ h => h, fun _ _ h => h⟩
theorem EmpE.trans (h : EmpE ea S S2) (k : EmpE ea S2 S3) : EmpE ea S S3 :=
  ⟨fun w P R c hr hc ha => k.ok w P R c hr (h.ok w P R c hr hc (k.al c hr ha)) ha, fun c hr hc => h.al c hr (k.al c hr hc), fun r b hb => h.blk r b (k.blk r b hb)⟩
theorem EmpE.of (h : Emp ea S S2) : EmpE ea S S2 := ⟨fun w P R c _ hc ha => h.ok w P R c hc ha, fun c _ hc => h.al c hc, h.blk⟩

/-- A cell that a caller may be given. -/
def Good (w : World) (P : Nat → Nat → Prop) (R : Nat → Prop) (ea : List EA) (S2 : SV) (c : CV) : Prop :=
  (∀ r ∈ refsC c, isEx r = true) ∧ ∀ S3, EmpE ea S2 S3 → alive S3 c = true → okC w P R S3 ea c

theorem Good.t {x : TV} (h : okT w P R x) : Good w P R ea S2 (.t x) := ⟨by simp [refsC], fun S3 _ _ => by simpa only [okC] using h⟩
theorem Good.emp {c : CV} (h : Good w P R ea S2 c) (he : EmpE ea S2 S3) : Good w P R ea S3 c := ⟨h.1, fun S4 h4 ha => h.2 S4 (he.trans h4) ha⟩

theorem isEx_refs {cs : List CV} : ((rootsCs true (cs.map erC)).all isEx = true) ↔ ∀ r ∈ refsCs cs, isEx r = true := by
  have : rootsCs true (cs.map erC) = refsCs cs := by rw [← rootsCs_refs cs, mapCs_eq]
  rw [this, List.all_eq_true]

theorem finC_ok {isv : Nat → Bool} {c : CV} (h : Rel isv w0 E0 P R ea w S tmps) (he : Emp ea S0 S) (hok : okC w P R S0 ea c) (hb : Bk w0 E0 R ea w S (blkC c)) {d : CU} {Su : SU} (hq : finC (erC c) (V.erS S) = some (d, Su)) :
    ∃ (cG : CV) (S2 : SV), erC cG = d ∧ V.erS S2 = Su ∧ valC cG = valC c ∧ Rel isv w0 E0 P R ea w S2 tmps ∧ Emp ea S S2 ∧ Good w P R ea S2 cG ∧ Bk w0 E0 R ea w S2 (blkC cG) ∧ (∀ b ∈ blkC cG, b ∈ blkC c ∨ ∃ r, b ∈ blkR S ea r) := by
  have same : ∀ {cG : CV}, erC cG = d → V.erS S = Su → valC cG = valC c → Good w P R ea S cG → blkC cG = blkC c → ∃ (cG : CV) (S2 : SV), erC cG = d ∧ V.erS S2 = Su ∧ valC cG = valC c ∧ Rel isv w0 E0 P R ea w S2 tmps ∧ Emp ea S S2 ∧ Good w P R ea S2 cG ∧ Bk w0 E0 R ea w S2 (blkC cG) ∧ (∀ b ∈ blkC cG, b ∈ blkC c ∨ ∃ r, b ∈ blkR S ea r) := by
    intro cG h1 h2 h3 h4 h5
    exact ⟨cG, S, h1, h2, h3, h, Emp.refl, h4, by rw [h5]; exact hb, fun b hb' => .inl (by rwa [h5] at hb')⟩
  cases c with
  | t x =>
    simp only [erC, mapC, finC, Option.some.injEq, Prod.mk.injEq] at hq
    obtain ⟨rfl, rfl⟩ := hq
    simp only [okC] at hok
    exact same (cG := .t x) rfl rfl rfl (.t hok) rfl
  | ptr v r p off =>
    cases r with
    | sl k =>
      simp only [erC, mapC, finC, Option.some.injEq, Prod.mk.injEq] at hq
      obtain ⟨rfl, rfl⟩ := hq
      simp only [okC] at hok
      exact same (cG := .t (.dead v)) rfl rfl rfl (.t (by simp only [okT]; exact .inr hok.slice)) rfl
    | ex j =>
      simp only [erC, mapC, finC, Option.some.injEq, Prod.mk.injEq] at hq
      obtain ⟨rfl, rfl⟩ := hq
      exact same (cG := .ptr v (.ex j) p off) rfl rfl rfl ⟨by simp [refsC, isEx], fun S3 h3 ha => h3.ok w P R _ (by simp [refsC, isEx]) (he.ok w P R _ hok (h3.al _ (by simp [refsC, isEx]) ha)) ha⟩ rfl
  | bor v r p i off sz n =>
    cases r with
    | sl k =>
      simp only [erC, mapC, finC, er0] at hq
      cases ht : takeAt (V.erS S) () (.sl k) p i off sz n with
      | none => rw [ht] at hq; simp at hq
      | some q =>
        obtain ⟨t, Sq⟩ := q
        rw [ht] at hq
        simp only [Option.map_some, Option.some.injEq, Prod.mk.injEq] at hq
        obtain ⟨rfl, rfl⟩ := hq
        obtain ⟨cG, S2, e1, e2, e3, e4, e5, e6, e7, e8, e9⟩ := Kept.take h he hok ht
        refine ⟨cG, S2, e1, e2, e3, e4, e5, ?_, e7, e8⟩
        obtain ⟨y, rfl, _⟩ := er_t e1
        simp only [okC] at e6
        exact .t e6
    | ex j =>
      simp only [erC, mapC, finC, Option.some.injEq, Prod.mk.injEq] at hq
      obtain ⟨rfl, rfl⟩ := hq
      exact same (cG := .bor v (.ex j) p i off sz n) rfl rfl rfl ⟨by simp [refsC, isEx], fun S3 h3 ha => h3.ok w P R _ (by simp [refsC, isEx]) (he.ok w P R _ hok (h3.al _ (by simp [refsC, isEx]) ha)) ha⟩ rfl
  | rptr v cs =>
    simp only [erC, mapC, finC, Option.some.injEq, Prod.mk.injEq] at hq
    obtain ⟨rfl, rfl⟩ := hq
    exact same (cG := .rptr v cs) rfl rfl rfl ⟨by simp [refsC], fun S3 _ _ => by simpa only [okC] using hok⟩ rfl
  | nilp =>
    simp only [erC, mapC, finC, Option.some.injEq, Prod.mk.injEq] at hq
    obtain ⟨rfl, rfl⟩ := hq
    exact same (cG := .nilp) rfl rfl rfl ⟨by simp [refsC], fun S3 _ _ => by simp [okC]⟩ rfl
  | nilf =>
    simp only [erC, mapC, finC, Option.some.injEq, Prod.mk.injEq] at hq
    obtain ⟨rfl, rfl⟩ := hq
    exact same (cG := .nilf) rfl rfl rfl ⟨by simp [refsC], fun S3 _ _ => by simp [okC]⟩ rfl
  | fn g caps =>
    simp only [erC, mapC, finC] at hq
    split at hq
    · rename_i hall
      simp only [Option.some.injEq, Prod.mk.injEq] at hq
      obtain ⟨rfl, rfl⟩ := hq
      have hall' : ∀ r ∈ refsCs caps, isEx r = true := by
        rw [← isEx_refs, ← mapCs_eq]; exact hall
      exact same (cG := .fn g caps) rfl rfl rfl ⟨by simpa only [refsC] using hall', fun S3 h3 ha => h3.ok w P R _ (by simpa only [refsC] using hall') (he.ok w P R _ hok (h3.al _ (by simpa only [refsC] using hall') ha)) ha⟩ rfl
    · cases hq
  | lst v sz n cs =>
    simp only [erC, mapC, finC] at hq
    cases ht : settle (C.lst (er0 v) sz n (mapCs er0 cs)) (V.erS S) with
    | none => rw [ht] at hq; simp at hq
    | some q =>
      obtain ⟨t, Sq⟩ := q
      rw [ht] at hq
      simp only [Option.map_some, Option.some.injEq, Prod.mk.injEq] at hq
      obtain ⟨rfl, rfl⟩ := hq
      obtain ⟨tG, S2, e1, e2, e3, e4, e5, e6, e7, e8⟩ := settle_ok (c := .lst v sz n cs) h he hok hb ht
      exact ⟨.t tG, S2, by simp only [erC, mapC]; rw [← e1], e2, e3, e4, e5, .t e6, by simpa only [blkC] using e7, by simpa only [blkC] using e8⟩

theorem finCs_ok {isv : Nat → Bool} : ∀ {cs : List CV} {S : SV} {ds : List CU} {Su : SU}, Rel isv w0 E0 P R ea w S tmps → Emp ea S0 S → okCs w P R S0 ea cs → Bk w0 E0 R ea w S (blkCs cs) → finCs (cs.map erC) (V.erS S) = some (ds, Su) →
    ∃ (us : List CV) (S2 : SV), us.map erC = ds ∧ V.erS S2 = Su ∧ us.map valC = cs.map valC ∧ Rel isv w0 E0 P R ea w S2 tmps ∧ Emp ea S S2 ∧ (∀ u ∈ us, Good w P R ea S2 u) ∧ Bk w0 E0 R ea w S2 (blkCs us) ∧ (∀ b ∈ blkCs us, b ∈ blkCs cs ∨ ∃ r, b ∈ blkR S ea r)
  | [], S, ds, Su, h, he, hok, hb, hq => by
    simp only [List.map_nil, finCs, Option.some.injEq, Prod.mk.injEq] at hq
    obtain ⟨rfl, rfl⟩ := hq
    exact ⟨[], S, rfl, rfl, rfl, h, Emp.refl, by simp, by simpa [blkCs] using hb, by simp [blkCs]⟩
  | c :: cs, S, ds, Su, h, he, hok, hb, hq => by
    simp only [List.map_cons, finCs] at hq
    simp only [okCs] at hok
    simp only [blkCs] at hb
    cases h1 : finC (erC c) (V.erS S) with
    | none => rw [h1] at hq; simp at hq
    | some r =>
      obtain ⟨d, Sd⟩ := r
      rw [h1] at hq
      simp only [Option.bind_some] at hq
      obtain ⟨cG, S1, a1, a2, a3, a4, a5, a6, a7, a8⟩ := finC_ok h he hok.1 (hb.sub (List.sublist_append_left _ _)) h1
      subst a2
      cases h2 : finCs (cs.map erC) (V.erS S1) with
      | none => rw [h2] at hq; simp at hq
      | some q =>
        obtain ⟨es, Se⟩ := q
        rw [h2] at hq
        simp only [Option.map_some, Option.some.injEq, Prod.mk.injEq] at hq
        obtain ⟨rfl, rfl⟩ := hq
        obtain ⟨us, S2, b1, b2, b3, b4, b5, b6, b7, b8⟩ := finCs_ok a4 (he.trans a5) hok.2 ((hb.sub (List.sublist_append_right _ _)).emp a5) h2
        have hnd := List.nodup_append.1 hb.nd
        refine ⟨cG :: us, S2, by simp [a1, b1], b2, by simp [a3, b3], b4, a5.trans b5, ?_, ?_, ?_⟩
        · intro u hu
          rcases List.mem_cons.1 hu with rfl | hu
          · exact a6.emp (EmpE.of b5)
          · exact b6 u hu
        · simp only [blkCs]
          refine (a7.emp b5).append b7 (fun b hb1 hb2 => ?_)
          rcases b8 b hb2 with h' | ⟨k, h'⟩
          · rcases a8 b hb1 with g | ⟨k, g⟩
            · exact hnd.2.2 b g b h' rfl
            · exact (hb.sub (List.sublist_append_right _ _)).sep k b h' g
          · exact a7.sep k b hb1 h'
        · intro b hb'
          simp only [blkCs, List.mem_append] at hb' ⊢
          rcases hb' with hb' | hb'
          · exact (a8 b hb').imp .inl id
          · rcases b8 b hb' with g | ⟨k, g⟩
            · exact .inl (.inr g)
            · exact .inr ⟨k, a5.blk k b g⟩

mutual
theorem alive_ex {k : Nat} : ∀ {c : CV}, (∀ r ∈ refsC c, isEx r = true) → alive { kill (.sl k) [] S with s := upd (kill (.sl k) [] S).s k .undef } c = true → alive S c = true
  | .t x, _, _ => by simp [alive]
  | .rptr v cs, _, _ => by simp [alive]
  | .nilp, _, _ => by simp [alive]
  | .nilf, _, _ => by simp [alive]
  | .ptr v r p off, hr, ha => by
    cases r with
    | sl d => have := hr (.sl d) (by simp [refsC]); simp [isEx] at this
    | ex j =>
      simp only [alive, Bool.or_eq_true] at ha ⊢
      refine ha.imp (fun h => h) fun h => ?_
      have e : ∀ (p : List Nat) (i : Nat), at_ { kill (.sl k) [] S with s := upd (kill (.sl k) [] S).s k .undef } (.ex j) p i = at_ (kill (.sl k) [] S) (.ex j) p i := fun p i => rfl
      rw [e, at_kill, isList_kill] at h
      exact h
  | .bor v r p i off sz n, hr, ha => by
    cases r with
    | sl d => have := hr (.sl d) (by simp [refsC]); simp [isEx] at this
    | ex j =>
      simp only [alive] at ha ⊢
      have e : ∀ (p : List Nat) (i : Nat), at_ { kill (.sl k) [] S with s := upd (kill (.sl k) [] S).s k .undef } (.ex j) p i = at_ (kill (.sl k) [] S) (.ex j) p i := fun p i => rfl
      rw [e, at_kill, isList_kill] at ha
      exact ha
  | .fn g caps, hr, ha => by simp only [alive, refsC] at hr ha ⊢; exact alives_ex hr ha
  | .lst v sz n cs, hr, ha => by simp only [alive, refsC] at hr ha ⊢; exact alives_ex hr ha
theorem alives_ex {k : Nat} : ∀ {cs : List CV}, (∀ r ∈ refsCs cs, isEx r = true) → alives { kill (.sl k) [] S with s := upd (kill (.sl k) [] S).s k .undef } cs = true → alives S cs = true
  | [], _, _ => by simp [alives]
  | c :: cs, hr, ha => by
    simp only [alives, Bool.and_eq_true, refsCs, List.mem_append] at hr ha ⊢
    exact ⟨alive_ex (fun r h => hr r (.inl h)) ha.1, alives_ex (fun r h => hr r (.inr h)) ha.2⟩
end

def cellsX' : XV → List CV
  | .c c => [c]
  | .agg cs => cs
  | .box _ cs => cs
  | _ => []

/-- A value that a caller may be given. -/
structure Res (isv : Nat → Bool) (w0 : World) (E0 : Nat → Prop) (P : Nat → Nat → Prop) (R : Nat → Prop) (ea : List EA) (w : World) (S2 : SV) (y : XV) : Prop where
  good : ∀ c ∈ cellsX' y, Good w P R ea S2 c
  kind : (∃ c, y = .c c) ∨ (∃ cs, y = .agg cs) ∨ ∃ ad cs, y = .box (.pointer (some ad)) cs ∧ BoxAt w ad cs
  bk : Bk w0 E0 R ea w S2 (blkX y)

theorem EmpE.bk {l : List Nat} (he : EmpE ea S S2) (h : Bk w0 E0 R ea w S l) : Bk w0 E0 R ea w S2 l := ⟨h.nd, fun r b hb hb' => h.sep r b hb (he.blk r b hb'), h.lt, h.own, h.notR⟩

theorem finX_ok {isv : Nat → Bool} {x : XV} (h : Rel isv w0 E0 P R ea w S tmps) (hn : New isv w0 E0 P R ea w S x) {y : XU} {Su : SU} (hq : finX (erX x) (V.erS S) = some (y, Su)) :
    ∃ (yG : XV) (S2 : SV), erX yG = y ∧ V.erS S2 = Su ∧ valX yG = valX x ∧ Rel isv w0 E0 P R ea w S2 tmps ∧ EmpE ea S S2 ∧ Res isv w0 E0 P R ea w S2 yG ∧ ∀ b ∈ blkX yG, b ∈ blkX x ∨ ∃ r, b ∈ blkR S ea r := by
  have hok := hn.ok
  have hb := hn.bk
  have box_case : ∀ {S1 : SV} {v : Value} {cs : List CV} {ds : List CU} {Sd : SU}, Rel isv w0 E0 P R ea w S1 tmps → EmpE ea S S1 → okCs w P R S1 ea cs → (∃ ad, v = .pointer (some ad) ∧ BoxAt w ad cs) → Bk w0 E0 R ea w S1 (hdr v ++ blkCs cs) → finCs (cs.map erC) (V.erS S1) = some (ds, Sd) →
      ∃ (us : List CV) (S2 : SV), us.map erC = ds ∧ V.erS S2 = Sd ∧ Rel isv w0 E0 P R ea w S2 tmps ∧ EmpE ea S S2 ∧ Res isv w0 E0 P R ea w S2 (.box v us) ∧ ∀ b ∈ hdr v ++ blkCs us, b ∈ hdr v ++ blkCs cs ∨ ∃ r, b ∈ blkR S ea r := by
    intro S1 v cs ds Sd h1 he1 hok1 hbox hb1 hq1
    obtain ⟨us, S2, e1, e2, e3, e4, e5, e6, e7, e8⟩ := finCs_ok h1 Emp.refl hok1 (hb1.sub (List.sublist_append_right _ _)) hq1
    obtain ⟨ad, rfl, g1, g2, cur, e, g3, g4⟩ := hbox
    refine ⟨us, S2, e1, e2, e4, he1.trans (EmpE.of e5), ⟨e6, .inr (.inr ⟨ad, us, rfl, g1, g2, cur, e, g3, by rw [g4, valCs_eq, valCs_eq, e3]⟩), ?_⟩, fun b hb' => ?_⟩
    · simp only [blkX]
      refine ((hb1.sub (List.sublist_append_left _ _)).emp e5).append e7 (fun b hb2 hb3 => ?_)
      rcases e8 b hb3 with h' | ⟨k, h'⟩
      · exact (List.nodup_append.1 hb1.nd).2.2 b hb2 b h' rfl
      · exact (hb1.sub (List.sublist_append_left _ _)).sep k b hb2 h'
    · rcases List.mem_append.1 hb' with hb' | hb'
      · exact .inl (List.mem_append_left _ hb')
      · rcases e8 b hb' with g | ⟨k, g⟩
        · exact .inl (List.mem_append_right _ g)
        · exact .inr ⟨k, he1.blk k b g⟩
  have c_case : ∀ {c : CV} {d : CU} {Sd : SU}, x = .c c → finC (erC c) (V.erS S) = some (d, Sd) → ∃ (yG : XV) (S2 : SV), erX yG = .c d ∧ V.erS S2 = Sd ∧ valX yG = valX x ∧ Rel isv w0 E0 P R ea w S2 tmps ∧ EmpE ea S S2 ∧ Res isv w0 E0 P R ea w S2 yG ∧ ∀ b ∈ blkX yG, b ∈ blkX x ∨ ∃ r, b ∈ blkR S ea r := by
    rintro c d Sd rfl hq1
    simp only [okX] at hok
    simp only [blkX] at hb
    obtain ⟨cG, S2, e1, e2, e3, e4, e5, e6, e7, e8⟩ := finC_ok h Emp.refl hok hb hq1
    exact ⟨.c cG, S2, by simp only [erX, mapX]; rw [← e1], e2, by simp only [valX, e3], e4, EmpE.of e5, ⟨by simpa [cellsX'] using e6, .inl ⟨cG, rfl⟩, by simpa only [blkX] using e7⟩, by simpa only [blkX] using e8⟩
  cases x with
  | c c =>
    simp only [erX, mapX] at hq
    unfold finX at hq
    split at hq
    · rename_i _ k heq
      simp only [X.c.injEq] at heq
      obtain ⟨v, rfl⟩ := er_ptr (show erC c = .ptr _ (.sl k) [] 0 from heq)
      have hk : kill (.sl k) [] (V.erS S) = V.erS (kill (.sl k) [] S) := kill_map er0 S (.sl k) []
      rw [hk] at hq
      have h1 := h.kill (.sl k) []
      have hnm := noMen_kill (S := S) k
      have h2 := h1.clear hnm
      split at hq
      · rename_i _ cs heq2
        obtain ⟨v2, ds, hs, hds⟩ : ∃ v2 ds, (kill (.sl k) [] S).s k = .box v2 ds ∧ ds.map erC = cs := by
          have h0 : erX ((kill (.sl k) [] S).s k) = .box _ cs := heq2
          cases hx : (kill (.sl k) [] S).s k <;> rw [hx] at h0 <;> simp [erX, mapX, mapCs_eq] at h0
          exact ⟨_, _, rfl, h0⟩
        subst hds
        cases hf : finCs (ds.map erC) { V.erS (kill (.sl k) [] S) with s := upd (V.erS (kill (.sl k) [] S)).s k .undef } with
        | none => rw [hf] at hq; simp at hq
        | some q =>
          obtain ⟨es, Se⟩ := q
          rw [hf] at hq
          simp only [Option.map_some, Option.some.injEq, Prod.mk.injEq] at hq
          obtain ⟨rfl, rfl⟩ := hq
          have hst : ({ V.erS (kill (.sl k) [] S) with s := upd (V.erS (kill (.sl k) [] S)).s k .undef } : SU) = V.erS { kill (.sl k) [] S with s := upd (kill (.sl k) [] S).s k .undef } := by
            simp only [V.erS, mapS]
            congr 1
            funext i
            by_cases e : i = k <;> simp [upd, e, mapX]
          rw [hst] at hf
          have hokb := h1.okS k
          rw [hs] at hokb
          simp only [okX] at hokb
          obtain ⟨hokc, ad, rfl, hbox⟩ := hokb
          have hnr : ∀ c ∈ ds, Root.sl k ∉ refsC c := by
            intro c hc hr
            refine hnm.s k ?_
            rw [hs]; simp only [refsX, refsCs_eq, List.mem_flatMap]; exact ⟨c, hc, hr⟩
          have hokd : okCs w P R { kill (.sl k) [] S with s := upd (kill (.sl k) [] S).s k .undef } ea ds :=
            okCs_iff.2 fun c hc => okC_same (fun _ _ _ => rfl) (fun _ _ => rfl) (okCs_iff.1 hokc c hc) (fun _ _ => rfl) (fun r hr => roots_upd (fun e => hnr c hc (e ▸ hr)))
          have hbk : Bk w0 E0 R ea w { kill (.sl k) [] S with s := upd (kill (.sl k) [] S).s k .undef } (hdr (.pointer (some ad)) ++ blkCs ds) := by
            have hB : blkR (kill (.sl k) [] S) ea (.sl k) = hdr (.pointer (some ad)) ++ blkCs ds := by simp only [blkR, hs, blkX]
            refine ⟨by rw [← hB]; exact h1.nd _, fun r b hb1 hb2 => ?_, fun b hb1 => h1.lt (.sl k) b (by rw [hB]; exact hb1), fun b hb1 => h1.own (.sl k) b (by rw [hB]; exact hb1), fun b hb1 => h1.notR (.sl k) b (by rw [hB]; exact hb1)⟩
            by_cases e : r = .sl k
            · subst e; simp [blkR, upd, blkX] at hb2
            · rw [blkR_upd e] at hb2
              exact e (h1.dis r (.sl k) b hb2 (by rw [hB]; exact hb1))
          have hemp : EmpE ea S { kill (.sl k) [] S with s := upd (kill (.sl k) [] S).s k .undef } := by
            have hne : ∀ {c : CV}, (∀ r ∈ refsC c, isEx r = true) → Root.sl k ∉ refsC c := fun hr hm => by have := hr _ hm; simp [isEx] at this
            refine ⟨fun w' P' R' c hr hc _ => ?_, fun c hr ha => ?_, fun r b hb' => ?_⟩
            · have g := okC_kill (.sl k) [] hc
              rw [killC_id (hne hr)] at g
              exact okC_same (fun _ _ _ => rfl) (fun _ _ => rfl) g (fun _ _ => rfl) (fun r hr' => roots_upd (fun e => hne hr (e ▸ hr')))
            · exact alive_ex hr ha
            · by_cases e : r = .sl k
              · subst e; simp [blkR, upd, blkX] at hb'
              · rw [blkR_upd e, blkR_kill] at hb'; exact hb'
          obtain ⟨us, S2, e1, e2, e4, e5, e6, e7⟩ := box_case h2 hemp hokd ⟨ad, rfl, hbox⟩ hbk hf
          -- the pointer is the box's own address
          have hv : v = .pointer (some ad) := by
            simp only [okX, okC, PtrOk] at hok
            obtain ⟨ad', had, rfl⟩ := hok
            simp only [placeAd, if_true] at had
            have hra : rootAd (kill (.sl k) [] S) ea (.sl k) = some ad := by simp only [rootAd, hs]
            rw [rootAd_kill] at hra
            rw [hra] at had
            simp only [Option.some.injEq] at had
            subst had
            obtain ⟨g1, g2, _⟩ := hbox
            cases ad with
            | mk blk off spot => simp only at g1 g2; subst g1; subst g2; rfl
          subst hv
          refine ⟨.box (.pointer (some ad)) us, S2, by simp only [erX, mapX, mapCs_eq]; rw [← e1], e2, rfl, e4, e5, e6, fun b hb' => ?_⟩
          rcases e7 b (by simpa only [blkX] using hb') with g | g
          · right
            refine ⟨.sl k, ?_⟩
            have : b ∈ blkR (kill (.sl k) [] S) ea (.sl k) := by simp only [blkR, hs, blkX]; exact g
            rwa [blkR_kill] at this
          · exact .inr g
      · cases hq
    · rename_i x' _ heq
      simp only [X.c.injEq] at heq
      subst heq
      cases hf : finC (mapC er0 c) (V.erS S) with
      | none => rw [hf] at hq; simp at hq
      | some q =>
        obtain ⟨d, Sd⟩ := q
        rw [hf] at hq
        simp only [Option.map_some, Option.some.injEq, Prod.mk.injEq] at hq
        obtain ⟨rfl, rfl⟩ := hq
        exact c_case rfl hf
    all_goals (first | cases hq | (rename_i heq; cases heq))
  | agg cs =>
    simp only [erX, mapX, mapCs_eq, finX] at hq
    cases hf : finCs (cs.map (mapC er0)) (V.erS S) with
    | none => rw [hf] at hq; simp at hq
    | some q =>
      obtain ⟨ds, Sd⟩ := q
      rw [hf] at hq
      simp only [Option.map_some, Option.some.injEq, Prod.mk.injEq] at hq
      obtain ⟨rfl, rfl⟩ := hq
      simp only [okX] at hok
      simp only [blkX] at hb
      obtain ⟨us, S2, e1, e2, e3, e4, e5, e6, e7, e8⟩ := finCs_ok h Emp.refl hok hb hf
      exact ⟨.agg us, S2, by simp only [erX, mapX, mapCs_eq]; rw [← e1], e2, by simp only [valX, valCs_eq, e3], e4, EmpE.of e5, ⟨e6, .inr (.inl ⟨us, rfl⟩), by simpa only [blkX] using e7⟩, by simpa only [blkX] using e8⟩
  | box v cs =>
    simp only [erX, mapX, mapCs_eq, finX] at hq
    cases hf : finCs (cs.map (mapC er0)) (V.erS S) with
    | none => rw [hf] at hq; simp at hq
    | some q =>
      obtain ⟨ds, Sd⟩ := q
      rw [hf] at hq
      simp only [Option.map_some, Option.some.injEq, Prod.mk.injEq] at hq
      obtain ⟨rfl, rfl⟩ := hq
      simp only [okX] at hok
      simp only [blkX] at hb
      obtain ⟨us, S2, e1, e2, e4, e5, e6, e7⟩ := box_case h EmpE.refl hok.1 hok.2 hb hf
      exact ⟨.box v us, S2, by simp only [erX, mapX, mapCs_eq, er0]; rw [← e1], e2, rfl, e4, e5, e6, by simpa only [blkX] using e7⟩
  | tup xs => simp [erX, mapX, finX] at hq
  | undef => simp [erX, mapX, finX] at hq
end
end Go.Proofs.Ytlkjnlfddadlmaa.V

namespace Go.Proofs.Ytlkjnlfddadlmaa.V
open Go.RowKit

section
variable {cx : Ctx} {f : Nat} {w0 : World} {E0 : Nat → Prop} {P : Nat → Nat → Prop} {R : Nat → Prop} {ea : List EA} {w w' : World} {a : Act} {call : Callee} {Pr : Program} {S S0 S1 S2 S3 : SV} {tmps : Array Value}

def resOne (tmps : Array Value) : ResultVar → Sem Value
  | .tmp t => pure (tmps.getD t undef)
  | .cell a t => do loadVar t (← asAddr (tmps.getD a undef))

mutual
theorem alive_clr {o : Operand} : ∀ {c : CV}, (∀ r ∈ refsC c, isEx r = true) → alive (V.clr cx f S o) c = alive S c
  | .t x, _ => by simp [alive]
  | .rptr v cs, _ => by simp [alive]
  | .nilp, _ => by simp [alive]
  | .nilf, _ => by simp [alive]
  | .ptr v r p off, hr => by
    cases r with
    | sl d => have := hr (.sl d) (by simp [refsC]); simp [isEx] at this
    | ex j =>
      have e : (V.clr cx f S o).e = S.e := by cases o <;> simp only [V.clr]; split <;> (try split) <;> rfl
      simp only [alive, at_, rootCells, e]
  | .bor v r p i off sz n, hr => by
    cases r with
    | sl d => have := hr (.sl d) (by simp [refsC]); simp [isEx] at this
    | ex j =>
      have e : (V.clr cx f S o).e = S.e := by cases o <;> simp only [V.clr]; split <;> (try split) <;> rfl
      simp only [alive, at_, rootCells, e]
  | .fn g caps, hr => by simp only [alive, refsC] at hr ⊢; exact alives_clr hr
  | .lst v sz n cs, hr => by simp only [alive, refsC] at hr ⊢; exact alives_clr hr
theorem alives_clr {o : Operand} : ∀ {cs : List CV}, (∀ r ∈ refsCs cs, isEx r = true) → alives (V.clr cx f S o) cs = alives S cs
  | [], _ => by simp [alives]
  | c :: cs, hr => by
    simp only [alives, refsCs, List.mem_append] at hr ⊢
    rw [alive_clr (fun r h => hr r (.inl h)), alives_clr (fun r h => hr r (.inr h))]
end

theorem resV_ok (hty : TyOk Pr cx.ty) (h : Rel (isVar cx f) w0 E0 P R ea w S tmps) {r : ResultVar} {x : XU} {Su : SU} (hq : resV cx f (V.erS S) r = some (x, Su)) :
    ∃ (xG : XV) (S2 : SV), erX xG = x ∧ V.erS S2 = Su ∧ Rel (isVar cx f) w0 E0 P R ea w S2 tmps ∧ EmpE ea S S2 ∧ New (isVar cx f) w0 E0 P R ea w S2 xG ∧ (∀ b ∈ blkX xG, ∃ k, b ∈ blkR S ea k) ∧ (resOne tmps r).run Pr w = .ok (valX xG) w := by
  cases r with
  | tmp t =>
    simp only [resV] at hq
    cases hx : opv cx f (V.erS S) 0 (.tmp t) with
    | none => rw [hx] at hq; simp at hq
    | some y =>
      rw [hx] at hq
      simp only [Option.map_some, Option.some.injEq, Prod.mk.injEq] at hq
      obtain ⟨rfl, rfl⟩ := hq
      obtain ⟨xG, hxG⟩ := h.opv (a := { tmps := tmps, defers := [] }) rfl hx
      refine ⟨xG, V.clr cx f S (.tmp t), hxG.er, clr_map _, h.clr _, ?_, hxG.new, hxG.src, ?_⟩
      · have hne : ∀ {c : CV}, (∀ r ∈ refsC c, isEx r = true) → ∀ d, Root.sl d ∉ refsC c := fun hr d hm => by have := hr _ hm; simp [isEx] at this
        refine ⟨fun w' P' R' c hr hc _ => okC_clr hc (fun d hd => absurd hd (hne hr d)), fun c hr ha => ?_, fun k b hb => ?_⟩
        · rw [alive_clr hr] at ha; exact ha
        · simp only [V.clr] at hb
          split at hb
          · exact hb
          · split at hb
            · by_cases e : k = .sl t
              · subst e; simp [blkR, upd, blkX] at hb
              · rwa [blkR_upd e] at hb
            · exact hb
      · have := hxG.val
        simp only [Act.eval] at this
        simp [resOne, this]
  | cell b t =>
    simp only [resV] at hq
    split at hq
    · rename_i _ r p off hx
      split at hq
      · rename_i hok
        obtain ⟨aG, haG, hav, haok, har⟩ := opv_c h (a := { tmps := tmps, defers := [] }) rfl hx
        obtain ⟨v, rfl⟩ := er_ptr haG
        simp only [okC, PtrOk] at haok
        obtain ⟨ad, had, rfl⟩ := haok
        rw [show V.erS S = mapS er0 S from rfl, loadN_map] at hq
        cases hl : loadN S r p off (cx.ty t).sz with
        | none => simp [hl] at hq
        | some cs =>
          simp only [hl, Option.map_some, Option.bind_some] at hq
          cases hm : mkX cx t (cs.map erC) with
          | none => simp [hm] at hq
          | some x' =>
            simp only [hm, Option.map_some, Option.some.injEq, Prod.mk.injEq] at hq
            obtain ⟨rfl, rfl⟩ := hq
            obtain ⟨l1, l2, l3, l4, l5⟩ := loadN_ok h (fun d' e' => har d' (by simp [refsC, e'])) hl
            obtain ⟨xG, hx1, hx2⟩ := mkX_ok hm
            have hxp : okX w P R S ea xG ∧ blkX xG = [] ∧ refsX xG = refsCs cs := by
              rcases hx2 with ⟨_, _, rfl⟩ | ⟨_, c, rfl, rfl⟩
              · exact ⟨by simpa [okX] using l2, by simpa [blkX] using l3, by simp [refsX]⟩
              · exact ⟨by simpa [okX] using l2.1, by simpa [blkX, blkCs] using l3, by simp [refsX, refsCs]⟩
            obtain ⟨p1, p2, p3⟩ := hxp
            refine ⟨xG, S, hx1, rfl, h, EmpE.refl, ⟨p1, fun d' hd' => l4 d' (p3 ▸ hd'), by rw [p2]; exact List.nodup_nil, fun r b hb => by rw [p2] at hb; simp at hb, fun b hb => by rw [p2] at hb; simp at hb, fun b hb => by rw [p2] at hb; simp at hb, fun b hb => by rw [p2] at hb; simp at hb⟩, fun b hb => by rw [p2] at hb; simp at hb, ?_⟩
            have hav' : tmps.getD b undef = .pointer (some ⟨ad.block, ad.off + off, none⟩) := by simpa [Act.eval, valC] using hav
            have hr := run_load_cells (Pr := Pr) (w := w) hty hok l1 (fun j c hj => l5 ad had j c hj) hx2
            simp only [Instr.loadAt, Instr.sureAddr, Sem.run_bind, Sem.run_pure, Result.andThen_ok] at hr
            simp only [resOne, hav', asAddr, Sem.run_bind, Sem.run_pure, Result.andThen_ok]
            exact hr
      · cases hq
    · cases hq

theorem resVs_ok (hty : TyOk Pr cx.ty) : ∀ {rs : List ResultVar} {S : SV} {xs : List XU} {Su : SU}, Rel (isVar cx f) w0 E0 P R ea w S tmps → resVs cx f (V.erS S) rs = some (xs, Su) →
    ∃ (ys : List XV) (S2 : SV), ys.map erX = xs ∧ V.erS S2 = Su ∧ Rel (isVar cx f) w0 E0 P R ea w S2 tmps ∧ EmpE ea S S2 ∧ (∀ y ∈ ys, Res (isVar cx f) w0 E0 P R ea w S2 y) ∧ Bk w0 E0 R ea w S2 (blkXs ys) ∧ (∀ b ∈ blkXs ys, ∃ k, b ∈ blkR S ea k) ∧
      (rs.mapM (resOne tmps)).run Pr w = .ok (ys.map valX) w
  | [], S, xs, Su, h, hq => by
    simp only [resVs, Option.some.injEq, Prod.mk.injEq] at hq
    obtain ⟨rfl, rfl⟩ := hq
    exact ⟨[], S, rfl, rfl, h, EmpE.refl, by simp, ⟨by simp [blkXs], by simp [blkXs], by simp [blkXs], by simp [blkXs], by simp [blkXs]⟩, by simp [blkXs], rfl⟩
  | r :: rs, S, xs, Su, h, hq => by
    simp only [resVs] at hq
    cases h1 : resV cx f (V.erS S) r with
    | none => rw [h1] at hq; simp at hq
    | some q =>
      obtain ⟨x, Sx⟩ := q
      rw [h1] at hq
      simp only [Option.bind_some] at hq
      obtain ⟨xG, S1, rfl, rfl, a3, a4, a5, a6, a7⟩ := resV_ok hty h h1
      cases h2 : finX (erX xG) (V.erS S1) with
      | none => rw [h2] at hq; simp at hq
      | some q =>
        obtain ⟨y, Sy⟩ := q
        rw [h2] at hq
        simp only [Option.bind_some] at hq
        obtain ⟨yG, S2, rfl, rfl, b3, b4, b5, b6, b7⟩ := finX_ok a3 a5 h2
        cases h3 : resVs cx f (V.erS S2) rs with
        | none => rw [h3] at hq; simp at hq
        | some q =>
          obtain ⟨zs, Sz⟩ := q
          rw [h3] at hq
          simp only [Option.map_some, Option.some.injEq, Prod.mk.injEq] at hq
          obtain ⟨rfl, rfl⟩ := hq
          obtain ⟨ys, S3, rfl, rfl, c3, c4, c5, c6, c7, c8⟩ := resVs_ok hty b4 h3
          refine ⟨yG :: ys, S3, rfl, rfl, c3, a4.trans (b5.trans c4), ?_, ?_, ?_, ?_⟩
          · intro z hz
            rcases List.mem_cons.1 hz with rfl | hz
            · exact ⟨fun c hc => (b6.good c hc).emp c4, b6.kind, c4.bk b6.bk⟩
            · exact c5 z hz
          · simp only [blkXs]
            refine (c4.bk b6.bk).append c6 (fun b hb1 hb2 => ?_)
            obtain ⟨k, hk⟩ := c7 b hb2
            exact b6.bk.sep k b hb1 hk
          · intro b hb
            simp only [blkXs, List.mem_append] at hb
            rcases hb with hb | hb
            · rcases b7 b hb with g | ⟨k, g⟩
              · exact a6 b g
              · exact ⟨k, a4.blk k b g⟩
            · obtain ⟨k, g⟩ := c7 b hb
              exact ⟨k, a4.blk k b (b5.blk k b g)⟩
          · simp only [List.mapM_cons, Sem.run_bind, a7, Result.andThen_ok, c8, Sem.run_pure, List.map_cons, b3]
end
end Go.Proofs.Ytlkjnlfddadlmaa.V

namespace Go.Proofs.Ytlkjnlfddadlmaa.V
open Go.RowKit

section
variable {cx : Ctx} {f : Nat} {w0 : World} {E0 : Nat → Prop} {P : Nat → Nat → Prop} {R : Nat → Prop} {ea : List EA} {w w' : World} {a : Act} {call : Callee} {Pr : Program} {S S0 S1 S2 S3 : SV} {tmps : Array Value}

theorem results_list (fn : Func) (tmps : Array Value) (w : World) {vs : List Value} (h : (fn.results.toList.mapM (resOne tmps)).run Pr w = .ok vs w) : (results fn tmps).run Pr w = .ok (if _ : vs.length = 1 then vs[0] else .tuple vs.toArray) w := by
  have e : results fn tmps = (do
      let vs ← fn.results.mapM (resOne tmps)
      pure (if h : vs.size = 1 then vs[0] else .tuple vs)) := by
    unfold results
    congr 1
  rw [e, Array.mapM_eq_mapM_toList]
  simp only [Sem.run_bind, map_eq_pure_bind, h, Result.andThen_ok, Sem.run_pure]
  simp

theorem pack_val {ys : List XV} : (if _ : (ys.map valX).length = 1 then (ys.map valX)[0] else .tuple (ys.map valX).toArray) = valX (match ys with | [y] => y | ys => .tup ys) := by
  cases ys with
  | nil => simp [valX, valXs]
  | cons y ys => cases ys with
    | nil => simp
    | cons z zs => simp [valX, valXs, valXs_eq]

def packG : List XV → XV
  | [y] => y
  | ys => .tup ys

theorem packG_er (ys : List XV) : erX (packG ys) = packX (ys.map erX) := by
  cases ys with
  | nil => simp [packG, packX, erX, mapX, mapXs]
  | cons y ys => cases ys with
    | nil => simp [packG, packX]
    | cons z zs => simp [packG, packX, erX, mapX, mapXs_eq]

theorem packG_val (ys : List XV) : (if _ : (ys.map valX).length = 1 then (ys.map valX)[0] else .tuple (ys.map valX).toArray) = valX (packG ys) := by
  cases ys with
  | nil => simp [packG, valX, valXs]
  | cons y ys => cases ys with
    | nil => simp [packG]
    | cons z zs => simp [packG, valX, valXs, valXs_eq]

theorem packG_blk (ys : List XV) : blkX (packG ys) = blkXs ys := by
  cases ys with
  | nil => simp [packG, blkX]
  | cons y ys => cases ys with
    | nil => simp [packG, blkXs]
    | cons z zs => simp [packG, blkX]

theorem packG_refs (ys : List XV) : refsX (packG ys) = refsXs ys := by
  cases ys with
  | nil => simp [packG, refsX]
  | cons y ys => cases ys with
    | nil => simp [packG, refsXs]
    | cons z zs => simp [packG, refsX]

theorem packG_ok {ys : List XV} (h : ∀ y ∈ ys, okX w P R S ea y) : okX w P R S ea (packG ys) := by
  cases ys with
  | nil => simp [packG, okX, okXs]
  | cons y ys => cases ys with
    | nil => exact h y (by simp)
    | cons z zs => simp only [packG, okX]; exact okXs_iff.2 h

theorem Res.ex {isv : Nat → Bool} {y : XV} (h : Res isv w0 E0 P R ea w S y) : ∀ r ∈ refsX y, isEx r = true := by
  intro r hr
  have key : ∀ cs : List CV, (∀ c ∈ cs, Good w P R ea S c) → r ∈ refsCs cs → isEx r = true := by
    intro cs hc hr
    rw [refsCs_eq, List.mem_flatMap] at hr
    obtain ⟨c, hc', hr⟩ := hr
    exact (hc c hc').1 r hr
  rcases h.kind with ⟨c, rfl⟩ | ⟨cs, rfl⟩ | ⟨ad, cs, rfl, _⟩
  · exact (h.good c (by simp [cellsX'])).1 r (by simpa [refsX] using hr)
  · exact key cs h.good (by simpa [refsX] using hr)
  · exact key cs h.good (by simpa [refsX] using hr)

theorem Res.ok {isv : Nat → Bool} {y : XV} (h : Res isv w0 E0 P R ea w S y) (ha : aliveX (V.erS S) (erX y) = true) : okX w P R S ea y := by
  have key : ∀ cs : List CV, (∀ c ∈ cs, Good w P R ea S c) → alives (V.erS S) (cs.map erC) = true → okCs w P R S ea cs := by
    intro cs hc ha
    have ha' : alives S cs = true := by
      have h0 := alives_map er0 S cs
      rw [mapCs_eq] at h0
      rw [← h0]; exact ha
    exact okCs_iff.2 fun c hc' => (hc c hc').2 S EmpE.refl (alives_iff.1 ha' c hc')
  rcases h.kind with ⟨c, rfl⟩ | ⟨cs, rfl⟩ | ⟨ad, cs, rfl, hb⟩
  · simp only [erX, mapX, aliveX] at ha
    have ha' : alive S c = true := by rw [← alive_map er0 S c]; exact ha
    simp only [okX]
    exact (h.good c (by simp [cellsX'])).2 S EmpE.refl ha'
  · simp only [erX, mapX, mapCs_eq, aliveX] at ha
    simp only [okX]; exact key cs h.good ha
  · simp only [erX, mapX, mapCs_eq, aliveX] at ha
    simp only [okX]; exact ⟨key cs h.good ha, ad, rfl, hb⟩

/-- What a walk begins in. -/
theorem In.at {n : Nat} {args : List XV} {ext : List (List CV)} (h : In w E0 P R ea args ext) (hn : args.length ≤ n) :
    At cx f w E0 P R ea n (V.erS ⟨slots0 args, ext⟩) { tmps := (args.map valX).toArray ++ Array.replicate (n - (args.map valX).toArray.size) undef, defers := [] } w := by
  refine ⟨⟨slots0 args, ext⟩, ?_, rfl, rfl, by simp; omega⟩
  constructor
  case val =>
    intro d hd
    rcases Nat.lt_or_ge d args.length with h' | h'
    · rcases h.val d (by simpa using h') with e | e
      · exact .inl e
      · right; rw [Array.getElem?_append_left (by simpa using h')]; exact e
    · exact .inl (h.hi d (by simpa using h'))
  case hi => exact fun d hd => h.hi d (by simp at hd ⊢; omega)
  case okS => exact h.okS
  case okE => exact h.okE
  case eaL => exact h.eaL
  case row => exact h.row
  case refS => intro d d' hd; have := h.refS d d' hd; cases this
  case refE => intro j cs d' hj hd; have := h.refE j cs d' hj hd; cases this
  case dis => exact h.dis
  case nd => exact h.nd
  case lt => exact h.lt
  case own => exact h.own
  case notR => exact h.notR
  case PR => exact h.PR
  case ltR => exact h.ltR
  case frm => exact h.frm

theorem slots0_map (args : List XV) : (V.erS ⟨slots0 args, []⟩ : SU).s = slots0 (args.map erX) := by
  funext i
  simp only [V.erS, mapS, slots0, List.getD_eq_getElem?_getD, List.getElem?_map]
  cases args[i]? <;> rfl

theorem erS_start (args : List XV) (ext : List (List CV)) : (V.erS ⟨slots0 args, ext⟩ : SU) = ⟨slots0 (args.map erX), ext.map (·.map erC)⟩ := by
  have := slots0_map args
  simp only [V.erS, mapS] at this ⊢
  rw [this]
  congr 1
  exact List.map_congr_left fun cs _ => mapCs_eq er0 cs

/-- What a call leaves. -/
theorem out_of {isv : Nat → Bool} (h : Rel isv w0 E0 P R ea w S tmps) {ys : List XV} (hres : ∀ y ∈ ys, Res isv w0 E0 P R ea w S y) (hbk : Bk w0 E0 R ea w S (blkXs ys)) (hal : ∀ y ∈ ys, aliveX (V.erS S) (erX y) = true) (hex : ∀ (j : Nat) cs, S.e[j]? = some cs → ∀ r ∈ refsCs cs, isEx r = true) :
    Out w0 E0 P R ea w (packG ys) S.e := by
  have hT : ∀ r, isEx r = true → rootCells (⟨upd (fun _ => .undef) 0 (packG ys), S.e⟩ : SV) r = rootCells S r ∧ rootAd (⟨upd (fun _ => .undef) 0 (packG ys), S.e⟩ : SV) ea r = rootAd S ea r := by
    intro r hr
    cases r with
    | sl d => simp [isEx] at hr
    | ex j => exact ⟨rfl, rfl⟩
  have hrx : ∀ r ∈ refsX (packG ys), isEx r = true := by
    intro r hr
    rw [packG_refs, refsXs_eq, List.mem_flatMap] at hr
    obtain ⟨y, hy, hr⟩ := hr
    exact (hres y hy).ex r hr
  have hb0 : ∀ r b, b ∈ blkR (⟨upd (fun _ => .undef) 0 (packG ys), S.e⟩ : SV) ea r → (r = .sl 0 ∧ b ∈ blkXs ys) ∨ (isEx r = true ∧ b ∈ blkR S ea r) := by
    intro r b hb
    cases r with
    | sl d =>
      by_cases e : d = 0
      · subst e; left; simp only [blkR, upd, if_true, packG_blk] at hb; exact ⟨rfl, hb⟩
      · simp [blkR, upd, e, blkX] at hb
    | ex j => right; exact ⟨rfl, hb⟩
  constructor
  case val =>
    intro d hd
    have : d = 0 := by simp at hd; exact hd
    subst this
    right; simp [upd]
  case hi =>
    intro d hd
    have : d ≠ 0 := by simp at hd; omega
    simp [upd, this]
  case okS =>
    intro d
    by_cases e : d = 0
    · subst e
      simp only [upd, if_true]
      refine okX_same (fun _ _ _ => rfl) (fun _ _ => rfl) (packG_ok (fun y hy => (hres y hy).ok (hal y hy))) (fun _ _ => rfl) (fun r hr => hT r (hrx r hr))
    · simp [upd, e, okX]
  case okE =>
    intro j cs hj
    exact ⟨okCs_same (fun _ _ _ => rfl) (fun _ _ => rfl) (h.okE j cs hj).1 (fun _ _ => rfl) (fun r hr => hT r (hex j cs hj r hr)), (h.okE j cs hj).2⟩
  case eaL => exact h.eaL
  case row => exact h.row
  case refS =>
    intro d d' hd
    by_cases e : d = 0
    · subst e
      simp only [upd, if_true] at hd
      have := hrx _ hd; simp [isEx] at this
    · simp [upd, e, refsX] at hd
  case refE => intro j cs d' hj hd; have := hex j cs hj _ hd; simp [isEx] at this
  case dis =>
    intro r r' b hb hb'
    rcases hb0 r b hb with ⟨rfl, h1⟩ | ⟨h1, h2⟩ <;> rcases hb0 r' b hb' with ⟨rfl, h3⟩ | ⟨h3, h4⟩
    · rfl
    · exact absurd h4 (hbk.sep r' b h1)
    · exact absurd h2 (hbk.sep r b h3)
    · exact h.dis r r' b h2 h4
  case nd =>
    intro r
    cases r with
    | sl d =>
      by_cases e : d = 0
      · subst e; simp only [blkR, upd, if_true, packG_blk]; exact hbk.nd
      · simp [blkR, upd, e, blkX]
    | ex j => exact h.nd (.ex j)
  case lt => exact fun r b hb => (hb0 r b hb).elim (fun g => hbk.lt b g.2) (fun g => h.lt r b g.2)
  case own => exact fun r b hb => (hb0 r b hb).elim (fun g => hbk.own b g.2) (fun g => h.own r b g.2)
  case notR => exact fun r b hb => (hb0 r b hb).elim (fun g => hbk.notR b g.2) (fun g => h.notR r b g.2)
  case PR => exact h.PR
  case ltR => exact h.ltR
  case frm => exact h.frm

/-- A function's body, walked. -/
theorem body_ok {lf : Nat} {fn : Func} {c : Code} (hm : Pr.follows .mixedOrders = true) (hty : TyOk Pr cx.ty) (hf : Pr.funcs[f]? = some fn) (hb : fn.body = some c) (hck : codeCk cx f fn.ntmps c = true)
    {args : List XU} {ext : List (List CU)} {res : XU} {ext' : List (List CU)} (hq : runBody cx f call lf fn c args ext = some (res, ext')) {w : World} {E : Nat → Prop} {P : Nat → Nat → Prop} {R : Nat → Prop} {ea : List EA} {argsG : List XV} {extG : List (List CV)} (hstep : ∀ P R ea, StepOk cx f call Pr w E P R ea fn.ntmps)
    (ha : argsG.map erX = args) (he : extG.map (·.map erC) = ext) (hin : In w E P R ea argsG extG) :
    Calls Pr f (argsG.map valX).toArray w (fun
        | .returned v, w' => ∃ resG extG', erX resG = res ∧ extG'.map (·.map erC) = ext' ∧ v = valX resG ∧ Out w E P R ea w' resG extG'
        | _, _ => False) := by
  subst ha; subst he
  unfold runBody at hq
  split at hq
  · rename_i hlen
    have hat := In.at (cx := cx) (f := f) (n := fn.ntmps) hin (by simpa using hlen)
    rw [erS_start] at hat
    have fin : ∀ {S1 : SU} {ex : Ex}, execC cx f call lf c ⟨slots0 (argsG.map erX), extG.map (·.map erC)⟩ = some (ex, S1) → (ex = .nrm ∨ ex = .ret) → ((resVs cx f S1 fn.results.toList).bind fun r => if r.1.all (aliveX r.2) && r.2.e.all (fun cs => (rootsCs true cs).all isEx) then some (packX r.1, r.2.e) else none) = some (res, ext') →
        Calls Pr f (argsG.map valX).toArray w (fun
        | .returned v, w' => ∃ resG extG', erX resG = res ∧ extG'.map (·.map erC) = ext' ∧ v = valX resG ∧ Out w E P R ea w' resG extG'
        | _, _ => False) := by
      intro S1 ex hex hk hr
      refine calls_of_wp hf hb (exec_ok hm (hstep _ _ _) (pure_step hty) c hck hat hex (fun a' w' hat' => ?_))
      have main : bodyPost Pr fn (fun
        | .returned v, w' => ∃ resG extG', erX resG = res ∧ extG'.map (·.map erC) = ext' ∧ v = valX resG ∧ Out w E P R ea w' resG extG'
        | _, _ => False) .ret a' w' := by
        obtain ⟨S, hrel, rfl, hd, hsz⟩ := hat'
        cases hrs : resVs cx f (V.erS S) fn.results.toList with
        | none => rw [hrs] at hr; simp at hr
        | some q =>
          obtain ⟨xs, Sx⟩ := q
          rw [hrs] at hr
          simp only [Option.bind_some] at hr
          split at hr
          · rename_i hc
            simp only [Bool.and_eq_true, List.all_eq_true] at hc
            simp only [Option.some.injEq, Prod.mk.injEq] at hr
            obtain ⟨rfl, rfl⟩ := hr
            obtain ⟨ys, S2, rfl, rfl, c3, c4, c5, c6, c7, c8⟩ := resVs_ok (Pr := Pr) hty hrel hrs
            refine ⟨hd, _, results_list fn a'.tmps w' c8, packG ys, S2.e, packG_er ys, (List.map_congr_left fun cs _ => (mapCs_eq er0 cs).symm), packG_val ys, ?_⟩
            refine out_of c3 c5 c6 (fun y hy => hc.1 _ (List.mem_map_of_mem hy)) (fun j cs hj => ?_)
            have hm' : (cs.map erC) ∈ (V.erS S2).e := by
              simp only [V.erS, mapS]
              exact List.mem_map.2 ⟨cs, List.mem_of_getElem? hj, mapCs_eq er0 cs⟩
            have := hc.2 _ hm'
            exact isEx_refs.1 (List.all_eq_true.2 this)
          · cases hr
      rcases hk with rfl | rfl
      · exact main
      · exact main
    split at hq
    · rename_i S1 h1; exact fin h1 (.inl rfl) hq
    · rename_i S1 h1; exact fin h1 (.inr rfl) hq
    · cases hq
  · cases hq

/-- What is told of a world is so, and stays so whatever is done to what is one's own. -/
def TabOk (T : World → Prop) (w : World) (E : Nat → Prop) : Prop := ∀ w', Frm E w w' → T w'

theorem TabOk.on {T : World → Prop} {w0 w : World} {E0 E : Nat → Prop} (h : TabOk T w0 E0) (hf : Frm E0 w0 w) (hE : ∀ b, E b → E0 b ∨ w0.heap.size ≤ b) : TabOk T w E :=
  fun w' h' => h w' (hf.trans (h'.mono hE))

/-- What is told of a program is so. -/
structure CtxOk (Pr : Program) (cx : Ctx) (T : World → Prop) : Prop where
  mixed : Pr.follows .mixedOrders = true
  ty : TyOk Pr cx.ty
  name : ∀ g fn, cx.good g = true → Pr.funcs[g]? = some fn → (fn.name == "runtime.NumGoroutine") = false
  code : ∀ g fn c, cx.good g = true → Pr.funcs[g]? = some fn → fn.body = some c → codeCk cx g fn.ntmps c = true
  orc : ∀ g h args x, cx.orc g = some h → h args = some x → Enters Pr g ∧
    ∀ (w : World) (E : Nat → Prop) (P : Nat → Nat → Prop) (R : Nat → Prop) (ea : List EA) (argsG : List XV), TabOk T w E → argsG.map erX = args → In w E P R ea argsG [] →
      Calls Pr g (argsG.map valX).toArray w (fun
        | .returned v, w' => ∃ resG, erX resG = x ∧ v = valX resG ∧ Out w E P R ea w' resG []
        | _, _ => False)
  step : ∀ call w0 E0, CallOk Pr call w0 E0 → ∀ g n P R ea, StepOk cx g call Pr w0 E0 P R ea n

theorem enters_of {fn : Func} {g : Nat} {c : Code} (hf : Pr.funcs[g]? = some fn) (hb : fn.body = some c) (hn : (fn.name == "runtime.NumGoroutine") = false) : Enters Pr g := by
  intro args w
  simp only [beq_eq_false_iff_ne, ne_eq] at hn
  simp [callFunc, hf, hb, hn]

theorem run_ok {T : World → Prop} (hcx : CtxOk Pr cx T) : ∀ k w0 E0, TabOk T w0 E0 → CallOk Pr (run Pr cx k) w0 E0
  | 0, w0, E0, hT => by intro g args ext res ext' h; simp [run] at h
  | k + 1, w0, E0, hT => by
    have ih := run_ok hcx k
    intro g args ext res ext' h
    simp only [run] at h
    split at h
    · rename_i hh ho
      split at h
      · cases hx : hh args with
        | none => simp [hx] at h
        | some x =>
          simp only [hx, Option.map_some, Option.some.injEq, Prod.mk.injEq] at h
          obtain ⟨rfl, rfl⟩ := h
          obtain ⟨h1, h2⟩ := hcx.orc g hh args x ho hx
          refine ⟨h1, fun w E P R ea argsG extG hf1 hf2 ha he hin => ?_⟩
          have : extG = [] := by simpa using he
          subst this
          refine (h2 w E P R ea argsG (hT.on hf1 hf2) ha hin).mono fun e w' he' => ?_
          cases e with
          | returned v => obtain ⟨resG, g1, g2, g3⟩ := he'; exact ⟨resG, [], g1, rfl, g2, g3⟩
          | panicked _ => exact he'
          | outgrown => exact he'
      · cases h
    · split at h
      · rename_i fn hf
        split at h
        · rename_i c hb
          split at h
          · rename_i hg
            exact ⟨enters_of hf hb (hcx.name g fn hg hf), fun w E P R ea argsG extG hf1 hf2 ha he hin => body_ok hcx.mixed hcx.ty hf hb (hcx.code g fn c hg hf hb) h (fun P R ea => hcx.step _ w E (ih w E (hT.on hf1 hf2)) g _ P R ea) ha he hin⟩
          · cases h
        · cases h
      · cases h
end
end Go.Proofs.Ytlkjnlfddadlmaa.V

namespace Go.Proofs.Ytlkjnlfddadlmaa.V
open Go.RowKit

section
variable {cx : Ctx} {f : Nat} {w0 : World} {E0 : Nat → Prop} {P : Nat → Nat → Prop} {R : Nat → Prop} {ea : List EA} {w w' : World} {a : Act} {call : Callee} {Pr : Program} {S S0 S1 S2 S3 : SV} {tmps : Array Value}

/-- Cells that lie behind a slice's header. -/
def Behind (w : World) (v : Value) (m : Nat) (vs : List Value) : Prop :=
  ∃ A cap, v = .slice A m cap ∧ (vs = [] ∨ ∃ ad, A = some ad ∧ ad.spot = none ∧ cellsAt w ad.block ad.off vs)

theorem OwnAt.behind {v : Value} {sz n : Nat} {vs : List Value} (h : OwnAt w v sz n vs) (hl : vs.length = n * sz) : Behind w v n vs := by
  rcases h with ⟨rfl, rfl⟩ | ⟨b, o, cur, e, ⟨ad, cap, rfl, h1, h2, rfl, h3⟩, hh, hv⟩
  · exact ⟨none, 0, rfl, .inl (by rw [Nat.zero_mul] at hl; exact List.length_eq_zero_iff.1 hl)⟩
  · refine ⟨some ad, cap, rfl, ?_⟩
    by_cases hn : n = 0
    · left; rw [hn, Nat.zero_mul] at hl; exact List.length_eq_zero_iff.1 hl
    · right
      obtain ⟨rfl, h4⟩ := h3.resolve_left (by omega)
      refine ⟨ad, rfl, h2, fun j v hj => ?_⟩
      simp only [World.cell?, hh, Option.isSome_none, Bool.false_eq_true, if_false]
      exact hv j v hj

theorem ShrAt.behind {Q : Nat → Prop} {v : Value} {sz n : Nat} {vs : List Value} (h : ShrAt w Q v n vs) (hl : vs.length = n * sz) : Behind w v n vs := by
  obtain ⟨A, cap, rfl, _, h⟩ := h
  refine ⟨A, cap, rfl, ?_⟩
  rcases h with rfl | ⟨ad, rfl, h1, _, h2⟩
  · left; rw [Nat.zero_mul] at hl; exact List.length_eq_zero_iff.1 hl
  · exact .inr ⟨ad, rfl, h1, h2⟩

theorem Behind.src {size tx : Nat} {v : Value} {m : Nat} {vs : List Value} (h : Behind w v m vs) (hk : (∃ e', Pr.underlying tx = some (.slice e')) ∨ Pr.underlying tx = some .string) (hl : vs.length = m * size) (h1 : ∀ u ∈ vs, u.oneCell' = true) : Src Pr size tx v m vs w := by
  obtain ⟨A, cap, rfl, h⟩ := h
  have hcell : ∀ w' : World, (∀ b o, w'.cell? ⟨b, o, none⟩ = w.cell? ⟨b, o, none⟩) → (Builtin.firstCells size m (.slice A m cap)).run Pr w' = .ok vs.toArray w' := by
    intro w' hw'
    rcases h with rfl | ⟨ad, rfl, hs, hc⟩
    · cases A with
      | none => exact run_firstCells_none w' size m m cap
      | some ad => exact run_firstCells_some w' size m ad m cap [] (by simpa using hl) (by simp)
    · refine run_firstCells_some w' size m ad m cap vs hl (fun j u hu => ?_)
      have e : ad.add j = ⟨ad.block, ad.off + j, none⟩ := by
        unfold Addr.add
        split
        · cases ad; simp only at hs; subst hs; simp_all
        · rfl
      rw [e, hw']
      exact hc j u hu
  exact ⟨hk, fun _ => rfl, hcell w (fun _ _ => rfl), hcell w.drew (fun _ _ => rfl), hl, h1⟩

theorem okT_one {x : TV} (h : okT w P R x) : (valT x).oneCell' = true := by
  have := oneCell_c (S := (⟨fun _ => .undef, []⟩ : SV)) (ea := []) (c := .t x) (by simpa only [okC] using h)
  simpa only [valC] using this

/-- The head of an append. -/
theorem headV_ok (h : Rel (isVar cx f) w0 E0 P R ea w S tmps) (ha : a.tmps = tmps) {o : Operand} {t : Nat} {zs : List TU} {sz n : Nat} {Su : SU} (hq : headV cx f (V.erS S) o t = some (zs, sz, n, Su)) :
    ∃ (us : List TV) (S2 : SV), us.map erT = zs ∧ V.erS S2 = Su ∧ Rel (isVar cx f) w0 E0 P R ea w S2 tmps ∧ (∀ k b, b ∈ blkR S2 ea k → b ∈ blkR S ea k) ∧ okT w P R (.sl (a.eval o) 0 sz n us) ∧ Bk w0 E0 R ea w S2 (blkT (.sl (a.eval o) 0 sz n us)) ∧
      (∀ b ∈ blkT (.sl (a.eval o) 0 sz n us), ∃ k, b ∈ blkR S ea k) := by
  unfold headV at hq
  split at hq
  · rename_i _ sz' n' cs hx
    simp only [Option.some.injEq, Prod.mk.injEq] at hq
    obtain ⟨rfl, rfl, rfl, rfl⟩ := hq
    obtain ⟨xG, hxG⟩ := h.opv ha hx
    obtain ⟨cG, rfl, hc⟩ := er_c hxG.er
    obtain ⟨y, rfl, hy⟩ := er_t hc
    obtain ⟨v, ds, rfl, hds⟩ := er_sl hy
    have hv : a.eval o = v := by simpa [valX, valC, valT] using hxG.val
    subst hv
    have hn := hxG.new
    refine ⟨ds, V.clr cx f S o, hds, clr_map o, h.clr o, ?_, by simpa only [okX, okC] using hn.ok, by simpa only [blkX, blkC] using hn.bk, fun b hb => hxG.src b (by simpa only [blkX, blkC] using hb)⟩
    intro k b hb
    cases o with
    | tmp d =>
      simp only [V.clr] at hb
      split at hb
      · exact hb
      · split at hb
        · by_cases e : k = .sl d
          · subst e; simp [blkR, upd, blkX] at hb
          · rwa [blkR_upd e] at hb
        · exact hb
    | _ => exact hb
  · rename_i v r p i off sz' n' hx
    split at hq
    · cases hq
    · obtain ⟨cG, hcG, hval, hok, hrf⟩ := opv_c h ha hx
      obtain ⟨v', rfl⟩ := er_bor hcG
      simp only [okC] at hok
      cases ht : takeAt (V.erS S) () r p i off sz' n' with
      | none =>
        change ((takeAt (V.erS S) () r p i off sz' n').bind _) = _ at hq
        rw [ht] at hq; simp at hq
      | some q =>
        obtain ⟨tt, Sq⟩ := q
        change ((takeAt (V.erS S) () r p i off sz' n').bind _) = _ at hq
        rw [ht] at hq
        simp only [Option.bind_some] at hq
        obtain ⟨tG, S2, e1, e2, e3, e4, e5, e6, e7⟩ := takeAt_ok h hok ht
        have hsl : ∃ cs, tt = .sl () 0 sz' n' cs := by
          unfold takeAt at ht
          split at ht
          · split at ht
            · cases hp : putCell (V.erS S) r p i (.t (.dead _)) with
              | none => rw [hp] at ht; simp at ht
              | some S' => rw [hp] at ht; simp only [Option.map_some, Option.some.injEq, Prod.mk.injEq] at ht; exact ⟨_, ht.1.symm⟩
            · cases ht
          · cases ht
        obtain ⟨cs, rfl⟩ := hsl
        simp only [Option.some.injEq, Prod.mk.injEq] at hq
        obtain ⟨rfl, rfl, rfl, rfl⟩ := hq
        obtain ⟨v2, ds, rfl, hds⟩ := er_sl e1
        have hv : a.eval o = v2 := by
          rw [hval]
          simpa only [valT, valC] using e3.symm
        subst hv
        exact ⟨ds, S2, hds, e2, e4, e5.blk, by simpa only [okX, okC] using e6.ok, by simpa only [blkX, blkC] using e6.bk, fun b hb => ⟨_, e7 b hb⟩⟩
  · rename_i v sz' n' cs hx
    obtain ⟨xG, hxG⟩ := h.opv ha hx
    obtain ⟨cG, rfl, hc⟩ := er_c hxG.er
    obtain ⟨v', ds, rfl, hds⟩ := er_lst hc
    subst hds
    have hn := hxG.new
    rw [← clr_map] at hq
    cases hs : settles (ds.map erC) (V.erS (V.clr cx f S o)) with
    | none => rw [hs] at hq; simp at hq
    | some q =>
      obtain ⟨ts, Sq⟩ := q
      rw [hs] at hq
      simp only [Option.map_some, Option.some.injEq, Prod.mk.injEq] at hq
      obtain ⟨rfl, rfl, rfl, rfl⟩ := hq
      have hset : settle (erC (.lst v' sz' n' ds)) (V.erS (V.clr cx f S o)) = some (.sl (er0 v') 0 sz' n' ts, Sq) := by
        simp only [erC, mapC, mapCs_eq, settle]
        rw [show (settles (ds.map (mapC er0)) (V.erS (V.clr cx f S o))) = some (ts, Sq) from hs]
        rfl
      have hok : okC w P R (V.clr cx f S o) ea (.lst v' sz' n' ds) := by simpa only [okX] using hn.ok
      obtain ⟨tG, S2, e1, e2, e3, e4, e5, e6, e7, e8⟩ := settle_ok (h.clr o) Emp.refl hok (by simpa only [blkX] using hn.bk) hset
      obtain ⟨v2, us, rfl, hus⟩ := er_sl e1
      have hv : a.eval o = v2 := by
        rw [hxG.val]
        simpa only [valT, valC, valX] using e3.symm
      subst hv
      have hclr : ∀ k b, b ∈ blkR (V.clr cx f S o) ea k → b ∈ blkR S ea k := by
        intro k b hb
        cases o with
        | tmp d =>
          simp only [V.clr] at hb
          split at hb
          · exact hb
          · split at hb
            · by_cases e : k = .sl d
              · subst e; simp [blkR, upd, blkX] at hb
              · rwa [blkR_upd e] at hb
            · exact hb
        | _ => exact hb
      refine ⟨us, S2, hus, e2, e4, fun k b hb => hclr k b (e5.blk k b hb), e6, e7, fun b hb => ?_⟩
      rcases e8 b hb with g | ⟨k, g⟩
      · exact hxG.src b (by simpa only [blkX] using g)
      · exact ⟨k, hclr k b g⟩
  · cases hq

theorem listAt_behind (h : Rel (isVar cx f) w0 E0 P R ea w S tmps) {r : Root} {p : List Nat} {i off sz n : Nat} {v : Value} (hb : BorOk S r p i off sz n v) (hsz : 0 < sz) {ds : List TV} (hl : listAt S r p i off (n * sz) = some ds) :
    okTs w P R ds ∧ ds.length = n * sz ∧ Behind w v n (ds.map valT) := by
  obtain ⟨b, m, es, hat, hle, hok, hown, _⟩ := bor_own h hb hsz
  unfold listAt at hl
  rw [hat] at hl
  simp only [if_pos hle, Option.some.injEq] at hl
  subst hl
  have hlen : ((es.drop off).take (n * sz)).length = n * sz := by rw [List.length_take, List.length_drop]; omega
  exact ⟨okTs_take (okTs_drop hok), hlen, hown.behind (by rw [List.length_map, hlen])⟩

/-- What is appended. -/
theorem tailV_ok (h : Rel (isVar cx f) w0 E0 P R ea w S tmps) (ha : a.tmps = tmps) {o : Operand} {t : Nat} {fl : Bool} {ys : List TU} {sz m : Nat} {Su : SU} (hsz : 0 < sz) (hq : tailV cx f (V.erS S) o t fl = some (ys, sz, m, Su)) :
    ∃ (us : List TV) (S2 : SV), us.map erT = ys ∧ V.erS S2 = Su ∧ Rel (isVar cx f) w0 E0 P R ea w S2 tmps ∧ okTs w P R us ∧ Bk w0 E0 R ea w S2 (blkTs us) ∧ us.length = m * sz ∧
      (Behind w (a.eval o) m (us.map valT) ∨ ∃ s : List UInt8, sz = 1 ∧ m = s.length ∧ a.eval o = .string ⟨s.toArray⟩ ∧ us.map valT = byteCells ⟨s.toArray⟩) := by
  have hnob : ∀ {us : List TV}, blkTs us = [] → Bk w0 E0 R ea w S (blkTs us) := fun e => by
    rw [e]; exact ⟨List.nodup_nil, fun _ _ h => (by cases h), fun _ h => (by cases h), fun _ h => (by cases h), fun _ h => (by cases h)⟩
  have head : headV cx f (V.erS S) o t = some (ys, sz, m, Su) → ∃ (us : List TV) (S2 : SV), us.map erT = ys ∧ V.erS S2 = Su ∧ Rel (isVar cx f) w0 E0 P R ea w S2 tmps ∧ okTs w P R us ∧ Bk w0 E0 R ea w S2 (blkTs us) ∧ us.length = m * sz ∧
      (Behind w (a.eval o) m (us.map valT) ∨ ∃ s : List UInt8, sz = 1 ∧ m = s.length ∧ a.eval o = .string ⟨s.toArray⟩ ∧ us.map valT = byteCells ⟨s.toArray⟩) := by
    intro hq
    obtain ⟨us, S2, e1, e2, e3, _, e5, e6, _⟩ := headV_ok h ha hq
    simp only [okT, if_true] at e5
    refine ⟨us, S2, e1, e2, e3, e5.2.1, e6.sub (by simp only [blkT, if_true]; exact List.sublist_append_right _ _), e5.1, .inl (e5.2.2.behind (by simpa using e5.1))⟩
  unfold tailV at hq
  split at hq
  · rename_i _ tag sz' n' cs hx
    simp only [Option.some.injEq, Prod.mk.injEq] at hq
    obtain ⟨rfl, rfl, rfl, rfl⟩ := hq
    obtain ⟨cG, hcG, hval, hok, hrf⟩ := opv_c h ha hx
    obtain ⟨y, rfl, hy⟩ := er_t hcG
    obtain ⟨v, ds, rfl, hds⟩ := er_sl hy
    simp only [okC, okT, Nat.succ_ne_zero, if_false] at hok
    obtain ⟨k1, k2, k3, k4, k5⟩ := hok
    have hv : a.eval o = v := by simpa [valC, valT] using hval
    refine ⟨ds, S, hds, rfl, h, k2, hnob ?_, k1, .inl (by rw [hv]; exact k3.behind (by simpa using k1))⟩
    rw [blkTs_eq, List.flatMap_eq_nil_iff]
    exact fun x hx => blk_of_sh (shTs_iff.1 k5 x hx)
  · rename_i s hx
    simp only [Option.some.injEq, Prod.mk.injEq] at hq
    obtain ⟨rfl, rfl, rfl, rfl⟩ := hq
    obtain ⟨cG, hcG, hval, hok, hrf⟩ := opv_c h ha hx
    obtain ⟨y, rfl, hy⟩ := er_t hcG
    have := er_str hy
    subst this
    have hv : a.eval o = .string ⟨s.toArray⟩ := by simpa [valC, valT] using hval
    refine ⟨s.map fun b => .int .u8 b.toNat, S, by simp [byteT, erT, mapT], rfl, h, ?_, hnob ?_, by simp, .inr ⟨s, rfl, rfl, hv, ?_⟩⟩
    · exact okTs_iff.2 fun x hx => by obtain ⟨b, _, rfl⟩ := List.mem_map.1 hx; simp [okT]
    · rw [blkTs_eq, List.flatMap_eq_nil_iff]
      intro x hx; obtain ⟨b, _, rfl⟩ := List.mem_map.1 hx; simp [blkT]
    · simp [byteCells, valT]
  · rename_i _ r p i off sz' n' hx
    split at hq
    · obtain ⟨cG, hcG, hval, hok, hrf⟩ := opv_c h ha hx
      obtain ⟨v, rfl⟩ := er_bor hcG
      simp only [okC] at hok
      cases hl : listAt (V.erS S) r p i off (n' * sz') with
      | none => rw [hl] at hq; simp at hq
      | some cs =>
        rw [hl] at hq
        simp only [Option.bind_some] at hq
        split at hq
        · rename_i hfl
          simp only [Option.some.injEq, Prod.mk.injEq] at hq
          obtain ⟨rfl, rfl, rfl, rfl⟩ := hq
          have hm : listAt (V.erS S) r p i off (n' * sz') = (listAt S r p i off (n' * sz')).map (·.map (mapT er0)) := listAt_map er0 S r p i off (n' * sz')
          rw [hm] at hl
          cases hg : listAt S r p i off (n' * sz') with
          | none => rw [hg] at hl; simp at hl
          | some ds =>
            rw [hg] at hl
            simp only [Option.map_some, Option.some.injEq] at hl
            subst hl
            obtain ⟨g1, g2, g3⟩ := listAt_behind h hok hsz hg
            have hv : a.eval o = v := by simpa [valC] using hval
            refine ⟨ds, S, rfl, rfl, h, g1, hnob ?_, g2, .inl (by rw [hv]; exact g3)⟩
            rw [blkTs_eq, List.flatMap_eq_nil_iff]
            intro x hx
            have hf := List.all_eq_true.1 hfl (mapT er0 x) (List.mem_map_of_mem hx)
            cases x with
            | sl v2 tag sz2 n2 cs2 => cases tag with
              | zero => simp [mapT, flatT] at hf
              | succ g => simp [blkT]
            | _ => simp [blkT]
        · cases hq
    · exact head hq
  · exact head hq
end
end Go.Proofs.Ytlkjnlfddadlmaa.V

namespace Go.Proofs.Ytlkjnlfddadlmaa.V
open Go.RowKit

section
variable {cx : Ctx} {f : Nat} {w0 : World} {E0 : Nat → Prop} {P : Nat → Nat → Prop} {R : Nat → Prop} {ea : List EA} {w w' : World} {a : Act} {call : Callee} {Pr : Program} {S S0 S1 S2 S3 : SV} {tmps : Array Value}

theorem setCells_heap {b : Nat} {e : TypeId} : ∀ {vs : List Value} {o : Nat} {w : World} {cur : Array Value}, w.heap[b]? = some (.cells cur e (0, 0)) → o + vs.length ≤ cur.size →
    ∃ cur', (w.setCells b o vs).heap[b]? = some (.cells cur' e (0, 0)) ∧ cur'.size = cur.size ∧ (∀ j v, vs[j]? = some v → cur'[o + j]? = some v) ∧ (∀ k, k < o → cur'[k]? = cur[k]?)
  | [], o, w, cur, h, _ => ⟨cur, h, rfl, by simp, fun _ _ => rfl⟩
  | v :: vs, o, w, cur, h, hl => by
    simp only [List.length_cons] at hl
    obtain ⟨cur', h1, h2, h3, h4⟩ := setCells_heap (vs := vs) (o := o + 1) (heap_setCell (o := o) (v := v) h) (by simp; omega)
    refine ⟨cur', h1, by simpa using h2, fun j u hj => ?_, fun k hk => ?_⟩
    · cases j with
      | zero =>
        simp only [List.getElem?_cons_zero, Option.some.injEq] at hj
        subst hj
        rw [Nat.add_zero, h4 o (by omega), Array.getElem?_setIfInBounds_self_of_lt (by omega)]
      | succ j =>
        simp only [List.getElem?_cons_succ] at hj
        rw [show o + (j + 1) = o + 1 + j by omega]
        exact h3 j u hj
    · rw [h4 k (by omega), Array.getElem?_setIfInBounds_ne (by omega)]

theorem setCells_other {b k : Nat} (hk : k ≠ b) : ∀ {vs : List Value} {o : Nat} {w : World}, (w.setCells b o vs).heap[k]? = w.heap[k]?
  | [], o, w => rfl
  | v :: vs, o, w => by
    simp only [World.setCells]
    rw [setCells_other hk, heap_other hk]

theorem setCells_rest (b : Nat) : ∀ (vs : List Value) (o : Nat) (w : World), (w.setCells b o vs).os = w.os ∧ (w.setCells b o vs).tape = w.tape ∧ (w.setCells b o vs).output = w.output ∧ (w.setCells b o vs).heap.size = w.heap.size
  | [], _, _ => ⟨rfl, rfl, rfl, rfl⟩
  | v :: vs, o, w => by
    obtain ⟨h1, h2, h3, h4⟩ := setCells_rest b vs (o + 1) (w.setCell ⟨b, o, none⟩ v)
    exact ⟨h1, h2, h3, by rw [World.setCells, h4]; simp [World.setCell]⟩

/-- A block that no part of the frame owns, and that may not be read only, is another one. -/
theorem Rel.apart {isv : Nat → Bool} (h : Rel isv w0 E0 P R ea w S tmps) {B : Nat} (hB : ∀ r, B ∉ blkR S ea r) (hR : ¬ R B) (hE : E0 B ∨ w0.heap.size ≤ B) (hw : ∀ k, k ≠ B → w'.heap[k]? = w.heap[k]?) (hr : w'.os = w.os ∧ w'.tape = w.tape ∧ w'.output = w.output ∧ w'.heap.size = w.heap.size) :
    Rel isv w0 E0 P R ea w' S tmps := by
  have hRB : ∀ b, R b → b ≠ B := fun b hb e => hR (e ▸ hb)
  have hPB : ∀ t b, P t b → b ≠ B := fun t b hb e => hR (e ▸ h.PR t b hb)
  constructor
  case val => exact h.val
  case hi => exact h.hi
  case okS => exact fun d => okX_apart hw hPB hRB (h.okS d) (hB (.sl d))
  case okE =>
    intro j cs hj
    refine ⟨okCs_iff.2 fun c hc => okC_apart hw hPB hRB (okCs_iff.1 (h.okE j cs hj).1 c hc) (fun hb => hB (.ex j) (blk_ex hj (by rw [blkCs_eq, List.mem_flatMap]; exact ⟨c, hc, hb⟩))), fun ad had => ?_⟩
    exact ((h.okE j cs hj).2 ad had).same (hw _ (fun e => hB (.ex j) (e ▸ blk_ea had)))
  case eaL => exact h.eaL
  case row => exact h.row
  case refS => exact h.refS
  case refE => exact h.refE
  case dis => exact h.dis
  case nd => exact h.nd
  case lt => intro r b hb; rw [hr.2.2.2]; exact h.lt r b hb
  case own => exact h.own
  case notR => exact h.notR
  case PR => exact h.PR
  case ltR => intro b hb; rw [hr.2.2.2]; exact h.ltR b hb
  case frm =>
    refine ⟨hr.1.trans h.frm.os, hr.2.1.trans h.frm.tape, hr.2.2.1.trans h.frm.output, by rw [hr.2.2.2]; exact h.frm.size, fun k hk hE' => ?_⟩
    have : k ≠ B := by
      rintro rfl
      rcases hE with g | g
      · exact hE' g
      · omega
    exact (hw k this).trans (h.frm.block k hk hE')

theorem append_ok (hty : TyOk Pr cx.ty) (h : Rel (isVar cx f) w0 E0 P R ea w S tmps) (ha : a.tmps = tmps) {o : Oper} {c : Call} (ho : o.op = .call c) (hcal : c.callee = .builtin .append) {s x : Operand} (hargs : c.args.toList = [s, x]) {z : XU} {Su : SU}
    (hq : appendV cx f (V.erS S) c.argTypes.toList s x = some (z, Su)) :
    ∃ w' S' xG, erX xG = z ∧ V.erS S' = Su ∧ Rel (isVar cx f) w0 E0 P R ea w' S' tmps ∧ New (isVar cx f) w0 E0 P R ea w' S' xG ∧ (execOp a.eval o).run Pr w = .ok (.value (valX xG)) w' := by
  unfold appendV at hq
  split at hq
  · rename_i t t' hts
    have hta : c.argTypes = #[t, t'] := by apply Array.ext'; simp [hts]
    split at hq
    · rename_i el hel
      cases ht : tailV cx f (V.erS S) x t' (cx.ty el).flat with
      | none => simp [ht] at hq
      | some q =>
        obtain ⟨ys, sz', m, Su1⟩ := q
        simp only [ht, Option.bind_some] at hq
        cases hh : headV cx f Su1 s t with
        | none => simp [hh] at hq
        | some q =>
          obtain ⟨zs, sz, n, Su2⟩ := q
          simp only [hh, Option.bind_some] at hq
          split at hq
          · rename_i hc
            obtain ⟨rfl, hsz', hsz, hok, htok, hty', hmax, hby⟩ := hc
            simp only [Option.some.injEq, Prod.mk.injEq] at hq
            obtain ⟨rfl, rfl⟩ := hq
            obtain ⟨us, S1, rfl, rfl, r1, u2, u3, u4, u5⟩ := tailV_ok h ha (by omega) ht
            obtain ⟨hs, S2, rfl, rfl, r2, v2, v3, v4, v5⟩ := headV_ok r1 ha hh
            -- types
            obtain ⟨ti, d, zz, hf⟩ := hty.facts htok
            have hd := hf.slice hel
            subst hd
            obtain ⟨ti2, d2, zz2, hf2⟩ := hty.facts hok
            have hzs : zz2.cells.size = (cx.ty el).sz := by
              have := zerosAre_len hf2.zs
              rw [Array.length_toList, hf2.zlen] at this
              exact this.symm
            have hkind : (∃ e', Pr.underlying t' = some (.slice e')) ∨ Pr.underlying t' = some .string := by
              simp only [tailTy, Bool.and_eq_true, Bool.or_eq_true, beq_iff_eq] at hty'
              obtain ⟨g1, g2⟩ := hty'
              obtain ⟨ti', d', zz', hf'⟩ := hty.facts g1
              rcases g2 with g2 | g2
              · obtain ⟨el', hel'⟩ := Option.isSome_iff_exists.mp g2
                have := hf'.slice hel'
                subst this
                exact .inl ⟨_, hf'.und⟩
              · obtain ⟨d3, hd3, hk3⟩ := kindOf_und (t := t') hty (k := 3) (by omega) (by simp [kindOf, g1, g2])
                have : d3 = .string := by cases d3 <;> simp [kindIs] at hk3 <;> rfl
                subst this
                exact .inr hd3
            have hul : us.length = m * (cx.ty el).sz := by rw [← hsz']; exact u4
            have hunl : (us.map valT).length = m * ti2.size := by rw [List.length_map, hf2.size]; exact hul
            have hone : ∀ u ∈ us.map valT, u.oneCell' = true := by
              intro u hu
              obtain ⟨y, hy, rfl⟩ := List.mem_map.1 hu
              exact okT_one (okTs_iff.1 u2 y hy)
            have hsrc : Src Pr ti2.size t' (a.eval x) m (us.map valT) w := by
              rcases u5 with u5 | ⟨b, g1, g2, g3, g4⟩
              · exact u5.src hkind hunl hone
              · rw [g3, g4]
                have hsb : (⟨b.toArray⟩ : ByteArray).size = b.length := by simp [ByteArray.size]
                have hs1 : ti2.size = 1 := by rw [hf2.size]; omega
                have hstr : Pr.underlying t' = some .string ∨ ∃ e', Pr.underlying t' = some (.slice e') := hkind.symm
                rw [g2, ← hsb, hs1]
                exact ⟨hkind, fun _ => rfl, firstCells_string _ w, firstCells_string _ w.drew, by rw [byteCells_length, Nat.mul_one], fun u hu => by
                  obtain ⟨_, _, rfl⟩ := List.mem_map.1 hu
                  rfl⟩
            simp only [okT, if_true] at v3
            obtain ⟨w1, w2, w3⟩ := v3
            simp only [blkT, if_true] at v4 v5
            -- the parts' blocks
            have ubk : Bk w0 E0 R ea w S2 (blkTs us) := ⟨u3.nd, fun r b hb hb' => u3.sep r b hb (v2 r b hb'), u3.lt, u3.own, u3.notR⟩
            have hdis : ∀ b ∈ hdr (a.eval s) ++ blkTs hs, b ∉ blkTs us := by
              intro b hb hb'
              obtain ⟨k, hk⟩ := v5 b hb
              exact u3.sep k b hb' hk
            have hlen : (hs ++ us).length = (n + m) * (cx.ty el).sz := by rw [List.length_append, w1, hul, Nat.add_mul]
            have hokall : okTs w P R (hs ++ us) := okTs_iff.2 fun y hy => by
              rcases List.mem_append.1 hy with hy | hy
              · exact okTs_iff.1 w2 y hy
              · exact okTs_iff.1 u2 y hy
            have hblk : blkTs (hs ++ us) = blkTs hs ++ blkTs us := by rw [blkTs_eq, blkTs_eq, blkTs_eq, List.flatMap_append]
            have hallbk : Bk w0 E0 R ea w S2 (blkTs (hs ++ us)) := by
              rw [hblk]
              exact (v4.sub (List.sublist_append_right _ _)).append ubk (fun b hb => hdis b (List.mem_append_right _ hb))
            have hrunv : ∀ {v : Value} {w' : World}, (Builtin.append_ c.argTypes o.type #[a.eval s, a.eval x]).run Pr w = .ok v w' → (execOp a.eval o).run Pr w = .ok (.value v) w' := by
              intro v w' hr
              simp [execOp, ho, resolve, hcal, invoke, builtin, args2 hargs, hr]
            have hsmall : n + m ≤ 9223372036854775807 := by unfold maxLen at hmax; omega
            -- a new row
            have grow : ∀ {base : Option Addr} {cap : Nat}, a.eval s = .slice base n cap → cap < n + m →
                ∃ w' S' xG, erX xG = .c (.t (.sl () 0 (cx.ty el).sz (n + m) (hs.map erT ++ us.map erT))) ∧ V.erS S' = V.erS S2 ∧ Rel (isVar cx f) w0 E0 P R ea w' S' tmps ∧ New (isVar cx f) w0 E0 P R ea w' S' xG ∧ (execOp a.eval o).run Pr w = .ok (.value (valX xG)) w' := by
              intro base cap hbase hg
              have hsrc2 : Src Pr ti2.size t (a.eval s) n (hs.map valT) w := (w3.behind (by rw [List.length_map]; exact w1)).src (.inl ⟨_, hf.und⟩) (by rw [List.length_map, hf2.size]; exact w1) (fun u hu => by
                obtain ⟨y, hy, rfl⟩ := List.mem_map.1 hu
                exact okT_one (okTs_iff.1 w2 y hy))
              have hfit : Builtin.nextslicecap (n + m) cap * ti2.bytes ≤ 281474976710656 := by
                rw [hf2.bytes]
                have h1 := nextslicecap_le hg
                have h2 : Builtin.nextslicecap (n + m) cap * (cx.ty el).bytes ≤ 2 * (n + m) * (cx.ty el).bytes := Nat.mul_le_mul_right _ h1
                have h3 : 2 * (n + m) * (cx.ty el).bytes = 2 * ((n + m) * (cx.ty el).bytes) := by rw [Nat.mul_assoc]
                omega
              have hr := run_append_grow_src w t t' o.type el ti2 zz2 hf.und hf2.info hf2.zero base n cap (hs.map valT) (by have := hsrc2.cellsD; rwa [hbase] at this) (a.eval x) m (us.map valT) hsrc hg (by omega) hfit
              rw [← hbase, ← hta] at hr
              have hcap := grownCap_ge w (n + m) cap el
              have hrD := r2.grow (Grow.drew w)
              have hn0 : New (isVar cx f) w0 E0 P R ea w.drew S2 (.agg ((hs ++ us).map .t)) := by
                have hb1 : blkCs ((hs ++ us).map C.t) = blkTs (hs ++ us) := by rw [blkCs_eq, blkTs_eq, List.flatMap_map]; rfl
                refine ⟨?_, ?_, ?_, ?_, ?_, ?_, ?_⟩
                · simp only [okX]
                  refine okCs_iff.2 fun c hc => ?_
                  obtain ⟨y, hy, rfl⟩ := List.mem_map.1 hc
                  simp only [okC]
                  exact okT_same (w := w) (w' := w.drew) (fun _ _ _ => rfl) (fun _ _ => rfl) (okTs_iff.1 hokall y hy) (fun _ _ => rfl)
                · intro d' hd'
                  simp only [refsX, refsCs_eq, List.mem_flatMap] at hd'
                  obtain ⟨c, hc, hd'⟩ := hd'
                  obtain ⟨y, _, rfl⟩ := List.mem_map.1 hc
                  simp [refsC] at hd'
                · simp only [blkX, hb1]; exact hallbk.nd
                · intro r b hb; exact hallbk.sep r b (by simpa only [blkX, hb1] using hb)
                · intro b hb; exact hallbk.lt b (by simpa only [blkX, hb1] using hb)
                · intro b hb; exact hallbk.own b (by simpa only [blkX, hb1] using hb)
                · intro b hb; exact hallbk.notR b (by simpa only [blkX, hb1] using hb)
              have hvc : valCs ((hs ++ us).map C.t) = hs.map valT ++ us.map valT := by rw [valCs_eq, List.map_map, ← List.map_append]; rfl
              obtain ⟨k1, k2⟩ := New.row (cur := (hs.map valT ++ us.map valT).toArray ++ Builtin.zeroCells zz2.cells (grownCap w (n + m) cap el - (n + m))) (e := el) (sz := (cx.ty el).sz) (n := n + m) (cap := grownCap w (n + m) cap el) hrD hn0
                (by rw [List.length_map]; exact hlen) hcap (by
                  have e1 : (Builtin.zeroCells zz2.cells (grownCap w (n + m) cap el - (n + m))).size = (grownCap w (n + m) cap el - (n + m)) * zz2.cells.size := by simp [Builtin.zeroCells]
                  rw [Array.size_append, e1, hzs, List.size_toArray, ← List.map_append, List.length_map, hlen, ← Nat.add_mul]
                  rw [show n + m + (grownCap w (n + m) cap el - (n + m)) = grownCap w (n + m) cap el by omega]
                  exact Nat.le_refl _) (by
                  intro j v hj
                  rw [hvc] at hj
                  have hlt := (List.getElem?_eq_some_iff.1 hj).1
                  rw [Array.getElem?_append_left (by simpa using hlt)]
                  simpa using hj)
              refine ⟨_, S2, _, ?_, rfl, k1, k2.lst_t, ?_⟩
              · simp [erX, mapX, mapC, mapT, mapTs_eq, er0]
              · have := hrunv hr
                simpa [valX, valC, valT] using this
            rcases w3 with ⟨hnil, rfl⟩ | ⟨b, o', cur, e, ⟨ad, cap, hv, h1, h2, rfl, h3⟩, hhp, hcv⟩
            · -- nil
              have hhs : hs = [] := by rw [Nat.zero_mul] at w1; exact List.length_eq_zero_iff.1 w1
              subst hhs
              by_cases hm : m = 0
              · subst hm
                have hus : us = [] := by rw [Nat.zero_mul] at hul; exact List.length_eq_zero_iff.1 hul
                subst hus
                have hr := run_append_nothing (P := Pr) w t t' o.type el ti2 hf.und hf2.info none 0 0 (Nat.le_refl _) (a.eval x) (by simpa using hsrc)
                rw [← hnil, ← hta] at hr
                refine ⟨w, S2, .c (.t (.sl (a.eval s) 0 (cx.ty el).sz (0 + 0) [])), by simp [erX, mapX, mapC, mapT, mapTs, er0], rfl, r2, ?_, by simpa [valX, valC, valT] using hrunv hr⟩
                refine ⟨?_, by simp [refsX, refsC], ?_, ?_, ?_, ?_, ?_⟩
                · simp only [okX, okC, okT, if_true, okTs, List.length_nil, Nat.zero_add, Nat.zero_mul, List.map_nil, true_and]
                  exact .inl ⟨hnil, rfl⟩
                all_goals simp [blkX, blkC, blkT, hnil, hdr, blkTs]
              · exact grow hnil (by omega)
            · by_cases hroom : n + m ≤ cap
              · -- there is room
                have had : ad = ⟨ad.block, ad.off, none⟩ := by cases ad; simp only at h2; subst h2; rfl
                have hin : m ≠ 0 → ad.off = o' ∧ o' + cap * (cx.ty el).sz ≤ cur.size := fun hm => h3.resolve_left (by omega)
                have hmul : (n + m) * (cx.ty el).sz ≤ cap * (cx.ty el).sz := Nat.mul_le_mul_right _ hroom
                have hmul' : (n + m) * (cx.ty el).sz = n * (cx.ty el).sz + m * (cx.ty el).sz := Nat.add_mul _ _ _
                have hcellj : ∀ j, j < (us.map valT).length → ad.off + n * (cx.ty el).sz + j < cur.size := by
                  intro j hj
                  rw [List.length_map, hul] at hj
                  have hm : m ≠ 0 := by rintro rfl; simp at hj
                  obtain ⟨g1, g2⟩ := hin hm
                  omega
                have hr := run_append_room_src (P := Pr) w t t' o.type el ti2 hf.und hf2.info ad.block ad.off n cap (a.eval x) m (us.map valT) hsrc hroom
                  (fun j hj => by
                    rw [hf2.size]
                    simp only [World.cell?, hhp, Option.isSome_none, Bool.false_eq_true, if_false]
                    rw [Array.getElem?_eq_getElem (hcellj j hj)]; rfl)
                  (fun j hj => by simp [World.frozen?, hhp])
                rw [← had, ← hv, ← hta, hf2.size] at hr
                have hB : ad.block ∈ hdr (a.eval s) ++ blkTs hs := by rw [hv]; simp [hdr]
                have hBR : ¬ R ad.block := v4.notR _ hB
                have hBhs : ad.block ∉ blkTs hs := by
                  have := v4.nd
                  rw [hv] at this
                  simp only [hdr, List.cons_append, List.nil_append, List.nodup_cons] at this
                  exact this.1
                have hBus : ad.block ∉ blkTs us := hdis _ hB
                have hw : ∀ k, k ≠ ad.block → (w.setCells ad.block (ad.off + n * (cx.ty el).sz) (us.map valT)).heap[k]? = w.heap[k]? := fun k hk => setCells_other hk
                have hrel := r2.apart (w' := w.setCells ad.block (ad.off + n * (cx.ty el).sz) (us.map valT)) (B := ad.block) (fun r => v4.sep r _ hB) hBR (v4.own _ hB) hw (setCells_rest _ _ _ _)
                have hPB : ∀ t b, P t b → b ≠ ad.block := fun t b hb e => hBR (e ▸ r2.PR t b hb)
                have hRB : ∀ b, R b → b ≠ ad.block := fun b hb e => hBR (e ▸ hb)
                refine ⟨_, S2, .c (.t (.sl (.slice (some ad) (n + m) cap) 0 (cx.ty el).sz (n + m) (hs ++ us))), by simp [erX, mapX, mapC, mapT, mapTs_eq, er0], rfl, hrel, ?_, by simpa [valX, valC, valT] using hrunv hr⟩
                have hbb : blkX (.c (.t (.sl (.slice (some ad) (n + m) cap) 0 (cx.ty el).sz (n + m) (hs ++ us)))) = hdr (a.eval s) ++ blkTs (hs ++ us) := by
                  rw [hv]; simp [blkX, blkC, blkT, hdr]
                have hbk2 : Bk w0 E0 R ea w S2 (hdr (a.eval s) ++ blkTs (hs ++ us)) := by
                  rw [hblk, ← List.append_assoc]
                  exact v4.append ubk hdis
                refine ⟨?_, by simp [refsX, refsC], by rw [hbb]; exact hbk2.nd, fun r b hb => hbk2.sep r b (by rwa [hbb] at hb), fun b hb => ?_, fun b hb => hbk2.own b (by rwa [hbb] at hb), fun b hb => hbk2.notR b (by rwa [hbb] at hb)⟩
                · simp only [okX, okC, okT, if_true]
                  refine ⟨hlen, okTs_iff.2 fun y hy => ?_, ?_⟩
                  · refine okT_apart hw hPB hRB (okTs_iff.1 hokall y hy) (fun hb => ?_)
                    rcases List.mem_append.1 hy with hy | hy
                    · exact hBhs (by rw [blkTs_eq, List.mem_flatMap]; exact ⟨y, hy, hb⟩)
                    · exact hBus (by rw [blkTs_eq, List.mem_flatMap]; exact ⟨y, hy, hb⟩)
                  · by_cases hcap0 : cap = 0
                    · -- nothing there
                      have hn0 : n = 0 := by omega
                      have hm0 : m = 0 := by omega
                      subst hn0; subst hm0
                      have hus : us = [] := by rw [Nat.zero_mul] at hul; exact List.length_eq_zero_iff.1 hul
                      have hhs : hs = [] := by rw [Nat.zero_mul] at w1; exact List.length_eq_zero_iff.1 w1
                      subst hus; subst hhs
                      refine .inr ⟨ad.block, o', cur, e, ⟨ad, cap, rfl, by omega, h2, rfl, .inl hcap0⟩, ?_, by simp⟩
                      simp only [List.map_nil, World.setCells]; exact hhp
                    · obtain ⟨g1, g2⟩ := h3.resolve_left hcap0
                      obtain ⟨cur', c1, c2, c3, c4⟩ := setCells_heap (vs := us.map valT) (o := ad.off + n * (cx.ty el).sz) hhp (by rw [List.length_map, hul]; omega)
                      refine .inr ⟨ad.block, o', cur', e, ⟨ad, cap, rfl, hroom, h2, rfl, .inr ⟨g1, by rw [c2]; exact g2⟩⟩, c1, fun j v hj => ?_⟩
                      rw [List.map_append] at hj
                      rcases Nat.lt_or_ge j (n * (cx.ty el).sz) with hlt | hge
                      · rw [List.getElem?_append_left (by rw [List.length_map, w1]; exact hlt)] at hj
                        rw [c4 (o' + j) (by omega)]
                        exact hcv j v hj
                      · rw [List.getElem?_append_right (by rw [List.length_map, w1]; exact hge), List.length_map, w1] at hj
                        have := c3 _ v hj
                        rwa [show ad.off + n * (cx.ty el).sz + (j - n * (cx.ty el).sz) = o' + j by omega] at this
                · rw [(setCells_rest _ _ _ _).2.2.2]; exact hbk2.lt b (by rwa [hbb] at hb)
              · exact grow hv (by omega)
          · cases hq
    · cases hq
  · cases hq
end
end Go.Proofs.Ytlkjnlfddadlmaa.V

namespace Go.Proofs.Ytlkjnlfddadlmaa.V
open Go.RowKit

section
variable {cx : Ctx} {f : Nat} {w0 : World} {E0 : Nat → Prop} {P : Nat → Nat → Prop} {R : Nat → Prop} {ea : List EA} {w w' : World} {a : Act} {call : Callee} {Pr : Program} {S S0 S1 S2 S3 : SV} {tmps : Array Value}

theorem step_append (hty : TyOk Pr cx.ty) {ops : Array Oper} {o : Oper} {i n : Nat} {Su Su' : SU} {c : Call} {s x : Operand} (hat : At cx f w0 E0 P R ea n Su a w) (ho : o.op = .call c) (hcal : c.callee = .builtin .append) (hargs : c.args.toList = [s, x]) (hact : isActive cx (.call c) = true) (hi : ops[i]? = some o)
    (hdst : ∀ d, o.dst = some d → d < n) (hq : stepOp cx f call Su ops o = some Su') {K : Act → World → Prop} {Q : Exit → Act → World → Prop} (hk : ∀ a' w', At cx f w0 E0 P R ea n Su' a' w' → K a' w') : wpOp Pr ops Q i K a w := by
  obtain ⟨S, hr, rfl, hd, hsz⟩ := hat
  simp only [wpOp, hi]
  unfold stepOp at hq
  cases hw : wantedV (V.erS S) ops o with
  | none => simp [hw] at hq
  | some b =>
    have hwt := wanted_ok hr hw
    cases b with
    | false =>
      rw [if_neg (by rw [hwt]; simp)]
      simp only [hw] at hq
      exact hk _ _ (skip_ok hr rfl hd hsz hdst hq)
    | true =>
      rw [if_pos hwt]
      refine .inl ?_
      simp only [hw, ho, hact, if_true, hcal, hargs] at hq
      cases hv : appendV cx f (V.erS S) c.argTypes.toList s x with
      | none => simp [hv] at hq
      | some r =>
        obtain ⟨z, Sz⟩ := r
        simp only [hv, Option.bind_some] at hq
        obtain ⟨w', S', xG, e1, e2, e3, e4, e5⟩ := append_ok hty hr rfl ho hcal hargs hv
        exact wp_value e5 (hk _ _ (putQ_ok e3 e4 e1 e2 hd hsz hdst hq))

end
end Go.Proofs.Ytlkjnlfddadlmaa.V
