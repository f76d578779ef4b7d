/-
  The law FnExactDead holds for every input: the call returns true, and the input reads as it did. No conditions.
-/
import Derived.Test.YtlkjnlfddadlmaaMPDeadc
import Derived.Test.YtlkjnlfddadlmaaMPDeadb
import Derived.Test.YtlkjnlfddadlmaaRows
import Derived.WalkKit
import Derived.ProofKit
import Derived.OpenShut
import Derived.ChangeOld
import Derived.Below
set_option linter.unusedVariables false
set_option linter.unusedSimpArgs false
namespace Go.Proofs.Ytlkjnlfddadlmaa.V
set_option maxRecDepth 100000

noncomputable def cntO (fs : List FN) (i : Nat) : Nat := match dpF fs (i : Int) with | some D => D.countP neg | none => 0
noncomputable def cntD (fs : List FN) : Nat → List FN → Nat
  | _, [] => 0
  | i, _ :: l => cntO fs i + cntD fs (i + 1) l
noncomputable def deadF (fs : List FN) : Int := if verF fs = true then (cntD fs 0 fs : Int) else 0

theorem dpOf_some {ops : List O3} {D : List Int} (h : dpOf ops = some D) : GoodD ops D := by
  simp only [dpOf] at h
  split at h
  · next hx => simp only [Option.some.injEq] at h; rw [← h]; exact hx.choose_spec
  · cases h
theorem dpF_some {fs : List FN} {i : Nat} {D : List Int} (h : dpF fs (i : Int) = some D) : ∃ f, fs[i]? = some f ∧ GoodD f.2 D ∧ okFuns fs = true := by
  simp only [dpF, Int.toNat_natCast] at h
  split at h
  · next hx =>
    split at h
    · next f hf => exact ⟨f, hf, dpOf_some h, hx.1⟩
    · cases h
  · cases h
/-- A number of the table is below nought just where it is -1. -/
theorem good_neg {ops : List O3} {D : List Int} (h : GoodD ops D) {k : Nat} {d : Int} (hd : D[k]? = some d) : neg d = (d == -1) := by
  rcases h.2.1 k d hd with rfl | e
  · rfl
  · have e1 : neg d = false := by simp only [neg, decide_eq_false_iff_not]; omega
    have e2 : (d == -1) = false := by simp only [beq_eq_false_iff_ne, ne_eq]; omega
    rw [e1, e2]
end Go.Proofs.Ytlkjnlfddadlmaa.V

namespace Go.Proofs.Ytlkjnlfddadlmaa.V
set_option maxRecDepth 100000

theorem cntO_some {fs : List FN} {i : Nat} {D : List Int} (h : dpF fs (i : Int) = some D) : cntO fs i = D.countP neg := by simp only [cntO, h]
theorem wrapA {a b : Int} (ha : 0 ≤ a ∧ a ≤ 1000000) (hb : 0 ≤ b ∧ b ≤ 1000000) : IntKind.wrap .i64 (a + b) = a + b := wrap64 (by omega) (by omega)

theorem lcdS {D : List Int} {N i g : Nat} {cs : List TU} {K : Ex → StA → Prop} (hD : D.length ≤ 3000) :
    ∀ (l : List Int) (j : Nat), D.drop j = l → j ≤ D.length → ∀ (n : Nat), n + l.length ≤ 500000 →
    (∀ jk j, K (.exit 2) ⟨[(7, xi j), (5, xl 0 1 D.length (nums D)), (3, xi (n + l.countP neg : Nat)), (4, xi i), (0, xl (g + 1) 2 N cs)], jk, []⟩) →
    ∀ jk, sem cx0 15 RT (.loop (lp Try.f15 1)) ⟨[(7, xi j), (5, xl 0 1 D.length (nums D)), (3, xi n), (4, xi i), (0, xl (g + 1) 2 N cs)], jk, []⟩ K := by
  refine drop_ind ?_ ?_
  · intro n hn k1 jk
    refine loop_step cx0 _ RT [7, 5, 3, 4, 0] ⟨fun h => (lt_no h (by omega)).elim, fun h => ?_⟩
    exact fun jk => k1 jk _
  · intro j d l hj hjl ih n hn k1 jk
    simp only [List.length_cons] at hn
    refine loop_step cx0 _ RT [7, 5, 3, 4, 0] ⟨fun h => ?_, fun h => (lt_yes h (by omega)).elim⟩
    refine ⟨⟨by omega, by omega⟩, ?_⟩
    refine ⟨d, ⟨nums_get hj, rfl⟩, ?_⟩
    refine ⟨_, retI (bit57 _), ?_⟩
    intro jk
    rw [wrapS hjl (show D.length ≤ maxLen by simp only [maxLen]; omega)]
    have hb : (0 : Int) ≤ bit (decide (d < 0)) ∧ bit (decide (d < 0)) ≤ 1 := by by_cases h0 : d < 0 <;> simp [bit, h0]
    rw [wrapA (by omega) (by omega)]
    have e : ((n : Int) + bit (decide (d < 0))) = ((n + (if neg d then 1 else 0) : Nat) : Int) := by
      by_cases h0 : d < 0 <;> simp [neg, bit, h0]
    rw [e]
    refine ih _ (by split <;> omega) (fun jk j => ?_) jk
    have := k1 jk j
    rw [List.countP_cons] at this
    rw [show n + (if neg d then 1 else 0) + l.countP neg = n + (l.countP neg + if neg d = true then 1 else 0) by omega]
    exact this

theorem lcdI {D : List Int} {N i g : Nat} {cs : List TU} {K : Ex → StA → Prop} (hD : D.length ≤ 3000) (hg : ∀ (k : Nat) (d : Int), D[k]? = some d → neg d = (d == -1)) :
    ∀ (l : List Int) (j : Nat), D.drop j = l → j ≤ D.length → ∀ (n : Nat), n + l.length ≤ 500000 →
    (∀ jk j, K (.exit 2) ⟨[(25, xi j), (24, xi D.length), (23, .c (.bor () (.sl 5) [] 0 0 1 D.length)), (5, xl 0 1 D.length (nums D)), (3, xi (n + l.countP neg : Nat)), (14, xi i), (13, xi N), (0, xl (g + 1) 2 N cs)], jk, []⟩) →
    ∀ jk, sem cx0 16 RT (.loop (lp Try.f16 1)) ⟨[(25, xi j), (24, xi D.length), (23, .c (.bor () (.sl 5) [] 0 0 1 D.length)), (5, xl 0 1 D.length (nums D)), (3, xi n), (14, xi i), (13, xi N), (0, xl (g + 1) 2 N cs)], jk, []⟩ K := by
  refine drop_ind ?_ ?_
  · intro n hn k1 jk
    refine loop_step cx0 _ RT [25, 24, 23, 5, 3, 14, 13, 0] ⟨fun h => (lt_no h (by omega)).elim, fun h => ?_⟩
    exact fun jk => k1 jk _
  · intro j d l hj hjl ih n hn k1 jk
    simp only [List.length_cons] at hn
    refine loop_step cx0 _ RT [25, 24, 23, 5, 3, 14, 13, 0] ⟨fun h => ?_, fun h => (lt_yes h (by omega)).elim⟩
    refine ⟨⟨by omega, by omega⟩, ?_⟩
    refine ⟨d, ⟨nums_get hj, rfl⟩, ?_⟩
    have e := hg j d hj
    refine ⟨fun h => ?_, fun h => ?_⟩
    · intro jk
      rw [wrapS hjl (show D.length ≤ maxLen by simp only [maxLen]; omega)]
      rw [wrapA (a := n) (b := 1) (by omega) (by omega)]
      refine ih (n + 1) (by omega) (fun jk j => ?_) jk
      have := k1 jk j
      rw [List.countP_cons, e, h] at this
      rw [show n + 1 + l.countP neg = n + (l.countP neg + if true = true then 1 else 0) by simp; omega]
      exact this
    · intro jk
      rw [wrapS hjl (show D.length ≤ maxLen by simp only [maxLen]; omega)]
      refine ih n (by omega) (fun jk j => ?_) jk
      have := k1 jk j
      rw [List.countP_cons, e, h] at this
      exact this

theorem cnt_le {fs : List FN} (hok : okFuns fs = true) : ∀ (i : Nat), cntO fs i ≤ 3000 := by
  intro i
  cases h : dpF fs (i : Int) with
  | none => simp only [cntO, h]; omega
  | some D =>
    obtain ⟨f, hf, hg, _⟩ := dpF_some h
    have := List.countP_le_length (p := neg) (l := D)
    have := hg.1
    have := (len_of_ok hok hf).1
    rw [cntO_some h]; omega

theorem ldeadS {fs : List FN} {cs : List TU} {g : Nat} {K : Ex → StA → Prop} (hok : okFuns fs = true) (hv : verF fs = true) (hw : Wl fs) (hr : Rf fs cs) (hz : szFs fs ≤ 1048576) :
    ∀ (l : List FN) (i : Nat), fs.drop i = l → i ≤ fs.length → allD fs i l = true → ∀ (n : Nat), n + l.length * 3000 ≤ 400000 →
    (∀ jk j, K (.exit 0) ⟨[(4, xi j), (0, xl (g + 1) 2 fs.length cs), (3, xi (n + cntD fs i l : Nat))], jk, []⟩) →
    ∀ jk, sem cx0 15 RT (.loop (lp Try.f15 0)) ⟨[(4, xi i), (0, xl (g + 1) 2 fs.length cs), (3, xi n)], jk, []⟩ K := by
  refine drop_ind ?_ ?_
  · intro _ n hn k1 jk
    refine loop_step cx0 _ RT [4, 0, 3] ⟨fun h => (lt_no h (by omega)).elim, fun h => ?_⟩
    exact fun jk => k1 jk _
  · intro i f l hi hil ih ha n hn k1 jk
    simp only [List.length_cons] at hn
    have hd := dep_s (g := g + 1) (i := i) hw hr.retag hz
    simp only [allD, Bool.and_eq_true] at ha
    obtain ⟨D, ho⟩ := Option.isSome_iff_exists.1 ha.1
    rw [ho] at hd
    obtain ⟨f', hf', hg, _⟩ := dpF_some ho
    have hl := (len_of_ok hok hf').1
    have hle : D.length ≤ 3000 := by rw [hg.1]; exact hl
    refine loop_step cx0 _ RT [4, 0, 3] ⟨fun h => ?_, fun h => (lt_yes h (by omega)).elim⟩
    refine ⟨_, retB (ver_s (g := g + 1) hw hr.retag hz), ?_⟩
    refine ⟨fun _ => ?_, (fun h => by rw [hv] at h; cases h)⟩
    refine ⟨X.tup [xl 0 1 D.length (nums D), xb true], retDp (o := some D) hd, ?_⟩
    refine ⟨by rw [nums_len]; omega, ?_⟩
    refine sem_in cx0 _ RT [7, 5, 3, 4, 0] fun jk => ?_
    have ew : ((nums D).drop 0).take (D.length * 1) = nums D := nums_whole D
    rw [ew]
    refine lcdS hle D 0 rfl (by omega) n (by omega) (fun jk j => ?_) jk
    intro jk
    rw [wrapS hil hw.1]
    have := List.countP_le_length (p := neg) (l := D)
    refine ih ha.2 (n + D.countP neg) (by omega) (fun jk j => ?_) jk
    have := k1 jk j
    simp only [cntD, cntO_some ho] at this
    rw [Nat.add_assoc]
    exact this

theorem ldeadI {fs : List FN} {cs : List TU} {g : Nat} {K : Ex → StA → Prop} (hok : okFuns fs = true) (hw : Wl fs) (hr : Rf fs cs) (hz : szFs fs ≤ 1048576) :
    ∀ (l : List FN) (i : Nat), fs.drop i = l → i ≤ fs.length → allD fs i l = true → ∀ (n : Nat), n + l.length * 3000 ≤ 400000 →
    (∀ jk j, K (.exit 0) ⟨[(14, xi j), (13, xi fs.length), (0, xl (g + 1) 2 fs.length cs), (3, xi (n + cntD fs i l : Nat))], jk, []⟩) →
    ∀ jk, sem cx0 16 RT (.loop (lp Try.f16 0)) ⟨[(14, xi i), (13, xi fs.length), (0, xl (g + 1) 2 fs.length cs), (3, xi n)], jk, []⟩ K := by
  refine drop_ind ?_ ?_
  · intro _ n hn k1 jk
    refine loop_step cx0 _ RT [14, 13, 0, 3] ⟨fun h => (lt_no h (by omega)).elim, fun h => ?_⟩
    exact fun jk => k1 jk _
  · intro i f l hi hil ih ha n hn k1 jk
    simp only [List.length_cons] at hn
    have hd := dep_i (g := g + 1) (i := i) hr.retag hz
    simp only [allD, Bool.and_eq_true] at ha
    obtain ⟨D, ho⟩ := Option.isSome_iff_exists.1 ha.1
    rw [ho] at hd
    obtain ⟨f', hf', hg, _⟩ := dpF_some ho
    have hl := (len_of_ok hok hf').1
    have hle : D.length ≤ 3000 := by rw [hg.1]; exact hl
    refine loop_step cx0 _ RT [14, 13, 0, 3] ⟨fun h => ?_, fun h => (lt_yes h (by omega)).elim⟩
    refine ⟨X.tup [xl 0 1 D.length (nums D), xb true], retDp (o := some D) hd, ?_⟩
    refine ⟨by rw [nums_len]; omega, ?_⟩
    refine sem_in cx0 _ RT [25, 24, 23, 5, 3, 14, 13, 0] fun jk => ?_
    have ew : ((nums D).drop 0).take (D.length * 1) = nums D := nums_whole D
    rw [ew]
    refine lcdI hle (fun k d h => good_neg hg h) D 0 rfl (by omega) n (by omega) (fun jk j => ?_) jk
    intro jk
    rw [wrapS hil hw.1]
    have := List.countP_le_length (p := neg) (l := D)
    refine ih ha.2 (n + D.countP neg) (by omega) (fun jk j => ?_) jk
    have := k1 jk j
    simp only [cntD, cntO_some ho] at this
    rw [Nat.add_assoc]
    exact this

theorem dead_s {fs : List FN} {cs : List TU} {g : Nat} (hw : Wl fs) (hr : Rf fs cs) (hz : szFs fs ≤ 1048576) : RT 15 [xl (g + 1) 2 fs.length cs] [] = some (xi (deadF fs), []) := by
  refine fn_is (fn := Try.f15) rfl rfl rfl rfl ?_
  refine sem_in cx0 _ RT [4, 0, 3] fun jk => ?_
  cases hv : verF fs with
  | true =>
    have hv' := hv
    simp only [verF, Bool.and_eq_true] at hv'
    have hlen : fs.length ≤ 60 := by
      have := hv'.2
      simp only [okFuns, Bool.and_eq_true, wit, decide_eq_true_eq] at this
      omega
    refine ldeadS (g := g) hv'.2 hv hw hr hz fs 0 rfl (by omega) hv'.1 0 (by omega) (fun jk j => ?_) jk
    refine ⟨?_, rfl⟩
    simp only [deadF, hv, if_true, Nat.zero_add]; rfl
  | false =>
    have e : deadF fs = 0 := by simp only [deadF, hv]; rfl
    rw [e]
    rcases Nat.eq_zero_or_pos fs.length with h0 | h0
    · refine loop_step cx0 _ RT [4, 0, 3] ⟨fun h => (lt_no h (by omega)).elim, fun h => ?_⟩
      exact fun jk => ⟨rfl, rfl⟩
    · refine loop_step cx0 _ RT [4, 0, 3] ⟨fun h => ?_, fun h => (lt_yes h (by omega)).elim⟩
      refine ⟨_, retB (ver_s (g := g + 1) hw hr.retag hz), ?_⟩
      refine ⟨(fun h => by rw [hv] at h; cases h), fun _ => ?_⟩
      exact fun jk => ⟨rfl, rfl⟩

theorem dead_i {fs : List FN} {cs : List TU} {g : Nat} (hw : Wl fs) (hr : Rf fs cs) (hz : szFs fs ≤ 1048576) : RT 16 [xl (g + 1) 2 fs.length cs] [] = some (xi (deadF fs), []) := by
  refine fn_is (fn := Try.f16) rfl rfl rfl rfl ?_
  refine ⟨_, retB (ver_i (g := g + 1) hr.retag hz), ?_⟩
  cases hv : verF fs with
  | true =>
    refine ⟨(fun h => by cases h), fun _ => ?_⟩
    have hv' := hv
    simp only [verF, Bool.and_eq_true] at hv'
    have hlen : fs.length ≤ 60 := by
      have := hv'.2
      simp only [okFuns, Bool.and_eq_true, wit, decide_eq_true_eq] at this
      omega
    refine sem_in cx0 _ RT [14, 13, 0, 3] fun jk => ?_
    refine ldeadI (g := g) hv'.2 hw hr hz fs 0 rfl (by omega) hv'.1 0 (by omega) (fun jk j => ?_) jk
    refine ⟨?_, rfl⟩
    simp only [deadF, hv, if_true, Nat.zero_add]; rfl
  | false =>
    refine ⟨fun _ => ?_, (fun h => by cases h)⟩
    have e : deadF fs = 0 := by simp only [deadF, hv]; rfl
    rw [e]
    exact ⟨rfl, rfl⟩
end Go.Proofs.Ytlkjnlfddadlmaa.V

namespace Go.Proofs.Ytlkjnlfddadlmaa.V
set_option maxRecDepth 100000

set_option maxHeartbeats 4000000 in
theorem lawDead {fs : List FN} {cs : List TU} (hw : Wl fs) (hr : Rf fs cs) : RT 4 [xl 1 2 fs.length cs] [] = some (xb true, []) := by
  have s1 := szFS (g := 1) hw hr.retag
  refine fn_is (fn := Try.f4) rfl rfl rfl rfl ?_
  refine ⟨_, retI s1, ?_⟩
  refine ⟨fun h => ⟨rfl, rfl⟩, fun h => ?_⟩
  obtain ⟨h1, _⟩ := szR_yes h
  have hz : szFs fs ≤ 1048576 := by omega
  have hz' := hz
  simp only [szFs] at hz'
  have s2 := toFS (g := 1) hz hr.retag
  have ho := fc_retag fs
  have s3 := dead_s (g := 0) hw ho hz
  have i1 := dead_i (g := 0) hw ho hz
  have W : ∀ L : List FN, L.length = fs.length → 0 + fs.length * 2 ≤ (fc L).length := fun L h => by rw [fc_len, h]; omega
  have wh : ∀ L : List FN, L.length = fs.length → ((fc L).drop 0).take (fs.length * 2) = fc L := fun L h => by rw [← h]; exact fc_whole L
  have eX := eqFS (g := 0) (h := 0) hw (fc_retag fs) (fc_retag fs)
  refine ⟨_, retF s2, ?_⟩
  refine ⟨_, retI s3, ?_⟩
  refine ⟨_, retF s2, ?_⟩
  refine ⟨W _ rfl, ?_⟩
  refine ⟨_, retI (by rw [wh _ rfl]; exact i1), ?_⟩
  refine ⟨fun h => by simp at h, fun _ => ?_⟩
  refine ⟨_, retF s2, ?_⟩
  refine ⟨W _ rfl, ?_⟩
  refine ⟨_, retB (by rw [wh _ rfl]; exact eX), ?_⟩
  refine ⟨(fun h => by cases h), fun _ => ?_⟩
  exact ⟨rfl, rfl⟩
end Go.Proofs.Ytlkjnlfddadlmaa.V

namespace Go.Proofs.Ytlkjnlfddadlmaa.fnExactDead
open Go.ChangeShapes Go.WideShapes Go.ChangeAt Go.RowKit
set_option linter.unusedVariables false
set_option maxRecDepth 100000

theorem own : ownKnob Try.prog.godebug = none := by kernel_rfl
theorem laidOut : laidOutB Try.prog = true := by kernel_rfl

def G : List Nat := [3, 140, 50, 52, 22]
theorem hG : V.plainTys Try.prog G = true := by kernel_rfl

theorem lifted (os : Os) (started : os.Started) (H : Type) (enc : TypeId × Value → H) :
    ReturnsInHanded {} Try.checked os 4 .any (Rows.fnExactDeadSpec.pre6 enc Try.prog Try.f4 Rows.fnExactDeadRow.domain false) (Rows.fnExactDeadSpec.post enc Try.prog Try.f4 false true false false) := by
  refine returnsInHanded_of_change (C := Try.checked) own started (by kernel_rfl) Try.func4
    (ChangeSpec.witness6 (enc := enc) (C := Try.checked) false ⟨#[], #[.slice none 0 0], []⟩ 8 (by kernel_rfl) (by kernel_rfl) (by kernel_rfl) (by kernel_rfl)) ?_
  intro W base args ds gs before hval0 hW hcnd _
  have hval : ∀ (j : Nat) t v, Try.f4.params[j]? = some t → args[j]? = some v → Value.okWide Try.prog W .any base t v := hval0
  have hW' := hW
  obtain ⟨p, q, hA0, hV, rfl, hfz, hnd⟩ := hW
  have hA : DataW.TrodAll enc Try.prog W 0 (fun _ => true) true Try.f4.params.toList args.toList ds p := hA0
  rw [Try.params4] at hA hval
  obtain ⟨v0, vs0, d0, ds0, p0, q0, hargs, rfl, rfl, h0, r0⟩ := trodAll_cons hA
  obtain ⟨rfl, rfl, rfl⟩ := trodAll_nil r0
  obtain rfl : args = #[v0] := by cases args; simp_all
  obtain ⟨rfl, rfl⟩ := trodVars_none hV
  have k0 := h0
  have lt0 : ∀ x ∈ p0, x.block < W.heap.size := by obtain ⟨m, hm⟩ := k0; exact DataW.trod_lt m _ _ _ hm
  obtain ⟨k, u, hsh, hx⟩ := V.arg_cell hG (t := 22) (by decide) (fun fs hh => by rw [Try.underlying22] at hh; cases hh) (hval 0 22 v0 rfl rfl) h0
  obtain ⟨fs, cs, e0, hr, hk⟩ := V.sh_funs hsh
  obtain rfl : u = .sl () 1 2 fs.length cs := by simpa using e0
  obtain ⟨n, hrun⟩ := V.run_of (V.lawDead hk hr)
  clear hA0 hval0
  refine (V.law_calls V.cxOk (fun _ _ => trivial) (vs := [v0]) (xs := [V.xl 1 2 fs.length cs]) ⟨rfl, fun i v x hv hxx => ?_⟩ hrun).mono fun e W' ⟨he, bel⟩ => ?_
  · rcases i with _ | i
    · simp only [List.getElem?_cons_zero, Option.some.injEq] at hv hxx; subst hv hxx; exact hx
    · simp at hv
  subst he
  exact ⟨_, rfl, _, _, _, [], _, [], hW', trodAll_mk1 (shut_bool Try.underlying4 _), (trodAll_cons_mk (Below.trod laidOut (by kernel_rfl) (of_decide_eq_true (by kernel_rfl)) k0 bel lt0) trodAll_mk0), rfl, bel.frame _, fun h => by cases h⟩

theorem over : Rows.fnExactDeadRow.holds Try.pinned (OpenSpec.ofChange Rows.fnExactDeadSpec) :=
  OpenClaim.holds_of_wide 4 Try.f4 rfl rfl rfl rfl rfl rfl rfl ⟨rfl, rfl, rfl, rfl, rfl⟩ rfl rfl rfl rfl rfl (by kernel_rfl) Try.func4 (by kernel_rfl)
    (of_decide_eq_true (by kernel_rfl)) (by unfold Func.isWrapper; first | (rw [if_pos (by decide +kernel)]; kernel_rfl) | (rw [if_neg (by decide +kernel)]; exact ⟨rfl, rfl⟩))
    (fun os started H enc _ => lifted os started H enc)

theorem proved : Rows.FnExactDeadSaid := over
#print axioms proved
end Go.Proofs.Ytlkjnlfddadlmaa.fnExactDead
