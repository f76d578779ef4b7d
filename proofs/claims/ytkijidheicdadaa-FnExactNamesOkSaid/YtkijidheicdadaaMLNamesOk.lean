/-
  The law FnExactNamesOk holds for every input: the call returns true, and the input reads as it did. No conditions.
-/
import Derived.Test.YtkijidheicdadaaMK
import Derived.Test.YtkijidheicdadaaM6
import Derived.Test.YtkijidheicdadaaM5
import Derived.Test.YtkijidheicdadaaRows
import Derived.WalkKit
import Derived.ProofKit
import Derived.OpenShut
import Derived.ChangeOld
import Derived.Below
set_option linter.unusedVariables false
set_option linter.unusedSimpArgs false
namespace Go.Proofs.Ytkijidheicdadaa.V
set_option maxRecDepth 100000
noncomputable abbrev RT := RR Try.prog cx0

theorem fn_is {g : Nat} {fn : Func} {a : List XU} {x : XU} (ho : cx0.orc g = none) (hf : Try.prog.funcs[g]? = some fn) (hb : fn.body = some (fn.body.getD .skip)) (hg : cx0.good g = true)
    (h : fnW cx0 g RT fn a [] fun y e => x = y ∧ e = []) : RT g a [] = some (x, []) := by
  obtain ⟨y, e, h1, h2, h3⟩ := fn_ok ho hf hb hg h
  rw [RT, h1, h2, h3]

theorem retI {g : Nat} {xs : List XU} {n : Int} (h : RT g xs [] = some (xi n, [])) : Ret RT g xs (xi n) := ⟨_, h, rfl⟩
theorem retB {g : Nat} {xs : List XU} {b : Bool} (h : RT g xs [] = some (xb b, [])) : Ret RT g xs (xb b) := ⟨_, h, rfl⟩
theorem retL {g : Nat} {xs : List XU} {n : Nat} {l : List Co} (h : RT g xs [] = some (xl 0 5 n (encs l), [])) : Ret RT g xs (xl 0 5 n (encs l)) := ⟨_, h, by simp only [downX, downC, down, encs_down, Option.map_some]; rfl⟩
theorem retC {g : Nat} {xs : List XU} {c : Co} (h : RT g xs [] = some (xc (enc c), [])) : Ret RT g xs (xc (enc c)) := ⟨_, h, by
  have : ∀ {a b : List TU}, downs a = some b → downCs (a.map .t) = some (b.map .t) := by
    intro a
    induction a with
    | nil => intro b h; simp only [downs, Option.some.injEq] at h; subst h; rfl
    | cons x a ih =>
      intro b h
      simp only [downs] at h
      cases hx : down x with
      | none => simp [hx] at h
      | some y =>
        cases ha : downs a with
        | none => simp [hx, ha] at h
        | some b' =>
          simp only [hx, ha, Option.bind_some, Option.map_some, Option.some.injEq] at h
          subst h
          simp only [List.map_cons, downCs, downC, hx, Option.map_some, Option.bind_some, ih ha]
  simp only [downX, this (enc_down c), Option.map_some]⟩

def szR (z : Nat) (left : Int) : Int := if (z : Int) ≤ left then left - z else -1

theorem szR_no {z : Nat} {v : Int} (h : decide (szR z v < 0) = true) (h0 : 0 ≤ v) : v < z := by
  have h := of_decide_eq_true h
  unfold szR at h; split at h <;> omega
theorem szR_yes {z : Nat} {v : Int} (h : decide (szR z v < 0) = false) : (z : Int) ≤ v ∧ szR z v = v - z := by
  have h := of_decide_eq_false h
  unfold szR at h ⊢
  split at h
  · next h1 => exact ⟨h1, by rw [if_pos h1]⟩
  · omega

def S19 (c : Co) : Prop := ∀ us left, Wf c → Rd c us → 0 ≤ left → left ≤ 1048576 → RT 19 [xc us, xi left] [] = some (xi (szR (szC c) left), [])

def lsz : List Co → Nat
  | [] => 0
  | c :: l => szC c + lsz l

theorem szCs_eq : ∀ l : List Co, szCs l = l.length + lsz l
  | [] => rfl
  | c :: l => by simp only [szCs, lsz, szCs_eq l, List.length_cons]; omega

theorem l54 {ks : List Co} {cs : List TU} {g : Nat} {K : Ex → StA → Prop} (H : ∀ c ∈ ks, S19 c) (hw : Wfs ks) (hr : Rds ks cs) (hk : ks.length ≤ maxLen) : ∀ (l : List Co) (i : Nat), ks.drop i = l → i ≤ ks.length → ∀ v : Int, 0 ≤ v → v ≤ 1048576 →
    (∀ jk i v', lsz l ≤ v → v' = v - lsz l → K (.exit 0) ⟨[(5, xi i), (1, xi v'), (0, xl (g + 1) 5 ks.length cs), (4, xi 0)], jk, []⟩) →
    (∀ jk i v', v < lsz l → K .ret ⟨[(5, xi i), (1, xi v'), (0, xl (g + 1) 5 ks.length cs), (4, xi (-1))], jk, []⟩) →
    ∀ jk, sem cx0 54 RT (.loop (lp Try.f54 0)) ⟨[(5, xi i), (1, xi v), (0, xl (g + 1) 5 ks.length cs), (4, xi 0)], jk, []⟩ K := by
  refine drop_ind ?_ ?_
  · intro v h0 h1 k1 k2 jk
    refine loop_step cx0 _ RT [5, 1, 0, 4] ⟨fun h => (lt_no h (by omega)).elim, fun h => ?_⟩
    exact fun jk => k1 jk _ _ (by simpa [lsz] using h0) (by simp [lsz])
  · intro i c l hi hil ih v h0 h1 k1 k2 jk
    refine loop_step cx0 _ RT [5, 1, 0, 4] ⟨fun h => ?_, fun h => (lt_yes h (by omega)).elim⟩
    refine ⟨⟨by omega, by omega⟩, ?_⟩
    have hc := H c (List.mem_of_getElem? hi)
    have hwc := Wfs_iff.1 hw c (List.mem_of_getElem? hi)
    cases c with
    | mk op n s t kk =>
    obtain ⟨g', cs', e1, e2⟩ := Rds_get hr hi
    refine ⟨op, n, s, t, g' + 1, kk.length, cs', ⟨e1, rfl⟩, ?_⟩
    refine ⟨_, ⟨_, hc _ v hwc (show Rd _ (core op n s t (g' + 2) kk.length (retags cs')) from ⟨_, _, rfl, e2.retag⟩) h0 h1, rfl⟩, ?_⟩
    refine ⟨fun h2 => ?_, fun h2 => ?_⟩
    · have := szR_no h2 h0
      exact fun jk => k2 jk _ _ (by simp only [lsz]; omega)
    · obtain ⟨h3, h4⟩ := szR_yes h2
      refine fun jk => ?_
      rw [wrapS hil hk, h4]
      exact ih _ (by omega) (by omega) (fun jk i v' a1 a2 => k1 jk i v' (by simp only [lsz]; omega) (by simp only [lsz]; omega)) (fun jk i v' a1 => k2 jk i v' (by simp only [lsz]; omega)) jk

theorem sz54 {ks : List Co} {cs : List TU} {g : Nat} {left : Int} (H : ∀ c ∈ ks, S19 c) (hw : Wfs ks) (hr : Rds ks cs) (hk : ks.length ≤ maxLen) (h0 : 0 ≤ left) (h1 : left ≤ 1048576) :
    RT 54 [xl (g + 1) 5 ks.length cs, xi left] [] = some (xi (szR (szCs ks) left), []) := by
  have hk' := hk
  simp only [maxLen] at hk'
  refine fn_is (fn := Try.f54) rfl rfl rfl rfl ?_
  refine ⟨fun h => ?_, fun h => ?_⟩
  · rw [wrap64 (by omega) (by omega)] at h
    refine ⟨?_, rfl⟩
    simp at h
    have : ¬ ((szCs ks : Nat) : Int) ≤ left := by rw [szCs_eq]; omega
    simp only [szR, if_neg this]; rfl
  · rw [wrap64 (by omega) (by omega)] at h
    simp at h
    have e : szCs ks = ks.length + lsz ks := szCs_eq ks
    refine sem_in cx0 _ RT [5, 1, 0, 4] fun jk => ?_
    rw [wrap64 (n := left - ks.length) (by omega) (by omega)]
    refine l54 H hw hr hk ks 0 rfl (by omega) _ (by omega) (by omega) ?_ ?_ _
    · intro jk i v' a1 a2
      refine ⟨?_, rfl⟩
      have : ((szCs ks : Nat) : Int) ≤ left := by omega
      simp only [szR, if_pos this]
      rw [a2, show left - ((szCs ks : Nat) : Int) = left - ks.length - lsz ks by omega]; rfl
    · intro jk i v' a1
      refine ⟨?_, rfl⟩
      have : ¬ ((szCs ks : Nat) : Int) ≤ left := by omega
      simp only [szR, if_neg this]; rfl

end Go.Proofs.Ytkijidheicdadaa.V

namespace Go.Proofs.Ytkijidheicdadaa.V
set_option maxRecDepth 100000

theorem sz19 : ∀ c : Co, S19 c := by
  refine Co.ind fun op n s t ks ih => ?_
  intro us left hw hr h0 h1
  simp only [Rd] at hr
  obtain ⟨g, cs, rfl, hr⟩ := hr
  simp only [Wf] at hw
  obtain ⟨w1, w2, w3, w4, w5, w6⟩ := hw
  have hs := w3
  have ht := w4
  simp only [maxLen] at hs ht
  refine fn_is (fn := Try.f19) rfl rfl rfl rfl ?_
  have e0 : szC (.mk op n s t ks) = s.length + t.length + szCs ks := rfl
  refine ⟨fun h => ?_, fun h => ?_⟩
  · rw [wrap64 (by omega) (by omega)] at h
    have h := of_decide_eq_true h
    have : ¬ ((szC (.mk op n s t ks) : Nat) : Int) ≤ left := by omega
    refine ⟨?_, rfl⟩
    simp only [szR, if_neg this]; rfl
  rw [wrap64 (by omega) (by omega)] at h
  have h := of_decide_eq_false h
  refine ⟨fun h' => ?_, fun h' => ?_⟩
  · rw [wrap64 (n := left - s.length) (by omega) (by omega), wrap64 (by omega) (by omega)] at h'
    have h' := of_decide_eq_true h'
    have : ¬ ((szC (.mk op n s t ks) : Nat) : Int) ≤ left := by omega
    refine ⟨?_, rfl⟩
    simp only [szR, if_neg this]; rfl
  rw [wrap64 (n := left - s.length) (by omega) (by omega), wrap64 (by omega) (by omega)] at h'
  have h' := of_decide_eq_false h'
  have e1 : IntKind.wrap .i64 (IntKind.wrap .i64 (left - (s.length : Int)) - (t.length : Int)) = left - s.length - t.length := by
    rw [wrap64 (n := left - s.length) (by omega) (by omega), wrap64 (by omega) (by omega)]
  have hc := sz54 (g := g + 1) (left := left - s.length - t.length) ih w6 hr.retag w5 (by omega) (by omega)
  refine ⟨_, ⟨_, by rw [e1]; exact hc, rfl⟩, ?_⟩
  refine ⟨fun h2 => ?_, fun h2 => ?_⟩
  · have := szR_no h2 (by omega)
    have : ¬ ((szC (.mk op n s t ks) : Nat) : Int) ≤ left := by omega
    refine ⟨?_, rfl⟩
    simp only [szR, if_neg this]; rfl
  · obtain ⟨h3, h4⟩ := szR_yes h2
    have : ((szC (.mk op n s t ks) : Nat) : Int) ≤ left := by omega
    refine ⟨?_, rfl⟩
    rw [h4]
    simp only [szR, if_pos this]
    rw [show left - ((szC (.mk op n s t ks) : Nat) : Int) = left - s.length - t.length - szCs ks by omega]; rfl

/-! ### turned over -/
def S21 (c : Co) : Prop := ∀ us, szC c ≤ 1048576 → Rd c us → RT 21 [xc us] [] = some (xc (enc c), [])

abbrev zC : List TU := [.int .i64 0, .int .i64 0, .str [], .str [], .sl () 0 5 0 []]

theorem szCs_le {ks : List Co} {n : Nat} (h : szCs ks ≤ n) : ks.length ≤ n := by rw [szCs_eq] at h; omega

theorem szCs_mem : ∀ {ks : List Co} {n : Nat} {c : Co}, szCs ks ≤ n → c ∈ ks → szC c ≤ n
  | x :: ks, n, c, h, hc => by
    simp only [szCs] at h
    rcases List.mem_cons.1 hc with rfl | hc
    · omega
    · exact szCs_mem (ks := ks) (by omega) hc

theorem repl_len {n : Nat} {xs : List TU} : (repl n xs).length = n * xs.length := by
  simp [repl]

theorem repl_succ {n : Nat} {xs : List TU} : repl (n + 1) xs = xs ++ repl n xs := by
  simp [repl, List.replicate_succ]

theorem put_next {l : List Co} {c : Co} {m : Nat} : (((encs l ++ repl (m + 1) zC).take (l.length * 5)) ++ enc c) ++ (encs l ++ repl (m + 1) zC).drop (l.length * 5 + 5) = encs (l ++ [c]) ++ repl m zC := by
  rw [← encs_len l, List.take_left, List.drop_length_add_append, repl_succ, encs_append]
  simp only [encs, List.append_nil]
  rw [show (zC ++ repl m zC).drop 5 = repl m zC from rfl]

theorem l55 {ks : List Co} {cs : List TU} {g : Nat} {K : Ex → StA → Prop} (H : ∀ c ∈ ks, S21 c) (hz : szCs ks ≤ 1048576) (hr : Rds ks cs) : ∀ (l : List Co) (i : Nat), ks.drop i = l → i ≤ ks.length →
    (∀ jk i, K (.exit 0) ⟨[(4, xi i), (3, xl 0 5 ks.length (encs ks)), (0, xl (g + 1) 5 ks.length cs), (2, xl 0 5 0 [])], jk, []⟩) →
    ∀ jk, sem cx0 55 RT (.loop (lp Try.f55 0)) ⟨[(4, xi i), (3, xl 0 5 ks.length (encs (ks.take i) ++ repl (ks.length - i) zC)), (0, xl (g + 1) 5 ks.length cs), (2, xl 0 5 0 [])], jk, []⟩ K := by
  have hk := szCs_le hz
  refine drop_ind ?_ ?_
  · intro k1 jk
    refine loop_step cx0 _ RT [4, 3, 0, 2] ⟨fun h => (lt_no h (by omega)).elim, fun h => ?_⟩
    intro jk
    have := k1 jk ks.length
    simpa [repl] using this
  · intro i c l hi hil ih k1 jk
    refine loop_step cx0 _ RT [4, 3, 0, 2] ⟨fun h => ?_, fun h => (lt_yes h (by omega)).elim⟩
    refine ⟨⟨by omega, by omega⟩, ?_⟩
    have hm := List.mem_of_getElem? hi
    have hc := H c hm
    have hzc := szCs_mem hz hm
    cases c with
    | mk op n s t kk =>
    obtain ⟨g', cs', e1, e2⟩ := Rds_get hr hi
    refine ⟨op, n, s, t, g' + 1, kk.length, cs', ⟨e1, rfl⟩, ?_⟩
    refine ⟨_, retC (hc _ hzc (show Rd _ (core op n s t (g' + 2) kk.length (retags cs')) from ⟨_, _, rfl, e2.retag⟩)), ?_⟩
    refine ⟨⟨by omega, by omega⟩, ?_⟩
    refine ⟨?_, ?_⟩
    · rw [List.length_append, encs_len, repl_len, List.length_take, Nat.min_eq_left (by omega)]
      show 0 + i * 5 + 5 ≤ i * 5 + (ks.length - i) * 5
      omega
    intro jk jk
    have hl : (ks.take i).length = i := by rw [List.length_take]; omega
    have e := put_next (l := ks.take i) (c := .mk op n s t kk) (m := ks.length - (i + 1))
    rw [hl, show ks.length - (i + 1) + 1 = ks.length - i by omega, show ks.take i ++ [Co.mk op n s t kk] = ks.take (i + 1) by rw [List.take_add_one, hi]; rfl] at e
    have := ih k1 jk
    rw [← e] at this
    simp only [Nat.zero_add, Int.toNat_natCast, wrapS hil (show ks.length ≤ maxLen by simp only [maxLen]; omega)]
    exact this

theorem to55 {ks : List Co} {cs : List TU} {g : Nat} (H : ∀ c ∈ ks, S21 c) (hz : szCs ks ≤ 1048576) (hr : Rds ks cs) :
    RT 55 [xl (g + 1) 5 ks.length cs] [] = some (xl 0 5 ks.length (encs ks), []) := by
  have hk := szCs_le hz
  refine fn_is (fn := Try.f55) rfl rfl rfl rfl ?_
  refine ⟨⟨by omega, by omega, ?_, by simp only [maxLen]; omega⟩, ?_⟩
  · show (ks.length : Int) * (72 : Nat) ≤ 140737488355328
    omega
  refine sem_in cx0 _ RT [4, 3, 0, 2] fun jk => ?_
  refine l55 (g := g) H hz hr ks 0 rfl (by omega) (fun jk i => ?_) jk
  refine ⟨by rw [encs_len]; omega, ?_⟩
  refine ⟨?_, rfl⟩
  exact congrArg (xl 0 5 ks.length) (encs_whole ks).symm

theorem to21 : ∀ c : Co, S21 c := by
  refine Co.ind fun op n s t ks ih => ?_
  intro us hz hr
  simp only [Rd] at hr
  obtain ⟨g, cs, rfl, hr⟩ := hr
  refine fn_is (fn := Try.f21) rfl rfl rfl rfl ?_
  refine ⟨_, retL (to55 (g := g + 1) (cs := retags cs) ih (by simp only [szC] at hz; omega) hr.retag), ?_⟩
  refine ⟨by rw [encs_len]; omega, ?_⟩
  refine ⟨?_, rfl⟩
  exact congrArg (fun x => xc (core op n s t 0 ks.length x)) (encs_whole ks).symm

/-! ### compared: what is the same is found so -/
def S23 (c : Co) : Prop := ∀ us vs, Wf c → Rd c us → Rd c vs → RT 23 [xc us, xc vs] [] = some (xb true, [])

theorem l56 {ks : List Co} {cs ds : List TU} {g h : Nat} {K : Ex → StA → Prop} (H : ∀ c ∈ ks, S23 c) (hw : Wfs ks) (hr : Rds ks cs) (hs : Rds ks ds) (hk : ks.length ≤ maxLen) : ∀ (l : List Co) (i : Nat), ks.drop i = l → i ≤ ks.length →
    (∀ jk i, K (.exit 0) ⟨[(5, xi i), (0, xl (g + 1) 5 ks.length cs), (1, xl (h + 1) 5 ks.length ds), (4, xb false)], jk, []⟩) →
    ∀ jk, sem cx0 56 RT (.loop (lp Try.f56 0)) ⟨[(5, xi i), (0, xl (g + 1) 5 ks.length cs), (1, xl (h + 1) 5 ks.length ds), (4, xb false)], jk, []⟩ K := by
  refine drop_ind ?_ ?_
  · intro k1 jk
    refine loop_step cx0 _ RT [5, 0, 1, 4] ⟨fun h => (lt_no h (by omega)).elim, fun h => ?_⟩
    exact fun jk => k1 jk _
  · intro i c l hi hil ih k1 jk
    refine loop_step cx0 _ RT [5, 0, 1, 4] ⟨fun h => ?_, fun h => (lt_yes h (by omega)).elim⟩
    refine ⟨⟨by omega, by omega⟩, ?_⟩
    have hm := List.mem_of_getElem? hi
    have hc := H c hm
    have hwc := Wfs_iff.1 hw c hm
    cases c with
    | mk op n s t kk =>
    obtain ⟨g', cs', e1, e2⟩ := Rds_get hr hi
    refine ⟨op, n, s, t, g' + 1, kk.length, cs', ⟨e1, rfl⟩, ?_⟩
    refine ⟨⟨by omega, by omega⟩, ?_⟩
    obtain ⟨h', ds', f1, f2⟩ := Rds_get hs hi
    refine ⟨op, n, s, t, h' + 1, kk.length, ds', ⟨f1, rfl⟩, ?_⟩
    refine ⟨_, retB (hc _ _ hwc (show Rd _ (core op n s t (g' + 2) kk.length (retags cs')) from ⟨_, _, rfl, e2.retag⟩) (show Rd _ (core op n s t (h' + 2) kk.length (retags ds')) from ⟨_, _, rfl, f2.retag⟩)), ?_⟩
    refine ⟨(fun h => by cases h), fun h => ?_⟩
    intro jk
    rw [wrapS hil hk]
    exact ih k1 jk

theorem eq56 {ks : List Co} {cs ds : List TU} {g h : Nat} (H : ∀ c ∈ ks, S23 c) (hw : Wfs ks) (hr : Rds ks cs) (hs : Rds ks ds) (hk : ks.length ≤ maxLen) :
    RT 56 [xl (g + 1) 5 ks.length cs, xl (h + 1) 5 ks.length ds] [] = some (xb true, []) := by
  refine fn_is (fn := Try.f56) rfl rfl rfl rfl ?_
  refine ⟨fun h => by simp at h, fun _ => ?_⟩
  refine sem_in cx0 _ RT [5, 0, 1, 4] fun jk => ?_
  refine l56 H hw hr hs hk ks 0 rfl (by omega) (fun jk i => ?_) jk
  exact ⟨rfl, rfl⟩

theorem eq23 : ∀ c : Co, S23 c := by
  refine Co.ind fun op n s t ks ih => ?_
  intro us vs hw hr hs
  simp only [Rd] at hr hs
  obtain ⟨g, cs, rfl, hr⟩ := hr
  obtain ⟨h, ds, rfl, hs⟩ := hs
  simp only [Wf] at hw
  refine fn_is (fn := Try.f23) rfl rfl rfl rfl ?_
  refine ⟨fun h => by simp at h, fun _ => ?_⟩
  refine ⟨fun h => by simp at h, fun _ => ?_⟩
  refine ⟨fun h => by simp at h, fun _ => ?_⟩
  refine ⟨fun h => by simp at h, fun _ => ?_⟩
  refine ⟨_, retB (eq56 (g := g + 1) (h := h + 1) (cs := retags cs) (ds := retags ds) ih hw.2.2.2.2.2 hr.retag hs.retag hw.2.2.2.2.1), ?_⟩
  refine ⟨(fun h => by cases h), fun _ => ?_⟩
  exact ⟨rfl, rfl⟩

end Go.Proofs.Ytkijidheicdadaa.V

namespace Go.Proofs.Ytkijidheicdadaa.V
set_option maxRecDepth 100000

theorem i64_wf {n : Int} (h : (Lit.int .i64 n).wf = true) : -9223372036854775808 ≤ n ∧ n < 9223372036854775808 := by
  simp only [Lit.wf, Bool.and_eq_true, decide_eq_true_eq] at h
  obtain ⟨h1, h2⟩ := h
  have e1 : IntKind.min .i64 = -9223372036854775808 := by decide
  have e2 : IntKind.max .i64 = 9223372036854775807 := by decide
  omega

def ShL (sh : Nat → List TU → Prop) : List Nat → List TU → Prop
  | [], us => us = []
  | t :: ts, us => ∃ vs ws, us = vs ++ ws ∧ sh t vs ∧ ShL sh ts ws

theorem ShF_L {sh : Nat → List TU → Prop} : ∀ {fs : List Field} {us : List TU}, ShF sh fs us → ShL sh (fs.map (·.type)) us
  | [], us, h => h
  | f :: fs, us, h => by
    obtain ⟨vs, ws, h1, h2, h3⟩ := h
    exact ⟨vs, ws, h1, h2, ShF_L h3⟩

theorem sh_int {k : Nat} {us : List TU} (h : Sh Try.prog k 3 us) : ∃ n, us = [.int .i64 n] ∧ -9223372036854775808 ≤ n ∧ n < 9223372036854775808 := by
  cases k with
  | zero => exact h.elim
  | succ k =>
    have hu : Try.prog.underlying 3 = some (.int .i64) := by kernel_rfl
    simp only [Sh, hu] at h
    obtain ⟨n, h1, h2⟩ := h
    exact ⟨n, h1, i64_wf h2⟩

theorem sh_str {k : Nat} {us : List TU} (h : Sh Try.prog k 9 us) : ∃ s, us = [.str s] ∧ s.length ≤ maxLen := by
  cases k with
  | zero => exact h.elim
  | succ k =>
    have hu : Try.prog.underlying 9 = some .string := by kernel_rfl
    simp only [Sh, hu] at h
    exact h

def fieldTys (P : Program) (t : Nat) : Option (List Nat) :=
  match P.underlying t with
  | some (.struct fs) => some (fs.toList.map (·.type))
  | _ => none

theorem fieldTys_ok {P : Program} {t : Nat} {l : List Nat} (h : fieldTys P t = some l) : ∃ fs, P.underlying t = some (.struct fs) ∧ fs.toList.map (·.type) = l := by
  unfold fieldTys at h
  split at h
  · next fs hf => exact ⟨fs, hf, Option.some.inj h⟩
  · cases h

theorem sh_core : ∀ (k : Nat) (us : List TU), Sh Try.prog k 31 us → ∃ c, Rd c us ∧ Wf c := by
  intro k
  induction k using Nat.strongRecOn with
  | _ k ih =>
  intro us h
  cases k with
  | zero => exact h.elim
  | succ k =>
    obtain ⟨fs, hu, hf⟩ := fieldTys_ok (P := Try.prog) (t := 31) (l := [3, 3, 9, 9, 29]) (by kernel_rfl)
    simp only [Sh, hu] at h
    have h := ShF_L h
    rw [hf] at h
    obtain ⟨a1, b1, rfl, c1, a2, b2, rfl, c2, a3, b3, rfl, c3, a4, b4, rfl, c4, a5, b5, rfl, c5, rfl⟩ := h
    obtain ⟨op, rfl, o1, o2⟩ := sh_int c1
    obtain ⟨n, rfl, n1, n2⟩ := sh_int c2
    obtain ⟨s, rfl, s1⟩ := sh_str c3
    obtain ⟨t, rfl, t1⟩ := sh_str c4
    cases k with
    | zero => exact c5.elim
    | succ k =>
      have hu : Try.prog.underlying 29 = some (.slice 31) := by kernel_rfl
      simp only [Sh, hu] at c5
      obtain ⟨cs, rfl, l1, l2, l3⟩ := c5
      have key : ∀ cs : List (List TU), (∀ c ∈ cs, Sh Try.prog k 31 c) → ∃ ks : List Co, ks.length = cs.length ∧ Rds ks cs.flatten ∧ Wfs ks := by
        intro cs
        induction cs with
        | nil => intro _; exact ⟨[], rfl, rfl, trivial⟩
        | cons c cs ihc =>
          intro h
          obtain ⟨x, x1, x2⟩ := ih k (by omega) c (h c List.mem_cons_self)
          obtain ⟨ks, k1, k2, k3⟩ := ihc fun y hy => h y (List.mem_cons_of_mem _ hy)
          exact ⟨x :: ks, by simp [k1], ⟨_, _, rfl, x1, k2⟩, ⟨x2, k3⟩⟩
      obtain ⟨ks, k1, k2, k3⟩ := key cs l3
      refine ⟨.mk op n s t ks, ⟨0, cs.flatten, ?_, k2⟩, ⟨o1, o2⟩, ⟨n1, n2⟩, s1, t1, by omega, k3⟩
      have e : Try.prog.cellsOf 31 = 5 := by kernel_rfl
      rw [e, k1]; rfl

/-- A core of one's own, as it is handed over: whole, or read out of a variable. -/
theorem rdO (op n : Int) (s t : List UInt8) (ks : List Co) : Rd (.mk op n s t ks) (core op n s t 1 ks.length (retags (encs ks))) := enc_retag (.mk op n s t ks)
theorem rdV (op n : Int) (s t : List UInt8) (ks : List Co) : Rd (.mk op n s t ks) (core op n s t 1 ks.length (retags (((encs ks).drop 0).take (ks.length * 5)))) := by rw [encs_whole]; exact rdO op n s t ks
theorem inV (ks : List Co) : 0 + ks.length * 5 ≤ (encs ks).length := by rw [encs_len]; omega

theorem run_of {f : Nat} {xs : List XU} {r : XU × List (List CU)} (h : RT f xs [] = some r) : ∃ k, run Try.prog cx0 k f xs [] = some r := (RR_iff Try.prog cx0).1 h

end Go.Proofs.Ytkijidheicdadaa.V

namespace Go.Proofs.Ytkijidheicdadaa.V
set_option maxRecDepth 100000

def bit (b : Bool) : Nat := if b then 1 else 0

theorem bit57 (b : Bool) : RT 57 [xb b] [] = some (xi (bit b), []) := by
  refine fn_is (fn := Try.f57) rfl rfl rfl rfl ?_
  refine ⟨fun h => ?_, fun h => ?_⟩
  · exact ⟨by rw [h]; rfl, rfl⟩
  · exact ⟨by rw [h]; rfl, rfl⟩

theorem max59 (a b : Int) : RT 59 [xi a, xi b] [] = some (xi (max a b), []) := by
  refine fn_is (fn := Try.f59) rfl rfl rfl rfl ?_
  refine ⟨fun h => ?_, fun h => ?_⟩
  · have h := of_decide_eq_true h
    exact ⟨by rw [show max a b = a by omega]; rfl, rfl⟩
  · have h := of_decide_eq_false h
    exact ⟨by rw [show max a b = b by omega]; rfl, rfl⟩

def inF (op : Int) (i : Nat) : Bool := op == 3 || (op == 6 && i == 0)

theorem inF_i {i : Nat} : (((i : Int)) == 0) = (i == 0) := by
  cases i with
  | zero => rfl
  | succ i => simp; omega

theorem inf58 {op n : Int} {s t : List UInt8} {ks : List Co} {us : List TU} {i : Nat} (h : Rd (.mk op n s t ks) us) : RT 58 [xc us, xi i] [] = some (xb (inF op i), []) := by
  obtain ⟨g, cs, rfl, h⟩ := h
  refine fn_is (fn := Try.f58) rfl rfl rfl rfl ?_
  refine ⟨fun h => ?_, fun h => ?_⟩
  · exact ⟨by simp only [inF, h]; rfl, rfl⟩
  refine ⟨fun h2 => ?_, fun h2 => ?_⟩
  · exact ⟨by simp only [inF, h, h2, ← inF_i]; rfl, rfl⟩
  · exact ⟨by simp only [inF, h, h2]; rfl, rfl⟩

theorem in50 (a lo hi : Int) : RT 50 [xi a, xi lo, xi hi] [] = some (xb (decide (a ≥ lo) && decide (a ≤ hi)), []) := by
  refine fn_is (fn := Try.f50) rfl rfl rfl rfl ?_
  refine ⟨fun h => ?_, fun h => ?_⟩
  · exact ⟨by rw [h]; rfl, rfl⟩
  · exact ⟨by rw [h]; rfl, rfl⟩

theorem in52 (a lo hi : Int) : RT 52 [xi a, xi lo, xi hi] [] = some (xb (decide (a ≥ lo) && decide (a ≤ hi)), []) := by
  refine fn_is (fn := Try.f52) rfl rfl rfl rfl ?_
  refine ⟨fun h => ?_, fun h => ?_⟩
  · exact ⟨by rw [h]; rfl, rfl⟩
  · exact ⟨by rw [h]; rfl, rfl⟩

end Go.Proofs.Ytkijidheicdadaa.V

namespace Go.Proofs.Ytkijidheicdadaa.V
set_option maxRecDepth 100000

abbrev Nm := List UInt8
def nm : List Nm → List TU
  | [] => []
  | s :: l => .str s :: nm l

theorem nm_retag : ∀ l, retags (nm l) = nm l
  | [] => rfl
  | s :: l => by simp only [nm, retags, retag, nm_retag l]
theorem nm_down : ∀ l, downs (nm l) = some (nm l)
  | [] => rfl
  | s :: l => by simp only [nm, downs, down, nm_down l, Option.bind_some, Option.map_some]
theorem nm_len : ∀ l, (nm l).length = l.length
  | [] => rfl
  | s :: l => by simp only [nm, List.length_cons, nm_len l]
theorem nm_append : ∀ l m, nm (l ++ m) = nm l ++ nm m
  | [], m => rfl
  | s :: l, m => by simp only [List.cons_append, nm, nm_append l m]
theorem nm_whole (l : List Nm) : ((nm l).drop 0).take (l.length * 1) = nm l := by rw [List.drop_zero, Nat.mul_one, ← nm_len, List.take_length]
theorem nm_at : ∀ {l : List Nm} {i : Nat} {s : Nm}, l[i]? = some s → ((nm l).drop (i * 1)).take 1 = [.str s]
  | [], i, s, h => by simp at h
  | x :: l, 0, s, h => by
    simp only [List.getElem?_cons_zero, Option.some.injEq] at h
    subst h; rfl
  | x :: l, i + 1, s, h => by
    simp only [List.getElem?_cons_succ] at h
    have := nm_at h
    rw [show (i + 1) * 1 = i * 1 + 1 by omega]; exact this

theorem retN {g : Nat} {xs : List XU} {n : Nat} {l : List Nm} (h : RT g xs [] = some (xl 0 1 n (nm l), [])) : Ret RT g xs (xl 0 1 n (nm l)) := ⟨_, h, by simp only [downX, downC, down, nm_down, Option.map_some]; rfl⟩

theorem l83 {l : List Nm} {s : Nm} {g : Nat} {K : Ex → StA → Prop} (hk : l.length ≤ maxLen) : ∀ (r : List Nm) (i : Nat), l.drop i = r → i ≤ l.length →
    (∀ jk j, (r.contains s) = false → K (.exit 0) ⟨[(5, xi j), (0, xl (g + 1) 1 l.length (nm l)), (1, xs s), (4, xb false)], jk, []⟩) →
    (∀ jk j, (r.contains s) = true → K .ret ⟨[(5, xi j), (0, xl (g + 1) 1 l.length (nm l)), (1, xs s), (4, xb true)], jk, []⟩) →
    ∀ jk, sem cx0 83 RT (.loop (lp Try.f83 0)) ⟨[(5, xi i), (0, xl (g + 1) 1 l.length (nm l)), (1, xs s), (4, xb false)], jk, []⟩ K := by
  refine drop_ind ?_ ?_
  · intro k1 k2 jk
    refine loop_step cx0 _ RT [5, 0, 1, 4] ⟨fun h => (lt_no h (by omega)).elim, fun h => ?_⟩
    exact fun jk => k1 jk _ rfl
  · intro i o r hi hil ih k1 k2 jk
    refine loop_step cx0 _ RT [5, 0, 1, 4] ⟨fun h => ?_, fun h => (lt_yes h (by omega)).elim⟩
    refine ⟨⟨by omega, by omega⟩, ?_⟩
    refine ⟨o, ⟨nm_at hi, rfl⟩, ?_⟩
    refine ⟨fun h => ?_, fun h => ?_⟩
    · have h := eq_of_beq h
      exact fun jk => k2 jk _ (by subst h; simp)
    · have h1 : ∀ b, (o :: r).contains s = b → r.contains s = b := by
        intro b hb; rw [List.contains_cons] at hb
        have : (s == o) = false := by rw [← h]; exact BEq.comm
        rwa [this, Bool.false_or] at hb
      have h2 : ∀ b, r.contains s = b → (o :: r).contains s = b := by
        intro b hb; rw [List.contains_cons]
        have : (s == o) = false := by rw [← h]; exact BEq.comm
        rw [this, Bool.false_or]; exact hb
      intro jk
      rw [wrapS hil hk]
      exact ih (fun jk j h => k1 jk j (h2 _ h)) (fun jk j h => k2 jk j (h2 _ h)) jk

theorem in83 {l : List Nm} {s : Nm} {g : Nat} {cs : List TU} (hc : cs = nm l) (hk : l.length ≤ maxLen) : RT 83 [xl (g + 1) 1 l.length cs, xs s] [] = some (xb (l.contains s), []) := by
  subst hc
  refine fn_is (fn := Try.f83) rfl rfl rfl rfl ?_
  refine sem_in cx0 _ RT [5, 0, 1, 4] fun jk => ?_
  refine l83 (g := g) (s := s) hk l 0 rfl (by omega) (fun jk i h => ?_) (fun jk i h => ?_) jk
  · exact ⟨by rw [h]; rfl, rfl⟩
  · exact ⟨by rw [h]; rfl, rfl⟩

theorem xl_eq {g sz n n' : Nat} {cs cs' : List TU} (h1 : n = n') (h2 : cs = cs') : xl g sz n cs = xl g sz n' cs' := by rw [h1, h2]
theorem take_all {α : Type} {n : Nat} {l : List α} (h : l.length ≤ n) : (l.drop 0).take n = l := by rw [List.drop_zero, List.take_of_length_le h]
theorem nm_put {l m : List Nm} : ((([] ++ nm l).drop 0).take ((0 + l.length) * 1)) ++ nm m = nm (l ++ m) := by
  rw [List.nil_append, take_all (by rw [nm_len]; omega), nm_append]

theorem and91 {l : List Nm} {s : Nm} {g : Nat} {cs : List TU} (hc : cs = nm l) (hk : l.length ≤ 8388608) : RT 91 [xl (g + 1) 1 l.length cs, xs s] [] = some (xl 0 1 (l ++ [s]).length (nm (l ++ [s])), []) := by
  subst hc
  refine fn_is (fn := Try.f91) rfl rfl rfl rfl ?_
  refine ⟨⟨by simp only [maxLen]; omega, by show (0 + l.length) * 16 ≤ _; omega⟩, ?_⟩
  refine ⟨by show 0 + (0 + l.length) * 1 ≤ (nm l).length; rw [nm_len]; omega, ?_⟩
  refine ⟨⟨by simp only [maxLen]; omega, by show (_ + 1) * 16 ≤ _; omega⟩, ?_⟩
  have e := nm_put (l := l) (m := [s])
  refine ⟨?_, ?_⟩
  · refine Nat.le_trans ?_ (Nat.le_of_eq (congrArg List.length e.symm))
    rw [nm_len, List.length_append]; show 0 + (0 + l.length + 1) * 1 ≤ l.length + 1; omega
  refine ⟨xl_eq (by simp) ?_, rfl⟩
  refine Eq.trans ?_ (congrArg (fun x => (List.drop 0 x).take ((0 + l.length + 1) * 1)) e.symm)
  exact (take_all (by rw [nm_len, List.length_append]; show l.length + 1 ≤ _; omega)).symm

/-- What is bound in a kid. -/
def envS (op : Int) (s t : Nm) (i : Nat) : List Nm :=
  if op == 3 || (op == 5 && (i : Int) == 1) || (op == 6 && (i : Int) == 1) then [s] else if op == 6 then [s, t] else []

theorem fn_ex {g : Nat} {fn : Func} {a : List XU} {P : XU → Prop} (ho : cx0.orc g = none) (hf : Try.prog.funcs[g]? = some fn) (hb : fn.body = some (fn.body.getD .skip)) (hg : cx0.good g = true)
    (h : fnW cx0 g RT fn a [] fun y e => P y ∧ e = []) : ∃ y, P y ∧ RT g a [] = some (y, []) := by
  obtain ⟨y, e, h1, h2, h3⟩ := fn_ok ho hf hb hg h
  exact ⟨y, h2, by rw [RT, h1, h3]⟩

theorem env84 {op n : Int} {s t : Nm} {ks : List Co} {us : List TU} {i : Nat} {l : List Nm} {g : Nat} {cs : List TU} (h : Rd (.mk op n s t ks) us) (hc : cs = nm l) (hk : l.length ≤ 4194304) :
    ∃ y, (∃ g', (g' = 0 ∨ g' = g + 2) ∧ y = xl g' 1 (l ++ envS op s t i).length (nm (l ++ envS op s t i))) ∧ RT 84 [xc us, xi i, xl (g + 2) 1 l.length cs] [] = some (y, []) := by
  subst hc
  obtain ⟨g', cs, rfl, h⟩ := h
  refine fn_ex (fn := Try.f84) rfl rfl rfl rfl ?_
  have W : ∀ L : List Nm, 0 + L.length * 1 ≤ (nm L).length := fun L => by rw [nm_len]; omega
  refine ⟨fun h3 => ?_, fun h3 => ?_⟩
  · refine ⟨_, retN (and91 (g := g + 2) (nm_retag l) (by omega)), ?_⟩
    refine ⟨W _, ?_⟩
    exact ⟨⟨0, .inl rfl, by rw [← nm_whole (l ++ envS op s t i)]; simp only [envS, h3]; rfl⟩, rfl⟩
  refine ⟨fun h5 => ?_, fun h5 => ?_⟩
  · refine ⟨fun hi => ?_, fun hi => ?_⟩
    · refine ⟨_, retN (and91 (g := g + 2) (nm_retag l) (by omega)), ?_⟩
      refine ⟨W _, ?_⟩
      exact ⟨⟨0, .inl rfl, by rw [← nm_whole (l ++ envS op s t i)]; simp only [envS, h3, h5, hi]; rfl⟩, rfl⟩
    · have := eq_of_beq h5
      subst this
      refine ⟨fun h6 => by simp_all, fun h6 => ?_⟩
      refine ⟨fun h6' => by simp_all, fun h6' => ?_⟩
      exact ⟨⟨g + 2, .inr rfl, by simp only [envS, hi]; simp; rfl⟩, rfl⟩
  refine ⟨fun h6 => ?_, fun h6 => ?_⟩
  · refine ⟨fun hi => ?_, fun hi => ?_⟩
    · refine ⟨_, retN (and91 (g := g + 2) (nm_retag l) (by omega)), ?_⟩
      refine ⟨W _, ?_⟩
      exact ⟨⟨0, .inl rfl, by rw [← nm_whole (l ++ envS op s t i)]; simp only [envS, h3, h5, h6, hi]; rfl⟩, rfl⟩
    · refine ⟨fun _ => ?_, fun h6' => by simp_all⟩
      refine ⟨_, retN (and91 (g := g + 2) (nm_retag l) (by omega)), ?_⟩
      refine ⟨_, retN (and91 (g := 0) (nm_retag _) (by simp; omega)), ?_⟩
      refine ⟨W _, ?_⟩
      exact ⟨⟨0, .inl rfl, by rw [← nm_whole (l ++ envS op s t i)]; simp only [envS, h3, h5, h6, hi]; simp; rfl⟩, rfl⟩
  · refine ⟨fun h6' => by simp_all, fun h6' => ?_⟩
    exact ⟨⟨g + 2, .inr rfl, by simp only [envS, h3, h5, h6]; simp; rfl⟩, rfl⟩

theorem binds74 {op n : Int} {s t : Nm} {ks : List Co} {us : List TU} {i : Nat} (h : Rd (.mk op n s t ks) us) :
    RT 74 [xc us, xi i] [] = some (xl 0 1 (envS op s t i).length (nm (envS op s t i)), []) := by
  obtain ⟨g, cs, rfl, h⟩ := h
  refine fn_is (fn := Try.f74) rfl rfl rfl rfl ?_
  refine ⟨fun h3 => ?_, fun h3 => ?_⟩
  · refine ⟨Nat.le_refl _, ?_⟩
    exact ⟨by simp only [envS, h3, Bool.true_or, if_true]; rfl, rfl⟩
  refine ⟨fun h5 => ?_, fun h5 => ?_⟩
  · refine ⟨fun hi => ?_, fun hi => ?_⟩
    · refine ⟨Nat.le_refl _, ?_⟩
      exact ⟨by simp only [envS, h3, h5, hi]; rfl, rfl⟩
    · have := eq_of_beq h5
      subst this
      refine ⟨fun h6 => by simp_all, fun h6 => ?_⟩
      refine ⟨fun h6' => by simp_all, fun h6' => ?_⟩
      refine ⟨Nat.le_refl _, ?_⟩
      exact ⟨by simp only [envS, hi]; rfl, rfl⟩
  refine ⟨fun h6 => ?_, fun h6 => ?_⟩
  · refine ⟨fun hi => ?_, fun hi => ?_⟩
    · refine ⟨Nat.le_refl _, ?_⟩
      exact ⟨by simp only [envS, h3, h5, h6, hi]; rfl, rfl⟩
    · refine ⟨fun _ => ?_, fun h6' => by simp_all⟩
      refine ⟨Nat.le_refl _, ?_⟩
      exact ⟨by simp only [envS, h3, h5, h6, hi]; rfl, rfl⟩
  · refine ⟨fun h6' => by simp_all, fun h6' => ?_⟩
    refine ⟨Nat.le_refl _, ?_⟩
    exact ⟨by simp only [envS, h3, h5, h6]; rfl, rfl⟩
end Go.Proofs.Ytkijidheicdadaa.V

namespace Go.Proofs.Ytkijidheicdadaa.V
set_option maxRecDepth 100000

abbrev xby (b : UInt8) : XU := .c (.t (.int .u8 (b.toNat : Int)))
def isDig (b : UInt8) : Bool := decide ((b.toNat : Int) ≥ 48) && decide ((b.toNat : Int) ≤ 57)
def signs : Nm := [43, 45, 42, 60, 61, 63, 46, 95]
def okB (b : UInt8) : Bool := (decide ((b.toNat : Int) ≥ 97) && decide ((b.toNat : Int) ≤ 122)) || isDig b || signs.contains b

theorem gdb {l : Nm} {i : Nat} {o : UInt8} (h : l[i]? = some o) : l.getD (i : Int).toNat 0 = o := by simp [List.getD, h]
theorem by_eq {a b : UInt8} : ((a.toNat : Int) == (b.toNat : Int)) = (a == b) := by
  by_cases h : a = b
  · subst h; exact (beq_self_eq_true (a.toNat : Int)).trans (beq_self_eq_true a).symm
  · have : ¬ (a.toNat : Int) = b.toNat := fun h2 => h (UInt8.toNat_inj.1 (by omega))
    exact (beq_eq_false_iff_ne.2 this).trans (beq_eq_false_iff_ne.2 h).symm

theorem ib81 (o : UInt8) : RT 81 [xs signs, xby o] [] = some (xi (Lib.indexByte signs o), []) := by
  have := RR_orc (Pr := Try.prog) (cx := cx0) (g := 81) (h := orcIndexByte) (args := [xs signs, xby o]) (x := xi (Lib.indexByte signs (o.toNat : Int).toNat.toUInt8)) rfl rfl
  rw [show (o.toNat : Int).toNat.toUInt8 = o by simp] at this
  exact this

theorem ib_at {l : Nm} {b : UInt8} : decide (Lib.indexByte l b < 0) = !l.contains b := by
  induction l with
  | nil => rfl
  | cons a l ih =>
    have h0 := Lib.indexByte_ge l b
    have e : (a :: l).contains b = ((a == b) || l.contains b) := by rw [List.contains_cons, show (b == a) = (a == b) from BEq.comm]
    rw [e]
    have e2 : ∀ x : Int, Lib.indexByte (a :: l) b = x → decide (Lib.indexByte (a :: l) b < 0) = decide (x < 0) := fun x h => by rw [h]
    by_cases h : (a == b) = true
    · rw [e2 0 (by unfold Lib.indexByte; rw [if_pos h]), h]; rfl
    · rw [Bool.eq_false_iff.2 h, Bool.false_or, ← ih]
      by_cases h2 : Lib.indexByte l b = -1
      · rw [e2 (-1) (by unfold Lib.indexByte; rw [if_neg h, h2]; rfl), h2]
      · have e3 : Lib.indexByte (a :: l) b = if (a == b) = true then 0 else if (Lib.indexByte l b == -1) = true then -1 else Lib.indexByte l b + 1 := rfl
        rw [e2 (Lib.indexByte l b + 1) (by rw [e3, if_neg h, if_neg (fun h3 => h2 (eq_of_beq h3))])]
        apply decide_eq_decide.2; omega

theorem ib_no {b : UInt8} : decide (Lib.indexByte signs b < 0) = !signs.contains b := ib_at

theorem dig89 (b : UInt8) : RT 89 [xby b] [] = some (xb (isDig b), []) := by
  refine fn_is (fn := Try.f89) rfl rfl rfl rfl ?_
  refine ⟨fun h => ?_, fun h => ?_⟩
  · exact ⟨by simp only [isDig, h]; rfl, rfl⟩
  · exact ⟨by simp only [isDig, h]; rfl, rfl⟩
theorem dig80 (b : UInt8) : RT 80 [xby b] [] = some (xb (isDig b), []) := by
  refine fn_is (fn := Try.f80) rfl rfl rfl rfl ?_
  refine ⟨fun h => ?_, fun h => ?_⟩
  · exact ⟨by simp only [isDig, h]; rfl, rfl⟩
  · exact ⟨by simp only [isDig, h]; rfl, rfl⟩

theorem l88 {b : UInt8} {K : Ex → StA → Prop} : ∀ (r : Nm) (i : Nat), signs.drop i = r → i ≤ 8 →
    (∀ jk j, (r.contains b) = false → K (.exit 0) ⟨[(4, xi j), (3, xs signs), (0, xby b), (2, xb false)], jk, []⟩) →
    (∀ jk j, (r.contains b) = true → K .ret ⟨[(4, xi j), (3, xs signs), (0, xby b), (2, xb true)], jk, []⟩) →
    ∀ jk, sem cx0 88 RT (.loop (lp Try.f88 0)) ⟨[(4, xi i), (3, xs signs), (0, xby b), (2, xb false)], jk, []⟩ K := by
  refine drop_ind ?_ ?_
  · intro k1 k2 jk
    refine loop_step cx0 _ RT [4, 3, 0, 2] ⟨fun h => (lt_no h (by decide)).elim, fun h => ?_⟩
    exact fun jk => k1 jk _ rfl
  · intro i o r hi hil ih k1 k2 jk
    refine loop_step cx0 _ RT [4, 3, 0, 2] ⟨fun h => ?_, fun h => (lt_yes h (by have : signs.length = 8 := rfl; omega)).elim⟩
    refine ⟨⟨by omega, by omega⟩, ?_⟩
    have e1 : (o :: r).contains b = ((b == o) || r.contains b) := List.contains_cons
    have e0 : signs[i]? = some o := hi
    rw [show (b == o) = (o == b) from BEq.comm] at e1
    refine ⟨fun h => ?_, fun h => ?_⟩
    · rw [gdb e0, by_eq] at h
      rw [h, Bool.true_or] at e1
      exact fun jk => k2 jk _ e1
    · rw [gdb e0, by_eq] at h
      rw [h, Bool.false_or] at e1
      rw [e1] at k1 k2
      intro jk
      rw [wrapS hil (by decide)]
      exact ih k1 k2 jk

theorem byte88 (b : UInt8) : RT 88 [xby b] [] = some (xb (okB b), []) := by
  refine fn_is (fn := Try.f88) rfl rfl rfl rfl ?_
  have fin : (decide ((b.toNat : Int) ≥ 97) && decide ((b.toNat : Int) ≤ 122)) = false → isDig b = false → ∀ jk K, (∀ jk j, okB b = false → K (.exit 0) ⟨[(4, xi j), (3, xs signs), (0, xby b), (2, xb false)], jk, []⟩) →
    (∀ jk j, okB b = true → K .ret ⟨[(4, xi j), (3, xs signs), (0, xby b), (2, xb true)], jk, []⟩) →
    sem cx0 88 RT (.loop (lp Try.f88 0)) ⟨[(4, xi (0 : Nat)), (3, xs signs), (0, xby b), (2, xb false)], jk, []⟩ K := by
    intro h1 h2 jk K k1 k2
    have : okB b = signs.contains b := by simp only [okB, h1, h2, Bool.false_or]
    rw [this] at k1 k2
    exact l88 signs 0 rfl (by omega) k1 k2 jk
  have e1 : ∀ x : Bool, (decide ((b.toNat : Int) ≥ 97) && decide ((b.toNat : Int) ≤ 122)) = x → okB b = (x || isDig b || signs.contains b) := fun x h => by simp only [okB, h]
  refine ⟨fun h => ?_, fun h => ?_⟩
  · refine ⟨fun h' => ?_, fun h' => ?_⟩
    · exact ⟨by rw [e1 true (by rw [h, h']; rfl)]; rfl, rfl⟩
    · refine ⟨fun g => ?_, fun g => ?_⟩
      · refine ⟨fun g' => ?_, fun g' => ?_⟩
        · exact ⟨by rw [e1 _ rfl]; simp only [isDig, g, g']; simp; rfl, rfl⟩
        · refine sem_in cx0 _ RT [4, 3, 0, 2] fun jk => ?_
          refine fin (by simp only [h, h']; rfl) (by simp only [isDig, g, g']; rfl) _ _ (fun jk j h => ?_) (fun jk j h => ?_)
          · exact ⟨by rw [h]; rfl, rfl⟩
          · exact ⟨by rw [h]; rfl, rfl⟩
      · refine sem_in cx0 _ RT [4, 3, 0, 2] fun jk => ?_
        refine fin (by simp only [h, h']; rfl) (by simp only [isDig, g]; rfl) _ _ (fun jk j h => ?_) (fun jk j h => ?_)
        · exact ⟨by rw [h]; rfl, rfl⟩
        · exact ⟨by rw [h]; rfl, rfl⟩
  · refine ⟨fun g => ?_, fun g => ?_⟩
    · refine ⟨fun g' => ?_, fun g' => ?_⟩
      · exact ⟨by rw [e1 _ rfl]; simp only [isDig, g, g']; simp; rfl, rfl⟩
      · refine sem_in cx0 _ RT [4, 3, 0, 2] fun jk => ?_
        refine fin (by simp only [h]; rfl) (by simp only [isDig, g, g']; rfl) _ _ (fun jk j h => ?_) (fun jk j h => ?_)
        · exact ⟨by rw [h]; rfl, rfl⟩
        · exact ⟨by rw [h]; rfl, rfl⟩
    · refine sem_in cx0 _ RT [4, 3, 0, 2] fun jk => ?_
      refine fin (by simp only [h]; rfl) (by simp only [isDig, g]; rfl) _ _ (fun jk j h => ?_) (fun jk j h => ?_)
      · exact ⟨by rw [h]; rfl, rfl⟩
      · exact ⟨by rw [h]; rfl, rfl⟩

theorem l79 {s : Nm} {K : Ex → StA → Prop} (hk : s.length ≤ maxLen) : ∀ (r : Nm) (i : Nat), s.drop i = r → i ≤ s.length →
    (∀ jk j, r.all okB = true → K (.exit 0) ⟨[(3, xi j), (0, xs s), (2, xb false)], jk, []⟩) →
    (∀ jk j, r.all okB = false → K .ret ⟨[(3, xi j), (0, xs s), (2, xb false)], jk, []⟩) →
    ∀ jk, sem cx0 79 RT (.loop (lp Try.f79 0)) ⟨[(3, xi i), (0, xs s), (2, xb false)], jk, []⟩ K := by
  refine drop_ind ?_ ?_
  · intro k1 k2 jk
    refine loop_step cx0 _ RT [3, 0, 2] ⟨fun h => (lt_no h (by omega)).elim, fun h => ?_⟩
    exact fun jk => k1 jk _ rfl
  · intro i o r hi hil ih k1 k2 jk
    refine loop_step cx0 _ RT [3, 0, 2] ⟨fun h => ?_, fun h => (lt_yes h (by omega)).elim⟩
    refine ⟨⟨by omega, by omega⟩, ?_⟩
    refine ⟨_, retB (by rw [gdb hi]; exact byte88 o), ?_⟩
    have e1 : (o :: r).all okB = (okB o && r.all okB) := List.all_cons
    refine ⟨fun h => ?_, fun h => ?_⟩
    · exact fun jk => k2 jk _ (by rw [e1]; simp_all)
    · have h : okB o = true := by simpa using h
      rw [e1, h, Bool.true_and] at k1 k2
      intro jk
      rw [wrapS hil hk]
      exact ih k1 k2 jk

def symOk (s : Nm) : Bool := s.all okB && (decide ((s.length : Int) ≥ 1) && decide ((s.length : Int) ≤ 12)) && !isDig (s.getD 0 0) && !(((s.getD 0 0).toNat : Int) == 45 && decide ((s.length : Int) > 1) && isDig (s.getD 1 0))

theorem sym79 {s : Nm} (hk : s.length ≤ maxLen) : RT 79 [xs s] [] = some (xb (symOk s), []) := by
  refine fn_is (fn := Try.f79) rfl rfl rfl rfl ?_
  refine sem_in cx0 _ RT [3, 0, 2] fun jk => ?_
  refine l79 hk s 0 rfl (by omega) (fun jk i h => ?_) (fun jk i h => ?_) jk
  · refine ⟨_, retB (in50 _ _ _), ?_⟩
    have e0 : ∀ b : Bool, (decide ((s.length : Int) ≥ 1) && decide ((s.length : Int) ≤ 12)) = b → symOk s = (b && !isDig (s.getD 0 0) && !(((s.getD 0 0).toNat : Int) == 45 && decide ((s.length : Int) > 1) && isDig (s.getD 1 0))) := fun b hb => by simp only [symOk, h, hb, Bool.true_and]
    refine ⟨fun h2 => ?_, fun h2 => ?_⟩
    · have hl : 1 ≤ s.length := by simp at h2; omega
      rw [e0 _ h2]
      refine ⟨⟨by omega, by omega⟩, ?_⟩
      refine ⟨_, retB (dig89 _), ?_⟩
      refine ⟨fun h3 => ?_, fun h3 => ?_⟩
      · have h3 : (!isDig (s.getD 0 0)) = true := h3
        rw [h3]
        refine ⟨⟨by omega, by omega⟩, ?_⟩
        refine ⟨fun h4 => ?_, fun h4 => ?_⟩
        · have h4 : (((s.getD 0 0).toNat : Int) == 45) = false := by simpa using h4
          rw [h4]
          exact ⟨rfl, rfl⟩
        · have h4 : (((s.getD 0 0).toNat : Int) == 45) = true := by simpa using h4
          rw [h4]
          refine ⟨fun h5 => ?_, fun h5 => ?_⟩
          · have h5 : (decide ((s.length : Int) > 1)) = false := by simp at h5 ⊢; omega
            rw [h5]
            exact ⟨rfl, rfl⟩
          · have h5 : (decide ((s.length : Int) > 1)) = true := by simp at h5 ⊢; omega
            rw [h5]
            refine ⟨⟨by omega, by simp at h5; omega⟩, ?_⟩
            refine ⟨_, retB (dig89 _), ?_⟩
            exact ⟨rfl, rfl⟩
      · have h3 : (!isDig (s.getD 0 0)) = false := h3
        rw [h3]
        exact ⟨rfl, rfl⟩
    · rw [e0 _ h2]
      exact ⟨rfl, rfl⟩
  · exact ⟨by simp only [symOk, h]; rfl, rfl⟩

def nmOk (s : Nm) : Bool := s == [] || (symOk s && !(s == [95]) && !(s == [46, 46, 46]))

theorem name60 {s : Nm} (hk : s.length ≤ maxLen) : RT 60 [xs s] [] = some (xb (nmOk s), []) := by
  refine fn_is (fn := Try.f60) rfl rfl rfl rfl ?_
  refine ⟨fun h => ?_, fun h => ?_⟩
  · have h : (s == []) = true := h
    exact ⟨by simp only [nmOk, h]; rfl, rfl⟩
  · have h : (s == []) = false := h
    refine ⟨_, retB (sym79 hk), ?_⟩
    refine ⟨fun h1 => ?_, fun h1 => ?_⟩
    · refine ⟨fun h2 => ?_, fun h2 => ?_⟩
      · exact ⟨by simp only [nmOk, h, h1, h2]; rfl, rfl⟩
      · exact ⟨by simp only [nmOk, h, h1, h2]; rfl, rfl⟩
    · exact ⟨by simp only [nmOk, h, h1]; rfl, rfl⟩

mutual
def allOk : Co → Bool
  | .mk _ _ s t ks => allOks ks && (nmOk s && nmOk t)
def allOks : List Co → Bool
  | [] => true
  | c :: l => allOk c && allOks l
end

def S32 (c : Co) : Prop := ∀ us, Wf c → szC c ≤ 1048576 → Rd c us → RT 32 [xc us] [] = some (xb (allOk c), [])

theorem l32 {ks : List Co} {cs : List TU} {g : Nat} {op n : Int} {s t : Nm} {K : Ex → StA → Prop} (H : ∀ c ∈ ks, S32 c) (hw : Wfs ks) (hz : szCs ks ≤ 1048576) (hr : Rds ks cs) : ∀ (l : List Co) (i : Nat), ks.drop i = l → i ≤ ks.length →
    (∀ jk j, allOks l = true → K (.exit 0) ⟨[(3, xi j), (1, .box () ((core op n s t (g + 1) ks.length cs).map .t)), (2, xb false)], jk, []⟩) →
    (∀ jk j, allOks l = false → K .ret ⟨[(3, xi j), (1, .box () ((core op n s t (g + 1) ks.length cs).map .t)), (2, xb false)], jk, []⟩) →
    ∀ jk, sem cx0 32 RT (.loop (lp Try.f32 0)) ⟨[(3, xi i), (1, .box () ((core op n s t (g + 1) ks.length cs).map .t)), (2, xb false)], jk, []⟩ K := by
  have hk := szCs_le hz
  refine drop_ind ?_ ?_
  · intro k1 k2 jk
    refine loop_step cx0 _ RT [3, 1, 2] ⟨fun h => (lt_no h (by omega)).elim, fun h => ?_⟩
    exact fun jk => k1 jk _ rfl
  · intro i c l hi hil ih k1 k2 jk
    have hm := List.mem_of_getElem? hi
    have hc := H c hm
    have hzc := szCs_mem hz hm
    have hwc := Wfs_iff.1 hw c hm
    have e0 : allOks (c :: l) = (allOk c && allOks l) := rfl
    cases c with
    | mk op' n' s' t' kk =>
    obtain ⟨g', cs', e1, e2⟩ := Rds_get hr hi
    refine loop_step cx0 _ RT [3, 1, 2] ⟨fun h => ?_, fun h => (lt_yes h (by omega)).elim⟩
    refine ⟨⟨by omega, by omega⟩, ?_⟩
    refine ⟨op', n', s', t', g' + 1, kk.length, cs', ⟨e1, rfl⟩, ?_⟩
    refine ⟨_, retB (hc _ hwc hzc (show Rd _ (core op' n' s' t' (g' + 2) kk.length (retags cs')) from ⟨_, _, rfl, e2.retag⟩)), ?_⟩
    refine ⟨fun h => ?_, fun h => ?_⟩
    · have h : allOk (.mk op' n' s' t' kk) = false := by simpa using h
      exact fun jk => k2 jk _ (by rw [e0, h]; rfl)
    · have h : allOk (.mk op' n' s' t' kk) = true := by simpa using h
      rw [e0, h, Bool.true_and] at k1 k2
      intro jk
      rw [wrapS hil (by simp only [maxLen]; omega)]
      exact ih k1 k2 jk

theorem ok32 : ∀ c : Co, S32 c := by
  refine Co.ind fun op n s t ks ih => ?_
  intro us hw hz hr
  obtain ⟨g, cs, rfl, hr⟩ := hr
  have hz' : szCs ks ≤ 1048576 := by simp only [szC] at hz; omega
  simp only [Wf] at hw
  refine fn_is (fn := Try.f32) rfl rfl rfl rfl ?_
  refine sem_in cx0 _ RT [3, 1, 2] fun jk => ?_
  have e0 : ∀ b, allOks ks = b → allOk (.mk op n s t ks) = (b && (nmOk s && nmOk t)) := fun b hb => by simp only [allOk, hb]
  refine l32 (g := g) (op := op) (n := n) (s := s) (t := t) ih hw.2.2.2.2.2 hz' hr ks 0 rfl (by omega) (fun jk i h => ?_) (fun jk i h => ?_) jk
  · rw [e0 _ h]
    refine ⟨_, retB (name60 hw.2.2.1), ?_⟩
    refine ⟨fun h1 => ?_, fun h1 => ?_⟩
    · refine ⟨_, retB (name60 hw.2.2.2.1), ?_⟩
      exact ⟨by rw [h1]; rfl, rfl⟩
    · exact ⟨by rw [h1]; rfl, rfl⟩
  · exact ⟨by rw [e0 _ h]; rfl, rfl⟩

/-! ### of the program -/
theorem l61 {s : Nm} {K : Ex → StA → Prop} (hk : s.length ≤ maxLen) : ∀ (r : Nm) (i : Nat), s.drop i = r → i ≤ s.length →
    (∀ jk j, r.all okB = true → K (.exit 0) ⟨[(3, xi j), (0, xs s), (2, xb false)], jk, []⟩) →
    (∀ jk j, r.all okB = false → K .ret ⟨[(3, xi j), (0, xs s), (2, xb false)], jk, []⟩) →
    ∀ jk, sem cx0 61 RT (.loop (lp Try.f61 0)) ⟨[(3, xi i), (0, xs s), (2, xb false)], jk, []⟩ K := by
  refine drop_ind ?_ ?_
  · intro k1 k2 jk
    refine loop_step cx0 _ RT [3, 0, 2] ⟨fun h => (lt_no h (by omega)).elim, fun h => ?_⟩
    exact fun jk => k1 jk _ rfl
  · intro i o r hi hil ih k1 k2 jk
    refine loop_step cx0 _ RT [3, 0, 2] ⟨fun h => ?_, fun h => (lt_yes h (by omega)).elim⟩
    refine ⟨⟨by omega, by omega⟩, ?_⟩
    rw [gdb hi]
    have e1 : (o :: r).all okB = (okB o && r.all okB) := List.all_cons
    have e2 : okB o = ((decide ((o.toNat : Int) ≥ 97) && decide ((o.toNat : Int) ≤ 122)) || isDig o || signs.contains o) := rfl
    have nxt : okB o = true → ∀ jk, sem cx0 61 RT (.loop (lp Try.f61 0)) ⟨[(3, xi (IntKind.wrap .i64 ((i : Int) + 1))), (0, xs s), (2, xb false)], jk, []⟩ K := by
      intro h jk
      rw [e1, h, Bool.true_and] at k1 k2
      rw [wrapS hil hk]
      exact ih k1 k2 jk
    refine ⟨fun h => ?_, fun h => ?_⟩
    · have e3 : (decide ((o.toNat : Int) ≥ 97) && decide ((o.toNat : Int) ≤ 122)) = false := by simp at h ⊢; omega
      refine ⟨_, retB (dig80 o), ?_⟩
      refine ⟨fun h1 => ?_, fun h1 => ?_⟩
      · have h1 : isDig o = false := by simpa using h1
        refine ⟨_, ⟨_, ib81 o, rfl⟩, ?_⟩
        refine ⟨fun h2 => ?_, fun h2 => ?_⟩
        · rw [ib_no] at h2
          have h2 : signs.contains o = false := by simpa using h2
          exact fun jk => k2 jk _ (by rw [e1, e2, h1, h2, e3]; rfl)
        · rw [ib_no] at h2
          have h2 : signs.contains o = true := by simpa using h2
          exact nxt (by rw [e2, h2, Bool.or_true])
      · have h1 : isDig o = true := by simpa using h1
        exact nxt (by rw [e2, h1, Bool.or_true, Bool.true_or])
    · refine ⟨fun h0 => ?_, fun h0 => ?_⟩
      · have e3 : (decide ((o.toNat : Int) ≥ 97) && decide ((o.toNat : Int) ≤ 122)) = false := by simp at h0 ⊢; omega
        refine ⟨_, retB (dig80 o), ?_⟩
        refine ⟨fun h1 => ?_, fun h1 => ?_⟩
        · have h1 : isDig o = false := by simpa using h1
          refine ⟨_, ⟨_, ib81 o, rfl⟩, ?_⟩
          refine ⟨fun h2 => ?_, fun h2 => ?_⟩
          · rw [ib_no] at h2
            have h2 : signs.contains o = false := by simpa using h2
            exact fun jk => k2 jk _ (by rw [e1, e2, h1, h2, e3]; rfl)
          · rw [ib_no] at h2
            have h2 : signs.contains o = true := by simpa using h2
            exact nxt (by rw [e2, h2, Bool.or_true])
        · have h1 : isDig o = true := by simpa using h1
          exact nxt (by rw [e2, h1, Bool.or_true, Bool.true_or])
      · have e3 : (decide ((o.toNat : Int) ≥ 97) && decide ((o.toNat : Int) ≤ 122)) = true := by simp at h h0 ⊢; omega
        exact nxt (by rw [e2, e3, Bool.true_or, Bool.true_or])

theorem sym61 {s : Nm} (hk : s.length ≤ maxLen) : RT 61 [xs s] [] = some (xb (symOk s), []) := by
  refine fn_is (fn := Try.f61) rfl rfl rfl rfl ?_
  have e0 : ∀ a b c : Bool, (decide ((s.length : Int) ≥ 1) && decide ((s.length : Int) ≤ 12)) = a → isDig (s.getD 0 0) = b → (((s.getD 0 0).toNat : Int) == 45 && decide ((s.length : Int) > 1) && isDig (s.getD 1 0)) = c → symOk s = (s.all okB && a && !b && !c) := fun a b c ha hb hc => by simp only [symOk, ha, hb, hc]
  have fin : (decide ((s.length : Int) ≥ 1) && decide ((s.length : Int) ≤ 12)) = true → isDig (s.getD 0 0) = false → (((s.getD 0 0).toNat : Int) == 45 && decide ((s.length : Int) > 1) && isDig (s.getD 1 0)) = false → ∀ jk K,
      (∀ jk j, symOk s = true → K (.exit 0) ⟨[(3, xi j), (0, xs s), (2, xb false)], jk, []⟩) →
      (∀ jk j, symOk s = false → K .ret ⟨[(3, xi j), (0, xs s), (2, xb false)], jk, []⟩) →
      sem cx0 61 RT (.loop (lp Try.f61 0)) ⟨[(3, xi (0 : Nat)), (0, xs s), (2, xb false)], jk, []⟩ K := by
    intro ha hb hc jk K k1 k2
    rw [e0 _ _ _ ha hb hc] at k1 k2
    refine l61 hk s 0 rfl (by omega) (fun jk j h => k1 jk j (by rw [h]; rfl)) (fun jk j h => k2 jk j (by rw [h]; rfl)) jk
  refine ⟨_, retB (in52 _ _ _), ?_⟩
  refine ⟨fun h => ?_, fun h => ?_⟩
  · have h : (decide ((s.length : Int) ≥ 1) && decide ((s.length : Int) ≤ 12)) = false := by rw [← Bool.not_true, ← h, Bool.not_not]
    exact ⟨by rw [e0 _ _ _ h rfl rfl]; simp; rfl, rfl⟩
  have h : (decide ((s.length : Int) ≥ 1) && decide ((s.length : Int) ≤ 12)) = true := by simpa using h
  have hl : 1 ≤ s.length := by simp at h; omega
  refine ⟨⟨by omega, by omega⟩, ?_⟩
  refine ⟨_, retB (dig80 _), ?_⟩
  refine ⟨fun h1 => ?_, fun h1 => ?_⟩
  · have h1 : isDig (s.getD 0 0) = true := h1
    exact ⟨by rw [e0 _ _ _ h h1 rfl]; simp; rfl, rfl⟩
  have h1 : isDig (s.getD 0 0) = false := h1
  refine ⟨⟨by omega, by omega⟩, ?_⟩
  refine ⟨fun h2 => ?_, fun h2 => ?_⟩
  · have h2 : (((s.getD 0 0).toNat : Int) == 45) = true := h2
    refine ⟨fun h3 => ?_, fun h3 => ?_⟩
    · refine ⟨⟨by omega, by simp at h3; omega⟩, ?_⟩
      refine ⟨_, retB (dig80 _), ?_⟩
      refine ⟨fun h4 => ?_, fun h4 => ?_⟩
      · have h4 : isDig (s.getD 1 0) = true := h4
        exact ⟨by rw [e0 _ _ true h h1 (by rw [h2, h3, h4]; rfl)]; simp; rfl, rfl⟩
      · have h4 : isDig (s.getD 1 0) = false := h4
        refine sem_in cx0 _ RT [3, 0, 2] fun jk => ?_
        refine fin h h1 (by rw [h2, h3, h4]; rfl) _ _ (fun jk j h => ?_) (fun jk j h => ?_)
        · exact ⟨by rw [h]; rfl, rfl⟩
        · exact ⟨by rw [h]; rfl, rfl⟩
    · refine sem_in cx0 _ RT [3, 0, 2] fun jk => ?_
      refine fin h h1 (by rw [h2, h3]; rfl) _ _ (fun jk j h => ?_) (fun jk j h => ?_)
      · exact ⟨by rw [h]; rfl, rfl⟩
      · exact ⟨by rw [h]; rfl, rfl⟩
  · have h2 : (((s.getD 0 0).toNat : Int) == 45) = false := h2
    refine sem_in cx0 _ RT [3, 0, 2] fun jk => ?_
    refine fin h h1 (by rw [h2]; rfl) _ _ (fun jk j h => ?_) (fun jk j h => ?_)
    · exact ⟨by rw [h]; rfl, rfl⟩
    · exact ⟨by rw [h]; rfl, rfl⟩

def S33 (c : Co) : Prop := ∀ us, Wf c → szC c ≤ 1048576 → Rd c us → RT 33 [xc us] [] = some (xb (allOk c), [])

theorem cl63 {c : Co} (h : S33 c) {us : List TU} (hw : Wf c) (hz : szC c ≤ 1048576) (hr : Rd c us) : RT 63 [xc us] [] = some (xb (!allOk c), []) := by
  cases c with
  | mk op n s t ks =>
  obtain ⟨g, cs, rfl, hr⟩ := hr
  refine fn_is (fn := Try.f63) rfl rfl rfl rfl ?_
  refine ⟨_, retB (h (core op n s t (g + 2) ks.length (retags cs)) hw hz ⟨_, _, rfl, hr.retag⟩), ?_⟩
  exact ⟨rfl, rfl⟩

abbrev telN : XU := .c (.fn 63 [])

theorem l82 {ks : List Co} {cs : List TU} {g : Nat} {K : Ex → StA → Prop} (H : ∀ c ∈ ks, S33 c) (hw : Wfs ks) (hz : szCs ks ≤ 1048576) (hr : Rds ks cs) : ∀ (l : List Co) (i : Nat), ks.drop i = l → i ≤ ks.length →
    (∀ jk j, allOks l = true → K (.exit 0) ⟨[(8, xi j), (7, xi ks.length), (0, xl (g + 1) 5 ks.length cs), (1, telN), (4, xi 0)], jk, []⟩) →
    (∀ jk j v, allOks l = false → 0 ≤ v → K .ret ⟨[(8, xi j), (7, xi ks.length), (0, xl (g + 1) 5 ks.length cs), (1, telN), (4, xi v)], jk, []⟩) →
    ∀ jk, sem cx0 82 RT (.loop (lp Try.f82 0)) ⟨[(8, xi i), (7, xi ks.length), (0, xl (g + 1) 5 ks.length cs), (1, telN), (4, xi 0)], jk, []⟩ K := by
  have hk := szCs_le hz
  refine drop_ind ?_ ?_
  · intro k1 k2 jk
    refine loop_step cx0 _ RT [8, 7, 0, 1, 4] ⟨fun h => (lt_no h (by omega)).elim, fun h => ?_⟩
    exact fun jk => k1 jk _ rfl
  · intro i c l hi hil ih k1 k2 jk
    have hm := List.mem_of_getElem? hi
    have hc := H c hm
    have hzc := szCs_mem hz hm
    have hwc := Wfs_iff.1 hw c hm
    have e0 : allOks (c :: l) = (allOk c && allOks l) := rfl
    cases c with
    | mk op' n' s' t' kk =>
    obtain ⟨g', cs', e1, e2⟩ := Rds_get hr hi
    refine loop_step cx0 _ RT [8, 7, 0, 1, 4] ⟨fun h => ?_, fun h => (lt_yes h (by omega)).elim⟩
    refine ⟨⟨by omega, by omega⟩, ?_⟩
    refine ⟨op', n', s', t', g' + 1, kk.length, cs', ⟨e1, rfl⟩, ?_⟩
    refine ⟨_, _, ⟨_, cl63 hc hwc hzc (show Rd _ (core op' n' s' t' (g' + 2) kk.length (retags cs')) from ⟨_, _, rfl, e2.retag⟩), rfl, rfl⟩, ?_⟩
    refine ⟨fun h => ?_, fun h => ?_⟩
    · have h : allOk (.mk op' n' s' t' kk) = false := by simpa using h
      exact fun jk => k2 jk _ _ (by rw [e0, h]; rfl) (by omega)
    · have h : allOk (.mk op' n' s' t' kk) = true := by simpa using h
      rw [e0, h, Bool.true_and] at k1 k2
      intro jk
      rw [wrapS hil (by simp only [maxLen]; omega)]
      exact ih k1 k2 jk

theorem idx82 {ks : List Co} {cs : List TU} {g : Nat} (H : ∀ c ∈ ks, S33 c) (hw : Wfs ks) (hz : szCs ks ≤ 1048576) (hr : Rds ks cs) : ∃ v : Int, decide (v ≥ 0) = !allOks ks ∧ RT 82 [xl (g + 1) 5 ks.length cs, telN] [] = some (xi v, []) := by
  have : ∃ y, (∃ v : Int, decide (v ≥ 0) = !allOks ks ∧ y = xi v) ∧ RT 82 [xl (g + 1) 5 ks.length cs, telN] [] = some (y, []) := by
    refine fn_ex (fn := Try.f82) rfl rfl rfl rfl ?_
    refine sem_in cx0 _ RT [8, 7, 0, 1, 4] fun jk => ?_
    refine l82 (g := g) H hw hz hr ks 0 rfl (by omega) (fun jk i h => ?_) (fun jk i v h h0 => ?_) jk
    · exact ⟨⟨-1, by rw [h]; rfl, rfl⟩, rfl⟩
    · exact ⟨⟨v, by rw [h]; simpa using h0, rfl⟩, rfl⟩
  obtain ⟨y, ⟨v, h1, rfl⟩, h2⟩ := this
  exact ⟨v, h1, h2⟩

theorem con62 {ks : List Co} {cs : List TU} {g : Nat} (H : ∀ c ∈ ks, S33 c) (hw : Wfs ks) (hz : szCs ks ≤ 1048576) (hr : Rds ks cs) : RT 62 [xl (g + 1) 5 ks.length cs, telN] [] = some (xb (!allOks ks), []) := by
  refine fn_is (fn := Try.f62) rfl rfl rfl rfl ?_
  obtain ⟨v, h1, h2⟩ := idx82 (g := g + 1) H hw hz hr.retag
  refine ⟨_, _, ⟨_, h2, rfl, rfl⟩, ?_⟩
  exact ⟨by rw [← h1]; rfl, rfl⟩

theorem l33 {s : Nm} {i : Nat} {names : List Nm} {K : Ex → StA → Prop} (hi : names[i]? = some s) (hl : names.length = 2) (hk : s.length ≤ maxLen) {op n : Int} {s0 t0 : Nm} {ks : List Co} {cs : List TU} {g : Nat}
    (k1 : nmOk s = true → ∀ jk, sem cx0 33 RT (.loop (lp Try.f33 0)) ⟨[(11, xi ((i + 1 : Nat) : Int)), (10, xi 2), (9, xl 0 1 2 (nm names)), (1, .box () ((core op n s0 t0 (g + 1) ks.length cs).map .t)), (2, xb false)], jk, []⟩ K)
    (k2 : nmOk s = false → ∀ jk j, K .ret ⟨[(11, xi j), (10, xi 2), (9, xl 0 1 2 (nm names)), (1, .box () ((core op n s0 t0 (g + 1) ks.length cs).map .t)), (2, xb false)], jk, []⟩) :
    ∀ jk, sem cx0 33 RT (.loop (lp Try.f33 0)) ⟨[(11, xi i), (10, xi 2), (9, xl 0 1 2 (nm names)), (1, .box () ((core op n s0 t0 (g + 1) ks.length cs).map .t)), (2, xb false)], jk, []⟩ K := by
  intro jk
  have hil : i < 2 := by have := (List.getElem?_eq_some_iff.1 hi).1; omega
  refine loop_step cx0 _ RT [11, 10, 9, 1, 2] ⟨fun h => ?_, fun h => (lt_yes h (by omega)).elim⟩
  refine ⟨⟨by omega, by omega⟩, ?_⟩
  refine ⟨s, ?_⟩
  refine ⟨⟨by show (List.drop (0 + i * 1) (nm names)).take 1 = _; rw [Nat.zero_add]; exact nm_at hi, rfl⟩, ?_⟩
  have nxt : nmOk s = true → ∀ jk, sem cx0 33 RT (.loop (lp Try.f33 0)) ⟨[(11, xi (IntKind.wrap .i64 ((i : Int) + 1))), (10, xi 2), (9, xl 0 1 2 (nm names)), (1, .box () ((core op n s0 t0 (g + 1) ks.length cs).map .t)), (2, xb false)], jk, []⟩ K := by
    intro h jk
    rw [wrapS hil (by decide)]
    exact k1 h jk
  refine ⟨fun h1 => ?_, fun h1 => ?_⟩
  · have h1 : (s == []) = false := by rw [← Bool.not_true, ← h1]; simp [bne]
    refine ⟨_, retB (sym61 hk), ?_⟩
    refine ⟨fun h2 => ?_, fun h2 => ?_⟩
    · have h2 : symOk s = false := by simpa using h2
      exact fun jk => k2 (by simp only [nmOk, h1, h2]; rfl) jk _
    · have h2 : symOk s = true := by simpa using h2
      refine ⟨fun h3 => ?_, fun h3 => ?_⟩
      · exact fun jk => k2 (by simp only [nmOk, h1, h2, h3]; rfl) jk _
      · refine ⟨fun h4 => ?_, fun h4 => ?_⟩
        · exact fun jk => k2 (by simp only [nmOk, h1, h2, h3, h4]; rfl) jk _
        · exact nxt (by simp only [nmOk, h1, h2, h3, h4]; rfl)
  · have h1 : (s == []) = true := by rw [← Bool.not_false, ← h1]; simp [bne]
    exact nxt (by simp only [nmOk, h1]; rfl)

theorem ok33 : ∀ c : Co, S33 c := by
  refine Co.ind fun op n s t ks ih => ?_
  intro us hw hz hr
  obtain ⟨g, cs, rfl, hr⟩ := hr
  have hz' : szCs ks ≤ 1048576 := by simp only [szC] at hz; omega
  simp only [Wf] at hw
  refine fn_is (fn := Try.f33) rfl rfl rfl rfl ?_
  refine sem_in cx0 _ RT [11, 10, 9, 1, 2] fun jk => ?_
  have e0 : allOk (.mk op n s t ks) = (allOks ks && (nmOk s && nmOk t)) := rfl
  rw [e0]
  refine l33 (i := 0) (names := [s, t]) (s := s) (op := op) (n := n) (s0 := s) (t0 := t) (g := g) (ks := ks) (cs := cs) rfl rfl hw.2.2.1 (fun h1 jk => ?_) (fun h1 jk j => ?_) jk
  · refine l33 (i := 1) (names := [s, t]) (s := t) (op := op) (n := n) (s0 := s) (t0 := t) (g := g) (ks := ks) (cs := cs) rfl rfl hw.2.2.2.1 (fun h2 jk => ?_) (fun h2 jk j => ?_) jk
    · refine loop_step cx0 _ RT [11, 10, 9, 1, 2] ⟨fun h => absurd h (by decide), fun h => ?_⟩
      intro jk
      refine ⟨_, _, ⟨_, con62 (g := g + 1) ih hw.2.2.2.2.2 hz' hr.retag, rfl, rfl⟩, ?_⟩
      exact ⟨by rw [h1, h2]; simp; rfl, rfl⟩
    · exact ⟨by rw [h1, h2]; simp; rfl, rfl⟩
  · exact ⟨by rw [h1]; simp; rfl, rfl⟩
end Go.Proofs.Ytkijidheicdadaa.V

namespace Go.Proofs.Ytkijidheicdadaa.V
set_option maxRecDepth 100000

theorem lawNamesOk {c : Co} {us : List TU} (hr : Rd c us) (hw : Wf c) : RT 9 [xc us] [] = some (xb true, []) := by
  cases c with
  | mk op n s t ks =>
  obtain ⟨g, cs, rfl, hr⟩ := hr
  have rd : ∀ g, Rd (.mk op n s t ks) (core op n s t (g + 2) ks.length (retags cs)) := fun g => ⟨_, _, rfl, hr.retag⟩
  refine fn_is (fn := Try.f9) rfl rfl rfl rfl ?_
  refine ⟨_, retI (sz19 _ _ 1048576 hw (rd g) (by omega) (by omega)), ?_⟩
  refine ⟨fun h => ⟨rfl, rfl⟩, fun h => ?_⟩
  obtain ⟨h1, _⟩ := szR_yes h
  have hz : szC (.mk op n s t ks) ≤ 1048576 := by omega
  refine ⟨_, retC (to21 _ _ hz (rd g)), ?_⟩
  refine ⟨_, retB (ok32 _ _ hw hz (rdO op n s t ks)), ?_⟩
  refine ⟨_, retC (to21 _ _ hz (rd g)), ?_⟩
  refine ⟨inV ks, ?_⟩
  refine ⟨_, retB (ok33 _ _ hw hz (rdV op n s t ks)), ?_⟩
  refine ⟨fun h => by simp at h, fun _ => ?_⟩
  refine ⟨_, retC (to21 _ _ hz (rd g)), ?_⟩
  refine ⟨inV ks, ?_⟩
  refine ⟨_, retB (eq23 _ _ _ hw (rdV op n s t ks) (rdO op n s t ks)), ?_⟩
  refine ⟨(fun h => by cases h), fun _ => ?_⟩
  exact ⟨rfl, rfl⟩

end Go.Proofs.Ytkijidheicdadaa.V

namespace Go.Proofs.Ytkijidheicdadaa.fnExactNamesOk
open Go.ChangeShapes Go.WideShapes Go.ChangeAt Go.RowKit
set_option linter.unusedVariables false
set_option maxRecDepth 100000

theorem own : ownKnob Try.prog.godebug = none := by kernel_rfl
theorem laidOut : laidOutB Try.prog = true := by kernel_rfl

def G : List Nat := [3, 9, 31, 29]
theorem hG : V.plainTys Try.prog G = true := by kernel_rfl
theorem st : ∃ fs, Try.prog.underlying 31 = some (.struct fs) := by
  obtain ⟨fs, h, _⟩ := V.fieldTys_ok (P := Try.prog) (t := 31) (l := [3, 3, 9, 9, 29]) (by kernel_rfl)
  exact ⟨fs, h⟩

theorem lifted (os : Os) (started : os.Started) (H : Type) (enc : TypeId × Value → H) :
    ReturnsInHanded {} Try.checked os 9 .any (Rows.fnExactNamesOkSpec.pre6 enc Try.prog Try.f9 Rows.fnExactNamesOkRow.domain false) (Rows.fnExactNamesOkSpec.post enc Try.prog Try.f9 false true false false) := by
  refine returnsInHanded_of_change (C := Try.checked) own started (by kernel_rfl) Try.func9
    (ChangeSpec.witness6 (enc := enc) (C := Try.checked) false ⟨#[], #[.agg #[.int .i64 0, .int .i64 0, .string "".toUTF8, .string "".toUTF8, .slice none 0 0]], []⟩ 8 (by kernel_rfl) (by kernel_rfl) (by kernel_rfl) (by kernel_rfl)) ?_
  intro W base args ds gs before hval0 hW hcnd _
  have hval : ∀ (j : Nat) t v, Try.f9.params[j]? = some t → args[j]? = some v → Value.okWide Try.prog W .any base t v := hval0
  have hW' := hW
  obtain ⟨p, q, hA0, hV, rfl, hfz, hnd⟩ := hW
  have hA : DataW.TrodAll enc Try.prog W 0 (fun _ => true) true Try.f9.params.toList args.toList ds p := hA0
  rw [Try.params9] at hA hval
  obtain ⟨v0, vs0, d0, ds0, p0, q0, hargs, rfl, rfl, h0, r0⟩ := trodAll_cons hA
  obtain ⟨rfl, rfl, rfl⟩ := trodAll_nil r0
  obtain rfl : args = #[v0] := by cases args; simp_all
  obtain ⟨rfl, rfl⟩ := trodVars_none hV
  have k0 := h0
  have lt0 : ∀ x ∈ p0, x.block < W.heap.size := by obtain ⟨m, hm⟩ := k0; exact DataW.trod_lt m _ _ _ hm
  obtain ⟨fs, hu⟩ := st
  obtain ⟨k, us, hsh, hx⟩ := V.arg_struct hG (t := 31) (by decide) hu (hval 0 31 v0 rfl rfl) h0
  obtain ⟨c, hr, hw⟩ := V.sh_core k us hsh
  obtain ⟨n, hrun⟩ := V.run_of (V.lawNamesOk hr hw)
  clear hA0 hval0
  refine (V.law_calls V.cxOk (vs := [v0]) (xs := [V.xc us]) ⟨rfl, fun i v x hv hx' => ?_⟩ hrun).mono fun e W' ⟨he, bel⟩ => ?_
  · cases i with
    | zero => simp only [List.getElem?_cons_zero, Option.some.injEq] at hv hx'; subst hv hx'; exact hx
    | succ i => simp at hv
  subst he
  exact ⟨_, rfl, _, _, _, [], _, [], hW', trodAll_mk1 (shut_bool Try.underlying4 _), (trodAll_cons_mk (Below.trod laidOut (by kernel_rfl) (of_decide_eq_true (by kernel_rfl)) k0 bel lt0) trodAll_mk0), rfl, bel.frame _, fun h => by cases h⟩

theorem over : Rows.fnExactNamesOkRow.holds Try.pinned (OpenSpec.ofChange Rows.fnExactNamesOkSpec) :=
  OpenClaim.holds_of_wide 9 Try.f9 rfl rfl rfl rfl rfl rfl rfl ⟨rfl, rfl, rfl, rfl, rfl⟩ rfl rfl rfl rfl rfl (by kernel_rfl) Try.func9 (by kernel_rfl)
    (of_decide_eq_true (by kernel_rfl)) (by unfold Func.isWrapper; first | (rw [if_pos (by decide +kernel)]; kernel_rfl) | (rw [if_neg (by decide +kernel)]; exact ⟨rfl, rfl⟩))
    (fun os started H enc _ => lifted os started H enc)

theorem proved : Rows.FnExactNamesOkSaid := over
#print axioms proved
end Go.Proofs.Ytkijidheicdadaa.fnExactNamesOk
