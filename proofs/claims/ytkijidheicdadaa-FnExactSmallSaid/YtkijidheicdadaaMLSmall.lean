/-
  The law FnExactSmall holds for every input: the call returns true, and the input reads as it did. No conditions.
-/
import Derived.Test.YtkijidheicdadaaMK
import Derived.Test.YtkijidheicdadaaM6
import Derived.Test.YtkijidheicdadaaM5
import Derived.Test.YtkijidheicdadaaRows
import Derived.WalkKit
import Derived.ProofKit
import Derived.OpenShut
import Derived.ChangeOld
import Derived.Below
set_option linter.unusedVariables false
set_option linter.unusedSimpArgs false
namespace Go.Proofs.Ytkijidheicdadaa.V
set_option maxRecDepth 100000
noncomputable abbrev RT := RR Try.prog cx0

theorem fn_is {g : Nat} {fn : Func} {a : List XU} {x : XU} (ho : cx0.orc g = none) (hf : Try.prog.funcs[g]? = some fn) (hb : fn.body = some (fn.body.getD .skip)) (hg : cx0.good g = true)
    (h : fnW cx0 g RT fn a [] fun y e => x = y ∧ e = []) : RT g a [] = some (x, []) := by
  obtain ⟨y, e, h1, h2, h3⟩ := fn_ok ho hf hb hg h
  rw [RT, h1, h2, h3]

theorem retI {g : Nat} {xs : List XU} {n : Int} (h : RT g xs [] = some (xi n, [])) : Ret RT g xs (xi n) := ⟨_, h, rfl⟩
theorem retB {g : Nat} {xs : List XU} {b : Bool} (h : RT g xs [] = some (xb b, [])) : Ret RT g xs (xb b) := ⟨_, h, rfl⟩
theorem retL {g : Nat} {xs : List XU} {n : Nat} {l : List Co} (h : RT g xs [] = some (xl 0 5 n (encs l), [])) : Ret RT g xs (xl 0 5 n (encs l)) := ⟨_, h, by simp only [downX, downC, down, encs_down, Option.map_some]; rfl⟩
theorem retC {g : Nat} {xs : List XU} {c : Co} (h : RT g xs [] = some (xc (enc c), [])) : Ret RT g xs (xc (enc c)) := ⟨_, h, by
  have : ∀ {a b : List TU}, downs a = some b → downCs (a.map .t) = some (b.map .t) := by
    intro a
    induction a with
    | nil => intro b h; simp only [downs, Option.some.injEq] at h; subst h; rfl
    | cons x a ih =>
      intro b h
      simp only [downs] at h
      cases hx : down x with
      | none => simp [hx] at h
      | some y =>
        cases ha : downs a with
        | none => simp [hx, ha] at h
        | some b' =>
          simp only [hx, ha, Option.bind_some, Option.map_some, Option.some.injEq] at h
          subst h
          simp only [List.map_cons, downCs, downC, hx, Option.map_some, Option.bind_some, ih ha]
  simp only [downX, this (enc_down c), Option.map_some]⟩

def szR (z : Nat) (left : Int) : Int := if (z : Int) ≤ left then left - z else -1

theorem szR_no {z : Nat} {v : Int} (h : decide (szR z v < 0) = true) (h0 : 0 ≤ v) : v < z := by
  have h := of_decide_eq_true h
  unfold szR at h; split at h <;> omega
theorem szR_yes {z : Nat} {v : Int} (h : decide (szR z v < 0) = false) : (z : Int) ≤ v ∧ szR z v = v - z := by
  have h := of_decide_eq_false h
  unfold szR at h ⊢
  split at h
  · next h1 => exact ⟨h1, by rw [if_pos h1]⟩
  · omega

def S19 (c : Co) : Prop := ∀ us left, Wf c → Rd c us → 0 ≤ left → left ≤ 1048576 → RT 19 [xc us, xi left] [] = some (xi (szR (szC c) left), [])

def lsz : List Co → Nat
  | [] => 0
  | c :: l => szC c + lsz l

theorem szCs_eq : ∀ l : List Co, szCs l = l.length + lsz l
  | [] => rfl
  | c :: l => by simp only [szCs, lsz, szCs_eq l, List.length_cons]; omega

theorem l54 {ks : List Co} {cs : List TU} {g : Nat} {K : Ex → StA → Prop} (H : ∀ c ∈ ks, S19 c) (hw : Wfs ks) (hr : Rds ks cs) (hk : ks.length ≤ maxLen) : ∀ (l : List Co) (i : Nat), ks.drop i = l → i ≤ ks.length → ∀ v : Int, 0 ≤ v → v ≤ 1048576 →
    (∀ jk i v', lsz l ≤ v → v' = v - lsz l → K (.exit 0) ⟨[(5, xi i), (1, xi v'), (0, xl (g + 1) 5 ks.length cs), (4, xi 0)], jk, []⟩) →
    (∀ jk i v', v < lsz l → K .ret ⟨[(5, xi i), (1, xi v'), (0, xl (g + 1) 5 ks.length cs), (4, xi (-1))], jk, []⟩) →
    ∀ jk, sem cx0 54 RT (.loop (lp Try.f54 0)) ⟨[(5, xi i), (1, xi v), (0, xl (g + 1) 5 ks.length cs), (4, xi 0)], jk, []⟩ K := by
  refine drop_ind ?_ ?_
  · intro v h0 h1 k1 k2 jk
    refine loop_step cx0 _ RT [5, 1, 0, 4] ⟨fun h => (lt_no h (by omega)).elim, fun h => ?_⟩
    exact fun jk => k1 jk _ _ (by simpa [lsz] using h0) (by simp [lsz])
  · intro i c l hi hil ih v h0 h1 k1 k2 jk
    refine loop_step cx0 _ RT [5, 1, 0, 4] ⟨fun h => ?_, fun h => (lt_yes h (by omega)).elim⟩
    refine ⟨⟨by omega, by omega⟩, ?_⟩
    have hc := H c (List.mem_of_getElem? hi)
    have hwc := Wfs_iff.1 hw c (List.mem_of_getElem? hi)
    cases c with
    | mk op n s t kk =>
    obtain ⟨g', cs', e1, e2⟩ := Rds_get hr hi
    refine ⟨op, n, s, t, g' + 1, kk.length, cs', ⟨e1, rfl⟩, ?_⟩
    refine ⟨_, ⟨_, hc _ v hwc (show Rd _ (core op n s t (g' + 2) kk.length (retags cs')) from ⟨_, _, rfl, e2.retag⟩) h0 h1, rfl⟩, ?_⟩
    refine ⟨fun h2 => ?_, fun h2 => ?_⟩
    · have := szR_no h2 h0
      exact fun jk => k2 jk _ _ (by simp only [lsz]; omega)
    · obtain ⟨h3, h4⟩ := szR_yes h2
      refine fun jk => ?_
      rw [wrapS hil hk, h4]
      exact ih _ (by omega) (by omega) (fun jk i v' a1 a2 => k1 jk i v' (by simp only [lsz]; omega) (by simp only [lsz]; omega)) (fun jk i v' a1 => k2 jk i v' (by simp only [lsz]; omega)) jk

theorem sz54 {ks : List Co} {cs : List TU} {g : Nat} {left : Int} (H : ∀ c ∈ ks, S19 c) (hw : Wfs ks) (hr : Rds ks cs) (hk : ks.length ≤ maxLen) (h0 : 0 ≤ left) (h1 : left ≤ 1048576) :
    RT 54 [xl (g + 1) 5 ks.length cs, xi left] [] = some (xi (szR (szCs ks) left), []) := by
  have hk' := hk
  simp only [maxLen] at hk'
  refine fn_is (fn := Try.f54) rfl rfl rfl rfl ?_
  refine ⟨fun h => ?_, fun h => ?_⟩
  · rw [wrap64 (by omega) (by omega)] at h
    refine ⟨?_, rfl⟩
    simp at h
    have : ¬ ((szCs ks : Nat) : Int) ≤ left := by rw [szCs_eq]; omega
    simp only [szR, if_neg this]; rfl
  · rw [wrap64 (by omega) (by omega)] at h
    simp at h
    have e : szCs ks = ks.length + lsz ks := szCs_eq ks
    refine sem_in cx0 _ RT [5, 1, 0, 4] fun jk => ?_
    rw [wrap64 (n := left - ks.length) (by omega) (by omega)]
    refine l54 H hw hr hk ks 0 rfl (by omega) _ (by omega) (by omega) ?_ ?_ _
    · intro jk i v' a1 a2
      refine ⟨?_, rfl⟩
      have : ((szCs ks : Nat) : Int) ≤ left := by omega
      simp only [szR, if_pos this]
      rw [a2, show left - ((szCs ks : Nat) : Int) = left - ks.length - lsz ks by omega]; rfl
    · intro jk i v' a1
      refine ⟨?_, rfl⟩
      have : ¬ ((szCs ks : Nat) : Int) ≤ left := by omega
      simp only [szR, if_neg this]; rfl

end Go.Proofs.Ytkijidheicdadaa.V

namespace Go.Proofs.Ytkijidheicdadaa.V
set_option maxRecDepth 100000

theorem sz19 : ∀ c : Co, S19 c := by
  refine Co.ind fun op n s t ks ih => ?_
  intro us left hw hr h0 h1
  simp only [Rd] at hr
  obtain ⟨g, cs, rfl, hr⟩ := hr
  simp only [Wf] at hw
  obtain ⟨w1, w2, w3, w4, w5, w6⟩ := hw
  have hs := w3
  have ht := w4
  simp only [maxLen] at hs ht
  refine fn_is (fn := Try.f19) rfl rfl rfl rfl ?_
  have e0 : szC (.mk op n s t ks) = s.length + t.length + szCs ks := rfl
  refine ⟨fun h => ?_, fun h => ?_⟩
  · rw [wrap64 (by omega) (by omega)] at h
    have h := of_decide_eq_true h
    have : ¬ ((szC (.mk op n s t ks) : Nat) : Int) ≤ left := by omega
    refine ⟨?_, rfl⟩
    simp only [szR, if_neg this]; rfl
  rw [wrap64 (by omega) (by omega)] at h
  have h := of_decide_eq_false h
  refine ⟨fun h' => ?_, fun h' => ?_⟩
  · rw [wrap64 (n := left - s.length) (by omega) (by omega), wrap64 (by omega) (by omega)] at h'
    have h' := of_decide_eq_true h'
    have : ¬ ((szC (.mk op n s t ks) : Nat) : Int) ≤ left := by omega
    refine ⟨?_, rfl⟩
    simp only [szR, if_neg this]; rfl
  rw [wrap64 (n := left - s.length) (by omega) (by omega), wrap64 (by omega) (by omega)] at h'
  have h' := of_decide_eq_false h'
  have e1 : IntKind.wrap .i64 (IntKind.wrap .i64 (left - (s.length : Int)) - (t.length : Int)) = left - s.length - t.length := by
    rw [wrap64 (n := left - s.length) (by omega) (by omega), wrap64 (by omega) (by omega)]
  have hc := sz54 (g := g + 1) (left := left - s.length - t.length) ih w6 hr.retag w5 (by omega) (by omega)
  refine ⟨_, ⟨_, by rw [e1]; exact hc, rfl⟩, ?_⟩
  refine ⟨fun h2 => ?_, fun h2 => ?_⟩
  · have := szR_no h2 (by omega)
    have : ¬ ((szC (.mk op n s t ks) : Nat) : Int) ≤ left := by omega
    refine ⟨?_, rfl⟩
    simp only [szR, if_neg this]; rfl
  · obtain ⟨h3, h4⟩ := szR_yes h2
    have : ((szC (.mk op n s t ks) : Nat) : Int) ≤ left := by omega
    refine ⟨?_, rfl⟩
    rw [h4]
    simp only [szR, if_pos this]
    rw [show left - ((szC (.mk op n s t ks) : Nat) : Int) = left - s.length - t.length - szCs ks by omega]; rfl

/-! ### turned over -/
def S21 (c : Co) : Prop := ∀ us, szC c ≤ 1048576 → Rd c us → RT 21 [xc us] [] = some (xc (enc c), [])

abbrev zC : List TU := [.int .i64 0, .int .i64 0, .str [], .str [], .sl () 0 5 0 []]

theorem szCs_le {ks : List Co} {n : Nat} (h : szCs ks ≤ n) : ks.length ≤ n := by rw [szCs_eq] at h; omega

theorem szCs_mem : ∀ {ks : List Co} {n : Nat} {c : Co}, szCs ks ≤ n → c ∈ ks → szC c ≤ n
  | x :: ks, n, c, h, hc => by
    simp only [szCs] at h
    rcases List.mem_cons.1 hc with rfl | hc
    · omega
    · exact szCs_mem (ks := ks) (by omega) hc

theorem repl_len {n : Nat} {xs : List TU} : (repl n xs).length = n * xs.length := by
  simp [repl]

theorem repl_succ {n : Nat} {xs : List TU} : repl (n + 1) xs = xs ++ repl n xs := by
  simp [repl, List.replicate_succ]

theorem put_next {l : List Co} {c : Co} {m : Nat} : (((encs l ++ repl (m + 1) zC).take (l.length * 5)) ++ enc c) ++ (encs l ++ repl (m + 1) zC).drop (l.length * 5 + 5) = encs (l ++ [c]) ++ repl m zC := by
  rw [← encs_len l, List.take_left, List.drop_length_add_append, repl_succ, encs_append]
  simp only [encs, List.append_nil]
  rw [show (zC ++ repl m zC).drop 5 = repl m zC from rfl]

theorem l55 {ks : List Co} {cs : List TU} {g : Nat} {K : Ex → StA → Prop} (H : ∀ c ∈ ks, S21 c) (hz : szCs ks ≤ 1048576) (hr : Rds ks cs) : ∀ (l : List Co) (i : Nat), ks.drop i = l → i ≤ ks.length →
    (∀ jk i, K (.exit 0) ⟨[(4, xi i), (3, xl 0 5 ks.length (encs ks)), (0, xl (g + 1) 5 ks.length cs), (2, xl 0 5 0 [])], jk, []⟩) →
    ∀ jk, sem cx0 55 RT (.loop (lp Try.f55 0)) ⟨[(4, xi i), (3, xl 0 5 ks.length (encs (ks.take i) ++ repl (ks.length - i) zC)), (0, xl (g + 1) 5 ks.length cs), (2, xl 0 5 0 [])], jk, []⟩ K := by
  have hk := szCs_le hz
  refine drop_ind ?_ ?_
  · intro k1 jk
    refine loop_step cx0 _ RT [4, 3, 0, 2] ⟨fun h => (lt_no h (by omega)).elim, fun h => ?_⟩
    intro jk
    have := k1 jk ks.length
    simpa [repl] using this
  · intro i c l hi hil ih k1 jk
    refine loop_step cx0 _ RT [4, 3, 0, 2] ⟨fun h => ?_, fun h => (lt_yes h (by omega)).elim⟩
    refine ⟨⟨by omega, by omega⟩, ?_⟩
    have hm := List.mem_of_getElem? hi
    have hc := H c hm
    have hzc := szCs_mem hz hm
    cases c with
    | mk op n s t kk =>
    obtain ⟨g', cs', e1, e2⟩ := Rds_get hr hi
    refine ⟨op, n, s, t, g' + 1, kk.length, cs', ⟨e1, rfl⟩, ?_⟩
    refine ⟨_, retC (hc _ hzc (show Rd _ (core op n s t (g' + 2) kk.length (retags cs')) from ⟨_, _, rfl, e2.retag⟩)), ?_⟩
    refine ⟨⟨by omega, by omega⟩, ?_⟩
    refine ⟨?_, ?_⟩
    · rw [List.length_append, encs_len, repl_len, List.length_take, Nat.min_eq_left (by omega)]
      show 0 + i * 5 + 5 ≤ i * 5 + (ks.length - i) * 5
      omega
    intro jk jk
    have hl : (ks.take i).length = i := by rw [List.length_take]; omega
    have e := put_next (l := ks.take i) (c := .mk op n s t kk) (m := ks.length - (i + 1))
    rw [hl, show ks.length - (i + 1) + 1 = ks.length - i by omega, show ks.take i ++ [Co.mk op n s t kk] = ks.take (i + 1) by rw [List.take_add_one, hi]; rfl] at e
    have := ih k1 jk
    rw [← e] at this
    simp only [Nat.zero_add, Int.toNat_natCast, wrapS hil (show ks.length ≤ maxLen by simp only [maxLen]; omega)]
    exact this

theorem to55 {ks : List Co} {cs : List TU} {g : Nat} (H : ∀ c ∈ ks, S21 c) (hz : szCs ks ≤ 1048576) (hr : Rds ks cs) :
    RT 55 [xl (g + 1) 5 ks.length cs] [] = some (xl 0 5 ks.length (encs ks), []) := by
  have hk := szCs_le hz
  refine fn_is (fn := Try.f55) rfl rfl rfl rfl ?_
  refine ⟨⟨by omega, by omega, ?_, by simp only [maxLen]; omega⟩, ?_⟩
  · show (ks.length : Int) * (72 : Nat) ≤ 140737488355328
    omega
  refine sem_in cx0 _ RT [4, 3, 0, 2] fun jk => ?_
  refine l55 (g := g) H hz hr ks 0 rfl (by omega) (fun jk i => ?_) jk
  refine ⟨by rw [encs_len]; omega, ?_⟩
  refine ⟨?_, rfl⟩
  exact congrArg (xl 0 5 ks.length) (encs_whole ks).symm

theorem to21 : ∀ c : Co, S21 c := by
  refine Co.ind fun op n s t ks ih => ?_
  intro us hz hr
  simp only [Rd] at hr
  obtain ⟨g, cs, rfl, hr⟩ := hr
  refine fn_is (fn := Try.f21) rfl rfl rfl rfl ?_
  refine ⟨_, retL (to55 (g := g + 1) (cs := retags cs) ih (by simp only [szC] at hz; omega) hr.retag), ?_⟩
  refine ⟨by rw [encs_len]; omega, ?_⟩
  refine ⟨?_, rfl⟩
  exact congrArg (fun x => xc (core op n s t 0 ks.length x)) (encs_whole ks).symm

/-! ### compared: what is the same is found so -/
def S23 (c : Co) : Prop := ∀ us vs, Wf c → Rd c us → Rd c vs → RT 23 [xc us, xc vs] [] = some (xb true, [])

theorem l56 {ks : List Co} {cs ds : List TU} {g h : Nat} {K : Ex → StA → Prop} (H : ∀ c ∈ ks, S23 c) (hw : Wfs ks) (hr : Rds ks cs) (hs : Rds ks ds) (hk : ks.length ≤ maxLen) : ∀ (l : List Co) (i : Nat), ks.drop i = l → i ≤ ks.length →
    (∀ jk i, K (.exit 0) ⟨[(5, xi i), (0, xl (g + 1) 5 ks.length cs), (1, xl (h + 1) 5 ks.length ds), (4, xb false)], jk, []⟩) →
    ∀ jk, sem cx0 56 RT (.loop (lp Try.f56 0)) ⟨[(5, xi i), (0, xl (g + 1) 5 ks.length cs), (1, xl (h + 1) 5 ks.length ds), (4, xb false)], jk, []⟩ K := by
  refine drop_ind ?_ ?_
  · intro k1 jk
    refine loop_step cx0 _ RT [5, 0, 1, 4] ⟨fun h => (lt_no h (by omega)).elim, fun h => ?_⟩
    exact fun jk => k1 jk _
  · intro i c l hi hil ih k1 jk
    refine loop_step cx0 _ RT [5, 0, 1, 4] ⟨fun h => ?_, fun h => (lt_yes h (by omega)).elim⟩
    refine ⟨⟨by omega, by omega⟩, ?_⟩
    have hm := List.mem_of_getElem? hi
    have hc := H c hm
    have hwc := Wfs_iff.1 hw c hm
    cases c with
    | mk op n s t kk =>
    obtain ⟨g', cs', e1, e2⟩ := Rds_get hr hi
    refine ⟨op, n, s, t, g' + 1, kk.length, cs', ⟨e1, rfl⟩, ?_⟩
    refine ⟨⟨by omega, by omega⟩, ?_⟩
    obtain ⟨h', ds', f1, f2⟩ := Rds_get hs hi
    refine ⟨op, n, s, t, h' + 1, kk.length, ds', ⟨f1, rfl⟩, ?_⟩
    refine ⟨_, retB (hc _ _ hwc (show Rd _ (core op n s t (g' + 2) kk.length (retags cs')) from ⟨_, _, rfl, e2.retag⟩) (show Rd _ (core op n s t (h' + 2) kk.length (retags ds')) from ⟨_, _, rfl, f2.retag⟩)), ?_⟩
    refine ⟨(fun h => by cases h), fun h => ?_⟩
    intro jk
    rw [wrapS hil hk]
    exact ih k1 jk

theorem eq56 {ks : List Co} {cs ds : List TU} {g h : Nat} (H : ∀ c ∈ ks, S23 c) (hw : Wfs ks) (hr : Rds ks cs) (hs : Rds ks ds) (hk : ks.length ≤ maxLen) :
    RT 56 [xl (g + 1) 5 ks.length cs, xl (h + 1) 5 ks.length ds] [] = some (xb true, []) := by
  refine fn_is (fn := Try.f56) rfl rfl rfl rfl ?_
  refine ⟨fun h => by simp at h, fun _ => ?_⟩
  refine sem_in cx0 _ RT [5, 0, 1, 4] fun jk => ?_
  refine l56 H hw hr hs hk ks 0 rfl (by omega) (fun jk i => ?_) jk
  exact ⟨rfl, rfl⟩

theorem eq23 : ∀ c : Co, S23 c := by
  refine Co.ind fun op n s t ks ih => ?_
  intro us vs hw hr hs
  simp only [Rd] at hr hs
  obtain ⟨g, cs, rfl, hr⟩ := hr
  obtain ⟨h, ds, rfl, hs⟩ := hs
  simp only [Wf] at hw
  refine fn_is (fn := Try.f23) rfl rfl rfl rfl ?_
  refine ⟨fun h => by simp at h, fun _ => ?_⟩
  refine ⟨fun h => by simp at h, fun _ => ?_⟩
  refine ⟨fun h => by simp at h, fun _ => ?_⟩
  refine ⟨fun h => by simp at h, fun _ => ?_⟩
  refine ⟨_, retB (eq56 (g := g + 1) (h := h + 1) (cs := retags cs) (ds := retags ds) ih hw.2.2.2.2.2 hr.retag hs.retag hw.2.2.2.2.1), ?_⟩
  refine ⟨(fun h => by cases h), fun _ => ?_⟩
  exact ⟨rfl, rfl⟩

end Go.Proofs.Ytkijidheicdadaa.V

namespace Go.Proofs.Ytkijidheicdadaa.V
set_option maxRecDepth 100000

theorem i64_wf {n : Int} (h : (Lit.int .i64 n).wf = true) : -9223372036854775808 ≤ n ∧ n < 9223372036854775808 := by
  simp only [Lit.wf, Bool.and_eq_true, decide_eq_true_eq] at h
  obtain ⟨h1, h2⟩ := h
  have e1 : IntKind.min .i64 = -9223372036854775808 := by decide
  have e2 : IntKind.max .i64 = 9223372036854775807 := by decide
  omega

def ShL (sh : Nat → List TU → Prop) : List Nat → List TU → Prop
  | [], us => us = []
  | t :: ts, us => ∃ vs ws, us = vs ++ ws ∧ sh t vs ∧ ShL sh ts ws

theorem ShF_L {sh : Nat → List TU → Prop} : ∀ {fs : List Field} {us : List TU}, ShF sh fs us → ShL sh (fs.map (·.type)) us
  | [], us, h => h
  | f :: fs, us, h => by
    obtain ⟨vs, ws, h1, h2, h3⟩ := h
    exact ⟨vs, ws, h1, h2, ShF_L h3⟩

theorem sh_int {k : Nat} {us : List TU} (h : Sh Try.prog k 3 us) : ∃ n, us = [.int .i64 n] ∧ -9223372036854775808 ≤ n ∧ n < 9223372036854775808 := by
  cases k with
  | zero => exact h.elim
  | succ k =>
    have hu : Try.prog.underlying 3 = some (.int .i64) := by kernel_rfl
    simp only [Sh, hu] at h
    obtain ⟨n, h1, h2⟩ := h
    exact ⟨n, h1, i64_wf h2⟩

theorem sh_str {k : Nat} {us : List TU} (h : Sh Try.prog k 9 us) : ∃ s, us = [.str s] ∧ s.length ≤ maxLen := by
  cases k with
  | zero => exact h.elim
  | succ k =>
    have hu : Try.prog.underlying 9 = some .string := by kernel_rfl
    simp only [Sh, hu] at h
    exact h

def fieldTys (P : Program) (t : Nat) : Option (List Nat) :=
  match P.underlying t with
  | some (.struct fs) => some (fs.toList.map (·.type))
  | _ => none

theorem fieldTys_ok {P : Program} {t : Nat} {l : List Nat} (h : fieldTys P t = some l) : ∃ fs, P.underlying t = some (.struct fs) ∧ fs.toList.map (·.type) = l := by
  unfold fieldTys at h
  split at h
  · next fs hf => exact ⟨fs, hf, Option.some.inj h⟩
  · cases h

theorem sh_core : ∀ (k : Nat) (us : List TU), Sh Try.prog k 31 us → ∃ c, Rd c us ∧ Wf c := by
  intro k
  induction k using Nat.strongRecOn with
  | _ k ih =>
  intro us h
  cases k with
  | zero => exact h.elim
  | succ k =>
    obtain ⟨fs, hu, hf⟩ := fieldTys_ok (P := Try.prog) (t := 31) (l := [3, 3, 9, 9, 29]) (by kernel_rfl)
    simp only [Sh, hu] at h
    have h := ShF_L h
    rw [hf] at h
    obtain ⟨a1, b1, rfl, c1, a2, b2, rfl, c2, a3, b3, rfl, c3, a4, b4, rfl, c4, a5, b5, rfl, c5, rfl⟩ := h
    obtain ⟨op, rfl, o1, o2⟩ := sh_int c1
    obtain ⟨n, rfl, n1, n2⟩ := sh_int c2
    obtain ⟨s, rfl, s1⟩ := sh_str c3
    obtain ⟨t, rfl, t1⟩ := sh_str c4
    cases k with
    | zero => exact c5.elim
    | succ k =>
      have hu : Try.prog.underlying 29 = some (.slice 31) := by kernel_rfl
      simp only [Sh, hu] at c5
      obtain ⟨cs, rfl, l1, l2, l3⟩ := c5
      have key : ∀ cs : List (List TU), (∀ c ∈ cs, Sh Try.prog k 31 c) → ∃ ks : List Co, ks.length = cs.length ∧ Rds ks cs.flatten ∧ Wfs ks := by
        intro cs
        induction cs with
        | nil => intro _; exact ⟨[], rfl, rfl, trivial⟩
        | cons c cs ihc =>
          intro h
          obtain ⟨x, x1, x2⟩ := ih k (by omega) c (h c List.mem_cons_self)
          obtain ⟨ks, k1, k2, k3⟩ := ihc fun y hy => h y (List.mem_cons_of_mem _ hy)
          exact ⟨x :: ks, by simp [k1], ⟨_, _, rfl, x1, k2⟩, ⟨x2, k3⟩⟩
      obtain ⟨ks, k1, k2, k3⟩ := key cs l3
      refine ⟨.mk op n s t ks, ⟨0, cs.flatten, ?_, k2⟩, ⟨o1, o2⟩, ⟨n1, n2⟩, s1, t1, by omega, k3⟩
      have e : Try.prog.cellsOf 31 = 5 := by kernel_rfl
      rw [e, k1]; rfl

/-- A core of one's own, as it is handed over: whole, or read out of a variable. -/
theorem rdO (op n : Int) (s t : List UInt8) (ks : List Co) : Rd (.mk op n s t ks) (core op n s t 1 ks.length (retags (encs ks))) := enc_retag (.mk op n s t ks)
theorem rdV (op n : Int) (s t : List UInt8) (ks : List Co) : Rd (.mk op n s t ks) (core op n s t 1 ks.length (retags (((encs ks).drop 0).take (ks.length * 5)))) := by rw [encs_whole]; exact rdO op n s t ks
theorem inV (ks : List Co) : 0 + ks.length * 5 ≤ (encs ks).length := by rw [encs_len]; omega

theorem run_of {f : Nat} {xs : List XU} {r : XU × List (List CU)} (h : RT f xs [] = some r) : ∃ k, run Try.prog cx0 k f xs [] = some r := (RR_iff Try.prog cx0).1 h

end Go.Proofs.Ytkijidheicdadaa.V

namespace Go.Proofs.Ytkijidheicdadaa.V
set_option maxRecDepth 100000

def smallB (op : Int) : Bool := op == 1 || op == 2 || op == 13

theorem small20 {c : Co} {us : List TU} (h : Rd c us) : RT 20 [xc us] [] = some (xb (match c with | .mk op _ _ _ _ => smallB op), []) := by
  cases c with
  | mk op n s t ks =>
  obtain ⟨g, cs, rfl, _⟩ := h
  refine fn_is (fn := Try.f20) rfl rfl rfl rfl ?_
  refine ⟨fun h1 => ?_, fun h1 => ?_⟩
  · exact ⟨by simp only [smallB, h1]; rfl, rfl⟩
  refine ⟨fun h2 => ?_, fun h2 => ?_⟩
  · exact ⟨by simp only [smallB, h1, h2]; rfl, rfl⟩
  · exact ⟨by simp only [smallB, h1, h2]; rfl, rfl⟩

theorem small22 {c : Co} {us : List TU} (h : Rd c us) : RT 22 [xc us] [] = some (xb (match c with | .mk op _ _ _ _ => smallB op), []) := by
  cases c with
  | mk op n s t ks =>
  obtain ⟨g, cs, rfl, _⟩ := h
  refine fn_is (fn := Try.f22) rfl rfl rfl rfl ?_
  refine ⟨fun h1 => ?_, fun h1 => ?_⟩
  · exact ⟨by simp only [smallB, h1]; rfl, rfl⟩
  refine ⟨fun h2 => ?_, fun h2 => ?_⟩
  · exact ⟨by simp only [smallB, h1, h2]; rfl, rfl⟩
  · exact ⟨by simp only [smallB, h1, h2]; rfl, rfl⟩

end Go.Proofs.Ytkijidheicdadaa.V

namespace Go.Proofs.Ytkijidheicdadaa.V
set_option maxRecDepth 100000

theorem lawSmall {c : Co} {us : List TU} (hr : Rd c us) (hw : Wf c) : RT 4 [xc us] [] = some (xb true, []) := by
  cases c with
  | mk op n s t ks =>
  obtain ⟨g, cs, rfl, hr⟩ := hr
  have rd : ∀ g, Rd (.mk op n s t ks) (core op n s t (g + 2) ks.length (retags cs)) := fun g => ⟨_, _, rfl, hr.retag⟩
  refine fn_is (fn := Try.f4) rfl rfl rfl rfl ?_
  refine ⟨_, retI (sz19 _ _ 1048576 hw (rd g) (by omega) (by omega)), ?_⟩
  refine ⟨fun h => ⟨rfl, rfl⟩, fun h => ?_⟩
  obtain ⟨h1, _⟩ := szR_yes h
  have hz : szC (.mk op n s t ks) ≤ 1048576 := by omega
  refine ⟨_, retC (to21 _ _ hz (rd g)), ?_⟩
  refine ⟨_, retB (small20 (rdO op n s t ks)), ?_⟩
  refine ⟨_, retC (to21 _ _ hz (rd g)), ?_⟩
  refine ⟨inV ks, ?_⟩
  refine ⟨_, retB (small22 (rdV op n s t ks)), ?_⟩
  refine ⟨fun h => by simp at h, fun _ => ?_⟩
  refine ⟨_, retC (to21 _ _ hz (rd g)), ?_⟩
  refine ⟨inV ks, ?_⟩
  refine ⟨_, retB (eq23 _ _ _ hw (rdV op n s t ks) (rdO op n s t ks)), ?_⟩
  refine ⟨(fun h => by cases h), fun _ => ?_⟩
  exact ⟨rfl, rfl⟩

end Go.Proofs.Ytkijidheicdadaa.V

namespace Go.Proofs.Ytkijidheicdadaa.fnExactSmall
open Go.ChangeShapes Go.WideShapes Go.ChangeAt Go.RowKit
set_option linter.unusedVariables false
set_option maxRecDepth 100000

theorem own : ownKnob Try.prog.godebug = none := by kernel_rfl
theorem laidOut : laidOutB Try.prog = true := by kernel_rfl

def G : List Nat := [3, 9, 31, 29]
theorem hG : V.plainTys Try.prog G = true := by kernel_rfl
theorem st : ∃ fs, Try.prog.underlying 31 = some (.struct fs) := by
  obtain ⟨fs, h, _⟩ := V.fieldTys_ok (P := Try.prog) (t := 31) (l := [3, 3, 9, 9, 29]) (by kernel_rfl)
  exact ⟨fs, h⟩

theorem lifted (os : Os) (started : os.Started) (H : Type) (enc : TypeId × Value → H) :
    ReturnsInHanded {} Try.checked os 4 .any (Rows.fnExactSmallSpec.pre6 enc Try.prog Try.f4 Rows.fnExactSmallRow.domain false) (Rows.fnExactSmallSpec.post enc Try.prog Try.f4 false true false false) := by
  refine returnsInHanded_of_change (C := Try.checked) own started (by kernel_rfl) Try.func4
    (ChangeSpec.witness6 (enc := enc) (C := Try.checked) false ⟨#[], #[.agg #[.int .i64 0, .int .i64 0, .string "".toUTF8, .string "".toUTF8, .slice none 0 0]], []⟩ 8 (by kernel_rfl) (by kernel_rfl) (by kernel_rfl) (by kernel_rfl)) ?_
  intro W base args ds gs before hval0 hW hcnd _
  have hval : ∀ (j : Nat) t v, Try.f4.params[j]? = some t → args[j]? = some v → Value.okWide Try.prog W .any base t v := hval0
  have hW' := hW
  obtain ⟨p, q, hA0, hV, rfl, hfz, hnd⟩ := hW
  have hA : DataW.TrodAll enc Try.prog W 0 (fun _ => true) true Try.f4.params.toList args.toList ds p := hA0
  rw [Try.params4] at hA hval
  obtain ⟨v0, vs0, d0, ds0, p0, q0, hargs, rfl, rfl, h0, r0⟩ := trodAll_cons hA
  obtain ⟨rfl, rfl, rfl⟩ := trodAll_nil r0
  obtain rfl : args = #[v0] := by cases args; simp_all
  obtain ⟨rfl, rfl⟩ := trodVars_none hV
  have k0 := h0
  have lt0 : ∀ x ∈ p0, x.block < W.heap.size := by obtain ⟨m, hm⟩ := k0; exact DataW.trod_lt m _ _ _ hm
  obtain ⟨fs, hu⟩ := st
  obtain ⟨k, us, hsh, hx⟩ := V.arg_struct hG (t := 31) (by decide) hu (hval 0 31 v0 rfl rfl) h0
  obtain ⟨c, hr, hw⟩ := V.sh_core k us hsh
  obtain ⟨n, hrun⟩ := V.run_of (V.lawSmall hr hw)
  clear hA0 hval0
  refine (V.law_calls V.cxOk (vs := [v0]) (xs := [V.xc us]) ⟨rfl, fun i v x hv hx' => ?_⟩ hrun).mono fun e W' ⟨he, bel⟩ => ?_
  · cases i with
    | zero => simp only [List.getElem?_cons_zero, Option.some.injEq] at hv hx'; subst hv hx'; exact hx
    | succ i => simp at hv
  subst he
  exact ⟨_, rfl, _, _, _, [], _, [], hW', trodAll_mk1 (shut_bool Try.underlying4 _), (trodAll_cons_mk (Below.trod laidOut (by kernel_rfl) (of_decide_eq_true (by kernel_rfl)) k0 bel lt0) trodAll_mk0), rfl, bel.frame _, fun h => by cases h⟩

theorem over : Rows.fnExactSmallRow.holds Try.pinned (OpenSpec.ofChange Rows.fnExactSmallSpec) :=
  OpenClaim.holds_of_wide 4 Try.f4 rfl rfl rfl rfl rfl rfl rfl ⟨rfl, rfl, rfl, rfl, rfl⟩ rfl rfl rfl rfl rfl (by kernel_rfl) Try.func4 (by kernel_rfl)
    (of_decide_eq_true (by kernel_rfl)) (by unfold Func.isWrapper; first | (rw [if_pos (by decide +kernel)]; kernel_rfl) | (rw [if_neg (by decide +kernel)]; exact ⟨rfl, rfl⟩))
    (fun os started H enc _ => lifted os started H enc)

theorem proved : Rows.FnExactSmallSaid := over
#print axioms proved
end Go.Proofs.Ytkijidheicdadaa.fnExactSmall
