/-
  The law FnExactCountText holds for every input: the call returns true, and the input reads as it did. No conditions but the tables that the row lists, which are tied.
-/
import Derived.Test.YtlkjnlfddadlmaaDoorMK
import Derived.Test.YtlkjnlfddadlmaaDoorM6
import Derived.Test.YtlkjnlfddadlmaaDoorM5
import Derived.Test.YtlkjnlfddadlmaaDoorRows
import Derived.Test.YtlkjnlfddadlmaaDoorCards
import Derived.Test.YtlkjnlfddadlmaaDoorTie
import Derived.WalkKit
import Derived.ProofKit
import Derived.OpenShut
import Derived.ChangeOld
import Derived.Below
import Derived.LaidMore
import Derived.Stop.Joined
import Derived.Stop.LaidErr
import Derived.Lib.LaidTab
import Derived.SevenTiedAt
set_option linter.unusedVariables false
set_option linter.unusedSimpArgs false
namespace Go.Proofs.YtlkjnlfddadlmaaDoor.V
set_option maxRecDepth 100000
noncomputable abbrev RT := RR Tryd.prog cx0

theorem fn_is {g : Nat} {fn : Func} {a : List XU} {x : XU} (ho : cx0.orc g = none) (hf : Tryd.prog.funcs[g]? = some fn) (hb : fn.body = some (fn.body.getD .skip)) (hg : cx0.good g = true)
    (h : fnW cx0 g RT fn a [] fun y e => x = y ∧ e = []) : RT g a [] = some (x, []) := by
  obtain ⟨y, e, h1, h2, h3⟩ := fn_ok ho hf hb hg h
  rw [RT, h1, h2, h3]

theorem retI {g : Nat} {xs : List XU} {n : Int} (h : RT g xs [] = some (xi n, [])) : Ret RT g xs (xi n) := ⟨_, h, rfl⟩
theorem retB {g : Nat} {xs : List XU} {b : Bool} (h : RT g xs [] = some (xb b, [])) : Ret RT g xs (xb b) := ⟨_, h, rfl⟩
theorem retL {g : Nat} {xs : List XU} {n : Nat} {l : List Co} (h : RT g xs [] = some (xl 0 5 n (encs l), [])) : Ret RT g xs (xl 0 5 n (encs l)) := ⟨_, h, by simp only [downX, downC, down, encs_down, Option.map_some]; rfl⟩
theorem retC {g : Nat} {xs : List XU} {c : Co} (h : RT g xs [] = some (xc (enc c), [])) : Ret RT g xs (xc (enc c)) := ⟨_, h, by
  have : ∀ {a b : List TU}, downs a = some b → downCs (a.map .t) = some (b.map .t) := by
    intro a
    induction a with
    | nil => intro b h; simp only [downs, Option.some.injEq] at h; subst h; rfl
    | cons x a ih =>
      intro b h
      simp only [downs] at h
      cases hx : down x with
      | none => simp [hx] at h
      | some y =>
        cases ha : downs a with
        | none => simp [hx, ha] at h
        | some b' =>
          simp only [hx, ha, Option.bind_some, Option.map_some, Option.some.injEq] at h
          subst h
          simp only [List.map_cons, downCs, downC, hx, Option.map_some, Option.bind_some, ih ha]
  simp only [downX, this (enc_down c), Option.map_some]⟩

def szR (z : Nat) (left : Int) : Int := if (z : Int) ≤ left then left - z else -1

theorem szR_no {z : Nat} {v : Int} (h : decide (szR z v < 0) = true) (h0 : 0 ≤ v) : v < z := by
  have h := of_decide_eq_true h
  unfold szR at h; split at h <;> omega
theorem szR_yes {z : Nat} {v : Int} (h : decide (szR z v < 0) = false) : (z : Int) ≤ v ∧ szR z v = v - z := by
  have h := of_decide_eq_false h
  unfold szR at h ⊢
  split at h
  · next h1 => exact ⟨h1, by rw [if_pos h1]⟩
  · omega

def S19 (c : Co) : Prop := ∀ us left, Wf c → Rd c us → 0 ≤ left → left ≤ 1048576 → RT 10 [xc us, xi left] [] = some (xi (szR (szC c) left), [])

def lsz : List Co → Nat
  | [] => 0
  | c :: l => szC c + lsz l

theorem szCs_eq : ∀ l : List Co, szCs l = l.length + lsz l
  | [] => rfl
  | c :: l => by simp only [szCs, lsz, szCs_eq l, List.length_cons]; omega

theorem l54 {ks : List Co} {cs : List TU} {g : Nat} {K : Ex → StA → Prop} (H : ∀ c ∈ ks, S19 c) (hw : Wfs ks) (hr : Rds ks cs) (hk : ks.length ≤ maxLen) : ∀ (l : List Co) (i : Nat), ks.drop i = l → i ≤ ks.length → ∀ v : Int, 0 ≤ v → v ≤ 1048576 →
    (∀ jk i v', lsz l ≤ v → v' = v - lsz l → K (.exit 0) ⟨[(5, xi i), (1, xi v'), (0, xl (g + 1) 5 ks.length cs), (4, xi 0)], jk, []⟩) →
    (∀ jk i v', v < lsz l → K .ret ⟨[(5, xi i), (1, xi v'), (0, xl (g + 1) 5 ks.length cs), (4, xi (-1))], jk, []⟩) →
    ∀ jk, sem cx0 22 RT (.loop (lp Tryd.f22 0)) ⟨[(5, xi i), (1, xi v), (0, xl (g + 1) 5 ks.length cs), (4, xi 0)], jk, []⟩ K := by
  refine drop_ind ?_ ?_
  · intro v h0 h1 k1 k2 jk
    refine loop_step cx0 _ RT [5, 1, 0, 4] ⟨fun h => (lt_no h (by omega)).elim, fun h => ?_⟩
    exact fun jk => k1 jk _ _ (by simpa [lsz] using h0) (by simp [lsz])
  · intro i c l hi hil ih v h0 h1 k1 k2 jk
    refine loop_step cx0 _ RT [5, 1, 0, 4] ⟨fun h => ?_, fun h => (lt_yes h (by omega)).elim⟩
    refine ⟨⟨by omega, by omega⟩, ?_⟩
    have hc := H c (List.mem_of_getElem? hi)
    have hwc := Wfs_iff.1 hw c (List.mem_of_getElem? hi)
    cases c with
    | mk op n s t kk =>
    obtain ⟨g', cs', e1, e2⟩ := Rds_get hr hi
    refine ⟨op, n, s, t, g' + 1, kk.length, cs', ⟨e1, rfl⟩, ?_⟩
    refine ⟨_, ⟨_, hc _ v hwc (show Rd _ (core op n s t (g' + 2) kk.length (retags cs')) from ⟨_, _, rfl, e2.retag⟩) h0 h1, rfl⟩, ?_⟩
    refine ⟨fun h2 => ?_, fun h2 => ?_⟩
    · have := szR_no h2 h0
      exact fun jk => k2 jk _ _ (by simp only [lsz]; omega)
    · obtain ⟨h3, h4⟩ := szR_yes h2
      refine fun jk => ?_
      rw [wrapS hil hk, h4]
      exact ih _ (by omega) (by omega) (fun jk i v' a1 a2 => k1 jk i v' (by simp only [lsz]; omega) (by simp only [lsz]; omega)) (fun jk i v' a1 => k2 jk i v' (by simp only [lsz]; omega)) jk

theorem sz54 {ks : List Co} {cs : List TU} {g : Nat} {left : Int} (H : ∀ c ∈ ks, S19 c) (hw : Wfs ks) (hr : Rds ks cs) (hk : ks.length ≤ maxLen) (h0 : 0 ≤ left) (h1 : left ≤ 1048576) :
    RT 22 [xl (g + 1) 5 ks.length cs, xi left] [] = some (xi (szR (szCs ks) left), []) := by
  have hk' := hk
  simp only [maxLen] at hk'
  refine fn_is (fn := Tryd.f22) rfl rfl rfl rfl ?_
  refine ⟨fun h => ?_, fun h => ?_⟩
  · rw [wrap64 (by omega) (by omega)] at h
    refine ⟨?_, rfl⟩
    simp at h
    have : ¬ ((szCs ks : Nat) : Int) ≤ left := by rw [szCs_eq]; omega
    simp only [szR, if_neg this]; rfl
  · rw [wrap64 (by omega) (by omega)] at h
    simp at h
    have e : szCs ks = ks.length + lsz ks := szCs_eq ks
    refine sem_in cx0 _ RT [5, 1, 0, 4] fun jk => ?_
    rw [wrap64 (n := left - ks.length) (by omega) (by omega)]
    refine l54 H hw hr hk ks 0 rfl (by omega) _ (by omega) (by omega) ?_ ?_ _
    · intro jk i v' a1 a2
      refine ⟨?_, rfl⟩
      have : ((szCs ks : Nat) : Int) ≤ left := by omega
      simp only [szR, if_pos this]
      rw [a2, show left - ((szCs ks : Nat) : Int) = left - ks.length - lsz ks by omega]; rfl
    · intro jk i v' a1
      refine ⟨?_, rfl⟩
      have : ¬ ((szCs ks : Nat) : Int) ≤ left := by omega
      simp only [szR, if_neg this]; rfl

end Go.Proofs.YtlkjnlfddadlmaaDoor.V

namespace Go.Proofs.YtlkjnlfddadlmaaDoor.V
set_option maxRecDepth 100000

theorem sz19 : ∀ c : Co, S19 c := by
  refine Co.ind fun op n s t ks ih => ?_
  intro us left hw hr h0 h1
  simp only [Rd] at hr
  obtain ⟨g, cs, rfl, hr⟩ := hr
  simp only [Wf] at hw
  obtain ⟨w1, w2, w3, w4, w5, w6⟩ := hw
  have hs := w3
  have ht := w4
  simp only [maxLen] at hs ht
  refine fn_is (fn := Tryd.f10) rfl rfl rfl rfl ?_
  have e0 : szC (.mk op n s t ks) = s.length + t.length + szCs ks := rfl
  refine ⟨fun h => ?_, fun h => ?_⟩
  · rw [wrap64 (by omega) (by omega)] at h
    have h := of_decide_eq_true h
    have : ¬ ((szC (.mk op n s t ks) : Nat) : Int) ≤ left := by omega
    refine ⟨?_, rfl⟩
    simp only [szR, if_neg this]; rfl
  rw [wrap64 (by omega) (by omega)] at h
  have h := of_decide_eq_false h
  refine ⟨fun h' => ?_, fun h' => ?_⟩
  · rw [wrap64 (n := left - s.length) (by omega) (by omega), wrap64 (by omega) (by omega)] at h'
    have h' := of_decide_eq_true h'
    have : ¬ ((szC (.mk op n s t ks) : Nat) : Int) ≤ left := by omega
    refine ⟨?_, rfl⟩
    simp only [szR, if_neg this]; rfl
  rw [wrap64 (n := left - s.length) (by omega) (by omega), wrap64 (by omega) (by omega)] at h'
  have h' := of_decide_eq_false h'
  have e1 : IntKind.wrap .i64 (IntKind.wrap .i64 (left - (s.length : Int)) - (t.length : Int)) = left - s.length - t.length := by
    rw [wrap64 (n := left - s.length) (by omega) (by omega), wrap64 (by omega) (by omega)]
  have hc := sz54 (g := g + 1) (left := left - s.length - t.length) ih w6 hr.retag w5 (by omega) (by omega)
  refine ⟨_, ⟨_, by rw [e1]; exact hc, rfl⟩, ?_⟩
  refine ⟨fun h2 => ?_, fun h2 => ?_⟩
  · have := szR_no h2 (by omega)
    have : ¬ ((szC (.mk op n s t ks) : Nat) : Int) ≤ left := by omega
    refine ⟨?_, rfl⟩
    simp only [szR, if_neg this]; rfl
  · obtain ⟨h3, h4⟩ := szR_yes h2
    have : ((szC (.mk op n s t ks) : Nat) : Int) ≤ left := by omega
    refine ⟨?_, rfl⟩
    rw [h4]
    simp only [szR, if_pos this]
    rw [show left - ((szC (.mk op n s t ks) : Nat) : Int) = left - s.length - t.length - szCs ks by omega]; rfl

/-! ### turned over -/
def S21 (c : Co) : Prop := ∀ us, szC c ≤ 1048576 → Rd c us → RT 12 [xc us] [] = some (xc (enc c), [])

abbrev zC : List TU := [.int .i64 0, .int .i64 0, .str [], .str [], .sl () 0 5 0 []]

theorem szCs_le {ks : List Co} {n : Nat} (h : szCs ks ≤ n) : ks.length ≤ n := by rw [szCs_eq] at h; omega

theorem szCs_mem : ∀ {ks : List Co} {n : Nat} {c : Co}, szCs ks ≤ n → c ∈ ks → szC c ≤ n
  | x :: ks, n, c, h, hc => by
    simp only [szCs] at h
    rcases List.mem_cons.1 hc with rfl | hc
    · omega
    · exact szCs_mem (ks := ks) (by omega) hc

theorem repl_len {n : Nat} {xs : List TU} : (repl n xs).length = n * xs.length := by
  simp [repl]

theorem repl_succ {n : Nat} {xs : List TU} : repl (n + 1) xs = xs ++ repl n xs := by
  simp [repl, List.replicate_succ]

theorem put_next {l : List Co} {c : Co} {m : Nat} : (((encs l ++ repl (m + 1) zC).take (l.length * 5)) ++ enc c) ++ (encs l ++ repl (m + 1) zC).drop (l.length * 5 + 5) = encs (l ++ [c]) ++ repl m zC := by
  rw [← encs_len l, List.take_left, List.drop_length_add_append, repl_succ, encs_append]
  simp only [encs, List.append_nil]
  rw [show (zC ++ repl m zC).drop 5 = repl m zC from rfl]

theorem l55 {ks : List Co} {cs : List TU} {g : Nat} {K : Ex → StA → Prop} (H : ∀ c ∈ ks, S21 c) (hz : szCs ks ≤ 1048576) (hr : Rds ks cs) : ∀ (l : List Co) (i : Nat), ks.drop i = l → i ≤ ks.length →
    (∀ jk i, K (.exit 0) ⟨[(4, xi i), (3, xl 0 5 ks.length (encs ks)), (0, xl (g + 1) 5 ks.length cs), (2, xl 0 5 0 [])], jk, []⟩) →
    ∀ jk, sem cx0 25 RT (.loop (lp Tryd.f25 0)) ⟨[(4, xi i), (3, xl 0 5 ks.length (encs (ks.take i) ++ repl (ks.length - i) zC)), (0, xl (g + 1) 5 ks.length cs), (2, xl 0 5 0 [])], jk, []⟩ K := by
  have hk := szCs_le hz
  refine drop_ind ?_ ?_
  · intro k1 jk
    refine loop_step cx0 _ RT [4, 3, 0, 2] ⟨fun h => (lt_no h (by omega)).elim, fun h => ?_⟩
    intro jk
    have := k1 jk ks.length
    show K _ _
    simpa [repl] using this
  · intro i c l hi hil ih k1 jk
    refine loop_step cx0 _ RT [4, 3, 0, 2] ⟨fun h => ?_, fun h => (lt_yes h (by omega)).elim⟩
    refine ⟨⟨by omega, by omega⟩, ?_⟩
    have hm := List.mem_of_getElem? hi
    have hc := H c hm
    have hzc := szCs_mem hz hm
    cases c with
    | mk op n s t kk =>
    obtain ⟨g', cs', e1, e2⟩ := Rds_get hr hi
    refine ⟨op, n, s, t, g' + 1, kk.length, cs', ⟨e1, rfl⟩, ?_⟩
    refine ⟨_, retC (hc _ hzc (show Rd _ (core op n s t (g' + 2) kk.length (retags cs')) from ⟨_, _, rfl, e2.retag⟩)), ?_⟩
    refine ⟨⟨by omega, by omega⟩, ?_⟩
    refine ⟨?_, ?_⟩
    · rw [List.length_append, encs_len, repl_len, List.length_take, Nat.min_eq_left (by omega)]
      show 0 + i * 5 + 5 ≤ i * 5 + (ks.length - i) * 5
      omega
    intro jk jk
    have hl : (ks.take i).length = i := by rw [List.length_take]; omega
    have e := put_next (l := ks.take i) (c := .mk op n s t kk) (m := ks.length - (i + 1))
    rw [hl, show ks.length - (i + 1) + 1 = ks.length - i by omega, show ks.take i ++ [Co.mk op n s t kk] = ks.take (i + 1) by rw [List.take_add_one, hi]; rfl] at e
    have := ih k1 jk
    rw [← e] at this
    simp only [Nat.zero_add, Int.toNat_natCast, wrapS hil (show ks.length ≤ maxLen by simp only [maxLen]; omega)]
    exact this

theorem to55 {ks : List Co} {cs : List TU} {g : Nat} (H : ∀ c ∈ ks, S21 c) (hz : szCs ks ≤ 1048576) (hr : Rds ks cs) :
    RT 25 [xl (g + 1) 5 ks.length cs] [] = some (xl 0 5 ks.length (encs ks), []) := by
  have hk := szCs_le hz
  refine fn_is (fn := Tryd.f25) rfl rfl rfl rfl ?_
  refine ⟨⟨by omega, by omega, ?_, by simp only [maxLen]; omega⟩, ?_⟩
  · show (ks.length : Int) * (72 : Nat) ≤ 140737488355328
    omega
  refine sem_in cx0 _ RT [4, 3, 0, 2] fun jk => ?_
  refine l55 (g := g) H hz hr ks 0 rfl (by omega) (fun jk i => ?_) jk
  refine ⟨by rw [encs_len]; omega, ?_⟩
  refine ⟨?_, rfl⟩
  exact congrArg (xl 0 5 ks.length) (encs_whole ks).symm

theorem to21 : ∀ c : Co, S21 c := by
  refine Co.ind fun op n s t ks ih => ?_
  intro us hz hr
  simp only [Rd] at hr
  obtain ⟨g, cs, rfl, hr⟩ := hr
  refine fn_is (fn := Tryd.f12) rfl rfl rfl rfl ?_
  refine ⟨_, retL (to55 (g := g + 1) (cs := retags cs) ih (by simp only [szC] at hz; omega) hr.retag), ?_⟩
  refine ⟨by rw [encs_len]; omega, ?_⟩
  refine ⟨?_, rfl⟩
  exact congrArg (fun x => xc (core op n s t 0 ks.length x)) (encs_whole ks).symm

/-! ### compared: what is the same is found so -/
def S23 (c : Co) : Prop := ∀ us vs, Wf c → Rd c us → Rd c vs → RT 14 [xc us, xc vs] [] = some (xb true, [])

theorem l56 {ks : List Co} {cs ds : List TU} {g h : Nat} {K : Ex → StA → Prop} (H : ∀ c ∈ ks, S23 c) (hw : Wfs ks) (hr : Rds ks cs) (hs : Rds ks ds) (hk : ks.length ≤ maxLen) : ∀ (l : List Co) (i : Nat), ks.drop i = l → i ≤ ks.length →
    (∀ jk i, K (.exit 0) ⟨[(5, xi i), (0, xl (g + 1) 5 ks.length cs), (1, xl (h + 1) 5 ks.length ds), (4, xb false)], jk, []⟩) →
    ∀ jk, sem cx0 28 RT (.loop (lp Tryd.f28 0)) ⟨[(5, xi i), (0, xl (g + 1) 5 ks.length cs), (1, xl (h + 1) 5 ks.length ds), (4, xb false)], jk, []⟩ K := by
  refine drop_ind ?_ ?_
  · intro k1 jk
    refine loop_step cx0 _ RT [5, 0, 1, 4] ⟨fun h => (lt_no h (by omega)).elim, fun h => ?_⟩
    exact fun jk => k1 jk _
  · intro i c l hi hil ih k1 jk
    refine loop_step cx0 _ RT [5, 0, 1, 4] ⟨fun h => ?_, fun h => (lt_yes h (by omega)).elim⟩
    refine ⟨⟨by omega, by omega⟩, ?_⟩
    have hm := List.mem_of_getElem? hi
    have hc := H c hm
    have hwc := Wfs_iff.1 hw c hm
    cases c with
    | mk op n s t kk =>
    obtain ⟨g', cs', e1, e2⟩ := Rds_get hr hi
    refine ⟨op, n, s, t, g' + 1, kk.length, cs', ⟨e1, rfl⟩, ?_⟩
    refine ⟨⟨by omega, by omega⟩, ?_⟩
    obtain ⟨h', ds', f1, f2⟩ := Rds_get hs hi
    refine ⟨op, n, s, t, h' + 1, kk.length, ds', ⟨f1, rfl⟩, ?_⟩
    refine ⟨_, retB (hc _ _ hwc (show Rd _ (core op n s t (g' + 2) kk.length (retags cs')) from ⟨_, _, rfl, e2.retag⟩) (show Rd _ (core op n s t (h' + 2) kk.length (retags ds')) from ⟨_, _, rfl, f2.retag⟩)), ?_⟩
    refine ⟨(fun h => by cases h), fun h => ?_⟩
    intro jk
    rw [wrapS hil hk]
    exact ih k1 jk

theorem eq56 {ks : List Co} {cs ds : List TU} {g h : Nat} (H : ∀ c ∈ ks, S23 c) (hw : Wfs ks) (hr : Rds ks cs) (hs : Rds ks ds) (hk : ks.length ≤ maxLen) :
    RT 28 [xl (g + 1) 5 ks.length cs, xl (h + 1) 5 ks.length ds] [] = some (xb true, []) := by
  refine fn_is (fn := Tryd.f28) rfl rfl rfl rfl ?_
  refine ⟨fun h => by simp at h, fun _ => ?_⟩
  refine sem_in cx0 _ RT [5, 0, 1, 4] fun jk => ?_
  refine l56 H hw hr hs hk ks 0 rfl (by omega) (fun jk i => ?_) jk
  exact ⟨rfl, rfl⟩

theorem eq23 : ∀ c : Co, S23 c := by
  refine Co.ind fun op n s t ks ih => ?_
  intro us vs hw hr hs
  simp only [Rd] at hr hs
  obtain ⟨g, cs, rfl, hr⟩ := hr
  obtain ⟨h, ds, rfl, hs⟩ := hs
  simp only [Wf] at hw
  refine fn_is (fn := Tryd.f14) rfl rfl rfl rfl ?_
  refine ⟨fun h => by simp at h, fun _ => ?_⟩
  refine ⟨fun h => by simp at h, fun _ => ?_⟩
  refine ⟨fun h => by simp at h, fun _ => ?_⟩
  refine ⟨fun h => by simp at h, fun _ => ?_⟩
  refine ⟨_, retB (eq56 (g := g + 1) (h := h + 1) (cs := retags cs) (ds := retags ds) ih hw.2.2.2.2.2 hr.retag hs.retag hw.2.2.2.2.1), ?_⟩
  refine ⟨(fun h => by cases h), fun _ => ?_⟩
  exact ⟨rfl, rfl⟩

end Go.Proofs.YtlkjnlfddadlmaaDoor.V

namespace Go.Proofs.YtlkjnlfddadlmaaDoor.V
set_option maxRecDepth 100000

theorem i64_wf {n : Int} (h : (Lit.int .i64 n).wf = true) : -9223372036854775808 ≤ n ∧ n < 9223372036854775808 := by
  simp only [Lit.wf, Bool.and_eq_true, decide_eq_true_eq] at h
  obtain ⟨h1, h2⟩ := h
  have e1 : IntKind.min .i64 = -9223372036854775808 := by decide
  have e2 : IntKind.max .i64 = 9223372036854775807 := by decide
  omega

def ShL (sh : Nat → List TU → Prop) : List Nat → List TU → Prop
  | [], us => us = []
  | t :: ts, us => ∃ vs ws, us = vs ++ ws ∧ sh t vs ∧ ShL sh ts ws

theorem ShF_L {sh : Nat → List TU → Prop} : ∀ {fs : List Field} {us : List TU}, ShF sh fs us → ShL sh (fs.map (·.type)) us
  | [], us, h => h
  | f :: fs, us, h => by
    obtain ⟨vs, ws, h1, h2, h3⟩ := h
    exact ⟨vs, ws, h1, h2, ShF_L h3⟩

theorem sh_int {k : Nat} {us : List TU} (h : Sh Tryd.prog k 3 us) : ∃ n, us = [.int .i64 n] ∧ -9223372036854775808 ≤ n ∧ n < 9223372036854775808 := by
  cases k with
  | zero => exact h.elim
  | succ k =>
    have hu : Tryd.prog.underlying 3 = some (.int .i64) := by kernel_rfl
    simp only [Sh, hu] at h
    obtain ⟨n, h1, h2⟩ := h
    exact ⟨n, h1, i64_wf h2⟩

theorem sh_str {k : Nat} {us : List TU} (h : Sh Tryd.prog k 9 us) : ∃ s, us = [.str s] ∧ s.length ≤ maxLen := by
  cases k with
  | zero => exact h.elim
  | succ k =>
    have hu : Tryd.prog.underlying 9 = some .string := by kernel_rfl
    simp only [Sh, hu] at h
    exact h

def fieldTys (P : Program) (t : Nat) : Option (List Nat) :=
  match P.underlying t with
  | some (.struct fs) => some (fs.toList.map (·.type))
  | _ => none

theorem fieldTys_ok {P : Program} {t : Nat} {l : List Nat} (h : fieldTys P t = some l) : ∃ fs, P.underlying t = some (.struct fs) ∧ fs.toList.map (·.type) = l := by
  unfold fieldTys at h
  split at h
  · next fs hf => exact ⟨fs, hf, Option.some.inj h⟩
  · cases h

theorem sh_core : ∀ (k : Nat) (us : List TU), Sh Tryd.prog k 29 us → ∃ c, Rd c us ∧ Wf c := by
  intro k
  induction k using Nat.strongRecOn with
  | _ k ih =>
  intro us h
  cases k with
  | zero => exact h.elim
  | succ k =>
    obtain ⟨fs, hu, hf⟩ := fieldTys_ok (P := Tryd.prog) (t := 29) (l := [3, 3, 9, 9, 27]) (by kernel_rfl)
    simp only [Sh, hu] at h
    have h := ShF_L h
    rw [hf] at h
    obtain ⟨a1, b1, rfl, c1, a2, b2, rfl, c2, a3, b3, rfl, c3, a4, b4, rfl, c4, a5, b5, rfl, c5, rfl⟩ := h
    obtain ⟨op, rfl, o1, o2⟩ := sh_int c1
    obtain ⟨n, rfl, n1, n2⟩ := sh_int c2
    obtain ⟨s, rfl, s1⟩ := sh_str c3
    obtain ⟨t, rfl, t1⟩ := sh_str c4
    cases k with
    | zero => exact c5.elim
    | succ k =>
      have hu : Tryd.prog.underlying 27 = some (.slice 29) := by kernel_rfl
      simp only [Sh, hu] at c5
      obtain ⟨cs, rfl, l1, l2, l3⟩ := c5
      have key : ∀ cs : List (List TU), (∀ c ∈ cs, Sh Tryd.prog k 29 c) → ∃ ks : List Co, ks.length = cs.length ∧ Rds ks cs.flatten ∧ Wfs ks := by
        intro cs
        induction cs with
        | nil => intro _; exact ⟨[], rfl, rfl, trivial⟩
        | cons c cs ihc =>
          intro h
          obtain ⟨x, x1, x2⟩ := ih k (by omega) c (h c List.mem_cons_self)
          obtain ⟨ks, k1, k2, k3⟩ := ihc fun y hy => h y (List.mem_cons_of_mem _ hy)
          exact ⟨x :: ks, by simp [k1], ⟨_, _, rfl, x1, k2⟩, ⟨x2, k3⟩⟩
      obtain ⟨ks, k1, k2, k3⟩ := key cs l3
      refine ⟨.mk op n s t ks, ⟨0, cs.flatten, ?_, k2⟩, ⟨o1, o2⟩, ⟨n1, n2⟩, s1, t1, by omega, k3⟩
      have e : Tryd.prog.cellsOf 29 = 5 := by kernel_rfl
      rw [e, k1]; rfl

/-- A core of one's own, as it is handed over: whole, or read out of a variable. -/
theorem rdO (op n : Int) (s t : List UInt8) (ks : List Co) : Rd (.mk op n s t ks) (core op n s t 1 ks.length (retags (encs ks))) := enc_retag (.mk op n s t ks)
theorem rdV (op n : Int) (s t : List UInt8) (ks : List Co) : Rd (.mk op n s t ks) (core op n s t 1 ks.length (retags (((encs ks).drop 0).take (ks.length * 5)))) := by rw [encs_whole]; exact rdO op n s t ks
theorem inV (ks : List Co) : 0 + ks.length * 5 ≤ (encs ks).length := by rw [encs_len]; omega

theorem run_of {f : Nat} {xs : List XU} {r : XU × List (List CU)} (h : RT f xs [] = some r) : ∃ k, run Tryd.prog cx0 k f xs [] = some r := (RR_iff Tryd.prog cx0).1 h

end Go.Proofs.YtlkjnlfddadlmaaDoor.V

namespace Go.Proofs.YtlkjnlfddadlmaaDoor.V
set_option maxRecDepth 100000

def bit (b : Bool) : Nat := if b then 1 else 0

theorem bit57 (b : Bool) : RT 83 [xb b] [] = some (xi (bit b), []) := by
  refine fn_is (fn := Tryd.f83) rfl rfl rfl rfl ?_
  refine ⟨fun h => ?_, fun h => ?_⟩
  · exact ⟨by rw [h]; rfl, rfl⟩
  · exact ⟨by rw [h]; rfl, rfl⟩

theorem max59 (a b : Int) : RT 62 [xi a, xi b] [] = some (xi (max a b), []) := by
  refine fn_is (fn := Tryd.f62) rfl rfl rfl rfl ?_
  refine ⟨fun h => ?_, fun h => ?_⟩
  · have h := of_decide_eq_true h
    exact ⟨by rw [show max a b = a by omega]; rfl, rfl⟩
  · have h := of_decide_eq_false h
    exact ⟨by rw [show max a b = b by omega]; rfl, rfl⟩

def inF (op : Int) (i : Nat) : Bool := op == 3 || (op == 6 && i == 0)

theorem inF_i {i : Nat} : (((i : Int)) == 0) = (i == 0) := by
  cases i with
  | zero => rfl
  | succ i => simp; omega

theorem in50 (a lo hi : Int) : RT 79 [xi a, xi lo, xi hi] [] = some (xb (decide (a ≥ lo) && decide (a ≤ hi)), []) := by
  refine fn_is (fn := Tryd.f79) rfl rfl rfl rfl ?_
  refine ⟨fun h => ?_, fun h => ?_⟩
  · exact ⟨by rw [h]; rfl, rfl⟩
  · exact ⟨by rw [h]; rfl, rfl⟩

theorem in52 (a lo hi : Int) : RT 81 [xi a, xi lo, xi hi] [] = some (xb (decide (a ≥ lo) && decide (a ≤ hi)), []) := by
  refine fn_is (fn := Tryd.f81) rfl rfl rfl rfl ?_
  refine ⟨fun h => ?_, fun h => ?_⟩
  · exact ⟨by rw [h]; rfl, rfl⟩
  · exact ⟨by rw [h]; rfl, rfl⟩

end Go.Proofs.YtlkjnlfddadlmaaDoor.V

namespace Go.Proofs.YtlkjnlfddadlmaaDoor.V
set_option maxRecDepth 100000

abbrev Nm := List UInt8
def nm : List Nm → List TU
  | [] => []
  | s :: l => .str s :: nm l

theorem nm_retag : ∀ l, retags (nm l) = nm l
  | [] => rfl
  | s :: l => by simp only [nm, retags, retag, nm_retag l]
theorem nm_down : ∀ l, downs (nm l) = some (nm l)
  | [] => rfl
  | s :: l => by simp only [nm, downs, down, nm_down l, Option.bind_some, Option.map_some]
theorem nm_len : ∀ l, (nm l).length = l.length
  | [] => rfl
  | s :: l => by simp only [nm, List.length_cons, nm_len l]
theorem nm_append : ∀ l m, nm (l ++ m) = nm l ++ nm m
  | [], m => rfl
  | s :: l, m => by simp only [List.cons_append, nm, nm_append l m]
theorem nm_whole (l : List Nm) : ((nm l).drop 0).take (l.length * 1) = nm l := by rw [List.drop_zero, Nat.mul_one, ← nm_len, List.take_length]
theorem nm_at : ∀ {l : List Nm} {i : Nat} {s : Nm}, l[i]? = some s → ((nm l).drop (i * 1)).take 1 = [.str s]
  | [], i, s, h => by simp at h
  | x :: l, 0, s, h => by
    simp only [List.getElem?_cons_zero, Option.some.injEq] at h
    subst h; rfl
  | x :: l, i + 1, s, h => by
    simp only [List.getElem?_cons_succ] at h
    have := nm_at h
    rw [show (i + 1) * 1 = i * 1 + 1 by omega]; exact this

theorem retN {g : Nat} {xs : List XU} {n : Nat} {l : List Nm} (h : RT g xs [] = some (xl 0 1 n (nm l), [])) : Ret RT g xs (xl 0 1 n (nm l)) := ⟨_, h, by simp only [downX, downC, down, nm_down, Option.map_some]; rfl⟩

theorem l83 {l : List Nm} {s : Nm} {g : Nat} {K : Ex → StA → Prop} (hk : l.length ≤ maxLen) : ∀ (r : List Nm) (i : Nat), l.drop i = r → i ≤ l.length →
    (∀ jk j, (r.contains s) = false → K (.exit 0) ⟨[(5, xi j), (0, xl (g + 1) 1 l.length (nm l)), (1, xs s), (4, xb false)], jk, []⟩) →
    (∀ jk j, (r.contains s) = true → K .ret ⟨[(5, xi j), (0, xl (g + 1) 1 l.length (nm l)), (1, xs s), (4, xb true)], jk, []⟩) →
    ∀ jk, sem cx0 66 RT (.loop (lp Tryd.f66 0)) ⟨[(5, xi i), (0, xl (g + 1) 1 l.length (nm l)), (1, xs s), (4, xb false)], jk, []⟩ K := by
  refine drop_ind ?_ ?_
  · intro k1 k2 jk
    refine loop_step cx0 _ RT [5, 0, 1, 4] ⟨fun h => (lt_no h (by omega)).elim, fun h => ?_⟩
    exact fun jk => k1 jk _ rfl
  · intro i o r hi hil ih k1 k2 jk
    refine loop_step cx0 _ RT [5, 0, 1, 4] ⟨fun h => ?_, fun h => (lt_yes h (by omega)).elim⟩
    refine ⟨⟨by omega, by omega⟩, ?_⟩
    refine ⟨o, ⟨nm_at hi, rfl⟩, ?_⟩
    refine ⟨fun h => ?_, fun h => ?_⟩
    · have h := eq_of_beq h
      exact fun jk => k2 jk _ (by subst h; simp)
    · have h1 : ∀ b, (o :: r).contains s = b → r.contains s = b := by
        intro b hb; rw [List.contains_cons] at hb
        have : (s == o) = false := by rw [← h]; exact BEq.comm
        rwa [this, Bool.false_or] at hb
      have h2 : ∀ b, r.contains s = b → (o :: r).contains s = b := by
        intro b hb; rw [List.contains_cons]
        have : (s == o) = false := by rw [← h]; exact BEq.comm
        rw [this, Bool.false_or]; exact hb
      intro jk
      rw [wrapS hil hk]
      exact ih (fun jk j h => k1 jk j (h2 _ h)) (fun jk j h => k2 jk j (h2 _ h)) jk

theorem in83 {l : List Nm} {s : Nm} {g : Nat} {cs : List TU} (hc : cs = nm l) (hk : l.length ≤ maxLen) : RT 66 [xl (g + 1) 1 l.length cs, xs s] [] = some (xb (l.contains s), []) := by
  subst hc
  refine fn_is (fn := Tryd.f66) rfl rfl rfl rfl ?_
  refine sem_in cx0 _ RT [5, 0, 1, 4] fun jk => ?_
  refine l83 (g := g) (s := s) hk l 0 rfl (by omega) (fun jk i h => ?_) (fun jk i h => ?_) jk
  · exact ⟨by rw [h]; rfl, rfl⟩
  · exact ⟨by rw [h]; rfl, rfl⟩

theorem fn_isE {g : Nat} {fn : Func} {a : List XU} {e e' : List (List CU)} {x : XU} (ho : cx0.orc g = none) (hf : Tryd.prog.funcs[g]? = some fn) (hb : fn.body = some (fn.body.getD .skip)) (hg : cx0.good g = true)
    (h : fnW cx0 g RT fn a e fun y f => x = y ∧ e' = f) : RT g a e = some (x, e') := by
  obtain ⟨y, f, h1, h2, h3⟩ := fn_ok ho hf hb hg h
  rw [RT, h1, h2, h3]

theorem xl_eq {g sz n n' : Nat} {cs cs' : List TU} (h1 : n = n') (h2 : cs = cs') : xl g sz n cs = xl g sz n' cs' := by rw [h1, h2]
theorem take_all {α : Type} {n : Nat} {l : List α} (h : l.length ≤ n) : (l.drop 0).take n = l := by rw [List.drop_zero, List.take_of_length_le h]
theorem nm_put {l m : List Nm} : ((([] ++ nm l).drop 0).take ((0 + l.length) * 1)) ++ nm m = nm (l ++ m) := by
  rw [List.nil_append, take_all (by rw [nm_len]; omega), nm_append]

theorem and91 {l : List Nm} {s : Nm} {g : Nat} {cs : List TU} (hc : cs = nm l) (hk : l.length ≤ 8388608) : RT 80 [xl (g + 1) 1 l.length cs, xs s] [] = some (xl 0 1 (l ++ [s]).length (nm (l ++ [s])), []) := by
  subst hc
  refine fn_is (fn := Tryd.f80) rfl rfl rfl rfl ?_
  refine ⟨⟨by simp only [maxLen]; omega, by show (0 + l.length) * 16 ≤ _; omega⟩, ?_⟩
  refine ⟨by show 0 + (0 + l.length) * 1 ≤ (nm l).length; rw [nm_len]; omega, ?_⟩
  refine ⟨⟨by simp only [maxLen]; omega, by show (_ + 1) * 16 ≤ _; omega⟩, ?_⟩
  have e := nm_put (l := l) (m := [s])
  refine ⟨?_, ?_⟩
  · refine Nat.le_trans ?_ (Nat.le_of_eq (congrArg List.length e.symm))
    rw [nm_len, List.length_append]; show 0 + (0 + l.length + 1) * 1 ≤ l.length + 1; omega
  refine ⟨xl_eq (by simp) ?_, rfl⟩
  refine Eq.trans ?_ (congrArg (fun x => (List.drop 0 x).take ((0 + l.length + 1) * 1)) e.symm)
  exact (take_all (by rw [nm_len, List.length_append]; show l.length + 1 ≤ _; omega)).symm

/-- What is bound in a kid. -/
def envS (op : Int) (s t : Nm) (i : Nat) : List Nm :=
  if op == 3 || (op == 5 && (i : Int) == 1) || (op == 6 && (i : Int) == 1) then [s] else if op == 6 then [s, t] else []

theorem fn_ex {g : Nat} {fn : Func} {a : List XU} {P : XU → Prop} (ho : cx0.orc g = none) (hf : Tryd.prog.funcs[g]? = some fn) (hb : fn.body = some (fn.body.getD .skip)) (hg : cx0.good g = true)
    (h : fnW cx0 g RT fn a [] fun y e => P y ∧ e = []) : ∃ y, P y ∧ RT g a [] = some (y, []) := by
  obtain ⟨y, e, h1, h2, h3⟩ := fn_ok ho hf hb hg h
  exact ⟨y, h2, by rw [RT, h1, h3]⟩

theorem env84 {op n : Int} {s t : Nm} {ks : List Co} {us : List TU} {i : Nat} {l : List Nm} {g : Nat} {cs : List TU} (h : Rd (.mk op n s t ks) us) (hc : cs = nm l) (hk : l.length ≤ 4194304) :
    ∃ y, (∃ g', (g' = 0 ∨ g' = g + 2) ∧ y = xl g' 1 (l ++ envS op s t i).length (nm (l ++ envS op s t i))) ∧ RT 67 [xc us, xi i, xl (g + 2) 1 l.length cs] [] = some (y, []) := by
  subst hc
  obtain ⟨g', cs, rfl, h⟩ := h
  refine fn_ex (fn := Tryd.f67) rfl rfl rfl rfl ?_
  have W : ∀ L : List Nm, 0 + L.length * 1 ≤ (nm L).length := fun L => by rw [nm_len]; omega
  refine ⟨fun h3 => ?_, fun h3 => ?_⟩
  · refine ⟨_, retN (and91 (g := g + 2) (nm_retag l) (by omega)), ?_⟩
    refine ⟨W _, ?_⟩
    exact ⟨⟨0, .inl rfl, by rw [← nm_whole (l ++ envS op s t i)]; simp only [envS, h3]; rfl⟩, rfl⟩
  refine ⟨fun h5 => ?_, fun h5 => ?_⟩
  · refine ⟨fun hi => ?_, fun hi => ?_⟩
    · refine ⟨_, retN (and91 (g := g + 2) (nm_retag l) (by omega)), ?_⟩
      refine ⟨W _, ?_⟩
      exact ⟨⟨0, .inl rfl, by rw [← nm_whole (l ++ envS op s t i)]; simp only [envS, h3, h5, hi]; rfl⟩, rfl⟩
    · have := eq_of_beq h5
      subst this
      refine ⟨fun h6 => by simp_all, fun h6 => ?_⟩
      refine ⟨fun h6' => by simp_all, fun h6' => ?_⟩
      exact ⟨⟨g + 2, .inr rfl, by simp only [envS, hi]; simp; rfl⟩, rfl⟩
  refine ⟨fun h6 => ?_, fun h6 => ?_⟩
  · refine ⟨fun hi => ?_, fun hi => ?_⟩
    · refine ⟨_, retN (and91 (g := g + 2) (nm_retag l) (by omega)), ?_⟩
      refine ⟨W _, ?_⟩
      exact ⟨⟨0, .inl rfl, by rw [← nm_whole (l ++ envS op s t i)]; simp only [envS, h3, h5, h6, hi]; rfl⟩, rfl⟩
    · refine ⟨fun _ => ?_, fun h6' => by simp_all⟩
      refine ⟨_, retN (and91 (g := g + 2) (nm_retag l) (by omega)), ?_⟩
      refine ⟨_, retN (and91 (g := 0) (nm_retag _) (by simp; omega)), ?_⟩
      refine ⟨W _, ?_⟩
      exact ⟨⟨0, .inl rfl, by rw [← nm_whole (l ++ envS op s t i)]; simp only [envS, h3, h5, h6, hi]; simp; rfl⟩, rfl⟩
  · refine ⟨fun h6' => by simp_all, fun h6' => ?_⟩
    exact ⟨⟨g + 2, .inr rfl, by simp only [envS, h3, h5, h6]; simp; rfl⟩, rfl⟩

theorem binds74 {op n : Int} {s t : Nm} {ks : List Co} {us : List TU} {i : Nat} (h : Rd (.mk op n s t ks) us) :
    RT 49 [xc us, xi i] [] = some (xl 0 1 (envS op s t i).length (nm (envS op s t i)), []) := by
  obtain ⟨g, cs, rfl, h⟩ := h
  refine fn_is (fn := Tryd.f49) rfl rfl rfl rfl ?_
  refine ⟨fun h3 => ?_, fun h3 => ?_⟩
  · refine ⟨Nat.le_refl _, ?_⟩
    exact ⟨by simp only [envS, h3, Bool.true_or, if_true]; rfl, rfl⟩
  refine ⟨fun h5 => ?_, fun h5 => ?_⟩
  · refine ⟨fun hi => ?_, fun hi => ?_⟩
    · refine ⟨Nat.le_refl _, ?_⟩
      exact ⟨by simp only [envS, h3, h5, hi]; rfl, rfl⟩
    · have := eq_of_beq h5
      subst this
      refine ⟨fun h6 => by simp_all, fun h6 => ?_⟩
      refine ⟨fun h6' => by simp_all, fun h6' => ?_⟩
      refine ⟨Nat.le_refl _, ?_⟩
      exact ⟨by simp only [envS, hi]; rfl, rfl⟩
  refine ⟨fun h6 => ?_, fun h6 => ?_⟩
  · refine ⟨fun hi => ?_, fun hi => ?_⟩
    · refine ⟨Nat.le_refl _, ?_⟩
      exact ⟨by simp only [envS, h3, h5, h6, hi]; rfl, rfl⟩
    · refine ⟨fun _ => ?_, fun h6' => by simp_all⟩
      refine ⟨Nat.le_refl _, ?_⟩
      exact ⟨by simp only [envS, h3, h5, h6, hi]; rfl, rfl⟩
  · refine ⟨fun h6' => by simp_all, fun h6' => ?_⟩
    refine ⟨Nat.le_refl _, ?_⟩
    exact ⟨by simp only [envS, h3, h5, h6]; rfl, rfl⟩
end Go.Proofs.YtlkjnlfddadlmaaDoor.V

namespace Go.Proofs.YtlkjnlfddadlmaaDoor.V
set_option maxRecDepth 100000

/-- The digits of a number, ahead of what is there. -/
def dgs : Nat → Nat → List UInt8 → List UInt8
  | 0, _, out => out
  | m + 1, k, out => if k = 0 then out else dgs m (k / 10) ((48 + k % 10).toUInt8 :: out)

def mtx (k : Int) : List UInt8 := if k ≤ 0 then [109, 48] else 109 :: dgs 20 k.toNat []

theorem dgs_len : ∀ (m k : Nat) (out : List UInt8), (dgs m k out).length ≤ out.length + m
  | 0, _, out => by simp [dgs]
  | m + 1, k, out => by
    simp only [dgs]
    split
    · omega
    · have := dgs_len m (k / 10) ((48 + k % 10).toUInt8 :: out)
      simp only [List.length_cons] at this
      omega

theorem dgs_step {m k : Nat} {out : List UInt8} (h : 0 < k) : dgs (m + 1) k out = dgs m (k / 10) ((48 + k % 10).toUInt8 :: out) := by
  simp only [dgs, if_neg (show ¬ k = 0 by omega)]

theorem wrap8 {n : Nat} (h : n < 256) : IntKind.wrap .u8 (n : Int) = n := by
  have e1 : IntKind.wrap .u8 (n : Int) = (n : Int) % 256 := by unfold IntKind.wrap; rfl
  omega

theorem l78 {K : Ex → StA → Prop} : ∀ (m k : Nat) (out : List UInt8), k < 10 ^ m → k < 9223372036854775808 → out.length + m ≤ 40 →
    (∀ jk, K (.exit 0) ⟨[(0, xi 0), (3, xs (dgs m k out)), (2, xs [])], jk, []⟩) →
    ∀ jk, sem cx0 50 RT (.loop (lp Tryd.f50 0)) ⟨[(0, xi k), (3, xs out), (2, xs [])], jk, []⟩ K
  | m, k, out, hk, h63, hl, k1, jk => by
    refine loop_step cx0 _ RT [0, 3, 2] ⟨fun h => ?_, fun h => ?_⟩
    · refine ⟨by decide, ?_⟩
      refine ⟨_, rfl, ?_⟩
      refine ⟨by simp only [List.length_cons, List.length_nil, maxLen]; omega, ?_⟩
      refine ⟨by decide, ?_⟩
      have h0 : 0 < k := by simp at h; omega
      cases m with
      | zero => simp at hk; omega
      | succ m =>
      intro jk
      rw [dgs_step h0] at k1
      have e1 : IntKind.wrap .i64 ((k : Int).tdiv 10) = ((k / 10 : Nat) : Int) := by
        rw [show (k : Int).tdiv 10 = ((k / 10 : Nat) : Int) by rw [Int.tdiv_eq_ediv_of_nonneg (by omega)]; omega]
        exact wrap64 (by omega) (by omega)
      have e2 : (IntKind.wrap .u8 (IntKind.wrap .i64 (48 + (k : Int).tmod 10))).toNat.toUInt8 = (48 + k % 10).toUInt8 := by
        rw [show (48 + (k : Int).tmod 10) = ((48 + k % 10 : Nat) : Int) by rw [Int.tmod_eq_emod_of_nonneg (by omega)]; omega, wrap64 (by omega) (by omega), wrap8 (by omega)]
        rfl
      have ih := l78 m (k / 10) ((48 + k % 10).toUInt8 :: out) (by rw [Nat.pow_succ] at hk; omega) (by omega) (by simp only [List.length_cons]; omega) k1 jk
      rw [← e1, ← e2] at ih
      exact ih
    · have h : k = 0 := by simp at h; omega
      subst h
      intro jk
      have := k1 jk
      cases m <;> exact this

theorem mt78 {k : Int} (h63 : k < 9223372036854775808) : RT 50 [xi k] [] = some (xs (mtx k), []) := by
  refine fn_is (fn := Tryd.f50) rfl rfl rfl rfl ?_
  refine ⟨fun h => ?_, fun h => ?_⟩
  · have h := of_decide_eq_true h
    exact ⟨by simp only [mtx, if_pos h]; rfl, rfl⟩
  · have h := of_decide_eq_false h
    refine sem_in cx0 _ RT [0, 3, 2] fun jk => ?_
    rw [show k = ((k.toNat : Nat) : Int) by omega]
    refine l78 20 k.toNat [] (by have : (10 : Nat) ^ 20 = 100000000000000000000 := rfl; omega) (by omega) (by simp) (fun jk => ?_) jk
    have := dgs_len 20 k.toNat []
    refine ⟨by simp only [List.length_cons, List.length_nil] at this ⊢; simp only [maxLen]; omega, ?_⟩
    refine ⟨?_, rfl⟩
    simp only [mtx, if_neg (show ¬ ((k.toNat : Nat) : Int) ≤ 0 by omega), Int.toNat_natCast]
    rfl

theorem mtx_len (k : Int) : (mtx k).length ≤ 21 := by
  unfold mtx
  split
  · simp
  · have := dgs_len 20 k.toNat []
    simp only [List.length_cons, List.length_nil] at this ⊢; omega

/-! ### names, marked -/
def mkN : Nat → Int → List Nm
  | 0, _ => []
  | n + 1, k => mtx k :: mkN n (k + 1)

theorem mkN_len : ∀ (n : Nat) (k : Int), (mkN n k).length = n
  | 0, _ => rfl
  | n + 1, k => by simp only [mkN, List.length_cons, mkN_len n]

theorem mkN_add : ∀ (m n : Nat) (k : Int), mkN (m + n) k = mkN m k ++ mkN n (k + m)
  | 0, n, k => by simp [mkN]
  | m + 1, n, k => by
    rw [show m + 1 + n = (m + n) + 1 by omega]
    simp only [mkN, List.cons_append, mkN_add m n (k + 1)]
    rw [show k + 1 + (m : Int) = k + ((m + 1 : Nat) : Int) by omega]

theorem mkN_at {n i : Nat} {k : Int} (h : i < n) : (mkN n k)[i]? = some (mtx (k + i)) := by
  rw [show n = i + ((n - i - 1) + 1) by omega, mkN_add, List.getElem?_append_right (by rw [mkN_len]; omega), mkN_len, Nat.sub_self]
  rfl

theorem mkN_put {n i : Nat} {k : Int} {l : List Nm} (h : i < n) (hl : l.length = n) : ((nm (mkN i k ++ l.drop i)).take (i * 1) ++ nm [mtx (k + i)]) ++ (nm (mkN i k ++ l.drop i)).drop (i * 1 + 1) = nm (mkN (i + 1) k ++ l.drop (i + 1)) := by
  have h1 : (nm (mkN i k)).length = i := by rw [nm_len, mkN_len]
  obtain ⟨a, ha⟩ : ∃ a, l.drop i = a :: l.drop (i + 1) := ⟨l[i]'(by omega), by rw [List.drop_eq_getElem_cons (by omega)]⟩
  rw [ha, mkN_add i 1 k]
  simp only [nm_append, nm, mkN, List.append_assoc]
  rw [List.take_append_of_le_length (by omega), List.take_of_length_le (by omega), show i * 1 + 1 = (nm (mkN i k)).length + 1 by omega, List.drop_length_add_append]
  rfl

end Go.Proofs.YtlkjnlfddadlmaaDoor.V

namespace Go.Proofs.YtlkjnlfddadlmaaDoor.V
set_option maxRecDepth 100000

def nums : List Int → List TU
  | [] => []
  | n :: l => .int .i64 n :: nums l

theorem nums_retag : ∀ l, retags (nums l) = nums l
  | [] => rfl
  | s :: l => by simp only [nums, retags, retag, nums_retag l]
theorem nums_down : ∀ l, downs (nums l) = some (nums l)
  | [] => rfl
  | s :: l => by simp only [nums, downs, down, nums_down l, Option.bind_some, Option.map_some]
theorem nums_len : ∀ l, (nums l).length = l.length
  | [] => rfl
  | s :: l => by simp only [nums, List.length_cons, nums_len l]
theorem nums_append : ∀ l m, nums (l ++ m) = nums l ++ nums m
  | [], m => rfl
  | s :: l, m => by simp only [List.cons_append, nums, nums_append l m]
theorem nums_whole (l : List Int) : ((nums l).drop 0).take (l.length * 1) = nums l := by rw [List.drop_zero, Nat.mul_one, ← nums_len, List.take_length]
theorem nums_at : ∀ {l : List Int} {i : Nat} {s : Int}, l[i]? = some s → ((nums l).drop (i * 1)).take 1 = [.int .i64 s]
  | [], i, s, h => by simp at h
  | x :: l, 0, s, h => by
    simp only [List.getElem?_cons_zero, Option.some.injEq] at h
    subst h; rfl
  | x :: l, i + 1, s, h => by
    simp only [List.getElem?_cons_succ] at h
    have := nums_at h
    rw [show (i + 1) * 1 = i * 1 + 1 by omega]; exact this

theorem retNs {g : Nat} {xs : List XU} {n : Nat} {l : List Int} (h : RT g xs [] = some (xl 0 1 n (nums l), [])) : Ret RT g xs (xl 0 1 n (nums l)) := ⟨_, h, by simp only [downX, downC, down, nums_down, Option.map_some]; rfl⟩

def mkI : Nat → Int → List Int
  | 0, _ => []
  | n + 1, k => k :: mkI n (k + 1)

theorem mkI_len : ∀ (n : Nat) (k : Int), (mkI n k).length = n
  | 0, _ => rfl
  | n + 1, k => by simp only [mkI, List.length_cons, mkI_len n]

theorem mkI_add : ∀ (m n : Nat) (k : Int), mkI (m + n) k = mkI m k ++ mkI n (k + m)
  | 0, n, k => by simp [mkI]
  | m + 1, n, k => by
    rw [show m + 1 + n = (m + n) + 1 by omega]
    simp only [mkI, List.cons_append, mkI_add m n (k + 1)]
    rw [show k + 1 + (m : Int) = k + ((m + 1 : Nat) : Int) by omega]

theorem mkI_at {n i : Nat} {k : Int} (h : i < n) : (mkI n k)[i]? = some (k + i) := by
  rw [show n = i + ((n - i - 1) + 1) by omega, mkI_add, List.getElem?_append_right (by rw [mkI_len]; omega), mkI_len, Nat.sub_self]
  rfl

theorem mkI_put {n i : Nat} {k : Int} {l : List Int} (h : i < n) (hl : l.length = n) : ((nums (mkI i k ++ l.drop i)).take (i * 1) ++ nums [k + i]) ++ (nums (mkI i k ++ l.drop i)).drop (i * 1 + 1) = nums (mkI (i + 1) k ++ l.drop (i + 1)) := by
  have h1 : (nums (mkI i k)).length = i := by rw [nums_len, mkI_len]
  obtain ⟨a, ha⟩ : ∃ a, l.drop i = a :: l.drop (i + 1) := ⟨l[i]'(by omega), by rw [List.drop_eq_getElem_cons (by omega)]⟩
  rw [ha, mkI_add i 1 k]
  simp only [nums_append, nums, mkI, List.append_assoc]
  rw [List.take_append_of_le_length (by omega), List.take_of_length_le (by omega), show i * 1 + 1 = (nums (mkI i k)).length + 1 by omega, List.drop_length_add_append]
  rfl

theorem l36 {l : List Int} {g h : Nat} {K : Ex → StA → Prop} (hk : l.length ≤ maxLen) : ∀ (r : List Int) (i : Nat), l.drop i = r → i ≤ l.length →
    (∀ jk i, K (.exit 0) ⟨[(5, xi i), (0, xl (g + 1) 1 l.length (nums l)), (1, xl (h + 1) 1 l.length (nums l)), (4, xb false)], jk, []⟩) →
    ∀ jk, sem cx0 9 RT (.loop (lp Tryd.f9 0)) ⟨[(5, xi i), (0, xl (g + 1) 1 l.length (nums l)), (1, xl (h + 1) 1 l.length (nums l)), (4, xb false)], jk, []⟩ K := by
  refine drop_ind ?_ ?_
  · intro k1 jk
    refine loop_step cx0 _ RT [5, 0, 1, 4] ⟨fun h => (lt_no h (by omega)).elim, fun h => ?_⟩
    exact fun jk => k1 jk _
  · intro i o r hi hil ih k1 jk
    refine loop_step cx0 _ RT [5, 0, 1, 4] ⟨fun h => ?_, fun h => (lt_yes h (by omega)).elim⟩
    refine ⟨⟨by omega, by omega⟩, ?_⟩
    refine ⟨o, ⟨nums_at hi, rfl⟩, ?_⟩
    refine ⟨⟨by omega, by omega⟩, ?_⟩
    refine ⟨o, ⟨nums_at hi, rfl⟩, ?_⟩
    refine ⟨(fun h => by simp at h), fun h => ?_⟩
    intro jk
    rw [wrapS hil hk]
    exact ih k1 jk

theorem eq36 {l : List Int} {g h : Nat} {cs ds : List TU} (hk : l.length ≤ maxLen) (hc : cs = nums l) (hd : ds = nums l) : RT 9 [xl (g + 1) 1 l.length cs, xl (h + 1) 1 l.length ds] [] = some (xb true, []) := by
  subst hc hd
  refine fn_is (fn := Tryd.f9) rfl rfl rfl rfl ?_
  refine ⟨fun h => by simp at h, fun _ => ?_⟩
  refine sem_in cx0 _ RT [5, 0, 1, 4] fun jk => ?_
  refine l36 hk l 0 rfl (by omega) (fun jk i => ?_) jk
  exact ⟨rfl, rfl⟩
end Go.Proofs.YtlkjnlfddadlmaaDoor.V

namespace Go.Proofs.YtlkjnlfddadlmaaDoor.V
set_option maxRecDepth 100000

theorem dgs_dec : ∀ (m k : Nat) (out : List UInt8), 0 < k → k < 10 ^ m → dgs m k out = Lib.decDigits k ++ out
  | 0, k, out, h, hk => by simp at hk; omega
  | m + 1, k, out, h, hk => by
    rw [dgs_step h, Lib.decDigits]
    split
    · next h10 =>
      rw [show k / 10 = 0 by omega, show k % 10 = k by omega]
      cases m <;> simp [dgs, Nat.toUInt8]
    · next h10 =>
      rw [dgs_dec m (k / 10) _ (by omega) (by rw [Nat.pow_succ] at hk; omega)]
      simp [Nat.toUInt8]

theorem td10 (n : Int) : (0 ≤ n ∧ n.tdiv 10 = n / 10 ∧ n.tmod 10 = n % 10) ∨ (n < 0 ∧ n.tdiv 10 = -((-n) / 10) ∧ n.tmod 10 = -((-n) % 10)) := by
  rcases (by omega : n < 0 ∨ 0 ≤ n) with h | h
  · right
    obtain ⟨k, rfl⟩ : ∃ k : Int, n = -k := ⟨-n, by omega⟩
    refine ⟨h, ?_, ?_⟩
    · rw [Int.neg_tdiv, Int.tdiv_eq_ediv_of_nonneg (by omega), Int.neg_neg]
    · rw [Int.neg_tmod, Int.tmod_eq_emod_of_nonneg (by omega), Int.neg_neg]
  · exact .inl ⟨h, Int.tdiv_eq_ediv_of_nonneg h, Int.tmod_eq_emod_of_nonneg h⟩

theorem lDg {b : Bool} {K : Ex → StA → Prop} : ∀ (m : Nat) (n : Int) (out : List UInt8), n.natAbs < 10 ^ m → -9223372036854775808 ≤ n → n ≤ 9223372036854775807 → out.length + m ≤ 40 →
    (∀ jk, K (.exit 0) ⟨[(0, xi 0), (4, xs (dgs m n.natAbs out)), (3, xb b), (2, xs [])], jk, []⟩) →
    ∀ jk, sem cx0 19 RT (.loop (lp Tryd.f19 0)) ⟨[(0, xi n), (4, xs out), (3, xb b), (2, xs [])], jk, []⟩ K
  | m, n, out, hk, h0, h1, hl, k1, jk => by
    refine loop_step cx0 _ RT [0, 4, 3, 2] ⟨fun h => ?_, fun h => ?_⟩
    · refine ⟨by decide, ?_⟩
      have hm : ∃ m', m = m' + 1 := by
        cases m with
        | zero => simp at hk h; omega
        | succ m => exact ⟨m, rfl⟩
      obtain ⟨m, rfl⟩ := hm
      have hn0 : 0 < n.natAbs := by simp at h; omega
      have ht := td10 n
      have e1 : IntKind.wrap .i64 (n.tdiv 10) = n.tdiv 10 := wrap64 (by omega) (by omega)
      have e3 : (n.tdiv 10).natAbs = n.natAbs / 10 := by omega
      have hk' : (n.tdiv 10).natAbs < 10 ^ m := by rw [e3]; rw [Nat.pow_succ] at hk; omega
      rw [dgs_step hn0, ← e3] at k1
      have ih := fun jk => lDg m (n.tdiv 10) ((48 + n.natAbs % 10).toUInt8 :: out) hk' (by omega) (by omega) (by simp only [List.length_cons]; omega) k1 jk
      refine ⟨fun hd => ?_, fun hd => ?_⟩
      · have hd := of_decide_eq_true hd
        refine ⟨_, rfl, ?_⟩
        refine ⟨by simp only [List.length_cons, List.length_nil, maxLen]; omega, ?_⟩
        refine ⟨by decide, ?_⟩
        intro jk
        have e2 : (IntKind.wrap .u8 (IntKind.wrap .i64 (48 + IntKind.wrap .i64 (0 - n.tmod 10)))).toNat.toUInt8 = (48 + n.natAbs % 10).toUInt8 := by
          rw [wrap64 (n := 0 - n.tmod 10) (by omega) (by omega), show (48 + (0 - n.tmod 10)) = ((48 + n.natAbs % 10 : Nat) : Int) by omega, wrap64 (by omega) (by omega), wrap8 (by omega)]
          rfl
        have ih := ih jk
        rw [← e2, ← e1] at ih
        exact ih
      · have hd := of_decide_eq_false hd
        refine ⟨_, rfl, ?_⟩
        refine ⟨by simp only [List.length_cons, List.length_nil, maxLen]; omega, ?_⟩
        refine ⟨by decide, ?_⟩
        intro jk
        have e2 : (IntKind.wrap .u8 (IntKind.wrap .i64 (48 + n.tmod 10))).toNat.toUInt8 = (48 + n.natAbs % 10).toUInt8 := by
          rw [show (48 + n.tmod 10) = ((48 + n.natAbs % 10 : Nat) : Int) by omega, wrap64 (by omega) (by omega), wrap8 (by omega)]
          rfl
        have ih := ih jk
        rw [← e2, ← e1] at ih
        exact ih
    · have h : n = 0 := by simp at h; omega
      subst h
      intro jk
      have := k1 jk
      cases m <;> exact this

theorem itoa_len (n : Int) (h0 : -9223372036854775808 ≤ n) (h1 : n ≤ 9223372036854775807) : (Lib.itoa n).length ≤ 21 := by
  have key : ∀ k : Nat, 0 < k → k < 10 ^ 20 → (Lib.decDigits k).length ≤ 20 := fun k h hk => by
    have := dgs_len 20 k []
    rw [dgs_dec 20 k [] h hk, List.append_nil] at this
    simpa using this
  unfold Lib.itoa
  have hp : (10 : Nat) ^ 20 = 100000000000000000000 := rfl
  split
  · have := key n.natAbs (by omega) (by omega)
    simp only [List.length_cons]; omega
  · rcases Nat.eq_zero_or_pos n.toNat with h | h
    · rw [h, Lib.decDigits]; simp
    · have := key n.toNat h (by omega); omega

/-- The reference's digits. -/
theorem dig_s {n : Int} (h0 : -9223372036854775808 ≤ n) (h1 : n ≤ 9223372036854775807) : RT 19 [xi n] [] = some (xs (Lib.itoa n), []) := by
  refine fn_is (fn := Tryd.f19) rfl rfl rfl rfl ?_
  refine ⟨fun h => ?_, fun h => ?_⟩
  · have h : n = 0 := by simpa using h
    subst h
    exact ⟨by rw [Lib.itoa, if_neg (by decide), Lib.decDigits, dif_pos (by decide)]; rfl, rfl⟩
  · have h : n ≠ 0 := by simpa using h
    refine sem_in cx0 _ RT [0, 4, 3, 2] fun jk => ?_
    refine lDg 20 n [] (by have : (10 : Nat) ^ 20 = 100000000000000000000 := rfl; omega) h0 h1 (by simp) (fun jk => ?_) jk
    have hp : (10 : Nat) ^ 20 = 100000000000000000000 := rfl
    have e := dgs_dec 20 n.natAbs [] (by omega) (by omega)
    have el := dgs_len 20 n.natAbs []
    refine ⟨fun hb => ?_, fun hb => ?_⟩
    · have hb := of_decide_eq_true hb
      refine ⟨by simp only [List.length_cons, List.length_nil] at el ⊢; simp only [maxLen]; omega, ?_⟩
      refine ⟨?_, rfl⟩
      rw [Lib.itoa, if_pos hb, e, List.append_nil]
      rfl
    · have hb := of_decide_eq_false hb
      refine ⟨?_, rfl⟩
      rw [Lib.itoa, if_neg hb, e, List.append_nil, show n.natAbs = n.toNat by omega]
      rfl

/-- The program's. -/
theorem dig_i {n : Int} (h0 : -9223372036854775808 ≤ n) (h1 : n ≤ 9223372036854775807) : RT 20 [xi n] [] = some (xs (Lib.itoa n), []) := by
  refine fn_is (fn := Tryd.f20) rfl rfl rfl rfl ?_
  have e : RT 35 [xi n] [] = some (xs (Lib.itoa n), []) := RR_orc (h := orcItoa) rfl (by simp only [orcItoa, orcIS]; rw [if_pos ⟨h0, h1⟩])
  refine ⟨_, ⟨_, e, rfl⟩, ?_⟩
  exact ⟨rfl, rfl⟩
end Go.Proofs.YtlkjnlfddadlmaaDoor.V

namespace Go.Proofs.YtlkjnlfddadlmaaDoor.V
set_option maxRecDepth 100000

def zer : Nat → List Int
  | 0 => []
  | n + 1 => 0 :: zer n

theorem zer_len : ∀ n, (zer n).length = n
  | 0 => rfl
  | n + 1 => by simp only [zer, List.length_cons, zer_len n]

/-- Counts behind one another. -/
def jn (l : List Int) : List UInt8 := Lib.join (l.map Lib.itoa) [32]

theorem jn_snoc (l : List Int) (n : Int) : jn (l ++ [n]) = (if 0 < l.length then jn l ++ [32] else jn l) ++ Lib.itoa n := by
  unfold jn
  cases l with
  | nil => simp [Lib.join_one, Lib.join_nil]
  | cons x r =>
    rw [if_pos (by simp)]
    simp only [List.cons_append, List.map_cons, List.map_append, List.map_nil, Lib.join_cons, Lib.joinTail, List.flatten_append, List.append_assoc]
    simp

def Ok64 (l : List Int) : Prop := ∀ n ∈ l, -9223372036854775808 ≤ n ∧ n ≤ 9223372036854775807

theorem jn_len : ∀ {l : List Int}, Ok64 l → (jn l).length ≤ 22 * l.length := by
  have key : ∀ (m : Nat) (l : List Int), l.length = m → Ok64 l → (jn l).length ≤ 22 * m := by
    intro m
    induction m with
    | zero => intro l hl _; obtain rfl := List.eq_nil_of_length_eq_zero hl; simp [jn, Lib.join_nil]
    | succ m ih =>
      intro l hl hk
      have hne : l ≠ [] := fun e => by simp [e] at hl
      have e := List.dropLast_concat_getLast hne
      have h1 := ih l.dropLast (by simp [hl]) (fun n hn => hk n (List.dropLast_subset l hn))
      have h2 := hk _ (List.getLast_mem hne)
      have h3 := itoa_len _ h2.1 h2.2
      rw [← e, jn_snoc]
      split <;> simp only [List.length_append, List.length_cons, List.length_nil] <;> omega
  intro l hk
  exact key _ _ rfl hk

theorem jn_take {l : List Int} {i : Nat} {n : Int} (h : l[i]? = some n) : jn (l.take (i + 1)) = (if 0 < i then jn (l.take i) ++ [32] else jn (l.take i)) ++ Lib.itoa n := by
  have hi : i < l.length := by
    rcases Nat.lt_or_ge i l.length with h' | h'
    · exact h'
    · rw [List.getElem?_eq_none h'] at h; cases h
  rw [List.take_add_one, h]
  have := jn_snoc (l.take i) n
  rw [List.length_take, Nat.min_eq_left (by omega)] at this
  exact this

theorem retX {g : Nat} {a : List XU} {s : List UInt8} (h : RT g a [] = some (xs s, [])) : Ret RT g a (xs s) := ⟨_, h, rfl⟩

theorem lCs {l : List Int} {g : Nat} {K : Ex → StA → Prop} (hk : l.length ≤ 1048576) (ho : Ok64 l) : ∀ (r : List Int) (i : Nat), l.drop i = r → i ≤ l.length →
    (∀ jk i, K (.exit 0) ⟨[(4, xi i), (3, xs (jn l)), (0, xl (g + 1) 1 l.length (nums l)), (2, xs [])], jk, []⟩) →
    ∀ jk, sem cx0 6 RT (.loop (lp Tryd.f6 0)) ⟨[(4, xi i), (3, xs (jn (l.take i))), (0, xl (g + 1) 1 l.length (nums l)), (2, xs [])], jk, []⟩ K := by
  refine drop_ind ?_ ?_
  · intro k1 jk
    rw [List.take_length]
    refine loop_step cx0 _ RT [4, 3, 0, 2] ⟨fun h => (lt_no h (by omega)).elim, fun h => ?_⟩
    exact fun jk => k1 jk _
  · intro i o r hi hil ih k1 jk
    have hm := List.mem_of_getElem? hi
    have hb := ho o hm
    have hl1 := jn_len (l := l.take i) (fun n hn => ho n (List.mem_of_mem_take hn))
    have hl2 := itoa_len o hb.1 hb.2
    rw [List.length_take, Nat.min_eq_left (by omega)] at hl1
    rw [jn_take hi] at ih
    refine loop_step cx0 _ RT [4, 3, 0, 2] ⟨fun h => ?_, fun h => (lt_yes h (by omega)).elim⟩
    refine ⟨fun hp => ?_, fun hp => ?_⟩
    · have hp : 0 < i := by have := of_decide_eq_true hp; omega
      rw [if_pos hp] at ih
      refine ⟨by simp only [List.length_cons, List.length_nil, maxLen]; omega, ?_⟩
      refine ⟨⟨by omega, by omega⟩, ?_⟩
      refine ⟨o, ⟨nums_at hi, rfl⟩, ?_⟩
      refine ⟨_, retX (dig_s hb.1 hb.2), ?_⟩
      refine ⟨by simp only [List.length_append, List.length_cons, List.length_nil, maxLen]; omega, ?_⟩
      intro jk
      rw [wrapS hil (by simp only [maxLen]; omega)]
      exact ih k1 jk
    · have hp : ¬ 0 < i := by have := of_decide_eq_false hp; omega
      rw [if_neg hp] at ih
      refine ⟨⟨by omega, by omega⟩, ?_⟩
      refine ⟨o, ⟨nums_at hi, rfl⟩, ?_⟩
      refine ⟨_, retX (dig_s hb.1 hb.2), ?_⟩
      refine ⟨by simp only [maxLen]; omega, ?_⟩
      intro jk
      rw [wrapS hil (by simp only [maxLen]; omega)]
      exact ih k1 jk

theorem lCi {l : List Int} {g : Nat} {K : Ex → StA → Prop} (hk : l.length ≤ 1048576) (ho : Ok64 l) : ∀ (r : List Int) (i : Nat), l.drop i = r → i ≤ l.length →
    (∀ jk i, K (.exit 0) ⟨[(8, xi i), (7, xi l.length), (6, xl (g + 1) 1 l.length (nums l)), (3, xl 0 1 l.length (nm (l.map Lib.itoa))), (2, xs [])], jk, []⟩) →
    ∀ jk, sem cx0 8 RT (.loop (lp Tryd.f8 0)) ⟨[(8, xi i), (7, xi l.length), (6, xl (g + 1) 1 l.length (nums l)), (3, xl 0 1 i (nm ((l.take i).map Lib.itoa))), (2, xs [])], jk, []⟩ K := by
  refine drop_ind ?_ ?_
  · intro k1 jk
    rw [List.take_length]
    refine loop_step cx0 _ RT [8, 7, 6, 3, 2] ⟨fun h => (lt_no h (by omega)).elim, fun h => ?_⟩
    exact fun jk => k1 jk _
  · intro i o r hi hil ih k1 jk
    have hm := List.mem_of_getElem? hi
    have hb := ho o hm
    refine loop_step cx0 _ RT [8, 7, 6, 3, 2] ⟨fun h => ?_, fun h => (lt_yes h (by omega)).elim⟩
    refine ⟨⟨by omega, by omega⟩, ?_⟩
    refine ⟨o, ⟨nums_at hi, rfl⟩, ?_⟩
    refine ⟨_, retX (dig_i hb.1 hb.2), ?_⟩
    have hq : (((nm ((l.take i).map Lib.itoa)).drop 0).take (i * 1)) ++ [.str (Lib.itoa o)] = nm ((l.take (i + 1)).map Lib.itoa) := by
      have e : (nm ((l.take i).map Lib.itoa)).length = i := by rw [nm_len, List.length_map, List.length_take]; omega
      rw [List.drop_zero, Nat.mul_one, List.take_of_length_le (by omega), List.take_add_one, hi, List.map_append, nm_append]
      rfl
    refine ⟨by rw [nm_len, List.length_map, List.length_take]; omega, ?_⟩
    refine ⟨⟨by simp only [maxLen]; omega, by show (i + 1) * 16 ≤ _; omega⟩, ?_⟩
    intro jk
    rw [wrapS hil (by simp only [maxLen]; omega)]
    have ih := ih k1 jk
    rw [← hq] at ih
    exact ih

/-- The reference's text. -/
theorem ct_s {l : List Int} {g : Nat} {cs : List TU} (hk : l.length ≤ 1048576) (ho : Ok64 l) (hc : cs = nums l) : RT 6 [xl (g + 1) 1 l.length cs] [] = some (xs (jn l), []) := by
  subst hc
  refine fn_is (fn := Tryd.f6) rfl rfl rfl rfl ?_
  refine sem_in cx0 _ RT [4, 3, 0, 2] fun jk => ?_
  refine lCs hk ho l 0 rfl (by omega) (fun jk i => ?_) jk
  exact ⟨rfl, rfl⟩

/-- The program's. -/
theorem ct_i {l : List Int} {g : Nat} {cs : List TU} (hk : l.length ≤ 1048576) (ho : Ok64 l) (hc : cs = nums l) : RT 8 [xl (g + 1) 1 l.length cs] [] = some (xs (jn l), []) := by
  subst hc
  have hj := jn_len ho
  have e : ∀ l : List Nm, strsOf (nm l) = some l := by
    intro l
    induction l with
    | nil => rfl
    | cons s l ih => simp only [nm, strsOf, strOf, ih]
  have e2 : RT 21 [xl 1 1 l.length (nm (l.map Lib.itoa)), xs [32]] [] = some (xs (jn l), []) := RR_orc (h := orcJoin) rfl (by
    simp only [orcJoin, xl, xs]
    rw [if_neg (by rw [nm_len, List.length_map]; omega), e]
    simp only
    rw [if_pos (by show (jn l).length ≤ _; omega)]
    rfl)
  refine fn_is (fn := Tryd.f8) rfl rfl rfl rfl ?_
  refine sem_in cx0 _ RT [8, 7, 6, 3, 2] fun jk => ?_
  refine lCi (g := g) hk ho l 0 rfl (by omega) (fun jk i => ?_) jk
  refine ⟨by rw [nm_len, List.length_map]; omega, ?_⟩
  have hw : retags (((nm (l.map Lib.itoa)).drop 0).take (l.length * 1)) = nm (l.map Lib.itoa) := by rw [take_all (by rw [nm_len, List.length_map]; omega), nm_retag]
  rw [← hw] at e2
  refine ⟨_, retX e2, ?_⟩
  exact ⟨rfl, rfl⟩

theorem repl_nums : ∀ n : Nat, repl n [.int .i64 0] = nums (List.replicate n 0)
  | 0 => rfl
  | n + 1 => by rw [repl_succ, repl_nums n, List.replicate_succ]; rfl

theorem nums_set : ∀ (D : List Int) (k : Nat) (v : Int), k < D.length → (nums D).take k ++ [.int .i64 v] ++ (nums D).drop (k + 1) = nums (D.set k v)
  | [], k, v, h => by simp at h
  | d :: D, 0, v, h => rfl
  | d :: D, k + 1, v, h => by
    have := nums_set D k v (by simpa using h)
    simp only [nums, List.take_succ_cons, List.drop_succ_cons, List.set_cons_succ, List.cons_append]
    rw [← this]

theorem nums_put {D : List Int} {k : Nat} {v : Int} (h : k < D.length) : (nums D).take (0 + (k : Int).toNat * 1) ++ [.int .i64 v] ++ (nums D).drop (0 + (k : Int).toNat * 1 + ([.int .i64 v] : List TU).length) = nums (D.set k v) := by
  rw [Nat.zero_add, Int.toNat_natCast, Nat.mul_one]; exact nums_set D k v h

theorem fillL {l : List Int} {i : Nat} {o : Int} (h : l[i]? = some o) : (l.take i ++ List.replicate (l.length - i) 0).set i o = l.take (i + 1) ++ List.replicate (l.length - (i + 1)) 0 := by
  have hi : i < l.length := by
    rcases Nat.lt_or_ge i l.length with h' | h'
    · exact h'
    · rw [List.getElem?_eq_none h'] at h; cases h
  rw [show l.length - i = (l.length - (i + 1)) + 1 by omega, List.replicate_succ, List.set_append_right _ _ (by rw [List.length_take]; omega), List.length_take, Nat.min_eq_left (by omega), Nat.sub_self, List.set_cons_zero, List.take_add_one, h]
  simp

theorem lTo {l : List Int} {g : Nat} {K : Ex → StA → Prop} (hk : l.length ≤ 1048576) : ∀ (r : List Int) (i : Nat), l.drop i = r → i ≤ l.length →
    (∀ jk i, K (.exit 0) ⟨[(4, xi i), (3, xl 0 1 l.length (nums l)), (0, xl (g + 1) 1 l.length (nums l)), (2, xl 0 1 0 [])], jk, []⟩) →
    ∀ jk, sem cx0 7 RT (.loop (lp Tryd.f7 0)) ⟨[(4, xi i), (3, xl 0 1 l.length (nums (l.take i ++ List.replicate (l.length - i) 0))), (0, xl (g + 1) 1 l.length (nums l)), (2, xl 0 1 0 [])], jk, []⟩ K := by
  refine drop_ind ?_ ?_
  · intro k1 jk
    rw [List.take_length, Nat.sub_self, List.replicate_zero, List.append_nil]
    refine loop_step cx0 _ RT [4, 3, 0, 2] ⟨fun h => (lt_no h (by omega)).elim, fun h => ?_⟩
    exact fun jk => k1 jk _
  · intro i o r hi hil ih k1 jk
    refine loop_step cx0 _ RT [4, 3, 0, 2] ⟨fun h => ?_, fun h => (lt_yes h (by omega)).elim⟩
    refine ⟨⟨by omega, by omega⟩, ?_⟩
    refine ⟨o, ⟨nums_at hi, rfl⟩, ?_⟩
    refine ⟨⟨by omega, by omega⟩, ?_⟩
    refine ⟨by rw [nums_len]; simp only [List.length_append, List.length_replicate, List.length_take]; show 0 + i * 1 + 1 ≤ _; rw [Nat.min_eq_left (by omega)]; omega, ?_⟩
    have ih := ih k1
    rw [← fillL hi] at ih
    rw [nums_put (by simp only [List.length_append, List.length_replicate, List.length_take]; rw [Nat.min_eq_left (by omega)]; omega)]
    intro jk jk
    rw [wrapS hil (by simp only [maxLen]; omega)]
    exact ih jk

theorem to_n {l : List Int} {g : Nat} {cs : List TU} (hk : l.length ≤ 1048576) (hc : cs = nums l) : RT 7 [xl (g + 1) 1 l.length cs] [] = some (xl 0 1 l.length (nums l), []) := by
  subst hc
  refine fn_is (fn := Tryd.f7) rfl rfl rfl rfl ?_
  refine ⟨⟨by omega, by omega, ?_, by simp only [maxLen]; omega⟩, ?_⟩
  · show (l.length : Int) * (8 : Nat) ≤ 140737488355328
    omega
  refine sem_in cx0 _ RT [4, 3, 0, 2] fun jk => ?_
  have hl := fun K k1 jk => lTo (g := g) (l := l) (K := K) hk l 0 rfl (by omega) k1 jk
  rw [Nat.sub_zero, List.take_zero, List.nil_append, ← repl_nums] at hl
  refine hl _ (fun jk i => ?_) jk
  refine ⟨by rw [nums_len]; omega, ?_⟩
  exact ⟨xl_eq rfl (nums_whole _).symm, rfl⟩

theorem lawCountText {l : List Int} {cs : List TU} (ho : Ok64 l) (hc : cs = nums l) : RT 3 [xl 1 1 l.length cs] [] = some (xb true, []) := by
  subst hc
  refine fn_is (fn := Tryd.f3) rfl rfl rfl rfl ?_
  refine ⟨fun h => ⟨rfl, rfl⟩, fun h => ?_⟩
  have h : l.length ≤ 1048576 := by have := of_decide_eq_false h; omega
  have hj := jn_len ho
  have W : 0 + l.length * 1 ≤ (nums l).length := by rw [nums_len]; omega
  refine ⟨_, retNs (to_n (g := 1) h (nums_retag l)), ?_⟩
  refine ⟨_, retX (ct_s (g := 0) h ho (nums_retag l)), ?_⟩
  refine ⟨_, retNs (to_n (g := 1) h (nums_retag l)), ?_⟩
  refine ⟨W, ?_⟩
  have hw : retags (((nums l).drop 0).take (l.length * 1)) = nums l := by rw [nums_whole, nums_retag]
  refine ⟨_, retX (ct_i (g := 0) h ho hw), ?_⟩
  refine ⟨fun h2 => by simp at h2, fun _ => ?_⟩
  refine ⟨_, retNs (to_n (g := 1) h (nums_retag l)), ?_⟩
  refine ⟨W, ?_⟩
  refine ⟨_, retB (eq36 (g := 0) (h := 0) (by simp only [maxLen]; omega) hw (nums_retag l)), ?_⟩
  refine ⟨fun h2 => by simp at h2, fun _ => ?_⟩
  exact ⟨rfl, rfl⟩

theorem sh_ints {k : Nat} {us : List TU} (h : Sh Tryd.prog k 22 us) : ∃ l : List Int, us = [.sl () 1 1 l.length (nums l)] ∧ Ok64 l := by
  cases k with
  | zero => exact h.elim
  | succ k =>
    have hu : Tryd.prog.underlying 22 = some (.slice 3) := by kernel_rfl
    simp only [Sh, hu] at h
    obtain ⟨cs, rfl, l1, l2, l3⟩ := h
    have key : ∀ cs : List (List TU), (∀ c ∈ cs, Sh Tryd.prog k 3 c) → ∃ l : List Int, l.length = cs.length ∧ cs.flatten = nums l ∧ Ok64 l := by
      intro cs
      induction cs with
      | nil => intro _; exact ⟨[], rfl, rfl, fun n h => by cases h⟩
      | cons c cs ihc =>
        intro h
        obtain ⟨l, k1, k2, k3⟩ := ihc fun y hy => h y (List.mem_cons_of_mem _ hy)
        obtain ⟨n, rfl, h1, h2⟩ := sh_int (h c List.mem_cons_self)
        refine ⟨n :: l, by simp [k1], by simp only [List.flatten_cons, k2, nums]; rfl, fun x hx => ?_⟩
        rcases List.mem_cons.1 hx with rfl | hx
        · exact ⟨h1, by omega⟩
        · exact k3 x hx
    obtain ⟨l, k1, k2, k3⟩ := key cs l3
    have e : Tryd.prog.cellsOf 3 = 1 := by kernel_rfl
    exact ⟨l, by rw [e, k1, k2], k3⟩
end Go.Proofs.YtlkjnlfddadlmaaDoor.V

namespace Go.Proofs.YtlkjnlfddadlmaaDoor.fnExactCountText
open Go.ChangeShapes Go.WideShapes Go.ChangeAt Go.RowKit
set_option linter.unusedVariables false
set_option maxRecDepth 100000

theorem own : ownKnob Tryd.prog.godebug = none := by kernel_rfl
theorem laidOut : laidOutB Tryd.prog = true := by kernel_rfl
def G : List Nat := [3, 22]
theorem hG : V.plainTys Tryd.prog G = true := by kernel_rfl

/-- What the condition gives: the table of powers of ten. -/
theorem of_laid {W : World} (h : laidMetH Tryd.prog Rows.fnExactCountTextRow.laid W) : Lib.TabIs Tryd.prog W "internal/strconv.uint64pow10" .u64 Lib.pow10Tab := by
  rw [MakeChecks.laidMetH_plain _ _ _ (by kernel_rfl)] at h
  have e : (Rows.laid_internal_strconv_uint64pow10 : DataW Unit) = Lib.tabData .u64 Lib.pow10Tab := by kernel_rfl
  have h1 : laidMet Tryd.prog [("math/bits.deBruijn32tab", Rows.laid_math_bits_deBruijn32tab), ("math/bits.deBruijn64tab", Rows.laid_math_bits_deBruijn64tab), ("internal/strconv.uint64pow10", Rows.laid_internal_strconv_uint64pow10)] W := h
  rw [e] at h1
  exact Lib.tabIs_of_head (g := (Tryd.prog.globalNamed "internal/strconv.uint64pow10").getD 0) (t := 102) (e := 97) (n := 20) (by kernel_rfl) (by kernel_rfl) (by kernel_rfl) (by kernel_rfl) (by kernel_rfl) (by kernel_rfl) h1.tail.tail

/-- The tables, as the program's own start-up lays them. -/
theorem door_met (os : Os) (args : Array Value) : laidMetH Tryd.prog Rows.fnExactCountTextRow.laid ((World.doorLaid Tryd.prog 400 os).forCall (fun _ _ => 0) ⟨#[], args, []⟩).memory :=
  laidMetH_of_parts3 (fuel := 8) (laidMet_of_run' 8 (by kernel_rfl) (by kernel_rfl)) (by kernel_rfl) (by kernel_rfl)

theorem tab_frm {W : World} (h : Lib.TabIs Tryd.prog W "internal/strconv.uint64pow10" .u64 Lib.pow10Tab) : V.TabOk V.T0 W (fun _ => False) := by
  intro w' hf
  show w'.var? Tryd.prog "internal/strconv.uint64pow10" = _
  unfold Lib.TabIs at h
  rw [← h]
  have hg : Tryd.prog.globalNamed "internal/strconv.uint64pow10" = some ((Tryd.prog.globalNamed "internal/strconv.uint64pow10").getD 0) := by kernel_rfl
  unfold World.var? at h ⊢
  rw [hg] at h ⊢
  simp only [Option.bind_some] at h ⊢
  rcases Nat.lt_or_ge ((Tryd.prog.globalNamed "internal/strconv.uint64pow10").getD 0) W.heap.size with hl | hl
  · rw [hf.block _ hl (fun x => x)]
  · rw [Array.getElem?_eq_none hl] at h; cases h

theorem lifted (os : Os) (started : os.Started) (H : Type) (enc : TypeId × Value → H) :
    ReturnsInHanded {} Tryd.checked os 3 .any (fun w args => (Rows.fnExactCountTextSpec.pre enc Tryd.prog Tryd.f3 [] false w args ∧ laidMetH Tryd.prog Rows.fnExactCountTextRow.laid w) ∧ sizedMet enc Tryd.prog Tryd.f3 (OpenSpec.ofChange Rows.fnExactCountTextSpec) false w args)
      (Rows.fnExactCountTextSpec.post enc Tryd.prog Tryd.f3 false true false false) := by
  refine returnsInHanded_of_change_and (C := Tryd.checked) (X := fun w _ => laidMetH Tryd.prog Rows.fnExactCountTextRow.laid w) (fun _ _ _ hh h => h.of_heap hh) own started (by kernel_rfl) Tryd.func3
    (ChangeSpec.witness_shaped (enc := enc) (C := Tryd.checked) (os := os) (X := fun w _ => laidMetH Tryd.prog Rows.fnExactCountTextRow.laid w) false (World.doorLaid Tryd.prog 400 os) #[.slice none 0 0] 8 rfl (World.shaped_of_RefB (by kernel_rfl) (by kernel_rfl)) (by kernel_rfl) (by kernel_rfl) (by kernel_rfl) (door_met os _)) ?_
  intro W base args ds gs before hval0 hW _ _ hL _
  have hval : ∀ (j : Nat) t v, Tryd.f3.params[j]? = some t → args[j]? = some v → Value.okWide Tryd.prog W .any base t v := hval0
  have hW' := hW
  obtain ⟨p, q, hA0, hV, rfl, hfz, hnd⟩ := hW
  have hA : DataW.TrodAll enc Tryd.prog W 0 (fun _ => true) true Tryd.f3.params.toList args.toList ds p := hA0
  rw [Tryd.params3] at hA hval
  obtain ⟨v0, vs0, d0, ds0, p0, q0, hargs, rfl, rfl, h0, r0⟩ := trodAll_cons hA
  obtain ⟨rfl, rfl, rfl⟩ := trodAll_nil r0
  obtain rfl : args = #[v0] := by cases args; simp_all
  obtain ⟨rfl, rfl⟩ := trodVars_none hV
  have k0 := h0
  have lt0 : ∀ x ∈ p0, x.block < W.heap.size := by obtain ⟨m, hm⟩ := k0; exact DataW.trod_lt m _ _ _ hm
  obtain ⟨k, u, hsh, hx⟩ := V.arg_cell hG (t := 22) (by decide) (fun fs hh => by rw [Tryd.underlying22] at hh; cases hh) (hval 0 22 v0 rfl rfl) h0
  obtain ⟨l, e0, hk⟩ := V.sh_ints hsh
  obtain rfl : u = .sl () 1 1 l.length (V.nums l) := by simpa using e0
  obtain ⟨n, hrun⟩ := V.run_of (V.lawCountText hk rfl)
  clear hA0 hval0
  refine (V.law_calls V.cxOk (tab_frm (of_laid hL)) (vs := [v0]) (xs := [V.xl 1 1 l.length (V.nums l)]) ⟨rfl, fun i v x hv hxx => ?_⟩ hrun).mono fun e W' ⟨he, bel⟩ => ?_
  · rcases i with _ | i
    · simp only [List.getElem?_cons_zero, Option.some.injEq] at hv hxx; subst hv hxx; exact hx
    · simp at hv
  subst he
  exact ⟨_, rfl, _, _, _, [], _, [], hW', trodAll_mk1 (shut_bool Tryd.underlying4 _), (trodAll_cons_mk (Below.trod laidOut (by kernel_rfl) (of_decide_eq_true (by kernel_rfl)) k0 bel lt0) trodAll_mk0), rfl, bel.frame _, fun h => by cases h⟩

theorem over : Rows.FnExactCountTextSaid :=
  OpenClaim.holds_of_wide 3 Tryd.f3 rfl rfl rfl rfl rfl rfl rfl ⟨rfl, rfl, rfl, rfl, rfl⟩ rfl rfl rfl rfl rfl (by kernel_rfl) Tryd.func3 (by kernel_rfl)
    (of_decide_eq_true (by kernel_rfl)) (by unfold Func.isWrapper; first | (rw [if_pos (by decide +kernel)]; kernel_rfl) | (rw [if_neg (by decide +kernel)]; exact ⟨rfl, rfl⟩))
    (fun os started H enc _ => lifted os started H enc)

theorem proved : Rows.FnExactCountTextCardSaid :=
  Claim7.holds_tied_plain_at .later [] [.data, .data, .data] true (true, "5ebdaaf86a3b2c463874f02eb807602eeddab681ce332714020823e834f7944b") false
    over (fun _ h => by cases h) (by kernel_rfl) (fun _ h => by cases h) fnExactCountText_row_tie rfl ⟨rfl, rfl⟩ (by kernel_rfl) rfl
    (fun f fn hf hfn => by
      obtain rfl : f = 3 := Option.some.inj ((show Tryd.prog.funcNamed "loop.example/g00396/laws.FnExactCountText" = some 3 by kernel_rfl).symm.trans hf) |>.symm
      obtain rfl : fn = Tryd.f3 := (Option.some.inj (Tryd.func3.symm.trans hfn)).symm
      exact ⟨by kernel_rfl, fun j t ht => by
        rw [Tryd.params3] at ht
        have h3 : t = 22 := by
          rcases j with _ | j
          · simpa using ht.symm
          · simp at ht
        subst h3
        exact (show Tryd.prog.wantsStandIn 22 = false by kernel_rfl)⟩)
    (by kernel_rfl)
#print axioms proved
end Go.Proofs.YtlkjnlfddadlmaaDoor.fnExactCountText
