/-
  Cores are counted, turned over and compared. No conditions.
-/
import Derived.Test.YtlkjnlfddadlmaaDoorMK
import Derived.Test.YtlkjnlfddadlmaaDoorM6
import Derived.Test.YtlkjnlfddadlmaaDoorM5
set_option linter.unusedVariables false
set_option linter.unusedSimpArgs false
namespace Go.Proofs.YtlkjnlfddadlmaaDoor.V
set_option maxRecDepth 100000
noncomputable abbrev RT := RR Tryd.prog cx0

theorem fn_is {g : Nat} {fn : Func} {a : List XU} {x : XU} (ho : cx0.orc g = none) (hf : Tryd.prog.funcs[g]? = some fn) (hb : fn.body = some (fn.body.getD .skip)) (hg : cx0.good g = true)
    (h : fnW cx0 g RT fn a [] fun y e => x = y ∧ e = []) : RT g a [] = some (x, []) := by
  obtain ⟨y, e, h1, h2, h3⟩ := fn_ok ho hf hb hg h
  rw [RT, h1, h2, h3]

theorem retI {g : Nat} {xs : List XU} {n : Int} (h : RT g xs [] = some (xi n, [])) : Ret RT g xs (xi n) := ⟨_, h, rfl⟩
theorem retB {g : Nat} {xs : List XU} {b : Bool} (h : RT g xs [] = some (xb b, [])) : Ret RT g xs (xb b) := ⟨_, h, rfl⟩
theorem retL {g : Nat} {xs : List XU} {n : Nat} {l : List Co} (h : RT g xs [] = some (xl 0 5 n (encs l), [])) : Ret RT g xs (xl 0 5 n (encs l)) := ⟨_, h, by simp only [downX, downC, down, encs_down, Option.map_some]; rfl⟩
theorem retC {g : Nat} {xs : List XU} {c : Co} (h : RT g xs [] = some (xc (enc c), [])) : Ret RT g xs (xc (enc c)) := ⟨_, h, by
  have : ∀ {a b : List TU}, downs a = some b → downCs (a.map .t) = some (b.map .t) := by
    intro a
    induction a with
    | nil => intro b h; simp only [downs, Option.some.injEq] at h; subst h; rfl
    | cons x a ih =>
      intro b h
      simp only [downs] at h
      cases hx : down x with
      | none => simp [hx] at h
      | some y =>
        cases ha : downs a with
        | none => simp [hx, ha] at h
        | some b' =>
          simp only [hx, ha, Option.bind_some, Option.map_some, Option.some.injEq] at h
          subst h
          simp only [List.map_cons, downCs, downC, hx, Option.map_some, Option.bind_some, ih ha]
  simp only [downX, this (enc_down c), Option.map_some]⟩

def szR (z : Nat) (left : Int) : Int := if (z : Int) ≤ left then left - z else -1

theorem szR_no {z : Nat} {v : Int} (h : decide (szR z v < 0) = true) (h0 : 0 ≤ v) : v < z := by
  have h := of_decide_eq_true h
  unfold szR at h; split at h <;> omega
theorem szR_yes {z : Nat} {v : Int} (h : decide (szR z v < 0) = false) : (z : Int) ≤ v ∧ szR z v = v - z := by
  have h := of_decide_eq_false h
  unfold szR at h ⊢
  split at h
  · next h1 => exact ⟨h1, by rw [if_pos h1]⟩
  · omega

def S19 (c : Co) : Prop := ∀ us left, Wf c → Rd c us → 0 ≤ left → left ≤ 1048576 → RT 10 [xc us, xi left] [] = some (xi (szR (szC c) left), [])

def lsz : List Co → Nat
  | [] => 0
  | c :: l => szC c + lsz l

theorem szCs_eq : ∀ l : List Co, szCs l = l.length + lsz l
  | [] => rfl
  | c :: l => by simp only [szCs, lsz, szCs_eq l, List.length_cons]; omega

theorem l54 {ks : List Co} {cs : List TU} {g : Nat} {K : Ex → StA → Prop} (H : ∀ c ∈ ks, S19 c) (hw : Wfs ks) (hr : Rds ks cs) (hk : ks.length ≤ maxLen) : ∀ (l : List Co) (i : Nat), ks.drop i = l → i ≤ ks.length → ∀ v : Int, 0 ≤ v → v ≤ 1048576 →
    (∀ jk i v', lsz l ≤ v → v' = v - lsz l → K (.exit 0) ⟨[(5, xi i), (1, xi v'), (0, xl (g + 1) 5 ks.length cs), (4, xi 0)], jk, []⟩) →
    (∀ jk i v', v < lsz l → K .ret ⟨[(5, xi i), (1, xi v'), (0, xl (g + 1) 5 ks.length cs), (4, xi (-1))], jk, []⟩) →
    ∀ jk, sem cx0 22 RT (.loop (lp Tryd.f22 0)) ⟨[(5, xi i), (1, xi v), (0, xl (g + 1) 5 ks.length cs), (4, xi 0)], jk, []⟩ K := by
  refine drop_ind ?_ ?_
  · intro v h0 h1 k1 k2 jk
    refine loop_step cx0 _ RT [5, 1, 0, 4] ⟨fun h => (lt_no h (by omega)).elim, fun h => ?_⟩
    exact fun jk => k1 jk _ _ (by simpa [lsz] using h0) (by simp [lsz])
  · intro i c l hi hil ih v h0 h1 k1 k2 jk
    refine loop_step cx0 _ RT [5, 1, 0, 4] ⟨fun h => ?_, fun h => (lt_yes h (by omega)).elim⟩
    refine ⟨⟨by omega, by omega⟩, ?_⟩
    have hc := H c (List.mem_of_getElem? hi)
    have hwc := Wfs_iff.1 hw c (List.mem_of_getElem? hi)
    cases c with
    | mk op n s t kk =>
    obtain ⟨g', cs', e1, e2⟩ := Rds_get hr hi
    refine ⟨op, n, s, t, g' + 1, kk.length, cs', ⟨e1, rfl⟩, ?_⟩
    refine ⟨_, ⟨_, hc _ v hwc (show Rd _ (core op n s t (g' + 2) kk.length (retags cs')) from ⟨_, _, rfl, e2.retag⟩) h0 h1, rfl⟩, ?_⟩
    refine ⟨fun h2 => ?_, fun h2 => ?_⟩
    · have := szR_no h2 h0
      exact fun jk => k2 jk _ _ (by simp only [lsz]; omega)
    · obtain ⟨h3, h4⟩ := szR_yes h2
      refine fun jk => ?_
      rw [wrapS hil hk, h4]
      exact ih _ (by omega) (by omega) (fun jk i v' a1 a2 => k1 jk i v' (by simp only [lsz]; omega) (by simp only [lsz]; omega)) (fun jk i v' a1 => k2 jk i v' (by simp only [lsz]; omega)) jk

theorem sz54 {ks : List Co} {cs : List TU} {g : Nat} {left : Int} (H : ∀ c ∈ ks, S19 c) (hw : Wfs ks) (hr : Rds ks cs) (hk : ks.length ≤ maxLen) (h0 : 0 ≤ left) (h1 : left ≤ 1048576) :
    RT 22 [xl (g + 1) 5 ks.length cs, xi left] [] = some (xi (szR (szCs ks) left), []) := by
  have hk' := hk
  simp only [maxLen] at hk'
  refine fn_is (fn := Tryd.f22) rfl rfl rfl rfl ?_
  refine ⟨fun h => ?_, fun h => ?_⟩
  · rw [wrap64 (by omega) (by omega)] at h
    refine ⟨?_, rfl⟩
    simp at h
    have : ¬ ((szCs ks : Nat) : Int) ≤ left := by rw [szCs_eq]; omega
    simp only [szR, if_neg this]; rfl
  · rw [wrap64 (by omega) (by omega)] at h
    simp at h
    have e : szCs ks = ks.length + lsz ks := szCs_eq ks
    refine sem_in cx0 _ RT [5, 1, 0, 4] fun jk => ?_
    rw [wrap64 (n := left - ks.length) (by omega) (by omega)]
    refine l54 H hw hr hk ks 0 rfl (by omega) _ (by omega) (by omega) ?_ ?_ _
    · intro jk i v' a1 a2
      refine ⟨?_, rfl⟩
      have : ((szCs ks : Nat) : Int) ≤ left := by omega
      simp only [szR, if_pos this]
      rw [a2, show left - ((szCs ks : Nat) : Int) = left - ks.length - lsz ks by omega]; rfl
    · intro jk i v' a1
      refine ⟨?_, rfl⟩
      have : ¬ ((szCs ks : Nat) : Int) ≤ left := by omega
      simp only [szR, if_neg this]; rfl

end Go.Proofs.YtlkjnlfddadlmaaDoor.V

namespace Go.Proofs.YtlkjnlfddadlmaaDoor.V
set_option maxRecDepth 100000

theorem sz19 : ∀ c : Co, S19 c := by
  refine Co.ind fun op n s t ks ih => ?_
  intro us left hw hr h0 h1
  simp only [Rd] at hr
  obtain ⟨g, cs, rfl, hr⟩ := hr
  simp only [Wf] at hw
  obtain ⟨w1, w2, w3, w4, w5, w6⟩ := hw
  have hs := w3
  have ht := w4
  simp only [maxLen] at hs ht
  refine fn_is (fn := Tryd.f10) rfl rfl rfl rfl ?_
  have e0 : szC (.mk op n s t ks) = s.length + t.length + szCs ks := rfl
  refine ⟨fun h => ?_, fun h => ?_⟩
  · rw [wrap64 (by omega) (by omega)] at h
    have h := of_decide_eq_true h
    have : ¬ ((szC (.mk op n s t ks) : Nat) : Int) ≤ left := by omega
    refine ⟨?_, rfl⟩
    simp only [szR, if_neg this]; rfl
  rw [wrap64 (by omega) (by omega)] at h
  have h := of_decide_eq_false h
  refine ⟨fun h' => ?_, fun h' => ?_⟩
  · rw [wrap64 (n := left - s.length) (by omega) (by omega), wrap64 (by omega) (by omega)] at h'
    have h' := of_decide_eq_true h'
    have : ¬ ((szC (.mk op n s t ks) : Nat) : Int) ≤ left := by omega
    refine ⟨?_, rfl⟩
    simp only [szR, if_neg this]; rfl
  rw [wrap64 (n := left - s.length) (by omega) (by omega), wrap64 (by omega) (by omega)] at h'
  have h' := of_decide_eq_false h'
  have e1 : IntKind.wrap .i64 (IntKind.wrap .i64 (left - (s.length : Int)) - (t.length : Int)) = left - s.length - t.length := by
    rw [wrap64 (n := left - s.length) (by omega) (by omega), wrap64 (by omega) (by omega)]
  have hc := sz54 (g := g + 1) (left := left - s.length - t.length) ih w6 hr.retag w5 (by omega) (by omega)
  refine ⟨_, ⟨_, by rw [e1]; exact hc, rfl⟩, ?_⟩
  refine ⟨fun h2 => ?_, fun h2 => ?_⟩
  · have := szR_no h2 (by omega)
    have : ¬ ((szC (.mk op n s t ks) : Nat) : Int) ≤ left := by omega
    refine ⟨?_, rfl⟩
    simp only [szR, if_neg this]; rfl
  · obtain ⟨h3, h4⟩ := szR_yes h2
    have : ((szC (.mk op n s t ks) : Nat) : Int) ≤ left := by omega
    refine ⟨?_, rfl⟩
    rw [h4]
    simp only [szR, if_pos this]
    rw [show left - ((szC (.mk op n s t ks) : Nat) : Int) = left - s.length - t.length - szCs ks by omega]; rfl

def S21 (c : Co) : Prop := ∀ us, szC c ≤ 1048576 → Rd c us → RT 12 [xc us] [] = some (xc (enc c), [])

abbrev zC : List TU := [.int .i64 0, .int .i64 0, .str [], .str [], .sl () 0 5 0 []]

theorem szCs_le {ks : List Co} {n : Nat} (h : szCs ks ≤ n) : ks.length ≤ n := by rw [szCs_eq] at h; omega

theorem szCs_mem : ∀ {ks : List Co} {n : Nat} {c : Co}, szCs ks ≤ n → c ∈ ks → szC c ≤ n
  | x :: ks, n, c, h, hc => by
    simp only [szCs] at h
    rcases List.mem_cons.1 hc with rfl | hc
    · omega
    · exact szCs_mem (ks := ks) (by omega) hc

theorem repl_len {n : Nat} {xs : List TU} : (repl n xs).length = n * xs.length := by
  simp [repl]

theorem repl_succ {n : Nat} {xs : List TU} : repl (n + 1) xs = xs ++ repl n xs := by
  simp [repl, List.replicate_succ]

theorem put_next {l : List Co} {c : Co} {m : Nat} : (((encs l ++ repl (m + 1) zC).take (l.length * 5)) ++ enc c) ++ (encs l ++ repl (m + 1) zC).drop (l.length * 5 + 5) = encs (l ++ [c]) ++ repl m zC := by
  rw [← encs_len l, List.take_left, List.drop_length_add_append, repl_succ, encs_append]
  simp only [encs, List.append_nil]
  rw [show (zC ++ repl m zC).drop 5 = repl m zC from rfl]

theorem l55 {ks : List Co} {cs : List TU} {g : Nat} {K : Ex → StA → Prop} (H : ∀ c ∈ ks, S21 c) (hz : szCs ks ≤ 1048576) (hr : Rds ks cs) : ∀ (l : List Co) (i : Nat), ks.drop i = l → i ≤ ks.length →
    (∀ jk i, K (.exit 0) ⟨[(4, xi i), (3, xl 0 5 ks.length (encs ks)), (0, xl (g + 1) 5 ks.length cs), (2, xl 0 5 0 [])], jk, []⟩) →
    ∀ jk, sem cx0 25 RT (.loop (lp Tryd.f25 0)) ⟨[(4, xi i), (3, xl 0 5 ks.length (encs (ks.take i) ++ repl (ks.length - i) zC)), (0, xl (g + 1) 5 ks.length cs), (2, xl 0 5 0 [])], jk, []⟩ K := by
  have hk := szCs_le hz
  refine drop_ind ?_ ?_
  · intro k1 jk
    refine loop_step cx0 _ RT [4, 3, 0, 2] ⟨fun h => (lt_no h (by omega)).elim, fun h => ?_⟩
    intro jk
    have := k1 jk ks.length
    show K _ _
    simpa [repl] using this
  · intro i c l hi hil ih k1 jk
    refine loop_step cx0 _ RT [4, 3, 0, 2] ⟨fun h => ?_, fun h => (lt_yes h (by omega)).elim⟩
    refine ⟨⟨by omega, by omega⟩, ?_⟩
    have hm := List.mem_of_getElem? hi
    have hc := H c hm
    have hzc := szCs_mem hz hm
    cases c with
    | mk op n s t kk =>
    obtain ⟨g', cs', e1, e2⟩ := Rds_get hr hi
    refine ⟨op, n, s, t, g' + 1, kk.length, cs', ⟨e1, rfl⟩, ?_⟩
    refine ⟨_, retC (hc _ hzc (show Rd _ (core op n s t (g' + 2) kk.length (retags cs')) from ⟨_, _, rfl, e2.retag⟩)), ?_⟩
    refine ⟨⟨by omega, by omega⟩, ?_⟩
    refine ⟨?_, ?_⟩
    · rw [List.length_append, encs_len, repl_len, List.length_take, Nat.min_eq_left (by omega)]
      show 0 + i * 5 + 5 ≤ i * 5 + (ks.length - i) * 5
      omega
    intro jk jk
    have hl : (ks.take i).length = i := by rw [List.length_take]; omega
    have e := put_next (l := ks.take i) (c := .mk op n s t kk) (m := ks.length - (i + 1))
    rw [hl, show ks.length - (i + 1) + 1 = ks.length - i by omega, show ks.take i ++ [Co.mk op n s t kk] = ks.take (i + 1) by rw [List.take_add_one, hi]; rfl] at e
    have := ih k1 jk
    rw [← e] at this
    simp only [Nat.zero_add, Int.toNat_natCast, wrapS hil (show ks.length ≤ maxLen by simp only [maxLen]; omega)]
    exact this

theorem to55 {ks : List Co} {cs : List TU} {g : Nat} (H : ∀ c ∈ ks, S21 c) (hz : szCs ks ≤ 1048576) (hr : Rds ks cs) :
    RT 25 [xl (g + 1) 5 ks.length cs] [] = some (xl 0 5 ks.length (encs ks), []) := by
  have hk := szCs_le hz
  refine fn_is (fn := Tryd.f25) rfl rfl rfl rfl ?_
  refine ⟨⟨by omega, by omega, ?_, by simp only [maxLen]; omega⟩, ?_⟩
  · show (ks.length : Int) * (72 : Nat) ≤ 140737488355328
    omega
  refine sem_in cx0 _ RT [4, 3, 0, 2] fun jk => ?_
  refine l55 (g := g) H hz hr ks 0 rfl (by omega) (fun jk i => ?_) jk
  refine ⟨by rw [encs_len]; omega, ?_⟩
  refine ⟨?_, rfl⟩
  exact congrArg (xl 0 5 ks.length) (encs_whole ks).symm

theorem to21 : ∀ c : Co, S21 c := by
  refine Co.ind fun op n s t ks ih => ?_
  intro us hz hr
  simp only [Rd] at hr
  obtain ⟨g, cs, rfl, hr⟩ := hr
  refine fn_is (fn := Tryd.f12) rfl rfl rfl rfl ?_
  refine ⟨_, retL (to55 (g := g + 1) (cs := retags cs) ih (by simp only [szC] at hz; omega) hr.retag), ?_⟩
  refine ⟨by rw [encs_len]; omega, ?_⟩
  refine ⟨?_, rfl⟩
  exact congrArg (fun x => xc (core op n s t 0 ks.length x)) (encs_whole ks).symm

def S23 (c : Co) : Prop := ∀ us vs, Wf c → Rd c us → Rd c vs → RT 14 [xc us, xc vs] [] = some (xb true, [])

theorem l56 {ks : List Co} {cs ds : List TU} {g h : Nat} {K : Ex → StA → Prop} (H : ∀ c ∈ ks, S23 c) (hw : Wfs ks) (hr : Rds ks cs) (hs : Rds ks ds) (hk : ks.length ≤ maxLen) : ∀ (l : List Co) (i : Nat), ks.drop i = l → i ≤ ks.length →
    (∀ jk i, K (.exit 0) ⟨[(5, xi i), (0, xl (g + 1) 5 ks.length cs), (1, xl (h + 1) 5 ks.length ds), (4, xb false)], jk, []⟩) →
    ∀ jk, sem cx0 28 RT (.loop (lp Tryd.f28 0)) ⟨[(5, xi i), (0, xl (g + 1) 5 ks.length cs), (1, xl (h + 1) 5 ks.length ds), (4, xb false)], jk, []⟩ K := by
  refine drop_ind ?_ ?_
  · intro k1 jk
    refine loop_step cx0 _ RT [5, 0, 1, 4] ⟨fun h => (lt_no h (by omega)).elim, fun h => ?_⟩
    exact fun jk => k1 jk _
  · intro i c l hi hil ih k1 jk
    refine loop_step cx0 _ RT [5, 0, 1, 4] ⟨fun h => ?_, fun h => (lt_yes h (by omega)).elim⟩
    refine ⟨⟨by omega, by omega⟩, ?_⟩
    have hm := List.mem_of_getElem? hi
    have hc := H c hm
    have hwc := Wfs_iff.1 hw c hm
    cases c with
    | mk op n s t kk =>
    obtain ⟨g', cs', e1, e2⟩ := Rds_get hr hi
    refine ⟨op, n, s, t, g' + 1, kk.length, cs', ⟨e1, rfl⟩, ?_⟩
    refine ⟨⟨by omega, by omega⟩, ?_⟩
    obtain ⟨h', ds', f1, f2⟩ := Rds_get hs hi
    refine ⟨op, n, s, t, h' + 1, kk.length, ds', ⟨f1, rfl⟩, ?_⟩
    refine ⟨_, retB (hc _ _ hwc (show Rd _ (core op n s t (g' + 2) kk.length (retags cs')) from ⟨_, _, rfl, e2.retag⟩) (show Rd _ (core op n s t (h' + 2) kk.length (retags ds')) from ⟨_, _, rfl, f2.retag⟩)), ?_⟩
    refine ⟨(fun h => by cases h), fun h => ?_⟩
    intro jk
    rw [wrapS hil hk]
    exact ih k1 jk

theorem eq56 {ks : List Co} {cs ds : List TU} {g h : Nat} (H : ∀ c ∈ ks, S23 c) (hw : Wfs ks) (hr : Rds ks cs) (hs : Rds ks ds) (hk : ks.length ≤ maxLen) :
    RT 28 [xl (g + 1) 5 ks.length cs, xl (h + 1) 5 ks.length ds] [] = some (xb true, []) := by
  refine fn_is (fn := Tryd.f28) rfl rfl rfl rfl ?_
  refine ⟨fun h => by simp at h, fun _ => ?_⟩
  refine sem_in cx0 _ RT [5, 0, 1, 4] fun jk => ?_
  refine l56 H hw hr hs hk ks 0 rfl (by omega) (fun jk i => ?_) jk
  exact ⟨rfl, rfl⟩

theorem eq23 : ∀ c : Co, S23 c := by
  refine Co.ind fun op n s t ks ih => ?_
  intro us vs hw hr hs
  simp only [Rd] at hr hs
  obtain ⟨g, cs, rfl, hr⟩ := hr
  obtain ⟨h, ds, rfl, hs⟩ := hs
  simp only [Wf] at hw
  refine fn_is (fn := Tryd.f14) rfl rfl rfl rfl ?_
  refine ⟨fun h => by simp at h, fun _ => ?_⟩
  refine ⟨fun h => by simp at h, fun _ => ?_⟩
  refine ⟨fun h => by simp at h, fun _ => ?_⟩
  refine ⟨fun h => by simp at h, fun _ => ?_⟩
  refine ⟨_, retB (eq56 (g := g + 1) (h := h + 1) (cs := retags cs) (ds := retags ds) ih hw.2.2.2.2.2 hr.retag hs.retag hw.2.2.2.2.1), ?_⟩
  refine ⟨(fun h => by cases h), fun _ => ?_⟩
  exact ⟨rfl, rfl⟩

end Go.Proofs.YtlkjnlfddadlmaaDoor.V

namespace Go.Proofs.YtlkjnlfddadlmaaDoor.V
set_option maxRecDepth 100000

theorem i64_wf {n : Int} (h : (Lit.int .i64 n).wf = true) : -9223372036854775808 ≤ n ∧ n < 9223372036854775808 := by
  simp only [Lit.wf, Bool.and_eq_true, decide_eq_true_eq] at h
  obtain ⟨h1, h2⟩ := h
  have e1 : IntKind.min .i64 = -9223372036854775808 := by decide
  have e2 : IntKind.max .i64 = 9223372036854775807 := by decide
  omega

def ShL (sh : Nat → List TU → Prop) : List Nat → List TU → Prop
  | [], us => us = []
  | t :: ts, us => ∃ vs ws, us = vs ++ ws ∧ sh t vs ∧ ShL sh ts ws

theorem ShF_L {sh : Nat → List TU → Prop} : ∀ {fs : List Field} {us : List TU}, ShF sh fs us → ShL sh (fs.map (·.type)) us
  | [], us, h => h
  | f :: fs, us, h => by
    obtain ⟨vs, ws, h1, h2, h3⟩ := h
    exact ⟨vs, ws, h1, h2, ShF_L h3⟩

theorem sh_int {k : Nat} {us : List TU} (h : Sh Tryd.prog k 3 us) : ∃ n, us = [.int .i64 n] ∧ -9223372036854775808 ≤ n ∧ n < 9223372036854775808 := by
  cases k with
  | zero => exact h.elim
  | succ k =>
    have hu : Tryd.prog.underlying 3 = some (.int .i64) := by kernel_rfl
    simp only [Sh, hu] at h
    obtain ⟨n, h1, h2⟩ := h
    exact ⟨n, h1, i64_wf h2⟩

theorem sh_str {k : Nat} {us : List TU} (h : Sh Tryd.prog k 9 us) : ∃ s, us = [.str s] ∧ s.length ≤ maxLen := by
  cases k with
  | zero => exact h.elim
  | succ k =>
    have hu : Tryd.prog.underlying 9 = some .string := by kernel_rfl
    simp only [Sh, hu] at h
    exact h

def fieldTys (P : Program) (t : Nat) : Option (List Nat) :=
  match P.underlying t with
  | some (.struct fs) => some (fs.toList.map (·.type))
  | _ => none

theorem fieldTys_ok {P : Program} {t : Nat} {l : List Nat} (h : fieldTys P t = some l) : ∃ fs, P.underlying t = some (.struct fs) ∧ fs.toList.map (·.type) = l := by
  unfold fieldTys at h
  split at h
  · next fs hf => exact ⟨fs, hf, Option.some.inj h⟩
  · cases h

theorem sh_core : ∀ (k : Nat) (us : List TU), Sh Tryd.prog k 29 us → ∃ c, Rd c us ∧ Wf c := by
  intro k
  induction k using Nat.strongRecOn with
  | _ k ih =>
  intro us h
  cases k with
  | zero => exact h.elim
  | succ k =>
    obtain ⟨fs, hu, hf⟩ := fieldTys_ok (P := Tryd.prog) (t := 29) (l := [3, 3, 9, 9, 27]) (by kernel_rfl)
    simp only [Sh, hu] at h
    have h := ShF_L h
    rw [hf] at h
    obtain ⟨a1, b1, rfl, c1, a2, b2, rfl, c2, a3, b3, rfl, c3, a4, b4, rfl, c4, a5, b5, rfl, c5, rfl⟩ := h
    obtain ⟨op, rfl, o1, o2⟩ := sh_int c1
    obtain ⟨n, rfl, n1, n2⟩ := sh_int c2
    obtain ⟨s, rfl, s1⟩ := sh_str c3
    obtain ⟨t, rfl, t1⟩ := sh_str c4
    cases k with
    | zero => exact c5.elim
    | succ k =>
      have hu : Tryd.prog.underlying 27 = some (.slice 29) := by kernel_rfl
      simp only [Sh, hu] at c5
      obtain ⟨cs, rfl, l1, l2, l3⟩ := c5
      have key : ∀ cs : List (List TU), (∀ c ∈ cs, Sh Tryd.prog k 29 c) → ∃ ks : List Co, ks.length = cs.length ∧ Rds ks cs.flatten ∧ Wfs ks := by
        intro cs
        induction cs with
        | nil => intro _; exact ⟨[], rfl, rfl, trivial⟩
        | cons c cs ihc =>
          intro h
          obtain ⟨x, x1, x2⟩ := ih k (by omega) c (h c List.mem_cons_self)
          obtain ⟨ks, k1, k2, k3⟩ := ihc fun y hy => h y (List.mem_cons_of_mem _ hy)
          exact ⟨x :: ks, by simp [k1], ⟨_, _, rfl, x1, k2⟩, ⟨x2, k3⟩⟩
      obtain ⟨ks, k1, k2, k3⟩ := key cs l3
      refine ⟨.mk op n s t ks, ⟨0, cs.flatten, ?_, k2⟩, ⟨o1, o2⟩, ⟨n1, n2⟩, s1, t1, by omega, k3⟩
      have e : Tryd.prog.cellsOf 29 = 5 := by kernel_rfl
      rw [e, k1]; rfl

theorem rdO (op n : Int) (s t : List UInt8) (ks : List Co) : Rd (.mk op n s t ks) (core op n s t 1 ks.length (retags (encs ks))) := enc_retag (.mk op n s t ks)
theorem rdV (op n : Int) (s t : List UInt8) (ks : List Co) : Rd (.mk op n s t ks) (core op n s t 1 ks.length (retags (((encs ks).drop 0).take (ks.length * 5)))) := by rw [encs_whole]; exact rdO op n s t ks
theorem inV (ks : List Co) : 0 + ks.length * 5 ≤ (encs ks).length := by rw [encs_len]; omega

theorem run_of {f : Nat} {xs : List XU} {r : XU × List (List CU)} (h : RT f xs [] = some r) : ∃ k, run Tryd.prog cx0 k f xs [] = some r := (RR_iff Tryd.prog cx0).1 h

end Go.Proofs.YtlkjnlfddadlmaaDoor.V

namespace Go.Proofs.YtlkjnlfddadlmaaDoor.V
set_option maxRecDepth 100000

def bit (b : Bool) : Nat := if b then 1 else 0

theorem bit57 (b : Bool) : RT 83 [xb b] [] = some (xi (bit b), []) := by
  refine fn_is (fn := Tryd.f83) rfl rfl rfl rfl ?_
  refine ⟨fun h => ?_, fun h => ?_⟩
  · exact ⟨by rw [h]; rfl, rfl⟩
  · exact ⟨by rw [h]; rfl, rfl⟩

theorem max59 (a b : Int) : RT 62 [xi a, xi b] [] = some (xi (max a b), []) := by
  refine fn_is (fn := Tryd.f62) rfl rfl rfl rfl ?_
  refine ⟨fun h => ?_, fun h => ?_⟩
  · have h := of_decide_eq_true h
    exact ⟨by rw [show max a b = a by omega]; rfl, rfl⟩
  · have h := of_decide_eq_false h
    exact ⟨by rw [show max a b = b by omega]; rfl, rfl⟩

theorem in50 (a lo hi : Int) : RT 79 [xi a, xi lo, xi hi] [] = some (xb (decide (a ≥ lo) && decide (a ≤ hi)), []) := by
  refine fn_is (fn := Tryd.f79) rfl rfl rfl rfl ?_
  refine ⟨fun h => ?_, fun h => ?_⟩
  · exact ⟨by rw [h]; rfl, rfl⟩
  · exact ⟨by rw [h]; rfl, rfl⟩

theorem in52 (a lo hi : Int) : RT 81 [xi a, xi lo, xi hi] [] = some (xb (decide (a ≥ lo) && decide (a ≤ hi)), []) := by
  refine fn_is (fn := Tryd.f81) rfl rfl rfl rfl ?_
  refine ⟨fun h => ?_, fun h => ?_⟩
  · exact ⟨by rw [h]; rfl, rfl⟩
  · exact ⟨by rw [h]; rfl, rfl⟩

end Go.Proofs.YtlkjnlfddadlmaaDoor.V

namespace Go.Proofs.YtlkjnlfddadlmaaDoor.V
set_option maxRecDepth 100000

abbrev Nm := List UInt8
def nm : List Nm → List TU
  | [] => []
  | s :: l => .str s :: nm l

theorem nm_retag : ∀ l, retags (nm l) = nm l
  | [] => rfl
  | s :: l => by simp only [nm, retags, retag, nm_retag l]
theorem nm_down : ∀ l, downs (nm l) = some (nm l)
  | [] => rfl
  | s :: l => by simp only [nm, downs, down, nm_down l, Option.bind_some, Option.map_some]
theorem nm_len : ∀ l, (nm l).length = l.length
  | [] => rfl
  | s :: l => by simp only [nm, List.length_cons, nm_len l]
theorem nm_append : ∀ l m, nm (l ++ m) = nm l ++ nm m
  | [], m => rfl
  | s :: l, m => by simp only [List.cons_append, nm, nm_append l m]
theorem nm_whole (l : List Nm) : ((nm l).drop 0).take (l.length * 1) = nm l := by rw [List.drop_zero, Nat.mul_one, ← nm_len, List.take_length]
theorem nm_at : ∀ {l : List Nm} {i : Nat} {s : Nm}, l[i]? = some s → ((nm l).drop (i * 1)).take 1 = [.str s]
  | [], i, s, h => by simp at h
  | x :: l, 0, s, h => by
    simp only [List.getElem?_cons_zero, Option.some.injEq] at h
    subst h; rfl
  | x :: l, i + 1, s, h => by
    simp only [List.getElem?_cons_succ] at h
    have := nm_at h
    rw [show (i + 1) * 1 = i * 1 + 1 by omega]; exact this

theorem retN {g : Nat} {xs : List XU} {n : Nat} {l : List Nm} (h : RT g xs [] = some (xl 0 1 n (nm l), [])) : Ret RT g xs (xl 0 1 n (nm l)) := ⟨_, h, by simp only [downX, downC, down, nm_down, Option.map_some]; rfl⟩

theorem l83 {l : List Nm} {s : Nm} {g : Nat} {K : Ex → StA → Prop} (hk : l.length ≤ maxLen) : ∀ (r : List Nm) (i : Nat), l.drop i = r → i ≤ l.length →
    (∀ jk j, (r.contains s) = false → K (.exit 0) ⟨[(5, xi j), (0, xl (g + 1) 1 l.length (nm l)), (1, xs s), (4, xb false)], jk, []⟩) →
    (∀ jk j, (r.contains s) = true → K .ret ⟨[(5, xi j), (0, xl (g + 1) 1 l.length (nm l)), (1, xs s), (4, xb true)], jk, []⟩) →
    ∀ jk, sem cx0 66 RT (.loop (lp Tryd.f66 0)) ⟨[(5, xi i), (0, xl (g + 1) 1 l.length (nm l)), (1, xs s), (4, xb false)], jk, []⟩ K := by
  refine drop_ind ?_ ?_
  · intro k1 k2 jk
    refine loop_step cx0 _ RT [5, 0, 1, 4] ⟨fun h => (lt_no h (by omega)).elim, fun h => ?_⟩
    exact fun jk => k1 jk _ rfl
  · intro i o r hi hil ih k1 k2 jk
    refine loop_step cx0 _ RT [5, 0, 1, 4] ⟨fun h => ?_, fun h => (lt_yes h (by omega)).elim⟩
    refine ⟨⟨by omega, by omega⟩, ?_⟩
    refine ⟨o, ⟨nm_at hi, rfl⟩, ?_⟩
    refine ⟨fun h => ?_, fun h => ?_⟩
    · have h := eq_of_beq h
      exact fun jk => k2 jk _ (by subst h; simp)
    · have h1 : ∀ b, (o :: r).contains s = b → r.contains s = b := by
        intro b hb; rw [List.contains_cons] at hb
        have : (s == o) = false := by rw [← h]; exact BEq.comm
        rwa [this, Bool.false_or] at hb
      have h2 : ∀ b, r.contains s = b → (o :: r).contains s = b := by
        intro b hb; rw [List.contains_cons]
        have : (s == o) = false := by rw [← h]; exact BEq.comm
        rw [this, Bool.false_or]; exact hb
      intro jk
      rw [wrapS hil hk]
      exact ih (fun jk j h => k1 jk j (h2 _ h)) (fun jk j h => k2 jk j (h2 _ h)) jk

theorem in83 {l : List Nm} {s : Nm} {g : Nat} {cs : List TU} (hc : cs = nm l) (hk : l.length ≤ maxLen) : RT 66 [xl (g + 1) 1 l.length cs, xs s] [] = some (xb (l.contains s), []) := by
  subst hc
  refine fn_is (fn := Tryd.f66) rfl rfl rfl rfl ?_
  refine sem_in cx0 _ RT [5, 0, 1, 4] fun jk => ?_
  refine l83 (g := g) (s := s) hk l 0 rfl (by omega) (fun jk i h => ?_) (fun jk i h => ?_) jk
  · exact ⟨by rw [h]; rfl, rfl⟩
  · exact ⟨by rw [h]; rfl, rfl⟩

theorem fn_isE {g : Nat} {fn : Func} {a : List XU} {e e' : List (List CU)} {x : XU} (ho : cx0.orc g = none) (hf : Tryd.prog.funcs[g]? = some fn) (hb : fn.body = some (fn.body.getD .skip)) (hg : cx0.good g = true)
    (h : fnW cx0 g RT fn a e fun y f => x = y ∧ e' = f) : RT g a e = some (x, e') := by
  obtain ⟨y, f, h1, h2, h3⟩ := fn_ok ho hf hb hg h
  rw [RT, h1, h2, h3]

theorem xl_eq {g sz n n' : Nat} {cs cs' : List TU} (h1 : n = n') (h2 : cs = cs') : xl g sz n cs = xl g sz n' cs' := by rw [h1, h2]
theorem take_all {α : Type} {n : Nat} {l : List α} (h : l.length ≤ n) : (l.drop 0).take n = l := by rw [List.drop_zero, List.take_of_length_le h]
theorem nm_put {l m : List Nm} : ((([] ++ nm l).drop 0).take ((0 + l.length) * 1)) ++ nm m = nm (l ++ m) := by
  rw [List.nil_append, take_all (by rw [nm_len]; omega), nm_append]

theorem and91 {l : List Nm} {s : Nm} {g : Nat} {cs : List TU} (hc : cs = nm l) (hk : l.length ≤ 8388608) : RT 80 [xl (g + 1) 1 l.length cs, xs s] [] = some (xl 0 1 (l ++ [s]).length (nm (l ++ [s])), []) := by
  subst hc
  refine fn_is (fn := Tryd.f80) rfl rfl rfl rfl ?_
  refine ⟨⟨by simp only [maxLen]; omega, by show (0 + l.length) * 16 ≤ _; omega⟩, ?_⟩
  refine ⟨by show 0 + (0 + l.length) * 1 ≤ (nm l).length; rw [nm_len]; omega, ?_⟩
  refine ⟨⟨by simp only [maxLen]; omega, by show (_ + 1) * 16 ≤ _; omega⟩, ?_⟩
  have e := nm_put (l := l) (m := [s])
  refine ⟨?_, ?_⟩
  · refine Nat.le_trans ?_ (Nat.le_of_eq (congrArg List.length e.symm))
    rw [nm_len, List.length_append]; show 0 + (0 + l.length + 1) * 1 ≤ l.length + 1; omega
  refine ⟨xl_eq (by simp) ?_, rfl⟩
  refine Eq.trans ?_ (congrArg (fun x => (List.drop 0 x).take ((0 + l.length + 1) * 1)) e.symm)
  exact (take_all (by rw [nm_len, List.length_append]; show l.length + 1 ≤ _; omega)).symm

def envS (op : Int) (s t : Nm) (i : Nat) : List Nm :=
  if op == 3 || (op == 5 && (i : Int) == 1) || (op == 6 && (i : Int) == 1) then [s] else if op == 6 then [s, t] else []

theorem fn_ex {g : Nat} {fn : Func} {a : List XU} {P : XU → Prop} (ho : cx0.orc g = none) (hf : Tryd.prog.funcs[g]? = some fn) (hb : fn.body = some (fn.body.getD .skip)) (hg : cx0.good g = true)
    (h : fnW cx0 g RT fn a [] fun y e => P y ∧ e = []) : ∃ y, P y ∧ RT g a [] = some (y, []) := by
  obtain ⟨y, e, h1, h2, h3⟩ := fn_ok ho hf hb hg h
  exact ⟨y, h2, by rw [RT, h1, h3]⟩

theorem env84 {op n : Int} {s t : Nm} {ks : List Co} {us : List TU} {i : Nat} {l : List Nm} {g : Nat} {cs : List TU} (h : Rd (.mk op n s t ks) us) (hc : cs = nm l) (hk : l.length ≤ 4194304) :
    ∃ y, (∃ g', (g' = 0 ∨ g' = g + 2) ∧ y = xl g' 1 (l ++ envS op s t i).length (nm (l ++ envS op s t i))) ∧ RT 67 [xc us, xi i, xl (g + 2) 1 l.length cs] [] = some (y, []) := by
  subst hc
  obtain ⟨g', cs, rfl, h⟩ := h
  refine fn_ex (fn := Tryd.f67) rfl rfl rfl rfl ?_
  have W : ∀ L : List Nm, 0 + L.length * 1 ≤ (nm L).length := fun L => by rw [nm_len]; omega
  refine ⟨fun h3 => ?_, fun h3 => ?_⟩
  · refine ⟨_, retN (and91 (g := g + 2) (nm_retag l) (by omega)), ?_⟩
    refine ⟨W _, ?_⟩
    exact ⟨⟨0, .inl rfl, by rw [← nm_whole (l ++ envS op s t i)]; simp only [envS, h3]; rfl⟩, rfl⟩
  refine ⟨fun h5 => ?_, fun h5 => ?_⟩
  · refine ⟨fun hi => ?_, fun hi => ?_⟩
    · refine ⟨_, retN (and91 (g := g + 2) (nm_retag l) (by omega)), ?_⟩
      refine ⟨W _, ?_⟩
      exact ⟨⟨0, .inl rfl, by rw [← nm_whole (l ++ envS op s t i)]; simp only [envS, h3, h5, hi]; rfl⟩, rfl⟩
    · have := eq_of_beq h5
      subst this
      refine ⟨fun h6 => by simp_all, fun h6 => ?_⟩
      refine ⟨fun h6' => by simp_all, fun h6' => ?_⟩
      exact ⟨⟨g + 2, .inr rfl, by simp only [envS, hi]; simp; rfl⟩, rfl⟩
  refine ⟨fun h6 => ?_, fun h6 => ?_⟩
  · refine ⟨fun hi => ?_, fun hi => ?_⟩
    · refine ⟨_, retN (and91 (g := g + 2) (nm_retag l) (by omega)), ?_⟩
      refine ⟨W _, ?_⟩
      exact ⟨⟨0, .inl rfl, by rw [← nm_whole (l ++ envS op s t i)]; simp only [envS, h3, h5, h6, hi]; rfl⟩, rfl⟩
    · refine ⟨fun _ => ?_, fun h6' => by simp_all⟩
      refine ⟨_, retN (and91 (g := g + 2) (nm_retag l) (by omega)), ?_⟩
      refine ⟨_, retN (and91 (g := 0) (nm_retag _) (by simp; omega)), ?_⟩
      refine ⟨W _, ?_⟩
      exact ⟨⟨0, .inl rfl, by rw [← nm_whole (l ++ envS op s t i)]; simp only [envS, h3, h5, h6, hi]; simp; rfl⟩, rfl⟩
  · refine ⟨fun h6' => by simp_all, fun h6' => ?_⟩
    exact ⟨⟨g + 2, .inr rfl, by simp only [envS, h3, h5, h6]; simp; rfl⟩, rfl⟩

theorem binds74 {op n : Int} {s t : Nm} {ks : List Co} {us : List TU} {i : Nat} (h : Rd (.mk op n s t ks) us) :
    RT 49 [xc us, xi i] [] = some (xl 0 1 (envS op s t i).length (nm (envS op s t i)), []) := by
  obtain ⟨g, cs, rfl, h⟩ := h
  refine fn_is (fn := Tryd.f49) rfl rfl rfl rfl ?_
  refine ⟨fun h3 => ?_, fun h3 => ?_⟩
  · refine ⟨Nat.le_refl _, ?_⟩
    exact ⟨by simp only [envS, h3, Bool.true_or, if_true]; rfl, rfl⟩
  refine ⟨fun h5 => ?_, fun h5 => ?_⟩
  · refine ⟨fun hi => ?_, fun hi => ?_⟩
    · refine ⟨Nat.le_refl _, ?_⟩
      exact ⟨by simp only [envS, h3, h5, hi]; rfl, rfl⟩
    · have := eq_of_beq h5
      subst this
      refine ⟨fun h6 => by simp_all, fun h6 => ?_⟩
      refine ⟨fun h6' => by simp_all, fun h6' => ?_⟩
      refine ⟨Nat.le_refl _, ?_⟩
      exact ⟨by simp only [envS, hi]; rfl, rfl⟩
  refine ⟨fun h6 => ?_, fun h6 => ?_⟩
  · refine ⟨fun hi => ?_, fun hi => ?_⟩
    · refine ⟨Nat.le_refl _, ?_⟩
      exact ⟨by simp only [envS, h3, h5, h6, hi]; rfl, rfl⟩
    · refine ⟨fun _ => ?_, fun h6' => by simp_all⟩
      refine ⟨Nat.le_refl _, ?_⟩
      exact ⟨by simp only [envS, h3, h5, h6, hi]; rfl, rfl⟩
  · refine ⟨fun h6' => by simp_all, fun h6' => ?_⟩
    refine ⟨Nat.le_refl _, ?_⟩
    exact ⟨by simp only [envS, h3, h5, h6]; rfl, rfl⟩
end Go.Proofs.YtlkjnlfddadlmaaDoor.V

namespace Go.Proofs.YtlkjnlfddadlmaaDoor.V
set_option maxRecDepth 100000

def cond1 (b : Bool) (s : Nm) : List Nm := if b then [s] else []

mutual
def frC : List Nm → Co → List Nm
  | env, .mk op _ s t ks => cond1 (op == 2 && !env.contains s) s ++ frL op s t env 0 ks
def frL (op : Int) (s t : Nm) (env : List Nm) : Nat → List Co → List Nm
  | _, [] => []
  | i, c :: l => frC (env ++ envS op s t i) c ++ frL op s t env (i + 1) l
end

theorem retD {g : Nat} {xs : List XU} {n : Nat} {k : Nat} {l : List Nm} (h : RT g xs [] = some (xl (k + 2) 1 n (nm l), [])) : Ret RT g xs (xl (k + 1) 1 n (nm l)) := ⟨_, h, by simp only [downX, downC, down, nm_down, Option.map_some]; rfl⟩

theorem retEnv {g k : Nat} {xs : List XU} {n : Nat} {l : List Nm} (h : ∃ y, (∃ g', (g' = 0 ∨ g' = k + 2) ∧ y = xl g' 1 n (nm l)) ∧ RT g xs [] = some (y, [])) : ∃ g', Ret RT g xs (xl g' 1 n (nm l)) := by
  obtain ⟨y, ⟨g', h1, rfl⟩, h2⟩ := h
  rcases h1 with rfl | rfl
  · exact ⟨0, retN h2⟩
  · exact ⟨k + 1, retD h2⟩

theorem envS_le {op : Int} {s t : Nm} {i : Nat} : (envS op s t i).length ≤ 2 := by
  unfold envS; split
  · simp
  · split <;> simp

theorem szCs_mem1 : ∀ {ks : List Co} {c : Co}, c ∈ ks → szCs ks ≥ 1 + szC c
  | x :: ks, c, h => by
    simp only [szCs]
    rcases List.mem_cons.1 h with rfl | h
    · omega
    · have := szCs_mem1 h; omega

theorem bit_le (b : Bool) : bit b ≤ 1 := by unfold bit; split <;> omega

def S68 (c : Co) : Prop := ∀ us name env g cs, szC c ≤ 1048576 → env.length + 2 * szC c ≤ 4194304 → cs = nm env → Rd c us → RT 73 [xc us, xs name, xl (g + 1) 1 env.length cs] [] = some (xi ((frC env c).count name), [])

mutual
theorem frC_le : ∀ (env : List Nm) (c : Co), (frC env c).length ≤ szC c + 1
  | env, .mk op n s t ks => by
    have h := frL_le op s t env 0 ks
    have : (cond1 (op == 2 && !env.contains s) s).length ≤ 1 := by unfold cond1; split <;> simp
    simp only [frC, List.length_append, szC]; omega
theorem frL_le : ∀ (op : Int) (s t : Nm) (env : List Nm) (i : Nat) (l : List Co), (frL op s t env i l).length ≤ szCs l
  | op, s, t, env, i, [] => by simp [frL, szCs]
  | op, s, t, env, i, c :: l => by
    have h1 := frC_le (env ++ envS op s t i) c
    have h2 := frL_le op s t env (i + 1) l
    simp only [frL, List.length_append, szCs]; omega
end

theorem count_le {name : Nm} {l : List Nm} : l.count name ≤ l.length := List.count_le_length


theorem l68 {ks : List Co} {cs : List TU} {g g2 : Nat} {op n : Int} {s t name : List UInt8} {env : List Nm} {K : Ex → StA → Prop} (H : ∀ c ∈ ks, S68 c) (hz : szCs ks ≤ 1048576) (he : env.length + 2 * szCs ks ≤ 4194304) (hr : Rds ks cs) :
    ∀ (l : List Co) (i : Nat), ks.drop i = l → i ≤ ks.length → ∀ v : Nat, v + szCs l ≤ 4194304 →
    (∀ jk j, K (.exit 0) ⟨[(8, xi j), (7, xi ((v + (frL op s t env i l).count name : Nat) : Int)), (1, xs name), (2, xl (g2 + 1) 1 env.length (nm env)), (3, .box () ((core op n s t (g + 1) ks.length cs).map .t)), (6, xi 0)], jk, []⟩) →
    ∀ jk, sem cx0 73 RT (.loop (lp Tryd.f73 0)) ⟨[(8, xi i), (7, xi v), (1, xs name), (2, xl (g2 + 1) 1 env.length (nm env)), (3, .box () ((core op n s t (g + 1) ks.length cs).map .t)), (6, xi 0)], jk, []⟩ K := by
  have hk := szCs_le hz
  refine drop_ind ?_ ?_
  · intro v hv k1 jk
    refine loop_step cx0 _ RT [8, 7, 1, 2, 3, 6] ⟨fun h => (lt_no h (by omega)).elim, fun h => ?_⟩
    exact fun jk => k1 jk _
  · intro i c l hi hil ih v hv k1 jk
    have hm := List.mem_of_getElem? hi
    have hc := H c hm
    have hzc := szCs_mem hz hm
    cases c with
    | mk op' n' s' t' kk =>
    obtain ⟨g', cs', e1, e2⟩ := Rds_get hr hi
    refine loop_step cx0 _ RT [8, 7, 1, 2, 3, 6] ⟨fun h => ?_, fun h => (lt_yes h (by omega)).elim⟩
    refine ⟨⟨by omega, by omega⟩, ?_⟩
    refine ⟨op', n', s', t', g' + 1, kk.length, cs', ⟨e1, rfl⟩, ?_⟩
    have hel := envS_le (op := op) (s := s) (t := t) (i := i)
    have hz1 : szCs ks ≥ 1 + szC (.mk op' n' s' t' kk) := szCs_mem1 hm
    obtain ⟨g3, r1⟩ := retEnv (env84 (show Rd (.mk op n s t ks) (core op n s t (g + 2) ks.length (retags cs)) from ⟨_, _, rfl, hr.retag⟩) (nm_retag env) (by omega) (i := i) (g := g2))
    refine ⟨_, r1, ?_⟩
    have hc2 := hc (core op' n' s' t' (g' + 2) kk.length (retags cs')) name (env ++ envS op s t i) g3 _ hzc (by rw [List.length_append]; omega) (nm_retag _) ⟨_, _, rfl, e2.retag⟩
    refine ⟨_, retI hc2, ?_⟩
    intro jk
    have c1 := frC_le (env ++ envS op s t i) (.mk op' n' s' t' kk)
    have c2 := count_le (name := name) (l := frC (env ++ envS op s t i) (.mk op' n' s' t' kk))
    simp only [szCs] at hv
    rw [wrapS hil (by simp only [maxLen]; omega), wrap64 (by omega) (by omega)]
    rw [show (v : Int) + (((frC (env ++ envS op s t i) (.mk op' n' s' t' kk)).count name : Nat) : Int) = ((v + (frC (env ++ envS op s t i) (.mk op' n' s' t' kk)).count name : Nat) : Int) by omega]
    refine ih _ (by omega) (fun jk j => ?_) jk
    have := k1 jk j
    rwa [show v + (frL op s t env i (.mk op' n' s' t' kk :: l)).count name = v + (frC (env ++ envS op s t i) (.mk op' n' s' t' kk)).count name + (frL op s t env (i + 1) l).count name by simp only [frL, List.count_append]; omega] at this

theorem uses68 : ∀ c : Co, S68 c := by
  refine Co.ind fun op n s t ks ih => ?_
  intro us name env g cs hz he hcs hr
  subst hcs
  obtain ⟨g1, cs, rfl, hr⟩ := hr
  have hz' : szCs ks ≤ 1048576 := by simp only [szC] at hz; omega
  have he' : env.length + 2 * szCs ks ≤ 4194304 := by simp only [szC] at he; omega
  have fin : ∀ (b : Bool), b = (cond1 (op == 2 && !env.contains s) s).contains name → ∀ jk K, (∀ jk j, K (.exit 0) ⟨[(8, xi j), (7, xi (((frC env (.mk op n s t ks)).count name : Nat) : Int)), (1, xs name), (2, xl (g + 1) 1 env.length (nm env)), (3, .box () ((core op n s t (g1 + 1) ks.length cs).map .t)), (6, xi 0)], jk, []⟩) →
      sem cx0 73 RT (.loop (lp Tryd.f73 0)) ⟨[(8, xi (0 : Nat)), (7, xi ((bit b : Nat) : Int)), (1, xs name), (2, xl (g + 1) 1 env.length (nm env)), (3, .box () ((core op n s t (g1 + 1) ks.length cs).map .t)), (6, xi 0)], jk, []⟩ K := by
    intro b hb jk K k1
    have hbl := bit_le b
    refine l68 (g := g1) (op := op) (n := n) (s := s) (t := t) (name := name) ih hz' he' hr ks 0 rfl (by omega) (bit b) (by omega) (fun jk j => ?_) jk
    have := k1 jk j
    have e : (cond1 (op == 2 && !env.contains s) s).count name = bit b := by
      subst hb
      unfold cond1
      split
      · by_cases h : s = name
        · subst h; simp [bit]
        · have : ¬ name = s := fun h' => h h'.symm
          simp [bit, List.count_cons, h, this]
      · simp [bit]
    rwa [show (frC env (.mk op n s t ks)).count name = bit b + (frL op s t env 0 ks).count name by simp only [frC, List.count_append, e]] at this
  refine fn_is (fn := Tryd.f73) rfl rfl rfl rfl ?_
  refine ⟨fun h2 => ?_, fun h2 => ?_⟩
  · refine ⟨fun hn => ?_, fun hn => ?_⟩
    · refine ⟨_, retB (in83 (g := g + 1) (nm_retag env) (by simp only [maxLen]; omega)), ?_⟩
      refine ⟨_, retI (bit57 _), ?_⟩
      refine sem_in cx0 _ RT [8, 7, 1, 2, 3, 6] fun jk => ?_
      have hn := eq_of_beq hn
      refine fin (!env.contains name) (by subst hn; cases hc : env.contains s <;> simp_all [cond1]) _ _ (fun jk j => ?_)
      exact ⟨rfl, rfl⟩
    · refine ⟨_, retI (bit57 _), ?_⟩
      refine sem_in cx0 _ RT [8, 7, 1, 2, 3, 6] fun jk => ?_
      have hn : ¬ s = name := by simpa using hn
      refine fin false (by unfold cond1; split <;> simp [show ¬ name = s from fun h => hn h.symm]) _ _ (fun jk j => ?_)
      exact ⟨rfl, rfl⟩
  · refine ⟨_, retI (bit57 _), ?_⟩
    refine sem_in cx0 _ RT [8, 7, 1, 2, 3, 6] fun jk => ?_
    refine fin false (by simp [cond1, h2]) _ _ (fun jk j => ?_)
    exact ⟨rfl, rfl⟩

theorem uses40 {c : Co} {us : List TU} {name : Nm} (hz : szC c ≤ 1048576) (hr : Rd c us) : RT 54 [xc us, xs name] [] = some (xi ((frC [] c).count name), []) := by
  cases c with
  | mk op n s t ks =>
  obtain ⟨g, cs, rfl, hr⟩ := hr
  refine fn_is (fn := Tryd.f54) rfl rfl rfl rfl ?_
  refine ⟨_, retI (uses68 (.mk op n s t ks) (core op n s t (g + 2) ks.length (retags cs)) name [] 0 [] hz (by simp; omega) rfl ⟨_, _, rfl, hr.retag⟩), ?_⟩
  exact ⟨rfl, rfl⟩

theorem l87 {l : List Nm} {s : Nm} {g : Nat} {K : Ex → StA → Prop} (hk : l.length ≤ maxLen) : ∀ (r : List Nm) (i : Nat), l.drop i = r → i ≤ l.length →
    (∀ jk j, (r.contains s) = false → K (.exit 0) ⟨[(8, xi j), (7, xi l.length), (0, xl (g + 1) 1 l.length (nm l)), (1, xs s), (4, xi 0)], jk, []⟩) →
    (∀ jk j v, (r.contains s) = true → 0 ≤ v → K .ret ⟨[(8, xi j), (7, xi l.length), (0, xl (g + 1) 1 l.length (nm l)), (1, xs s), (4, xi v)], jk, []⟩) →
    ∀ jk, sem cx0 82 RT (.loop (lp Tryd.f82 0)) ⟨[(8, xi i), (7, xi l.length), (0, xl (g + 1) 1 l.length (nm l)), (1, xs s), (4, xi 0)], jk, []⟩ K := by
  refine drop_ind ?_ ?_
  · intro k1 k2 jk
    refine loop_step cx0 _ RT [8, 7, 0, 1, 4] ⟨fun h => (lt_no h (by omega)).elim, fun h => ?_⟩
    exact fun jk => k1 jk _ rfl
  · intro i o r hi hil ih k1 k2 jk
    refine loop_step cx0 _ RT [8, 7, 0, 1, 4] ⟨fun h => ?_, fun h => (lt_yes h (by omega)).elim⟩
    refine ⟨⟨by omega, by omega⟩, ?_⟩
    refine ⟨o, ⟨nm_at hi, rfl⟩, ?_⟩
    have e1 : (o :: r).contains s = ((s == o) || r.contains s) := List.contains_cons
    refine ⟨fun h => ?_, fun h => ?_⟩
    · exact fun jk => k2 jk _ _ (by rw [e1, h, Bool.true_or]) (by omega)
    · rw [e1, h, Bool.false_or] at k1 k2
      intro jk
      rw [wrapS hil hk]
      exact ih k1 k2 jk

theorem idx87 {l : List Nm} {s : Nm} {g : Nat} {cs : List TU} (hc : cs = nm l) (hk : l.length ≤ maxLen) : ∃ v : Int, decide (v ≥ 0) = l.contains s ∧ RT 82 [xl (g + 1) 1 l.length cs, xs s] [] = some (xi v, []) := by
  subst hc
  have : ∃ y, (∃ v : Int, decide (v ≥ 0) = l.contains s ∧ y = xi v) ∧ RT 82 [xl (g + 1) 1 l.length (nm l), xs s] [] = some (y, []) := by
    refine fn_ex (fn := Tryd.f82) rfl rfl rfl rfl ?_
    refine sem_in cx0 _ RT [8, 7, 0, 1, 4] fun jk => ?_
    refine l87 (g := g) (s := s) hk l 0 rfl (by omega) (fun jk i h => ?_) (fun jk i v h h0 => ?_) jk
    · exact ⟨⟨-1, by rw [h]; rfl, rfl⟩, rfl⟩
    · exact ⟨⟨v, by rw [h]; simpa using h0, rfl⟩, rfl⟩
  obtain ⟨y, ⟨v, h1, rfl⟩, h2⟩ := this
  exact ⟨v, h1, h2⟩

theorem con73 {l : List Nm} {s : Nm} {g : Nat} {cs : List TU} (hc : cs = nm l) (hk : l.length ≤ maxLen) : RT 70 [xl (g + 1) 1 l.length cs, xs s] [] = some (xb (l.contains s), []) := by
  subst hc
  refine fn_is (fn := Tryd.f70) rfl rfl rfl rfl ?_
  obtain ⟨v, h1, h2⟩ := idx87 (g := g + 1) (s := s) (nm_retag l) hk
  refine ⟨_, retI h2, ?_⟩
  exact ⟨by rw [← h1]; rfl, rfl⟩

theorem cat85 {l m : List Nm} {g h : Nat} {cs ds : List TU} (hc : cs = nm l) (hd : ds = nm m) (hk : l.length ≤ 4194304) (hk2 : m.length ≤ 4194304) : RT 48 [xl 1 1 2 [.sl () (g + 1) 1 l.length cs, .sl () (h + 1) 1 m.length ds]] [] = some (xl 0 1 (l ++ m).length (nm (l ++ m)), []) := by
  subst hc hd
  refine fn_is (fn := Tryd.f48) rfl rfl rfl rfl ?_
  have lt0 : ∀ {n : Int}, decide (n < 0) = true → 0 ≤ n → False := fun h h2 => by simp at h; omega
  have e1 : IntKind.wrap .i64 (0 + (l.length : Int)) = l.length := by rw [wrap64 (by omega) (by omega)]; omega
  have e2 : IntKind.wrap .i64 ((l.length : Int) + m.length) = ((l.length + m.length : Nat) : Int) := by rw [wrap64 (by omega) (by omega)]; omega
  refine sem_in cx0 _ RT [11, 10, 9, 3, 0, 2] fun jk => ?_
  refine loop_step cx0 _ RT [11, 10, 9, 3, 0, 2] ⟨fun h => ?_, fun h => by simp at h⟩
  refine ⟨⟨by omega, by omega⟩, ?_⟩
  refine ⟨_, _, _, ⟨rfl, rfl⟩, ?_⟩
  refine ⟨fun h => (lt0 h (by omega)).elim, fun h => ?_⟩
  intro jk
  rw [e1]
  refine loop_step cx0 _ RT [11, 10, 9, 3, 0, 2] ⟨fun h => ?_, fun h => absurd h (by decide)⟩
  refine ⟨⟨by decide, by decide⟩, ?_⟩
  refine ⟨_, _, _, ⟨rfl, rfl⟩, ?_⟩
  refine ⟨fun h => (lt0 h (by omega)).elim, fun h => ?_⟩
  intro jk
  rw [e2]
  refine loop_step cx0 _ RT [11, 10, 9, 3, 0, 2] ⟨fun h => absurd h (by decide), fun h => ?_⟩
  intro jk
  refine ⟨⟨by omega, by show ((l.length + m.length : Nat) : Int) * ((16 : Nat) : Int) ≤ _; omega, by simp only [maxLen]; omega⟩, ?_⟩
  refine sem_in cx0 _ RT [27, 26, 25, 6, 2] fun jk => ?_
  refine loop_step cx0 _ RT [27, 26, 25, 6, 2] ⟨fun h => ?_, fun h => absurd h (by decide)⟩
  refine ⟨⟨by decide, by decide⟩, ?_⟩
  refine ⟨_, _, _, ⟨rfl, rfl⟩, ?_⟩
  refine ⟨Nat.le_refl _, ?_⟩
  refine ⟨⟨by simp only [maxLen]; omega, by show (0 + l.length) * 16 ≤ _; omega⟩, ?_⟩
  intro jk
  refine loop_step cx0 _ RT [27, 26, 25, 6, 2] ⟨fun h => ?_, fun h => absurd h (by decide)⟩
  refine ⟨⟨by decide, by decide⟩, ?_⟩
  refine ⟨_, _, _, ⟨rfl, rfl⟩, ?_⟩
  refine ⟨by show 0 + (0 + l.length) * 1 ≤ (nm l).length; rw [nm_len]; omega, ?_⟩
  refine ⟨⟨by simp only [maxLen]; omega, by show (0 + l.length + m.length) * 16 ≤ _; omega⟩, ?_⟩
  intro jk
  refine loop_step cx0 _ RT [27, 26, 25, 6, 2] ⟨fun h => absurd h (by decide), fun h => ?_⟩
  intro jk
  have e := nm_put (l := l) (m := m)
  refine ⟨?_, ?_⟩
  · refine Nat.le_trans ?_ (Nat.le_of_eq (congrArg List.length e.symm))
    rw [nm_len, List.length_append]; show 0 + (0 + l.length + m.length) * 1 ≤ l.length + m.length; omega
  refine ⟨xl_eq (by simp) ?_, rfl⟩
  refine Eq.trans ?_ (congrArg (fun x => (List.drop 0 x).take ((0 + l.length + m.length) * 1)) e.symm)
  exact (take_all (by rw [nm_len, List.length_append]; omega)).symm

theorem o70 {s name : Nm} {v : Int} : RT 75 [xs s, .c (.ptr () (.ex 0) [] 0), .c (.ptr () (.ex 1) [] 0)] [[.t (.str name)], [.t (ii v)]] = some (.tup [], [[.t (.str name)], [.t (ii (if s == name then IntKind.wrap .i64 (v + 1) else v))]]) := by
  refine fn_isE (fn := Tryd.f75) rfl rfl rfl rfl ?_
  refine ⟨fun h => ?_, fun h => ?_⟩
  · exact ⟨rfl, by simp only [h, if_true]⟩
  · exact ⟨rfl, by simp only [h, Bool.false_eq_true, if_false]⟩

def foldN (name : Nm) (v : Int) (l : List Nm) : Int := l.foldl (fun v s => if s == name then IntKind.wrap .i64 (v + 1) else v) v

abbrev telU : XU := .c (.fn 75 [.ptr () (.ex 0) [] 0, .ptr () (.ex 1) [] 0])

def S69 (c : Co) : Prop := ∀ us name env g cs v, szC c ≤ 1048576 → env.length + 2 * szC c ≤ 4194304 → cs = nm env → Rd c us →
  RT 74 [xc us, xl (g + 1) 1 env.length cs, telU] [[.t (.str name)], [.t (ii v)]] = some (.tup [], [[.t (.str name)], [.t (ii (foldN name v (frC env c)))]])

theorem l69 {ks : List Co} {cs : List TU} {g g2 : Nat} {op n : Int} {s t name : List UInt8} {env : List Nm} {K : Ex → StA → Prop} (H : ∀ c ∈ ks, S69 c) (hz : szCs ks ≤ 1048576) (he : env.length + 2 * szCs ks ≤ 4194304) (hr : Rds ks cs) :
    ∀ (l : List Co) (i : Nat), ks.drop i = l → i ≤ ks.length → ∀ v : Int,
    (∀ jk j, K (.exit 0) ⟨[(25, xi j), (24, xi ks.length), (23, xl (g + 1) 5 ks.length cs), (1, xl (g2 + 1) 1 env.length (nm env)), (2, telU), (3, .box () ((core op n s t (g + 1) ks.length cs).map .t))], jk, [[.t (.str name)], [.t (ii (foldN name v (frL op s t env i l)))]]⟩) →
    ∀ jk, sem cx0 74 RT (.loop (lp Tryd.f74 0)) ⟨[(25, xi i), (24, xi ks.length), (23, xl (g + 1) 5 ks.length cs), (1, xl (g2 + 1) 1 env.length (nm env)), (2, telU), (3, .box () ((core op n s t (g + 1) ks.length cs).map .t))], jk, [[.t (.str name)], [.t (ii v)]]⟩ K := by
  have hk := szCs_le hz
  refine drop_ind ?_ ?_
  · intro v k1 jk
    refine loop_step cx0 _ RT [25, 24, 23, 1, 2, 3] ⟨fun h => (lt_no h (by omega)).elim, fun h => ?_⟩
    exact fun jk => k1 jk _
  · intro i c l hi hil ih v k1 jk
    have hm := List.mem_of_getElem? hi
    have hc := H c hm
    have hzc := szCs_mem hz hm
    have hel := envS_le (op := op) (s := s) (t := t) (i := i)
    have hz1 := szCs_mem1 hm
    cases c with
    | mk op' n' s' t' kk =>
    obtain ⟨g', cs', e1, e2⟩ := Rds_get hr hi
    refine loop_step cx0 _ RT [25, 24, 23, 1, 2, 3] ⟨fun h => ?_, fun h => (lt_yes h (by omega)).elim⟩
    refine ⟨⟨by omega, by omega⟩, ?_⟩
    refine ⟨op', n', s', t', g' + 1, kk.length, cs', ⟨e1, rfl⟩, ?_⟩
    refine ⟨_, retN (binds74 (show Rd (.mk op n s t ks) (core op n s t (g + 2) ks.length (retags cs)) from ⟨_, _, rfl, hr.retag⟩)), ?_⟩
    refine ⟨_, retN (cat85 (g := g2 + 1) (h := 0) (nm_retag env) (nm_retag (envS op s t i)) (by omega) (by omega)), ?_⟩
    have hc2 := hc (core op' n' s' t' (g' + 2) kk.length (retags cs')) name (env ++ envS op s t i) 0 _ v hzc (by rw [List.length_append]; omega) (nm_retag _) ⟨_, _, rfl, e2.retag⟩
    refine ⟨_, _, ⟨_, hc2, rfl, rfl⟩, ?_⟩
    intro jk
    rw [wrapS hil (by simp only [maxLen]; omega)]
    refine ih _ (fun jk j => ?_) jk
    have := k1 jk j
    rwa [show foldN name v (frL op s t env i (.mk op' n' s' t' kk :: l)) = foldN name (foldN name v (frC (env ++ envS op s t i) (.mk op' n' s' t' kk))) (frL op s t env (i + 1) l) by simp only [frL, foldN, List.foldl_append]] at this

theorem each69 : ∀ c : Co, S69 c := by
  refine Co.ind fun op n s t ks ih => ?_
  intro us name env g cs v hz he hcs hr
  subst hcs
  obtain ⟨g1, cs, rfl, hr⟩ := hr
  have hz' : szCs ks ≤ 1048576 := by simp only [szC] at hz; omega
  have he' : env.length + 2 * szCs ks ≤ 4194304 := by simp only [szC] at he; omega
  have fin : ∀ (b : Bool), b = (op == 2 && !env.contains s) → ∀ jk K, (∀ jk j, K (.exit 0) ⟨[(25, xi j), (24, xi ks.length), (23, xl (g1 + 1) 5 ks.length cs), (1, xl (g + 1) 1 env.length (nm env)), (2, telU), (3, .box () ((core op n s t (g1 + 1) ks.length cs).map .t))], jk, [[.t (.str name)], [.t (ii (foldN name v (frC env (.mk op n s t ks))))]]⟩) →
      sem cx0 74 RT (.loop (lp Tryd.f74 0)) ⟨[(25, xi (0 : Nat)), (24, xi ks.length), (23, xl (g1 + 1) 5 ks.length cs), (1, xl (g + 1) 1 env.length (nm env)), (2, telU), (3, .box () ((core op n s t (g1 + 1) ks.length cs).map .t))], jk, [[.t (.str name)], [.t (ii (foldN name v (cond1 b s)))]]⟩ K := by
    intro b hb jk K k1
    subst hb
    refine l69 (g := g1) (op := op) (n := n) (s := s) (t := t) (name := name) ih hz' he' hr ks 0 rfl (by omega) _ (fun jk j => ?_) jk
    have := k1 jk j
    rwa [show foldN name v (frC env (.mk op n s t ks)) = foldN name (foldN name v (cond1 (op == 2 && !env.contains s) s)) (frL op s t env 0 ks) by simp only [frC, foldN, List.foldl_append]] at this
  refine fn_isE (fn := Tryd.f74) rfl rfl rfl rfl ?_
  refine ⟨fun h2 => ?_, fun h2 => ?_⟩
  · refine ⟨_, retB (con73 (g := g + 1) (nm_retag env) (by simp only [maxLen]; omega)), ?_⟩
    refine ⟨fun hb => ?_, fun hb => ?_⟩
    · refine ⟨_, _, ⟨_, o70, rfl, rfl⟩, ?_⟩
      refine sem_in cx0 _ RT [25, 24, 23, 1, 2, 3] fun jk => ?_
      refine fin true (by rw [h2, hb]; rfl) _ _ (fun jk j => ?_)
      exact ⟨rfl, rfl⟩
    · refine sem_in cx0 _ RT [25, 24, 23, 1, 2, 3] fun jk => ?_
      refine fin false (by rw [h2, hb]; rfl) _ _ (fun jk j => ?_)
      exact ⟨rfl, rfl⟩
  · refine sem_in cx0 _ RT [25, 24, 23, 1, 2, 3] fun jk => ?_
    refine fin false (by rw [h2]; rfl) _ _ (fun jk j => ?_)
    exact ⟨rfl, rfl⟩

theorem foldN_eq {name : Nm} : ∀ {l : List Nm} {v : Nat}, v + l.length ≤ 4194304 → foldN name v l = ((v + l.count name : Nat) : Int)
  | [], v, _ => rfl
  | s :: l, v, h => by
    simp only [List.length_cons] at h
    have ih := fun v => foldN_eq (name := name) (l := l) (v := v)
    simp only [foldN, List.foldl_cons, List.count_cons] at ih ⊢
    cases hs : s == name
    · have := ih v (by omega)
      simpa using this
    · have := ih (v + 1) (by omega)
      rw [if_pos rfl, if_pos rfl, wrap64 (by omega) (by omega)]
      rw [show ((v : Int) + 1) = ((v + 1 : Nat) : Int) by omega, this]
      omega

theorem uses41 {c : Co} {us : List TU} {name : Nm} (hz : szC c ≤ 1048576) (hr : Rd c us) : RT 58 [xc us, xs name] [] = some (xi ((frC [] c).count name), []) := by
  have hle := frC_le [] c
  cases c with
  | mk op n s t ks =>
  obtain ⟨g, cs, rfl, hr⟩ := hr
  refine fn_is (fn := Tryd.f58) rfl rfl rfl rfl ?_
  refine ⟨_, _, ⟨_, each69 (.mk op n s t ks) (core op n s t (g + 2) ks.length (retags cs)) name [] 0 _ 0 hz (by simp; omega) rfl ⟨_, _, rfl, hr.retag⟩, rfl, rfl⟩, ?_⟩
  refine ⟨?_, rfl⟩
  have := foldN_eq (name := name) (l := frC [] (.mk op n s t ks)) (v := 0) (by omega)
  rw [show ((0 : Nat) : Int) = 0 from rfl, Nat.zero_add] at this
  rw [← this]; rfl
end Go.Proofs.YtlkjnlfddadlmaaDoor.V

namespace Go.Proofs.YtlkjnlfddadlmaaDoor.V
set_option maxRecDepth 100000

def dgs : Nat → Nat → List UInt8 → List UInt8
  | 0, _, out => out
  | m + 1, k, out => if k = 0 then out else dgs m (k / 10) ((48 + k % 10).toUInt8 :: out)

def mtx (k : Int) : List UInt8 := if k ≤ 0 then [109, 48] else 109 :: dgs 20 k.toNat []

theorem dgs_len : ∀ (m k : Nat) (out : List UInt8), (dgs m k out).length ≤ out.length + m
  | 0, _, out => by simp [dgs]
  | m + 1, k, out => by
    simp only [dgs]
    split
    · omega
    · have := dgs_len m (k / 10) ((48 + k % 10).toUInt8 :: out)
      simp only [List.length_cons] at this
      omega

theorem dgs_step {m k : Nat} {out : List UInt8} (h : 0 < k) : dgs (m + 1) k out = dgs m (k / 10) ((48 + k % 10).toUInt8 :: out) := by
  simp only [dgs, if_neg (show ¬ k = 0 by omega)]

theorem wrap8 {n : Nat} (h : n < 256) : IntKind.wrap .u8 (n : Int) = n := by
  have e1 : IntKind.wrap .u8 (n : Int) = (n : Int) % 256 := by unfold IntKind.wrap; rfl
  omega

theorem l78 {K : Ex → StA → Prop} : ∀ (m k : Nat) (out : List UInt8), k < 10 ^ m → k < 9223372036854775808 → out.length + m ≤ 40 →
    (∀ jk, K (.exit 0) ⟨[(0, xi 0), (3, xs (dgs m k out)), (2, xs [])], jk, []⟩) →
    ∀ jk, sem cx0 50 RT (.loop (lp Tryd.f50 0)) ⟨[(0, xi k), (3, xs out), (2, xs [])], jk, []⟩ K
  | m, k, out, hk, h63, hl, k1, jk => by
    refine loop_step cx0 _ RT [0, 3, 2] ⟨fun h => ?_, fun h => ?_⟩
    · refine ⟨by decide, ?_⟩
      refine ⟨_, rfl, ?_⟩
      refine ⟨by simp only [List.length_cons, List.length_nil, maxLen]; omega, ?_⟩
      refine ⟨by decide, ?_⟩
      have h0 : 0 < k := by simp at h; omega
      cases m with
      | zero => simp at hk; omega
      | succ m =>
      intro jk
      rw [dgs_step h0] at k1
      have e1 : IntKind.wrap .i64 ((k : Int).tdiv 10) = ((k / 10 : Nat) : Int) := by
        rw [show (k : Int).tdiv 10 = ((k / 10 : Nat) : Int) by rw [Int.tdiv_eq_ediv_of_nonneg (by omega)]; omega]
        exact wrap64 (by omega) (by omega)
      have e2 : (IntKind.wrap .u8 (IntKind.wrap .i64 (48 + (k : Int).tmod 10))).toNat.toUInt8 = (48 + k % 10).toUInt8 := by
        rw [show (48 + (k : Int).tmod 10) = ((48 + k % 10 : Nat) : Int) by rw [Int.tmod_eq_emod_of_nonneg (by omega)]; omega, wrap64 (by omega) (by omega), wrap8 (by omega)]
        rfl
      have ih := l78 m (k / 10) ((48 + k % 10).toUInt8 :: out) (by rw [Nat.pow_succ] at hk; omega) (by omega) (by simp only [List.length_cons]; omega) k1 jk
      rw [← e1, ← e2] at ih
      exact ih
    · have h : k = 0 := by simp at h; omega
      subst h
      intro jk
      have := k1 jk
      cases m <;> exact this

theorem mt78 {k : Int} (h63 : k < 9223372036854775808) : RT 50 [xi k] [] = some (xs (mtx k), []) := by
  refine fn_is (fn := Tryd.f50) rfl rfl rfl rfl ?_
  refine ⟨fun h => ?_, fun h => ?_⟩
  · have h := of_decide_eq_true h
    exact ⟨by simp only [mtx, if_pos h]; rfl, rfl⟩
  · have h := of_decide_eq_false h
    refine sem_in cx0 _ RT [0, 3, 2] fun jk => ?_
    rw [show k = ((k.toNat : Nat) : Int) by omega]
    refine l78 20 k.toNat [] (by have : (10 : Nat) ^ 20 = 100000000000000000000 := rfl; omega) (by omega) (by simp) (fun jk => ?_) jk
    have := dgs_len 20 k.toNat []
    refine ⟨by simp only [List.length_cons, List.length_nil] at this ⊢; simp only [maxLen]; omega, ?_⟩
    refine ⟨?_, rfl⟩
    simp only [mtx, if_neg (show ¬ ((k.toNat : Nat) : Int) ≤ 0 by omega), Int.toNat_natCast]
    rfl

end Go.Proofs.YtlkjnlfddadlmaaDoor.V

namespace Go.Proofs.YtlkjnlfddadlmaaDoor.V
set_option maxRecDepth 100000

mutual
def szM : Co → Nat
  | .mk _ _ _ _ ks => 4 + szMs ks
def szMs : List Co → Nat
  | [] => 0
  | c :: l => szM c + szMs l
end
mutual
def mkC : Co → Int → Co
  | .mk _ _ _ _ ks, k => .mk k (k + 1) (mtx (k + 2)) (mtx (k + 3)) (mkCs ks (k + 4))
def mkCs : List Co → Int → List Co
  | [], _ => []
  | c :: l, k => mkC c k :: mkCs l (k + szM c)
end

theorem mkCs_len : ∀ (l : List Co) (k : Int), (mkCs l k).length = l.length
  | [], _ => rfl
  | c :: l, k => by simp only [mkCs, List.length_cons, mkCs_len l]

mutual
theorem szM_le : ∀ c : Co, szM c ≤ 4 + 4 * szC c
  | .mk op n s t ks => by
    have := szMs_le ks
    simp only [szM, szC]; omega
theorem szMs_le : ∀ l : List Co, szMs l ≤ 4 * szCs l
  | [] => by simp [szMs]
  | c :: l => by
    have h1 := szM_le c
    have h2 := szMs_le l
    simp only [szMs, szCs]; omega
end

theorem putL {α : Type} {A B ts : List α} {a j m : Nat} (h : A.length = a) : (A ++ B).take (a + j) ++ ts ++ (A ++ B).drop (a + j + m) = A ++ (B.take j ++ ts ++ B.drop (j + m)) := by
  subst h
  rw [List.take_length_add_append, Nat.add_assoc, List.drop_length_add_append, List.append_assoc, List.append_assoc, List.append_assoc]

def S67 (ks : List Co) : Prop := ∀ k : Int, 0 ≤ k → k + szMs ks < 1152921504606846976 → ks.length ≤ maxLen →
  RT 29 [.c (.bor () (.ex 0) [] 0 0 5 ks.length), xi k] [[.t (.sl () 0 5 ks.length (encs ks))]] = some (xi (k + szMs ks), [[.t (.sl () 0 5 ks.length (encs (mkCs ks k)))]])

abbrev st67 (n i : Nat) (k : Int) (jk : Nat → XU) (cs : List TU) : StA := ⟨[(5, xi i), (1, xi k), (0, .c (.bor () (.ex 0) [] 0 0 5 n)), (4, xi 0)], jk, [[.t (.sl () 0 5 n cs)]]⟩

theorem put67 {p : Nat} {A B ts B' : List TU} {j : Nat} (hp : A.length = p * 5) (h : B.take j ++ ts ++ B.drop (j + ts.length) = B') :
    List.take (0 + (p : Int).toNat * 5 + j) (A ++ B) ++ ts ++ List.drop (0 + (p : Int).toNat * 5 + j + ts.length) (A ++ B) = A ++ B' := by
  rw [← h, Nat.zero_add]
  exact putL hp

theorem len67 {p : Nat} {A B : List TU} {j m : Nat} (hp : A.length = p * 5) (h : j + m ≤ B.length) : 0 + (p : Int).toNat * 5 + j + m ≤ (A ++ B).length := by
  rw [List.length_append, hp]
  show 0 + p * 5 + j + m ≤ _
  omega

theorem at67 {p : Nat} {A B : List TU} {j : Nat} (hp : A.length = p * 5) : List.drop (0 + (p : Int).toNat * 5 + j) (A ++ B) = B.drop j := by
  rw [Nat.zero_add]
  show List.drop (p * 5 + j) (A ++ B) = _
  rw [← hp, List.drop_length_add_append]

theorem ge67 {p : Nat} {A B : List TU} {j : Nat} (hp : A.length = p * 5) : (A ++ B)[0 + (p : Int).toNat * 5 + j]? = B[j]? := by
  rw [Nat.zero_add]
  show (A ++ B)[p * 5 + j]? = _
  rw [← hp, List.getElem?_append_right (by omega), Nat.add_sub_cancel_left]

theorem set67 {p : Nat} {A B : List TU} {j : Nat} {x : TU} (hp : A.length = p * 5) : (A ++ B).set (0 + (p : Int).toNat * 5 + j) x = A ++ B.set j x := by
  rw [Nat.zero_add]
  show (A ++ B).set (p * 5 + j) x = _
  rw [← hp, List.set_append_right _ _ (by omega), Nat.add_sub_cancel_left]

mutual
theorem enc_ups : ∀ (c : Co), ups (enc c) = enc c
  | .mk op n s t ks => by simp only [enc, ups, up, encs_ups ks]; rfl
theorem encs_ups : ∀ (l : List Co), ups (encs l) = encs l
  | [] => by simp only [encs, ups]
  | c :: l => by
    have : ∀ (a b : List TU), ups (a ++ b) = ups a ++ ups b := by
      intro a b
      induction a with
      | nil => rfl
      | cons x a ih => simp only [List.cons_append, ups, ih]
    simp only [encs, this, enc_ups c, encs_ups l]
end

theorem retM {g : Nat} {xs : List XU} {n : Int} {m : Nat} {l : List Co} {es : List TU} {q : Nat} (h : RT g xs [[.t (.sl () 0 5 q es)]] = some (xi n, [[.t (.sl () 0 5 m (encs l))]])) : RetE RT g xs [[.t (.sl () 0 5 q es)]] (xi n) [[.t (.sl () 0 5 m (encs l))]] := by
  refine ⟨_, h, rfl, ?_⟩
  simp only [List.mapM_cons, List.mapM_nil, downCs, downC, down, encs_down, Option.map_some, Option.bind_some]
  rfl

set_option maxHeartbeats 4000000 in
theorem l67 {n : Nat} {K : Ex → StA → Prop} (hn : n ≤ maxLen) : ∀ (l pre : List Co) (k : Int), (∀ op n s t ks, Co.mk op n s t ks ∈ l → S67 ks) → Wfs l → pre.length + l.length = n → 0 ≤ k → k + szMs l < 1152921504606846976 →
    (∀ jk, K (.exit 0) (st67 n n (k + szMs l) jk (encs (pre ++ mkCs l k)))) →
    ∀ jk, sem cx0 29 RT (.loop (lp Tryd.f29 0)) (st67 n pre.length k jk (encs pre ++ encs l)) K := by
  intro l
  induction l with
  | nil =>
    intro pre k _ _ hl h0 hk k1 jk
    simp only [List.length_nil, Nat.add_zero] at hl
    refine loop_step cx0 _ RT [5, 1, 0, 4] ⟨fun h => (lt_no h (by omega)).elim, fun h => ?_⟩
    intro jk
    have := k1 jk
    simp only [szMs, mkCs, Int.natCast_zero, Int.add_zero, List.append_nil] at this
    show K _ (st67 n pre.length k jk (encs pre ++ encs []))
    rw [← hl] at this ⊢
    simp only [encs, List.append_nil]
    exact this
  | cons c l ih =>
    intro pre k H hw hl h0 hk k1 jk
    cases c with
    | mk op n' s t ks =>
    have hs := H _ _ _ _ _ List.mem_cons_self
    have e0 : szMs (.mk op n' s t ks :: l) = 4 + szMs ks + szMs l := rfl
    rw [e0] at hk
    simp only [List.length_cons] at hl
    have hp := encs_len pre
    refine loop_step cx0 _ RT [5, 1, 0, 4] ⟨fun h => ?_, fun h => (lt_yes h (by omega)).elim⟩
    refine ⟨⟨by omega, by omega⟩, ?_⟩
    refine ⟨len67 hp (by simp [encs, enc]), ?_⟩
    rw [put67 (B := encs (.mk op n' s t ks :: l)) (ts := [.int .i64 k]) (j := 0) (B' := .int .i64 k :: .int .i64 n' :: .str s :: .str t :: .sl () 0 5 ks.length (encs ks) :: encs l) hp rfl]
    intro jk
    refine ⟨⟨by omega, by omega⟩, ?_⟩
    refine ⟨len67 hp (by simp), ?_⟩
    rw [wrap64 (n := k + 1) (by omega) (by omega)]
    rw [put67 (B := .int .i64 k :: .int .i64 n' :: .str s :: .str t :: .sl () 0 5 ks.length (encs ks) :: encs l) (ts := [.int .i64 (k + 1)]) (j := 1) (B' := .int .i64 k :: .int .i64 (k + 1) :: .str s :: .str t :: .sl () 0 5 ks.length (encs ks) :: encs l) hp rfl]
    intro jk
    have a2 := mt78 (k := k + 2) (by omega)
    have a3 := mt78 (k := k + 3) (by omega)
    obtain ⟨x2, hx2⟩ : ∃ x, mtx (k + 2) = x := ⟨_, rfl⟩
    obtain ⟨x3, hx3⟩ : ∃ x, mtx (k + 3) = x := ⟨_, rfl⟩
    rw [hx2] at a2
    rw [hx3] at a3
    have w2 : IntKind.wrap .i64 (k + 1 + 1) = k + 2 := by rw [wrap64 (by omega) (by omega)]; omega
    have w3 : IntKind.wrap .i64 (k + 2 + 1) = k + 3 := by rw [wrap64 (by omega) (by omega)]; omega
    have w4 : IntKind.wrap .i64 (k + 3 + 1) = k + 4 := by rw [wrap64 (by omega) (by omega)]; omega
    refine ⟨_, ⟨_, by rw [w2]; exact a2, rfl⟩, ?_⟩
    refine ⟨⟨by omega, by omega⟩, ?_⟩
    refine ⟨len67 hp (by simp), ?_⟩
    rw [w2, put67 (B := .int .i64 k :: .int .i64 (k + 1) :: .str s :: .str t :: .sl () 0 5 ks.length (encs ks) :: encs l) (ts := [.str x2]) (j := 2) (B' := .int .i64 k :: .int .i64 (k + 1) :: .str x2 :: .str t :: .sl () 0 5 ks.length (encs ks) :: encs l) hp rfl]
    intro jk
    refine ⟨_, ⟨_, by rw [w3]; exact a3, rfl⟩, ?_⟩
    refine ⟨⟨by omega, by omega⟩, ?_⟩
    refine ⟨len67 hp (by simp), ?_⟩
    rw [w3, put67 (B := .int .i64 k :: .int .i64 (k + 1) :: .str x2 :: .str t :: .sl () 0 5 ks.length (encs ks) :: encs l) (ts := [.str x3]) (j := 3) (B' := .int .i64 k :: .int .i64 (k + 1) :: .str x2 :: .str x3 :: .sl () 0 5 ks.length (encs ks) :: encs l) hp rfl]
    intro jk
    refine ⟨⟨by omega, by omega⟩, ?_⟩
    refine ⟨0, ks.length, encs ks, ?_⟩
    refine ⟨⟨by rw [at67 hp]; rfl, rfl⟩, ?_⟩
    refine ⟨5, ks.length, encs ks, ?_⟩
    refine ⟨by rw [ge67 hp]; rfl, ?_⟩
    rw [set67 hp]
    intro jk
    refine ⟨_, _, retM (by rw [w4, encs_ups]; exact hs (k + 4) (by omega) (by omega) (by simp only [Wfs, Wf] at hw; exact hw.1.2.2.2.2.1)), ?_⟩
    refine ⟨by rw [ge67 hp]; rfl, ?_⟩
    rw [set67 hp]
    intro jk
    have ih := ih (pre ++ [.mk k (k + 1) (mtx (k + 2)) (mtx (k + 3)) (mkCs ks (k + 4))]) (k + 4 + szMs ks) (fun op n s t ks h => H op n s t ks (List.mem_cons_of_mem _ h)) (by simp only [Wfs] at hw; exact hw.2) (by simp; omega) (by omega) (by omega) (fun jk => by
      have := k1 jk
      rw [e0] at this
      simp only [mkCs, mkC, szM] at this
      rw [List.append_assoc, show k + 4 + (szMs ks : Int) + szMs l = k + ((4 + szMs ks + szMs l : Nat) : Int) by omega, show k + 4 + (szMs ks : Int) = k + ((4 + szMs ks : Nat) : Int) by omega]
      exact this) jk
    rw [encs_append, List.length_append, hx2, hx3] at ih
    simp only [encs, enc, mkCs_len, List.append_nil, List.append_assoc] at ih
    rw [wrapS (show pre.length < n by omega) hn]
    exact ih

theorem mark67 : ∀ c : Co, (match c with | .mk _ _ _ _ ks => Wfs ks → S67 ks) := by
  refine Co.ind fun op n s t ks ih => ?_
  intro hw k h0 hk hl
  refine fn_isE (fn := Tryd.f29) rfl rfl rfl rfl ?_
  refine sem_in cx0 _ RT [5, 1, 0, 4] fun jk => ?_
  refine l67 hl ks [] k (fun op n s t kk h => ih _ h ?_) hw (by simp) h0 hk (fun jk => ?_) jk
  · have := Wfs_iff.1 hw _ h
    simp only [Wf] at this
    exact this.2.2.2.2.2
  · exact ⟨rfl, rfl⟩

theorem Rds_rest {l : List Co} {cs : List TU} {i : Nat} {op n : Int} {s t : List UInt8} {ks : List Co} (h : Rds l cs) (hi : l[i]? = some (.mk op n s t ks)) :
    ∃ g cs' r, cs.drop (i * 5) = .int .i64 op :: .int .i64 n :: .str s :: .str t :: .sl () (g + 1) 5 ks.length cs' :: r ∧ Rds ks cs' := by
  obtain ⟨g, cs', h1, h2⟩ := Rds_get h hi
  refine ⟨g, cs', (cs.drop (i * 5)).drop 5, ?_, h2⟩
  have := List.take_append_drop 5 (cs.drop (i * 5))
  rw [h1] at this
  exact this.symm

def S75 (ks : List Co) : Prop := ∀ (k : Int) g cs, 0 ≤ k → k + szMs ks < 1152921504606846976 → ks.length ≤ maxLen → Rds (mkCs ks k) cs →
  RT 30 [xl (g + 1) 5 ks.length cs, xi k] [] = some (xi (k + szMs ks), [])

set_option maxHeartbeats 4000000 in
theorem l75 {n g : Nat} {M : List Co} {cs : List TU} {K : Ex → StA → Prop} (hn : n ≤ maxLen) (hr : Rds M cs) (hM : M.length = n) : ∀ (l : List Co) (i : Nat) (k : Int), (∀ op n s t ks, Co.mk op n s t ks ∈ l → S75 ks) → Wfs l → M.drop i = mkCs l k → i + l.length = n → 0 ≤ k → k + szMs l < 1152921504606846976 →
    (∀ jk, K (.exit 0) ⟨[(5, xi n), (1, xi (k + szMs l)), (0, xl (g + 1) 5 n cs), (4, xi 0)], jk, []⟩) →
    ∀ jk, sem cx0 30 RT (.loop (lp Tryd.f30 0)) ⟨[(5, xi i), (1, xi k), (0, xl (g + 1) 5 n cs), (4, xi 0)], jk, []⟩ K := by
  intro l
  induction l with
  | nil =>
    intro i k _ _ _ hl h0 hk k1 jk
    simp only [List.length_nil, Nat.add_zero] at hl
    subst hl
    refine loop_step cx0 _ RT [5, 1, 0, 4] ⟨fun h => (lt_no h (by omega)).elim, fun h => ?_⟩
    intro jk
    have := k1 jk
    simp only [szMs, Int.natCast_zero, Int.add_zero] at this
    exact this
  | cons c l ih =>
    intro i k H hw hd hl h0 hk k1 jk
    cases c with
    | mk op n' s t ks =>
    have hs := H _ _ _ _ _ List.mem_cons_self
    have e0 : szMs (.mk op n' s t ks :: l) = 4 + szMs ks + szMs l := rfl
    rw [e0] at hk
    simp only [List.length_cons] at hl
    have hi : M[i]? = some (.mk k (k + 1) (mtx (k + 2)) (mtx (k + 3)) (mkCs ks (k + 4))) := by
      have := congrArg (·[0]?) hd
      simpa [mkCs, mkC] using this
    have hd2 : M.drop (i + 1) = mkCs l (k + ((4 + szMs ks : Nat) : Int)) := by
      rw [← List.drop_drop, hd]; rfl
    obtain ⟨g', cs', r, e1, e2⟩ := Rds_rest hr hi
    have a2 := mt78 (k := k + 2) (by omega)
    have a3 := mt78 (k := k + 3) (by omega)
    generalize mtx (k + 2) = x2 at a2 e1
    generalize mtx (k + 3) = x3 at a3 e1
    have w1 : IntKind.wrap .i64 (k + 1) = k + 1 := wrap64 (by omega) (by omega)
    have w2 : IntKind.wrap .i64 (k + 1 + 1) = k + 2 := by rw [wrap64 (by omega) (by omega)]; omega
    have w3 : IntKind.wrap .i64 (k + 2 + 1) = k + 3 := by rw [wrap64 (by omega) (by omega)]; omega
    have w4 : IntKind.wrap .i64 (k + 3 + 1) = k + 4 := by rw [wrap64 (by omega) (by omega)]; omega
    refine loop_step cx0 _ RT [5, 1, 0, 4] ⟨fun h => ?_, fun h => (lt_yes h (by omega)).elim⟩
    refine ⟨⟨by omega, by omega⟩, ?_⟩
    refine ⟨Nat.zero_le _, ?_⟩
    refine ⟨k, ⟨by show ((cs.drop (i * 5)).drop 0).take 1 = _; rw [e1]; rfl, rfl⟩, ?_⟩
    refine ⟨fun h => by simp at h, fun _ => ?_⟩
    refine ⟨⟨by omega, by omega⟩, ?_⟩
    refine ⟨by show 1 ≤ (cs.drop (i * 5)).length; rw [e1]; simp, ?_⟩
    refine ⟨k + 1, ⟨by show ((cs.drop (i * 5)).drop 1).take 1 = _; rw [e1]; rfl, rfl⟩, ?_⟩
    rw [w1]
    refine ⟨fun h => by simp at h, fun _ => ?_⟩
    refine ⟨⟨by omega, by omega⟩, ?_⟩
    refine ⟨by show 2 ≤ (cs.drop (i * 5)).length; rw [e1]; simp, ?_⟩
    refine ⟨x2, ⟨by show ((cs.drop (i * 5)).drop 2).take 1 = _; rw [e1]; rfl, rfl⟩, ?_⟩
    rw [w2]
    refine ⟨_, ⟨_, a2, rfl⟩, ?_⟩
    refine ⟨fun h => by simp at h, fun _ => ?_⟩
    refine ⟨⟨by omega, by omega⟩, ?_⟩
    refine ⟨by show 3 ≤ (cs.drop (i * 5)).length; rw [e1]; simp, ?_⟩
    refine ⟨x3, ⟨by show ((cs.drop (i * 5)).drop 3).take 1 = _; rw [e1]; rfl, rfl⟩, ?_⟩
    rw [w3]
    refine ⟨_, ⟨_, a3, rfl⟩, ?_⟩
    refine ⟨fun h => by simp at h, fun _ => ?_⟩
    refine ⟨⟨by omega, by omega⟩, ?_⟩
    refine ⟨by show 4 ≤ (cs.drop (i * 5)).length; rw [e1]; simp, ?_⟩
    refine ⟨g' + 1, (mkCs ks (k + 4)).length, cs', ⟨by show ((cs.drop (i * 5)).drop 4).take 1 = _; rw [e1]; rfl, rfl⟩, ?_⟩
    rw [mkCs_len, w4]
    have hs := hs (k + 4) (g' + 1) (retags cs') (by omega) (by omega) (by simp only [Wfs, Wf] at hw; exact hw.1.2.2.2.2.1) e2.retag
    refine ⟨_, retI hs, ?_⟩
    refine ⟨fun h => by simp at h; omega, fun _ => ?_⟩
    intro jk
    have ih := ih (i + 1) (k + ((4 + szMs ks : Nat) : Int)) (fun op n s t ks h => H op n s t ks (List.mem_cons_of_mem _ h)) (by simp only [Wfs] at hw; exact hw.2) hd2 (by omega) (by omega) (by omega) (fun jk => by
      have := k1 jk
      rw [e0] at this
      rw [show k + ((4 + szMs ks : Nat) : Int) + szMs l = k + ((4 + szMs ks + szMs l : Nat) : Int) by omega]
      exact this) jk
    rw [wrapS (show i < n by omega) hn]
    rw [show k + ((4 + szMs ks : Nat) : Int) = k + 4 + (szMs ks : Int) by omega] at ih
    exact ih

theorem held75 : ∀ c : Co, (match c with | .mk _ _ _ _ ks => Wfs ks → S75 ks) := by
  refine Co.ind fun op n s t ks ih => ?_
  intro hw k g cs h0 hk hl hr
  refine fn_is (fn := Tryd.f30) rfl rfl rfl rfl ?_
  refine sem_in cx0 _ RT [5, 1, 0, 4] fun jk => ?_
  refine l75 (g := g) hl hr (mkCs_len _ _) ks 0 k (fun op n s t kk h => ih _ h ?_) hw rfl (by simp) h0 hk (fun jk => ?_) jk
  · have := Wfs_iff.1 hw _ h
    simp only [Wf] at this
    exact this.2.2.2.2.2
  · exact ⟨rfl, rfl⟩

theorem mark37 {op n : Int} {s t : Nm} {ks : List Co} {k : Int} (hw : Wfs ks) (h0 : 0 ≤ k) (hk : k + szMs ks < 1152921504606846976) (hl : ks.length ≤ maxLen) :
    RT 15 [.agg [.t (.int .i64 op), .t (.int .i64 n), .t (.str s), .t (.str t), .bor () (.ex 0) [] 0 0 5 ks.length], xi k] [[.t (.sl () 0 5 ks.length (encs ks))]] = some (xi (k + szMs ks), [[.t (.sl () 0 5 ks.length (encs (mkCs ks k)))]]) := by
  refine fn_isE (fn := Tryd.f15) rfl rfl rfl rfl ?_
  have hs := mark67 (.mk op n s t ks) hw k h0 hk hl
  refine ⟨_, _, retM (by rw [encs_ups]; exact hs), ?_⟩
  exact ⟨rfl, rfl⟩

theorem rdM (op n : Int) (s t : List UInt8) (ks : List Co) (k : Int) : Rd (.mk op n s t (mkCs ks k)) (core op n s t 1 ks.length (retags (((encs (mkCs ks k)).drop 0).take (ks.length * 5)))) := by
  have := rdV op n s t (mkCs ks k)
  rwa [mkCs_len] at this
theorem inM (ks : List Co) (k : Int) : 0 + ks.length * 5 ≤ (encs (mkCs ks k)).length := by rw [encs_len, mkCs_len]; omega

theorem held44 {op n : Int} {s t : Nm} {ks : List Co} {us : List TU} {k : Int} (hw : Wfs ks) (h0 : 0 ≤ k) (hk : k + szMs ks < 1152921504606846976) (hl : ks.length ≤ maxLen) (hr : Rd (.mk op n s t (mkCs ks k)) us) :
    RT 16 [xc us, xi k] [] = some (xi (k + szMs ks), []) := by
  obtain ⟨g, cs, rfl, hr⟩ := hr
  refine fn_is (fn := Tryd.f16) rfl rfl rfl rfl ?_
  rw [mkCs_len]
  have := held75 (.mk op n s t ks) hw k (g + 1) (retags cs) h0 hk hl hr.retag
  refine ⟨_, retI this, ?_⟩
  refine ⟨fun h => by simp at h; omega, fun _ => ?_⟩
  exact ⟨rfl, rfl⟩
end Go.Proofs.YtlkjnlfddadlmaaDoor.V

namespace Go.Proofs.YtlkjnlfddadlmaaDoor.V
set_option maxRecDepth 100000

theorem enc_put {ks : List Co} {i : Nat} {c : Co} (hi : ks[i]? = some c) : ((encs (ks.take i)).drop 0).take (i * 5) ++ enc c = encs (ks.take (i + 1)) := by
  have hil : i < ks.length := (List.getElem?_eq_some_iff.1 hi).1
  rw [take_all (by rw [encs_len, List.length_take]; omega), List.take_add_one, hi]
  simp only [Option.toList_some, encs_append, encs, List.append_nil]

def S86 (c : Co) : Prop := ∀ us, szC c ≤ 1048576 → Rd c us → RT 31 [xc us] [] = some (xc (enc c), [])

theorem l86 {ks : List Co} {cs : List TU} {g : Nat} {op n : Int} {s t : List UInt8} {K : Ex → StA → Prop} (H : ∀ c ∈ ks, S86 c) (hz : szCs ks ≤ 1048576) (hr : Rds ks cs) :
    ∀ (l : List Co) (i : Nat), ks.drop i = l → i ≤ ks.length →
    (∀ jk j, K (.exit 0) ⟨[(4, xi j), (3, .box () ((core op n s t 0 ks.length (encs ks)).map .t)), (1, .box () ((core op n s t (g + 1) ks.length cs).map .t)), (2, .box () (zC.map .t))], jk, []⟩) →
    ∀ jk, sem cx0 31 RT (.loop (lp Tryd.f31 0)) ⟨[(4, xi i), (3, .box () ((core op n s t 0 i (encs (ks.take i))).map .t)), (1, .box () ((core op n s t (g + 1) ks.length cs).map .t)), (2, .box () (zC.map .t))], jk, []⟩ K := by
  have hk := szCs_le hz
  refine drop_ind ?_ ?_
  · intro k1 jk
    refine loop_step cx0 _ RT [4, 3, 1, 2] ⟨fun h => (lt_no h (by omega)).elim, fun h => ?_⟩
    intro jk
    have := k1 jk ks.length
    rw [List.take_length]
    exact this
  · intro i c l hi hil ih k1 jk
    have hm := List.mem_of_getElem? hi
    have hc := H c hm
    have hzc := szCs_mem hz hm
    cases c with
    | mk op' n' s' t' kk =>
    obtain ⟨g', cs', e1, e2⟩ := Rds_get hr hi
    have hti : (ks.take i).length = i := by rw [List.length_take]; omega
    refine loop_step cx0 _ RT [4, 3, 1, 2] ⟨fun h => ?_, fun h => (lt_yes h (by omega)).elim⟩
    refine ⟨⟨by omega, by omega⟩, ?_⟩
    refine ⟨op', n', s', t', g' + 1, kk.length, cs', ⟨e1, rfl⟩, ?_⟩
    refine ⟨_, retC (hc _ hzc (show Rd _ (core op' n' s' t' (g' + 2) kk.length (retags cs')) from ⟨_, _, rfl, e2.retag⟩)), ?_⟩
    refine ⟨by rw [encs_len, hti]; omega, ?_⟩
    refine ⟨⟨by simp only [maxLen]; omega, by show (i + 1) * 72 ≤ _; omega⟩, ?_⟩
    have hq := enc_put (i := i) hi
    intro jk
    have ih := ih k1 jk
    rw [← hq] at ih
    rw [wrapS hil (by simp only [maxLen]; omega)]
    exact ih

theorem copy86 : ∀ c : Co, S86 c := by
  refine Co.ind fun op n s t ks ih => ?_
  intro us hz hr
  obtain ⟨g1, cs, rfl, hr⟩ := hr
  have hz' : szCs ks ≤ 1048576 := by simp only [szC] at hz; omega
  refine fn_is (fn := Tryd.f31) rfl rfl rfl rfl ?_
  refine sem_in cx0 _ RT [4, 3, 1, 2] fun jk => ?_
  refine l86 (g := g1) (op := op) (n := n) (s := s) (t := t) ih hz' hr ks 0 rfl (by omega) (fun jk j => ?_) jk
  refine ⟨inV ks, ?_⟩
  refine ⟨?_, rfl⟩
  exact congrArg (fun x => xc (core op n s t 0 ks.length x)) (encs_whole ks).symm

def S72 (c : Co) : Prop := ∀ us, szC c ≤ 1048576 → Rd c us → RT 33 [xc us] [] = some (xc (enc c), [])

theorem l72 {ks : List Co} {cs : List TU} {g : Nat} {op n : Int} {s t : List UInt8} {K : Ex → StA → Prop} (H : ∀ c ∈ ks, S72 c) (hz : szCs ks ≤ 1048576) (hr : Rds ks cs) :
    ∀ (l : List Co) (i : Nat), ks.drop i = l → i ≤ ks.length →
    (∀ jk j, K (.exit 0) ⟨[(11, xi j), (10, xi ks.length), (9, xl (g + 1) 5 ks.length cs), (1, .box () ((core op n s t 0 ks.length (encs ks)).map .t)), (2, .box () (zC.map .t))], jk, []⟩) →
    ∀ jk, sem cx0 33 RT (.loop (lp Tryd.f33 0)) ⟨[(11, xi i), (10, xi ks.length), (9, xl (g + 1) 5 ks.length cs), (1, .box () ((core op n s t 0 i (encs (ks.take i))).map .t)), (2, .box () (zC.map .t))], jk, []⟩ K := by
  have hk := szCs_le hz
  refine drop_ind ?_ ?_
  · intro k1 jk
    refine loop_step cx0 _ RT [11, 10, 9, 1, 2] ⟨fun h => (lt_no h (by omega)).elim, fun h => ?_⟩
    intro jk
    have := k1 jk ks.length
    rw [List.take_length]
    exact this
  · intro i c l hi hil ih k1 jk
    have hm := List.mem_of_getElem? hi
    have hc := H c hm
    have hzc := szCs_mem hz hm
    have hq := enc_put (i := i) hi
    cases c with
    | mk op' n' s' t' kk =>
    obtain ⟨g', cs', e1, e2⟩ := Rds_get hr hi
    have hti : (ks.take i).length = i := by rw [List.length_take]; omega
    refine loop_step cx0 _ RT [11, 10, 9, 1, 2] ⟨fun h => ?_, fun h => (lt_yes h (by omega)).elim⟩
    refine ⟨⟨by omega, by omega⟩, ?_⟩
    refine ⟨op', n', s', t', g' + 1, kk.length, cs', ⟨e1, rfl⟩, ?_⟩
    refine ⟨_, retC (hc _ hzc (show Rd _ (core op' n' s' t' (g' + 2) kk.length (retags cs')) from ⟨_, _, rfl, e2.retag⟩)), ?_⟩
    refine ⟨by rw [encs_len, hti]; omega, ?_⟩
    refine ⟨⟨by simp only [maxLen]; omega, by show (i + 1) * 72 ≤ _; omega⟩, ?_⟩
    intro jk
    have ih := ih k1 jk
    rw [← hq] at ih
    rw [wrapS hil (by simp only [maxLen]; omega)]
    exact ih

theorem copy72 : ∀ c : Co, S72 c := by
  refine Co.ind fun op n s t ks ih => ?_
  intro us hz hr
  obtain ⟨g1, cs, rfl, hr⟩ := hr
  have hz' : szCs ks ≤ 1048576 := by simp only [szC] at hz; omega
  refine fn_is (fn := Tryd.f33) rfl rfl rfl rfl ?_
  refine sem_in cx0 _ RT [11, 10, 9, 1, 2] fun jk => ?_
  refine l72 (g := g1) (op := op) (n := n) (s := s) (t := t) ih hz' hr ks 0 rfl (by omega) (fun jk j => ?_) jk
  refine ⟨inV ks, ?_⟩
  refine ⟨?_, rfl⟩
  exact congrArg (fun x => xc (core op n s t 0 ks.length x)) (encs_whole ks).symm
end Go.Proofs.YtlkjnlfddadlmaaDoor.V

namespace Go.Proofs.YtlkjnlfddadlmaaDoor.V
set_option maxRecDepth 100000

theorem ite_iff {α : Type} {p q : Prop} [Decidable p] [Decidable q] {a b c d : α} (h : p ↔ q) (h1 : a = b) (h2 : c = d) : (if p then a else c) = if q then b else d := by
  subst h1 h2
  by_cases hp : p
  · rw [if_pos hp, if_pos (h.1 hp)]
  · rw [if_neg hp, if_neg (fun hq => hp (h.2 hq))]

def arC (op : Int) : Int :=
  if op == 1 || op == 2 || op == 13 then 0 else if op == 3 || op == 15 || op == 16 || op == 17 || op == 18 then 1
  else if op == 4 || op == 5 || op == 6 || op == 8 || op == 9 || op == 10 || op == 11 || op == 12 || op == 14 then 2 else if op == 7 then 3 else -1

def namC (op : Int) : Bool := op == 2 || op == 3 || op == 5 || op == 6

def wordOk (n : Int) : Bool := decide (n ≥ -1073741824) && decide (n ≤ 1073741823)

mutual
def ndC : Co → Nat
  | .mk _ _ _ _ ks => 1 + ndCs ks
def ndCs : List Co → Nat
  | [] => 0
  | c :: l => ndC c + ndCs l
end
mutual
def depC : Co → Nat
  | .mk _ _ _ _ ks => depCs ks + 1
def depCs : List Co → Nat
  | [] => 0
  | c :: l => max (depC c) (depCs l)
end

def hdOk (env : List Nm) (op n : Int) (s t : Nm) (k : Nat) : Bool :=
  arC op == (k : Int) && (namC op == !(s == [])) && ((op == 6) == !(t == [])) && (op == 1 || n == 0) && wordOk n && (!(op == 2) || env.contains s)

mutual
def rightC : List Nm → Co → Bool
  | env, .mk op n s t ks => hdOk env op n s t ks.length && rightL op s t env 0 ks
def rightL (op : Int) (s t : Nm) (env : List Nm) : Nat → List Co → Bool
  | _, [] => true
  | i, c :: l => rightC (env ++ envS op s t i) c && rightL op s t env (i + 1) l
end

def okCo (c : Co) : Bool := decide (ndC c ≤ 3000) && decide (depC c ≤ 150) && rightC [] c

mutual
def prC : Nat → List Nm → Co → Nat
  | deep, env, .mk op n s t ks => if deep ≤ 150 ∧ hdOk env op n s t ks.length = true then prL op s t env deep 0 1 ks else 3001
def prL (op : Int) (s t : Nm) (env : List Nm) (deep : Nat) : Nat → Nat → List Co → Nat
  | _, v, [] => v
  | i, v, c :: l => if v + prC (deep + 1) (env ++ envS op s t i) c ≥ 3001 then 3001 else prL op s t env deep (i + 1) (v + prC (deep + 1) (env ++ envS op s t i) c) l
end

theorem ndC_pos : ∀ c : Co, 1 ≤ ndC c
  | .mk op n s t ks => by simp only [ndC]; omega
theorem depC_pos : ∀ c : Co, 1 ≤ depC c
  | .mk op n s t ks => by simp only [depC]; omega

mutual
theorem prC_eq : ∀ (deep : Nat) (env : List Nm) (c : Co), prC deep env c = if deep + depC c ≤ 151 ∧ rightC env c = true ∧ ndC c ≤ 3000 then ndC c else 3001
  | deep, env, .mk op n s t ks => by
    simp only [prC, rightC, Bool.and_eq_true]
    by_cases h : deep ≤ 150 ∧ hdOk env op n s t ks.length = true
    · rw [if_pos h, prL_eq deep op s t env 0 1 ks (by omega)]
      simp only [depC, ndC]
      exact ite_iff ⟨fun h2 => ⟨by rcases h2.1 with h3 | h3 <;> omega, ⟨h.2, h2.2.1⟩, h2.2.2⟩, fun h3 => ⟨by omega, h3.2.1.2, h3.2.2⟩⟩ rfl rfl
    · rw [if_neg h]
      refine (if_neg ?_).symm
      rintro ⟨h3, ⟨h4, _⟩, _⟩
      simp only [depC] at h3
      exact h ⟨by omega, h4⟩
theorem prL_eq : ∀ (deep : Nat) (op : Int) (s t : Nm) (env : List Nm) (i v : Nat) (l : List Co), v ≤ 3000 → prL op s t env deep i v l = if (depCs l = 0 ∨ deep + 1 + depCs l ≤ 151) ∧ rightL op s t env i l = true ∧ v + ndCs l ≤ 3000 then v + ndCs l else 3001
  | deep, op, s, t, env, i, v, [], hv => by
    simp only [prL, depCs, rightL, ndCs, true_or, true_and, Nat.add_zero]
    exact (if_pos hv).symm
  | deep, op, s, t, env, i, v, c :: l, hv => by
    have ih := prC_eq (deep + 1) (env ++ envS op s t i) c
    have hp := depC_pos c
    have hn := ndC_pos c
    simp only [prL, depCs, rightL, ndCs, Bool.and_eq_true]
    by_cases h : deep + 1 + depC c ≤ 151 ∧ rightC (env ++ envS op s t i) c = true ∧ ndC c ≤ 3000
    · rw [if_pos h] at ih
      rw [ih]
      by_cases h2 : v + ndC c ≥ 3001
      · rw [if_pos h2]
        refine (if_neg ?_).symm
        rintro ⟨_, _, h3⟩; omega
      · rw [if_neg h2, prL_eq deep op s t env (i + 1) (v + ndC c) l (by omega)]
        exact ite_iff ⟨fun h3 => ⟨by omega, ⟨h.2.1, h3.2.1⟩, by omega⟩, fun h3 => ⟨by omega, h3.2.1.2, by omega⟩⟩ (by omega) rfl
    · rw [if_neg h] at ih
      rw [ih, if_pos (by omega)]
      refine (if_neg ?_).symm
      rintro ⟨h4, ⟨h5, _⟩, h6⟩
      exact h ⟨by omega, h5, by omega⟩
end

theorem prC_ok (c : Co) : decide (prC 1 [] c ≤ 3000) = okCo c := by
  rw [prC_eq, okCo]
  by_cases h : 1 + depC c ≤ 151 ∧ rightC [] c = true ∧ ndC c ≤ 3000
  · rw [if_pos h, h.2.1, decide_eq_true h.2.2, decide_eq_true (by omega)]; rfl
  · rw [if_neg h]
    by_cases h1 : ndC c ≤ 3000
    · by_cases h2 : depC c ≤ 150
      · have : rightC [] c = false := by
          cases hr : rightC [] c with
          | false => rfl
          | true => exact absurd ⟨by omega, hr, h1⟩ h
        rw [this]; simp
      · simp [h2]
    · simp [h1]

theorem prC_le (deep : Nat) (env : List Nm) (c : Co) : prC deep env c ≤ 3001 := by
  rw [prC_eq]; split <;> omega

mutual
theorem ndC_le : ∀ c : Co, ndC c ≤ szC c + 1
  | .mk op n s t ks => by
    have := ndCs_le ks
    simp only [ndC, szC]; omega
theorem ndCs_le : ∀ l : List Co, ndCs l ≤ szCs l
  | [] => by simp [ndCs]
  | c :: l => by
    have h1 := ndC_le c
    have h2 := ndCs_le l
    simp only [ndCs, szCs]; omega
end
mutual
theorem depC_le : ∀ c : Co, depC c ≤ szC c + 1
  | .mk op n s t ks => by
    have := depCs_le ks
    simp only [depC, szC]; omega
theorem depCs_le : ∀ l : List Co, depCs l ≤ szCs l
  | [] => by simp [depCs]
  | c :: l => by
    have h1 := depC_le c
    have h2 := depCs_le l
    simp only [depCs, szCs]; omega
end
end Go.Proofs.YtlkjnlfddadlmaaDoor.V
