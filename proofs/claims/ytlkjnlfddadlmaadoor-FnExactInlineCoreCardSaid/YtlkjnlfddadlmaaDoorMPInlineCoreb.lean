/-
  How large, how deep a core is; its op's kids. No conditions.
-/
import Derived.Test.YtlkjnlfddadlmaaDoorMPInlineCorea
set_option linter.unusedVariables false
set_option linter.unusedSimpArgs false
namespace Go.Proofs.YtlkjnlfddadlmaaDoor.V
set_option maxRecDepth 100000

theorem kids_s (op : Int) : RT 63 [xi op] [] = some (xi (arC op), []) := by
  refine fn_is (fn := Tryd.f63) rfl rfl rfl rfl ?_
  repeat' (first | refine ⟨fun h => ?_, fun h => ?_⟩ | done)
  all_goals (refine ⟨?_, rfl⟩; simp [arC, *]; rfl)

theorem kids_i (op : Int) : RT 68 [xi op] [] = some (xi (arC op), []) := by
  refine fn_is (fn := Tryd.f68) rfl rfl rfl rfl ?_
  repeat' (first | refine ⟨fun h => ?_, fun h => ?_⟩ | done)
  all_goals (refine ⟨?_, rfl⟩; simp [arC, *]; rfl)

theorem named_s (op : Int) : RT 64 [xi op] [] = some (xb (namC op), []) := by
  refine fn_is (fn := Tryd.f64) rfl rfl rfl rfl ?_
  repeat' (first | refine ⟨fun h => ?_, fun h => ?_⟩ | done)
  all_goals (refine ⟨?_, rfl⟩; simp [namC, *]; rfl)

theorem word_s (n : Int) : RT 65 [xi n] [] = some (xb (wordOk n), []) := by
  refine fn_is (fn := Tryd.f65) rfl rfl rfl rfl ?_
  exact ⟨_, retB (in50 _ _ _), rfl, rfl⟩
theorem word_i (n : Int) : RT 69 [xi n] [] = some (xb (wordOk n), []) := by
  refine fn_is (fn := Tryd.f69) rfl rfl rfl rfl ?_
  exact ⟨_, retB (in52 _ _ _), rfl, rfl⟩

def Ssz (c : Co) : Prop := ∀ us, szC c ≤ 1048576 → Rd c us → RT 39 [xc us] [] = some (xi (ndC c), [])

theorem lsz_s {ks : List Co} {cs : List TU} {g : Nat} {op n : Int} {s t : List UInt8} {K : Ex → StA → Prop} (H : ∀ c ∈ ks, Ssz c) (hz : szCs ks ≤ 1048576) (hr : Rds ks cs) :
    ∀ (l : List Co) (i : Nat), ks.drop i = l → i ≤ ks.length → ∀ v : Nat, v + ndCs l ≤ 4194304 →
    (∀ jk j, K (.exit 0) ⟨[(4, xi j), (3, xi ((v + ndCs l : Nat) : Int)), (1, .box () ((core op n s t (g + 1) ks.length cs).map .t))], jk, []⟩) →
    ∀ jk, sem cx0 39 RT (.loop (lp Tryd.f39 0)) ⟨[(4, xi i), (3, xi v), (1, .box () ((core op n s t (g + 1) ks.length cs).map .t))], jk, []⟩ K := by
  have hk := szCs_le hz
  refine drop_ind ?_ ?_
  · intro v hv k1 jk
    refine loop_step cx0 _ RT [4, 3, 1] ⟨fun h => (lt_no h (by omega)).elim, fun h => ?_⟩
    exact fun jk => k1 jk _
  · intro i c l hi hil ih v hv k1 jk
    refine loop_step cx0 _ RT [4, 3, 1] ⟨fun h => ?_, fun h => (lt_yes h (by omega)).elim⟩
    refine ⟨⟨by omega, by omega⟩, ?_⟩
    have hm := List.mem_of_getElem? hi
    have hc := H c hm
    have hzc := szCs_mem hz hm
    simp only [ndCs] at hv
    cases c with
    | mk op' n' s' t' kk =>
    obtain ⟨g', cs', e1, e2⟩ := Rds_get hr hi
    refine ⟨op', n', s', t', g' + 1, kk.length, cs', ⟨e1, rfl⟩, ?_⟩
    refine ⟨_, retI (hc (core op' n' s' t' (g' + 2) kk.length (retags cs')) hzc ⟨_, _, rfl, e2.retag⟩), ?_⟩
    intro jk
    rw [wrapS hil (by simp only [maxLen]; omega), wrap64 (by omega) (by omega)]
    rw [show (v : Int) + ((ndC (.mk op' n' s' t' kk) : Nat) : Int) = ((v + ndC (.mk op' n' s' t' kk) : Nat) : Int) by omega]
    refine ih _ (by omega) (fun jk j => ?_) jk
    have := k1 jk j
    rwa [show v + ndCs (.mk op' n' s' t' kk :: l) = v + ndC (.mk op' n' s' t' kk) + ndCs l by simp only [ndCs]; omega] at this

theorem size_s : ∀ c : Co, Ssz c := by
  refine Co.ind fun op n s t ks ih => ?_
  intro us hz hr
  obtain ⟨g1, cs, rfl, hr⟩ := hr
  have hz' : szCs ks ≤ 1048576 := by simp only [szC] at hz; omega
  have := ndCs_le ks
  refine fn_is (fn := Tryd.f39) rfl rfl rfl rfl ?_
  refine sem_in cx0 _ RT [4, 3, 1] fun jk => ?_
  refine lsz_s (g := g1) (op := op) (n := n) (s := s) (t := t) ih hz' hr ks 0 rfl (by omega) 1 (by omega) (fun jk j => ?_) jk
  exact ⟨rfl, rfl⟩

def Sdp (c : Co) : Prop := ∀ us, szC c ≤ 1048576 → Rd c us → RT 40 [xc us] [] = some (xi (depC c), [])

theorem ldp_s {ks : List Co} {cs : List TU} {g : Nat} {op n : Int} {s t : List UInt8} {K : Ex → StA → Prop} (H : ∀ c ∈ ks, Sdp c) (hz : szCs ks ≤ 1048576) (hr : Rds ks cs) :
    ∀ (l : List Co) (i : Nat), ks.drop i = l → i ≤ ks.length → ∀ v : Nat,
    (∀ jk j, K (.exit 0) ⟨[(4, xi j), (3, xi ((max v (depCs l) : Nat) : Int)), (1, .box () ((core op n s t (g + 1) ks.length cs).map .t))], jk, []⟩) →
    ∀ jk, sem cx0 40 RT (.loop (lp Tryd.f40 0)) ⟨[(4, xi i), (3, xi v), (1, .box () ((core op n s t (g + 1) ks.length cs).map .t))], jk, []⟩ K := by
  have hk := szCs_le hz
  refine drop_ind ?_ ?_
  · intro v k1 jk
    refine loop_step cx0 _ RT [4, 3, 1] ⟨fun h => (lt_no h (by omega)).elim, fun h => ?_⟩
    have := fun jk => k1 jk ks.length
    simp only [depCs, Nat.max_zero] at this
    exact this
  · intro i c l hi hil ih v k1 jk
    refine loop_step cx0 _ RT [4, 3, 1] ⟨fun h => ?_, fun h => (lt_yes h (by omega)).elim⟩
    refine ⟨⟨by omega, by omega⟩, ?_⟩
    have hm := List.mem_of_getElem? hi
    have hc := H c hm
    have hzc := szCs_mem hz hm
    cases c with
    | mk op' n' s' t' kk =>
    obtain ⟨g', cs', e1, e2⟩ := Rds_get hr hi
    refine ⟨op', n', s', t', g' + 1, kk.length, cs', ⟨e1, rfl⟩, ?_⟩
    refine ⟨_, retI (hc (core op' n' s' t' (g' + 2) kk.length (retags cs')) hzc ⟨_, _, rfl, e2.retag⟩), ?_⟩
    refine ⟨_, retI (max59 _ _), ?_⟩
    intro jk
    rw [wrapS hil (by simp only [maxLen]; omega)]
    rw [show max (v : Int) ((depC (.mk op' n' s' t' kk) : Nat) : Int) = ((max v (depC (.mk op' n' s' t' kk)) : Nat) : Int) by omega]
    refine ih _ (fun jk j => ?_) jk
    have := k1 jk j
    rwa [show max v (depCs (.mk op' n' s' t' kk :: l)) = max (max v (depC (.mk op' n' s' t' kk))) (depCs l) by simp only [depCs]; omega] at this

theorem deep_s : ∀ c : Co, Sdp c := by
  refine Co.ind fun op n s t ks ih => ?_
  intro us hz hr
  obtain ⟨g1, cs, rfl, hr⟩ := hr
  have hz' : szCs ks ≤ 1048576 := by simp only [szC] at hz; omega
  have := depCs_le ks
  refine fn_is (fn := Tryd.f40) rfl rfl rfl rfl ?_
  refine sem_in cx0 _ RT [4, 3, 1] fun jk => ?_
  refine ldp_s (g := g1) (op := op) (n := n) (s := s) (t := t) ih hz' hr ks 0 rfl (by omega) 0 (fun jk j => ?_) jk
  refine ⟨?_, rfl⟩
  rw [wrap64 (by omega) (by omega)]
  simp only [depC, Nat.zero_max]
  rfl
end Go.Proofs.YtlkjnlfddadlmaaDoor.V

namespace Go.Proofs.YtlkjnlfddadlmaaDoor.V
set_option maxRecDepth 100000

def Srt (c : Co) : Prop := ∀ us env g cs, szC c ≤ 1048576 → env.length + 2 * szC c ≤ 4194304 → cs = nm env → Rd c us → RT 41 [xc us, xl (g + 1) 1 env.length cs] [] = some (xb (rightC env c), [])

theorem lrt {ks : List Co} {cs : List TU} {g g2 : Nat} {op n : Int} {s t : List UInt8} {env : List Nm} {K : Ex → StA → Prop} (H : ∀ c ∈ ks, Srt c) (hz : szCs ks ≤ 1048576) (he : env.length + 2 * szCs ks ≤ 4194304) (hr : Rds ks cs) :
    ∀ (l : List Co) (i : Nat), ks.drop i = l → i ≤ ks.length →
    (∀ jk j, rightL op s t env i l = true → K (.exit 0) ⟨[(5, xi j), (1, xl (g2 + 1) 1 env.length (nm env)), (2, .box () ((core op n s t (g + 1) ks.length cs).map .t)), (4, xb false)], jk, []⟩) →
    (∀ jk j, rightL op s t env i l = false → K .ret ⟨[(5, xi j), (1, xl (g2 + 1) 1 env.length (nm env)), (2, .box () ((core op n s t (g + 1) ks.length cs).map .t)), (4, xb false)], jk, []⟩) →
    ∀ jk, sem cx0 41 RT (.loop (lp Tryd.f41 0)) ⟨[(5, xi i), (1, xl (g2 + 1) 1 env.length (nm env)), (2, .box () ((core op n s t (g + 1) ks.length cs).map .t)), (4, xb false)], jk, []⟩ K := by
  have hk := szCs_le hz
  refine drop_ind ?_ ?_
  · intro k1 k2 jk
    refine loop_step cx0 _ RT [5, 1, 2, 4] ⟨fun h => (lt_no h (by omega)).elim, fun h => ?_⟩
    exact fun jk => k1 jk _ rfl
  · intro i c l hi hil ih k1 k2 jk
    have hm := List.mem_of_getElem? hi
    have hc := H c hm
    have hzc := szCs_mem hz hm
    have hel := envS_le (op := op) (s := s) (t := t) (i := i)
    have hz1 := szCs_mem1 hm
    cases c with
    | mk op' n' s' t' kk =>
    obtain ⟨g', cs', e1, e2⟩ := Rds_get hr hi
    refine loop_step cx0 _ RT [5, 1, 2, 4] ⟨fun h => ?_, fun h => (lt_yes h (by omega)).elim⟩
    refine ⟨⟨by omega, by omega⟩, ?_⟩
    refine ⟨op', n', s', t', g' + 1, kk.length, cs', ⟨e1, rfl⟩, ?_⟩
    obtain ⟨g3, r1⟩ := retEnv (env84 (show Rd (.mk op n s t ks) (core op n s t (g + 2) ks.length (retags cs)) from ⟨_, _, rfl, hr.retag⟩) (nm_retag env) (by omega) (i := i) (g := g2))
    refine ⟨_, r1, ?_⟩
    have hc2 := hc (core op' n' s' t' (g' + 2) kk.length (retags cs')) (env ++ envS op s t i) g3 _ hzc (by rw [List.length_append]; omega) (nm_retag _) ⟨_, _, rfl, e2.retag⟩
    refine ⟨_, retB hc2, ?_⟩
    refine ⟨fun h2 => ?_, fun h2 => ?_⟩
    · exact fun jk => k2 jk _ (by simp only [rightL, Bool.and_eq_false_iff]; left; simpa using h2)
    · intro jk
      rw [wrapS hil (by simp only [maxLen]; omega)]
      have h2 : rightC (env ++ envS op s t i) (.mk op' n' s' t' kk) = true := by simpa using h2
      exact ih (fun jk j h3 => k1 jk j (by simp only [rightL, h2, h3, Bool.and_self])) (fun jk j h3 => k2 jk j (by simp only [rightL, h3, Bool.and_false])) jk

theorem xb_eq {a b : Bool} (h : a = b) : xb a = xb b := by rw [h]
theorem right_no {env : List Nm} {op n : Int} {s t : Nm} {ks : List Co} (h : hdOk env op n s t ks.length = false) : rightC env (.mk op n s t ks) = false := by simp only [rightC, h, Bool.false_and]

theorem right_s : ∀ c : Co, Srt c := by
  refine Co.ind fun op n s t ks ih => ?_
  intro us env g cs hz he hcs hr
  subst hcs
  obtain ⟨g1, cs, rfl, hr⟩ := hr
  have hz' : szCs ks ≤ 1048576 := by simp only [szC] at hz; omega
  have he' : env.length + 2 * szCs ks ≤ 4194304 := by simp only [szC] at he; omega
  have fin : hdOk env op n s t ks.length = true → ∀ jk K, (∀ jk j, rightC env (.mk op n s t ks) = true → K (.exit 0) ⟨[(5, xi j), (1, xl (g + 1) 1 env.length (nm env)), (2, .box () ((core op n s t (g1 + 1) ks.length cs).map .t)), (4, xb false)], jk, []⟩) →
      (∀ jk j, rightC env (.mk op n s t ks) = false → K .ret ⟨[(5, xi j), (1, xl (g + 1) 1 env.length (nm env)), (2, .box () ((core op n s t (g1 + 1) ks.length cs).map .t)), (4, xb false)], jk, []⟩) →
      sem cx0 41 RT (.loop (lp Tryd.f41 0)) ⟨[(5, xi (0 : Nat)), (1, xl (g + 1) 1 env.length (nm env)), (2, .box () ((core op n s t (g1 + 1) ks.length cs).map .t)), (4, xb false)], jk, []⟩ K := by
    intro hd jk K k1 k2
    refine lrt (g := g1) (op := op) (n := n) (s := s) (t := t) ih hz' he' hr ks 0 rfl (by omega) (fun jk j h => k1 jk j ?_) (fun jk j h => k2 jk j ?_) jk
    · simp only [rightC, hd, h, Bool.and_self]
    · simp only [rightC, h, Bool.and_false]
  refine fn_is (fn := Tryd.f41) rfl rfl rfl rfl ?_
  refine ⟨_, retI (kids_s op), ?_⟩
  refine ⟨fun h1 => ?_, fun h1 => ?_⟩
  · exact ⟨xb_eq (right_no (by simp_all [hdOk])), rfl⟩
  refine ⟨_, retB (named_s op), ?_⟩
  refine ⟨fun h2 => ?_, fun h2 => ?_⟩
  · exact ⟨xb_eq (right_no (by simp_all [hdOk])), rfl⟩
  refine ⟨fun h3 => ?_, fun h3 => ?_⟩
  · exact ⟨xb_eq (right_no (by simp_all [hdOk])), rfl⟩
  refine ⟨fun h4 => ⟨fun h5 => ?_, fun h5 => ?_⟩, fun h4 => ?_⟩
  · exact ⟨xb_eq (right_no (by simp_all [hdOk])), rfl⟩
  all_goals
    refine ⟨_, retB (word_s n), ?_⟩
    refine ⟨fun h6 => ?_, fun h6 => ?_⟩
    · exact ⟨xb_eq (right_no (by simp_all [hdOk])), rfl⟩
    refine ⟨fun h7 => ?_, fun h7 => ?_⟩
    · refine ⟨_, retB (in83 (g := g + 1) (nm_retag env) (by simp only [maxLen]; omega)), ?_⟩
      refine ⟨fun h8 => ?_, fun h8 => ?_⟩
      · exact ⟨xb_eq (right_no (by simp_all [hdOk])), rfl⟩
      refine sem_in cx0 _ RT [5, 1, 2, 4] fun jk => ?_
      refine fin (by simp_all [hdOk]) jk _ (fun jk j h => ?_) (fun jk j h => ?_)
      · exact ⟨xb_eq h, rfl⟩
      · exact ⟨xb_eq h, rfl⟩
    · refine sem_in cx0 _ RT [5, 1, 2, 4] fun jk => ?_
      refine fin (by simp_all [hdOk]) jk _ (fun jk j h => ?_) (fun jk j h => ?_)
      · exact ⟨xb_eq h, rfl⟩
      · exact ⟨xb_eq h, rfl⟩

theorem ok_s {c : Co} {us : List TU} (hz : szC c ≤ 1048576) (hr : Rd c us) : RT 23 [xc us] [] = some (xb (okCo c), []) := by
  cases c with
  | mk op n s t ks =>
  obtain ⟨g, cs, rfl, hr⟩ := hr
  have rd : Rd (.mk op n s t ks) (core op n s t (g + 2) ks.length (retags cs)) := ⟨_, _, rfl, hr.retag⟩
  refine fn_is (fn := Tryd.f23) rfl rfl rfl rfl ?_
  refine ⟨_, retI (size_s _ _ hz rd), ?_⟩
  refine ⟨fun h1 => ?_, fun h1 => ?_⟩
  · refine ⟨_, retI (deep_s _ _ hz rd), ?_⟩
    refine ⟨fun h2 => ?_, fun h2 => ?_⟩
    · refine ⟨_, retB (right_s _ _ [] 0 [] hz (by simp; omega) rfl rd), ?_⟩
      exact ⟨xb_eq (by simp_all [okCo]; omega), rfl⟩
    · exact ⟨xb_eq (by simp_all [okCo]; omega), rfl⟩
  · exact ⟨xb_eq (by simp_all [okCo]; omega), rfl⟩
end Go.Proofs.YtlkjnlfddadlmaaDoor.V

namespace Go.Proofs.YtlkjnlfddadlmaaDoor.V
set_option maxRecDepth 100000

def Spr (c : Co) : Prop := ∀ us env g cs (deep : Nat), szC c ≤ 1048576 → env.length + 2 * szC c ≤ 4194304 → deep + szC c ≤ 2097152 → cs = nm env → Rd c us → RT 45 [xc us, xl (g + 1) 1 env.length cs, xi deep] [] = some (xi (prC deep env c), [])

theorem lpr {ks : List Co} {cs : List TU} {g g2 deep : Nat} {op n : Int} {s t : List UInt8} {env : List Nm} {K : Ex → StA → Prop} (H : ∀ c ∈ ks, Spr c) (hz : szCs ks ≤ 1048576) (he : env.length + 2 * szCs ks ≤ 4194304) (hd : deep + szCs ks ≤ 2097152) (hr : Rds ks cs) :
    ∀ (l : List Co) (i : Nat), ks.drop i = l → i ≤ ks.length → ∀ v : Nat, v ≤ 3000 →
    (∀ jk j, prL op s t env deep i v l ≤ 3000 → K (.exit 0) ⟨[(85, xi j), (8, xi (prL op s t env deep i v l)), (84, xi ks.length), (83, xl (g + 1) 5 ks.length cs), (1, xl (g2 + 1) 1 env.length (nm env)), (2, xi deep), (3, .box () ((core op n s t (g + 1) ks.length cs).map .t)), (6, xi 0)], jk, []⟩) →
    (∀ jk j w, prL op s t env deep i v l = 3001 → K .ret ⟨[(85, xi j), (8, xi w), (84, xi ks.length), (83, xl (g + 1) 5 ks.length cs), (1, xl (g2 + 1) 1 env.length (nm env)), (2, xi deep), (3, .box () ((core op n s t (g + 1) ks.length cs).map .t)), (6, xi 3001)], jk, []⟩) →
    ∀ jk, sem cx0 45 RT (.loop (lp Tryd.f45 0)) ⟨[(85, xi i), (8, xi v), (84, xi ks.length), (83, xl (g + 1) 5 ks.length cs), (1, xl (g2 + 1) 1 env.length (nm env)), (2, xi deep), (3, .box () ((core op n s t (g + 1) ks.length cs).map .t)), (6, xi 0)], jk, []⟩ K := by
  have hk := szCs_le hz
  refine drop_ind ?_ ?_
  · intro v hv k1 k2 jk
    refine loop_step cx0 _ RT [85, 8, 84, 83, 1, 2, 3, 6] ⟨fun h => (lt_no h (by omega)).elim, fun h => ?_⟩
    exact fun jk => k1 jk _ hv
  · intro i c l hi hil ih v hv k1 k2 jk
    have hm := List.mem_of_getElem? hi
    have hc := H c hm
    have hzc := szCs_mem hz hm
    have hel := envS_le (op := op) (s := s) (t := t) (i := i)
    have hz1 := szCs_mem1 hm
    cases c with
    | mk op' n' s' t' kk =>
    obtain ⟨g', cs', e1, e2⟩ := Rds_get hr hi
    refine loop_step cx0 _ RT [85, 8, 84, 83, 1, 2, 3, 6] ⟨fun h => ?_, fun h => (lt_yes h (by omega)).elim⟩
    refine ⟨⟨by omega, by omega⟩, ?_⟩
    refine ⟨op', n', s', t', g' + 1, kk.length, cs', ⟨e1, rfl⟩, ?_⟩
    refine ⟨_, retN (binds74 (show Rd (.mk op n s t ks) (core op n s t (g + 2) ks.length (retags cs)) from ⟨_, _, rfl, hr.retag⟩)), ?_⟩
    refine ⟨_, retN (cat85 (g := g2 + 1) (h := 0) (nm_retag env) (nm_retag (envS op s t i)) (by omega) (by omega)), ?_⟩
    have hc2 := hc (core op' n' s' t' (g' + 2) kk.length (retags cs')) (env ++ envS op s t i) 0 _ (deep + 1) hzc (by rw [List.length_append]; omega) (by omega) (nm_retag _) ⟨_, _, rfl, e2.retag⟩
    have hw : IntKind.wrap .i64 ((deep : Int) + 1) = ((deep + 1 : Nat) : Int) := by rw [wrap64 (by omega) (by omega)]; omega
    have hple := prC_le (deep + 1) (env ++ envS op s t i) (.mk op' n' s' t' kk)
    refine ⟨_, retI (by rw [hw]; exact hc2), ?_⟩
    have hL : prL op s t env deep i v (.mk op' n' s' t' kk :: l) = if v + prC (deep + 1) (env ++ envS op s t i) (.mk op' n' s' t' kk) ≥ 3001 then 3001 else prL op s t env deep (i + 1) (v + prC (deep + 1) (env ++ envS op s t i) (.mk op' n' s' t' kk)) l := rfl
    generalize prC (deep + 1) (env ++ envS op s t i) (.mk op' n' s' t' kk) = p at hple hL
    have hwp : IntKind.wrap .i64 ((v : Int) + p) = ((v + p : Nat) : Int) := by rw [wrap64 (by omega) (by omega)]; omega
    refine ⟨fun h2 => ?_, fun h2 => ?_⟩
    · rw [hwp] at h2
      have h2 : v + p ≥ 3001 := by simp at h2; omega
      rw [if_pos h2] at hL
      exact fun jk => k2 jk _ _ hL
    · rw [hwp] at h2
      have h2 : ¬ v + p ≥ 3001 := by simp at h2; omega
      rw [if_neg h2] at hL
      intro jk
      rw [wrapS hil (by simp only [maxLen]; omega), hwp]
      rw [hL] at k1 k2
      exact ih (v + p) (by omega) k1 k2 jk

theorem xi_eq {a b : Int} (h : a = b) : xi a = xi b := by rw [h]
theorem prC_no {deep : Nat} {env : List Nm} {op n : Int} {s t : Nm} {ks : List Co} (h : ¬ (deep ≤ 150 ∧ hdOk env op n s t ks.length = true)) : (3001 : Int) = ((prC deep env (.mk op n s t ks) : Nat) : Int) := by simp only [prC, if_neg h]; rfl

theorem nam2 {op : Int} (h : (op == 2) = true) : namC op = true := by unfold namC; rw [h]; rfl
theorem nam3 {op : Int} (h : (op == 3) = true) : namC op = true := by unfold namC; rw [h]; simp
theorem nam5 {op : Int} (h : (op == 5) = true) : namC op = true := by unfold namC; rw [h]; simp
theorem nam0 {op : Int} (h2 : (op == 2) = false) (h3 : (op == 3) = false) (h5 : (op == 5) = false) : namC op = (op == 6) := by unfold namC; rw [h2, h3, h5]; rfl

theorem hd_a {env : List Nm} {op n : Int} {s t : Nm} {k : Nat} (h : ((k : Int) != arC op) = true) : hdOk env op n s t k = false := by
  have : (arC op == (k : Int)) = false := by simp at h ⊢; omega
  unfold hdOk; rw [this]; rfl
theorem hd_w {env : List Nm} {op n : Int} {s t : Nm} {k : Nat} (h : (!wordOk n) = true) : hdOk env op n s t k = false := by
  have : wordOk n = false := by simpa using h
  unfold hdOk; rw [this]; simp
theorem hd_n {env : List Nm} {op n : Int} {s t : Nm} {k : Nat} (h1 : (op != 1) = true) (h2 : (n != 0) = true) : hdOk env op n s t k = false := by
  have e1 : (op == 1) = false := by simpa using h1
  have e2 : (n == 0) = false := by simpa using h2
  unfold hdOk; rw [e1, e2]; simp
theorem hd_s {env : List Nm} {op n : Int} {s t : Nm} {k : Nat} {x : Bool} (hx : namC op = x) (h : (!(x == !(s == []))) = true) : hdOk env op n s t k = false := by
  have : (x == !(s == [])) = false := by simpa using h
  unfold hdOk; rw [hx, this]; simp
theorem hd_t {env : List Nm} {op n : Int} {s t : Nm} {k : Nat} (h : (!((op == 6) == !(t == []))) = true) : hdOk env op n s t k = false := by
  have : ((op == 6) == !(t == [])) = false := by simpa using h
  unfold hdOk; rw [this]; simp
theorem hd_e {env : List Nm} {op n : Int} {s t : Nm} {k : Nat} (h1 : (op == 2) = true) (h : (!env.contains s) = true) : hdOk env op n s t k = false := by
  have : env.contains s = false := by simpa using h
  unfold hdOk; rw [h1, this]; simp
theorem hd_yes {env : List Nm} {op n : Int} {s t : Nm} {k : Nat} {x : Bool} (ha : ((k : Int) != arC op) = false) (hx : namC op = x) (hs : (!(x == !(s == []))) = false) (ht : (!((op == 6) == !(t == []))) = false) (hn : (op != 1) = false ∨ (n != 0) = false)
    (hw : (!wordOk n) = false) (he : (op == 2) = false ∨ (!env.contains s) = false) : hdOk env op n s t k = true := by
  have e1 : (arC op == (k : Int)) = true := by simp at ha ⊢; omega
  have e2 : (x == !(s == [])) = true := by simpa using hs
  have e3 : ((op == 6) == !(t == [])) = true := by simpa using ht
  have e4 : wordOk n = true := by simpa using hw
  have e5 : (op == 1 || n == 0) = true := by
    rcases hn with h | h
    · have : (op == 1) = true := by simpa using h
      rw [this]; rfl
    · have : (n == 0) = true := by simpa using h
      rw [this]; simp
  have e6 : (!(op == 2) || env.contains s) = true := by
    rcases he with h | h
    · rw [h]; rfl
    · have : env.contains s = true := by simpa using h
      rw [this]; simp
  unfold hdOk
  rw [e1, hx, e2, e3, e4, e5, e6]; rfl

set_option maxHeartbeats 8000000 in
theorem parts : ∀ c : Co, Spr c := by
  refine Co.ind fun op n s t ks ih => ?_
  intro us env g cs deep hz he hd hcs hr
  subst hcs
  obtain ⟨g1, cs, rfl, hr⟩ := hr
  have hz' : szCs ks ≤ 1048576 := by simp only [szC] at hz; omega
  have he' : env.length + 2 * szCs ks ≤ 4194304 := by simp only [szC] at he; omega
  have hd' : deep + szCs ks ≤ 2097152 := by simp only [szC] at hd; omega
  have fin : deep ≤ 150 → hdOk env op n s t ks.length = true → ∀ jk K, (∀ jk j, K (.exit 0) ⟨[(85, xi j), (8, xi (prC deep env (.mk op n s t ks))), (84, xi ks.length), (83, xl (g1 + 1) 5 ks.length cs), (1, xl (g + 1) 1 env.length (nm env)), (2, xi deep), (3, .box () ((core op n s t (g1 + 1) ks.length cs).map .t)), (6, xi 0)], jk, []⟩) →
      (∀ jk j w, prC deep env (.mk op n s t ks) = 3001 → K .ret ⟨[(85, xi j), (8, xi w), (84, xi ks.length), (83, xl (g1 + 1) 5 ks.length cs), (1, xl (g + 1) 1 env.length (nm env)), (2, xi deep), (3, .box () ((core op n s t (g1 + 1) ks.length cs).map .t)), (6, xi 3001)], jk, []⟩) →
      sem cx0 45 RT (.loop (lp Tryd.f45 0)) ⟨[(85, xi (0 : Nat)), (8, xi (1 : Nat)), (84, xi ks.length), (83, xl (g1 + 1) 5 ks.length cs), (1, xl (g + 1) 1 env.length (nm env)), (2, xi deep), (3, .box () ((core op n s t (g1 + 1) ks.length cs).map .t)), (6, xi 0)], jk, []⟩ K := by
    intro h1 h2 jk K k1 k2
    have e : prC deep env (.mk op n s t ks) = prL op s t env deep 0 1 ks := by simp only [prC]; exact if_pos ⟨h1, h2⟩
    rw [e] at k1 k2
    exact lpr (g := g1) (op := op) (n := n) (s := s) (t := t) ih hz' he' hd' hr ks 0 rfl (by omega) 1 (by omega) (fun jk j _ => k1 jk j) k2 jk
  clear ih
  have no : ¬ (deep ≤ 150 ∧ hdOk env op n s t ks.length = true) → xi ((prC deep env (.mk op n s t ks) : Nat) : Int) = xi 3001 := fun h => (xi_eq (prC_no h)).symm
  refine fn_is (fn := Tryd.f45) rfl rfl rfl rfl ?_
  have nd : hdOk env op n s t ks.length = false → ¬ (deep ≤ 150 ∧ hdOk env op n s t ks.length = true) := fun h h' => by rw [h] at h'; exact Bool.noConfusion h'.2
  refine ⟨fun h0 => ?_, fun h0 => ?_⟩
  · exact ⟨no (by rintro ⟨h, _⟩; simp at h0; omega), rfl⟩
  have hdp : deep ≤ 150 := by simp at h0; omega
  refine ⟨_, retI (kids_i op), ?_⟩
  refine ⟨fun h1 => ⟨no (nd (hd_a h1)), rfl⟩, fun h1 => ?_⟩
  refine ⟨_, retB (word_i n), ?_⟩
  refine ⟨fun h2 => ⟨no (nd (hd_w h2)), rfl⟩, fun h2 => ?_⟩
  refine ⟨fun h3 => ⟨fun h4 => ⟨no (nd (hd_n h3 h4)), rfl⟩, fun h4 => ?_⟩, fun h3 => ?_⟩
  all_goals have hn : (op != 1) = false ∨ (n != 0) = false := by first | exact .inr h4 | exact .inl h3
  all_goals refine ⟨fun h5 => ?_, fun h5 => ⟨fun h6 => ?_, fun h6 => ⟨fun h7 => ?_, fun h7 => ?_⟩⟩⟩
  all_goals first | have hx := nam2 h5 | have hx := nam3 h6 | have hx := nam5 h7 | have hx := nam0 h5 h6 h7
  all_goals refine ⟨fun h8 => ⟨no (nd (hd_s hx h8)), rfl⟩, fun h8 => ?_⟩
  all_goals refine ⟨fun h9 => ⟨no (nd (hd_t h9)), rfl⟩, fun h9 => ?_⟩
  all_goals refine ⟨fun h10 => ?_, fun h10 => ?_⟩
  all_goals try refine ⟨_, retB (con73 (g := g + 1) (nm_retag env) (by simp only [maxLen]; omega)), ?_⟩
  all_goals try refine ⟨fun h11 => ⟨no (nd (hd_e h10 h11)), rfl⟩, fun h11 => ?_⟩
  all_goals have he : (op == 2) = false ∨ (!env.contains s) = false := by first | exact .inl h10 | exact .inr h11
  all_goals
    refine sem_in cx0 _ RT [85, 8, 84, 83, 1, 2, 3, 6] fun jk => ?_
    refine fin hdp (hd_yes h1 hx h8 h9 hn h2 he) jk _ (fun jk j => ?_) (fun jk j w h => ?_)
    · exact ⟨rfl, rfl⟩
    · exact ⟨xi_eq (by rw [h]; rfl), rfl⟩

theorem ok_i {c : Co} {us : List TU} (hz : szC c ≤ 1048576) (hr : Rd c us) : RT 26 [xc us] [] = some (xb (okCo c), []) := by
  cases c with
  | mk op n s t ks =>
  obtain ⟨g, cs, rfl, hr⟩ := hr
  have rd : Rd (.mk op n s t ks) (core op n s t (g + 2) ks.length (retags cs)) := ⟨_, _, rfl, hr.retag⟩
  refine fn_is (fn := Tryd.f26) rfl rfl rfl rfl ?_
  refine ⟨_, retI (parts _ _ [] 0 [] 1 hz (by simp; omega) (by omega) rfl rd), ?_⟩
  refine ⟨xb_eq ?_, rfl⟩
  rw [← prC_ok]
  exact decide_eq_decide.2 (by omega)
end Go.Proofs.YtlkjnlfddadlmaaDoor.V

namespace Go.Proofs.YtlkjnlfddadlmaaDoor.V
set_option maxRecDepth 100000

abbrev zco : Co := .mk 0 0 [] [] []
def kid (ks : List Co) (i : Nat) : Co := ks.getD i zco
def coOp : Co → Int
  | .mk op _ _ _ _ => op
def coN : Co → Int
  | .mk _ n _ _ _ => n
def and31 (x : Int) : Int := IntKind.wrap .i64 (BitVec.ofInt IntKind.i64.bits x &&& BitVec.ofInt IntKind.i64.bits 2147483647).toNat
def rnd (x : Int) : Int := if and31 x ≥ 1073741824 then IntKind.wrap .i64 (and31 x - 2147483648) else and31 x

def mathC (op a b : Int) : Int :=
  if op = 8 then rnd (IntKind.wrap .i64 (a + b)) else if op = 9 then rnd (IntKind.wrap .i64 (a - b)) else if op = 10 then rnd (IntKind.wrap .i64 (a * b))
  else if op = 11 then (bit (decide (a < b)) : Int) else (bit (a == b) : Int)

def foldH (op n : Int) (s t : Nm) (ks : List Co) : Co :=
  if (decide (op ≥ 8) && decide (op ≤ 12)) && coOp (kid ks 0) == 1 && coOp (kid ks 1) == 1 then .mk 1 (mathC op (coN (kid ks 0)) (coN (kid ks 1))) [] [] []
  else if op == 7 && coOp (kid ks 0) == 1 then (if coN (kid ks 0) == 0 then kid ks 2 else kid ks 1)
  else if op == 17 && (coOp (kid ks 0) == 1 || coOp (kid ks 0) == 13) then .mk 1 0 [] [] []
  else .mk op n s t ks

mutual
def fold : Co → Co
  | .mk op n s t ks => foldH op n s t (folds ks)
def folds : List Co → List Co
  | [] => []
  | c :: l => fold c :: folds l
end

theorem folds_len : ∀ l : List Co, (folds l).length = l.length
  | [] => rfl
  | c :: l => by simp only [folds, List.length_cons, folds_len l]
mutual
def arOk : Co → Bool
  | .mk op _ _ _ ks => arC op == (ks.length : Int) && arOks ks
def arOks : List Co → Bool
  | [] => true
  | c :: l => arOk c && arOks l
end
mutual
theorem right_ar : ∀ (env : List Nm) (c : Co), rightC env c = true → arOk c = true
  | env, .mk op n s t ks, h => by
    simp only [rightC, hdOk, Bool.and_eq_true] at h
    simp only [arOk, Bool.and_eq_true]
    exact ⟨h.1.1.1.1.1.1, right_ars op s t env 0 ks h.2⟩
theorem right_ars : ∀ (op : Int) (s t : Nm) (env : List Nm) (i : Nat) (l : List Co), rightL op s t env i l = true → arOks l = true
  | op, s, t, env, i, [], h => rfl
  | op, s, t, env, i, c :: l, h => by
    simp only [rightL, Bool.and_eq_true] at h
    simp only [arOks, Bool.and_eq_true]
    exact ⟨right_ar _ c h.1, right_ars op s t env (i + 1) l h.2⟩
end
theorem arOks_mem : ∀ {l : List Co}, arOks l = true → ∀ c ∈ l, arOk c = true
  | c :: l, h, x, hx => by
    simp only [arOks, Bool.and_eq_true] at h
    rcases List.mem_cons.1 hx with rfl | hx
    · exact h.1
    · exact arOks_mem h.2 x hx

theorem okCo_right {c : Co} (h : okCo c = true) : rightC [] c = true := by
  simp only [okCo, Bool.and_eq_true] at h; exact h.2
theorem okCo_ar {c : Co} (h : okCo c = true) : arOk c = true := right_ar _ _ (okCo_right h)

theorem wrap_range (n : Int) : -9223372036854775808 ≤ IntKind.wrap .i64 n ∧ IntKind.wrap .i64 n < 9223372036854775808 := by
  have : IntKind.wrap .i64 n = if n % 18446744073709551616 ≥ 9223372036854775808 then n % 18446744073709551616 - 18446744073709551616 else n % 18446744073709551616 := by
    unfold IntKind.wrap
    exact ite_iff (by simp [IntKind.bits, IntKind.signed]) rfl rfl
  rw [this]
  split <;> omega

theorem rnd_range (x : Int) : -9223372036854775808 ≤ rnd x ∧ rnd x < 9223372036854775808 := by
  unfold rnd
  split
  · exact wrap_range _
  · exact wrap_range _

theorem mathC_range (op a b : Int) : -9223372036854775808 ≤ mathC op a b ∧ mathC op a b < 9223372036854775808 := by
  have h : ∀ c : Bool, -9223372036854775808 ≤ ((bit c : Nat) : Int) ∧ ((bit c : Nat) : Int) < 9223372036854775808 := by intro c; cases c <;> simp [bit]
  unfold mathC
  split
  · exact rnd_range _
  · split
    · exact rnd_range _
    · split
      · exact rnd_range _
      · split
        · exact h _
        · exact h _

theorem ndCs_mem : ∀ {l : List Co} {c : Co}, c ∈ l → ndC c ≤ ndCs l
  | x :: l, c, h => by
    simp only [ndCs]
    rcases List.mem_cons.1 h with rfl | h
    · omega
    · have := ndCs_mem h; omega

theorem kid_mem {ks : List Co} {i : Nat} : kid ks i ∈ ks ∨ kid ks i = zco := by
  unfold kid
  rw [List.getD_eq_getElem?_getD]
  cases h : ks[i]? with
  | none => right; rfl
  | some c => left; exact List.mem_of_getElem? h

theorem foldH_of {P : Co → Prop} {op n : Int} {s t : Nm} {ks : List Co} (h0 : P zco) (h1 : ∀ n, -9223372036854775808 ≤ n → n < 9223372036854775808 → P (.mk 1 n [] [] [])) (hk : ∀ c ∈ ks, P c) (hs : P (.mk op n s t ks)) : P (foldH op n s t ks) := by
  have hkid : ∀ i, P (kid ks i) := fun i => by
    rcases kid_mem (ks := ks) (i := i) with h | h
    · exact hk _ h
    · rw [h]; exact h0
  unfold foldH
  split
  · exact h1 _ (mathC_range _ _ _).1 (mathC_range _ _ _).2
  · split
    · split
      · exact hkid _
      · exact hkid _
    · split
      · exact h1 0 (by omega) (by omega)
      · exact hs

theorem zco_wf : Wf zco := by simp [Wf, Wfs, maxLen]
mutual
theorem fold_wf : ∀ c : Co, Wf c → Wf (fold c)
  | .mk op n s t ks, h => by
    simp only [Wf] at h
    have hk := folds_wf ks h.2.2.2.2.2
    simp only [fold]
    refine foldH_of zco_wf (fun n h1 h2 => by simp [Wf, Wfs, maxLen, h1, h2]) (Wfs_iff.1 hk) ?_
    simp only [Wf]
    exact ⟨h.1, h.2.1, h.2.2.1, h.2.2.2.1, by rw [folds_len]; exact h.2.2.2.2.1, hk⟩
theorem folds_wf : ∀ l : List Co, Wfs l → Wfs (folds l)
  | [], h => trivial
  | c :: l, h => by
    simp only [Wfs] at h
    simp only [folds, Wfs]
    exact ⟨fold_wf c h.1, folds_wf l h.2⟩
end
mutual
theorem fold_nd : ∀ c : Co, ndC (fold c) ≤ ndC c
  | .mk op n s t ks => by
    have hk := folds_nd ks
    simp only [fold]
    refine foldH_of (P := fun x => ndC x ≤ ndC (.mk op n s t ks)) ?_ (fun n _ _ => ?_) (fun c hc => ?_) ?_
    · simp only [ndC, ndCs]; omega
    · simp only [ndC, ndCs]; omega
    · have := ndCs_mem hc; simp only [ndC]; omega
    · simp only [ndC]; omega
theorem folds_nd : ∀ l : List Co, ndCs (folds l) ≤ ndCs l
  | [] => Nat.le_refl _
  | c :: l => by
    have h1 := fold_nd c
    have h2 := folds_nd l
    simp only [folds, ndCs]; omega
end
theorem szC_kid {l : List Co} {c : Co} (h : c ∈ l) : szC c ≤ szCs l := by have := szCs_mem1 h; omega
mutual
theorem fold_sz : ∀ c : Co, szC (fold c) ≤ szC c
  | .mk op n s t ks => by
    have hk := folds_sz ks
    simp only [fold]
    refine foldH_of (P := fun x => szC x ≤ szC (.mk op n s t ks)) ?_ (fun n _ _ => ?_) (fun c hc => ?_) ?_
    · simp only [szC, szCs, List.length_nil]; omega
    · simp only [szC, szCs, List.length_nil]; omega
    · have := szC_kid hc; simp only [szC]; omega
    · simp only [szC]; omega
theorem folds_sz : ∀ l : List Co, szCs (folds l) ≤ szCs l
  | [] => Nat.le_refl _
  | c :: l => by
    have h1 := fold_sz c
    have h2 := folds_sz l
    simp only [folds, szCs]; omega
end
mutual
theorem szM_nd : ∀ c : Co, szM c = 4 * ndC c
  | .mk op n s t ks => by simp only [szM, ndC, szMs_nd ks]; omega
theorem szMs_nd : ∀ l : List Co, szMs l = 4 * ndCs l
  | [] => rfl
  | c :: l => by simp only [szMs, ndCs, szM_nd c, szMs_nd l]; omega
end
end Go.Proofs.YtlkjnlfddadlmaaDoor.V

namespace Go.Proofs.YtlkjnlfddadlmaaDoor.V
set_option maxRecDepth 100000

def smallB (op : Int) : Bool := op == 1 || op == 2 || op == 13

theorem small20 {c : Co} {us : List TU} (h : Rd c us) : RT 51 [xc us] [] = some (xb (match c with | .mk op _ _ _ _ => smallB op), []) := by
  cases c with
  | mk op n s t ks =>
  obtain ⟨g, cs, rfl, _⟩ := h
  refine fn_is (fn := Tryd.f51) rfl rfl rfl rfl ?_
  refine ⟨fun h1 => ?_, fun h1 => ?_⟩
  · exact ⟨by simp only [smallB, h1]; rfl, rfl⟩
  refine ⟨fun h2 => ?_, fun h2 => ?_⟩
  · exact ⟨by simp only [smallB, h1, h2]; rfl, rfl⟩
  · exact ⟨by simp only [smallB, h1, h2]; rfl, rfl⟩

theorem small22 {c : Co} {us : List TU} (h : Rd c us) : RT 55 [xc us] [] = some (xb (match c with | .mk op _ _ _ _ => smallB op), []) := by
  cases c with
  | mk op n s t ks =>
  obtain ⟨g, cs, rfl, _⟩ := h
  refine fn_is (fn := Tryd.f55) rfl rfl rfl rfl ?_
  refine ⟨fun h1 => ?_, fun h1 => ?_⟩
  · exact ⟨by simp only [smallB, h1]; rfl, rfl⟩
  refine ⟨fun h2 => ?_, fun h2 => ?_⟩
  · exact ⟨by simp only [smallB, h1, h2]; rfl, rfl⟩
  · exact ⟨by simp only [smallB, h1, h2]; rfl, rfl⟩

end Go.Proofs.YtlkjnlfddadlmaaDoor.V

namespace Go.Proofs.YtlkjnlfddadlmaaDoor.V
set_option maxRecDepth 100000

def pureB (op : Int) : Bool := smallB op || op == 3

theorem pure24 {c : Co} {us : List TU} (h : Rd c us) : RT 53 [xc us] [] = some (xb (match c with | .mk op _ _ _ _ => pureB op), []) := by
  cases c with
  | mk op n s t ks =>
  obtain ⟨g, cs, rfl, h⟩ := h
  refine fn_is (fn := Tryd.f53) rfl rfl rfl rfl ?_
  refine ⟨_, retB (small20 (show Rd (.mk op n s t ks) (core op n s t (g + 2) ks.length (retags cs)) from ⟨_, _, rfl, h.retag⟩)), ?_⟩
  refine ⟨fun h1 => ?_, fun h1 => ?_⟩
  · exact ⟨by simp only [pureB, h1]; rfl, rfl⟩
  · exact ⟨by simp only [pureB, h1]; rfl, rfl⟩

theorem pure25 {c : Co} {us : List TU} (h : Rd c us) : RT 57 [xc us] [] = some (xb (match c with | .mk op _ _ _ _ => pureB op), []) := by
  cases c with
  | mk op n s t ks =>
  obtain ⟨g, cs, rfl, h⟩ := h
  refine fn_is (fn := Tryd.f57) rfl rfl rfl rfl ?_
  refine ⟨_, retB (small22 (show Rd (.mk op n s t ks) (core op n s t (g + 2) ks.length (retags cs)) from ⟨_, _, rfl, h.retag⟩)), ?_⟩
  refine ⟨fun h1 => ?_, fun h1 => ?_⟩
  · exact ⟨by simp only [pureB, h1]; rfl, rfl⟩
  · exact ⟨by simp only [pureB, h1]; rfl, rfl⟩

end Go.Proofs.YtlkjnlfddadlmaaDoor.V

namespace Go.Proofs.YtlkjnlfddadlmaaDoor.V
set_option maxRecDepth 100000

mutual
def putB (name : Nm) (v : Co) : Bool → Co → Co
  | b, .mk op n s t ks => if op == 2 && s == name && !b then v else .mk op n s t (putBs name v b op s t 0 ks)
def putBs (name : Nm) (v : Co) : Bool → Int → Nm → Nm → Nat → List Co → List Co
  | _, _, _, _, _, [] => []
  | b, op, s, t, i, c :: l => putB name v (b || (envS op s t i).contains name) c :: putBs name v b op s t (i + 1) l
end

theorem putBs_len {name : Nm} {v : Co} {b : Bool} {op : Int} {s t : Nm} : ∀ (l : List Co) (i : Nat), (putBs name v b op s t i l).length = l.length
  | [], i => rfl
  | c :: l, i => by simp only [putBs, List.length_cons, putBs_len l]

mutual
theorem putB_true (name : Nm) (v : Co) : ∀ c : Co, putB name v true c = c
  | .mk op n s t ks => by
    simp only [putB, Bool.not_true, Bool.and_false, Bool.false_eq_true, if_false, putBs_true name v op s t ks 0]
theorem putBs_true (name : Nm) (v : Co) : ∀ (op : Int) (s t : Nm) (l : List Co) (i : Nat), putBs name v true op s t i l = l
  | op, s, t, [], i => rfl
  | op, s, t, c :: l, i => by simp only [putBs, Bool.true_or, putB_true name v c, putBs_true name v op s t l (i + 1)]
end

theorem putBs_at {name : Nm} {v : Co} {b : Bool} {op : Int} {s t : Nm} : ∀ (l : List Co) (j i : Nat) (c : Co), l[i]? = some c → (putBs name v b op s t j l)[i]? = some (putB name v (b || (envS op s t (j + i)).contains name) c)
  | [], j, i, c, h => by simp at h
  | x :: l, j, 0, c, h => by
    simp only [List.getElem?_cons_zero, Option.some.injEq] at h
    subst h; rfl
  | x :: l, j, i + 1, c, h => by
    simp only [List.getElem?_cons_succ] at h
    have := putBs_at (name := name) (v := v) (b := b) (op := op) (s := s) (t := t) l (j + 1) i c h
    simp only [putBs, List.getElem?_cons_succ]
    rw [this, show j + 1 + i = j + (i + 1) by omega]

theorem cont_app {a b : List Nm} {s : Nm} : (a ++ b).contains s = (a.contains s || b.contains s) := by simp

def S71 (c : Co) : Prop := ∀ us name v vs env g cs, szC c ≤ 1048576 → szC v ≤ 1048576 → env.length + 2 * szC c ≤ 4194304 → cs = nm env → Rd c us → Rd v vs →
  RT 72 [xc us, xs name, xc vs, xl (g + 1) 1 env.length cs] [] = some (xc (enc (putB name v (env.contains name) c)), [])

theorem l71 {ks : List Co} {cs : List TU} {g g2 : Nat} {op n : Int} {s t : List UInt8} {name : Nm} {v : Co} {vop vn : Int} {vs vt : Nm} {vks : List Co} {vg : Nat} {vcs : List TU} {env : List Nm} {K : Ex → StA → Prop} (H : ∀ c ∈ ks, S71 c) (hz : szCs ks ≤ 1048576) (hv : szC v ≤ 1048576) (hve : v = .mk vop vn vs vt vks) (hvr : Rds vks vcs) (he : env.length + 2 * szCs ks ≤ 4194304) (hr : Rds ks cs)
    {R : List Co} (hR : R = putBs name v (env.contains name) op s t 0 ks) :
    ∀ (l : List Co) (i : Nat), ks.drop i = l → i ≤ ks.length →
    (∀ jk j, K (.exit 0) ⟨[(10, xi j), (9, .box () ((core op n s t 0 ks.length (encs R)).map .t)), (4, .box () ((core op n s t (g + 1) ks.length cs).map .t)), (1, xs name), (3, xl (g2 + 1) 1 env.length (nm env)), (6, .box () ((core vop vn vs vt (vg + 1) vks.length vcs).map .t)), (8, .box () (zC.map .t))], jk, []⟩) →
    ∀ jk, sem cx0 72 RT (.loop (lp Tryd.f72 0)) ⟨[(10, xi i), (9, .box () ((core op n s t 0 i (encs (R.take i))).map .t)), (4, .box () ((core op n s t (g + 1) ks.length cs).map .t)), (1, xs name), (3, xl (g2 + 1) 1 env.length (nm env)), (6, .box () ((core vop vn vs vt (vg + 1) vks.length vcs).map .t)), (8, .box () (zC.map .t))], jk, []⟩ K := by
  have hk := szCs_le hz
  have hRl : R.length = ks.length := by rw [hR, putBs_len]
  refine drop_ind ?_ ?_
  · intro k1 jk
    refine loop_step cx0 _ RT [10, 9, 4, 1, 3, 6, 8] ⟨fun h => (lt_no h (by omega)).elim, fun h => ?_⟩
    intro jk
    have := k1 jk ks.length
    rw [← hRl, List.take_length]
    rw [hRl]
    exact this
  · intro i c l hi hil ih k1 jk
    have hm := List.mem_of_getElem? hi
    have hc := H c hm
    have hzc := szCs_mem hz hm
    have hel := envS_le (op := op) (s := s) (t := t) (i := i)
    have hz1 := szCs_mem1 hm
    have hRi : R[i]? = some (putB name v (env.contains name || (envS op s t i).contains name) c) := by
      rw [hR, putBs_at ks 0 i c hi, Nat.zero_add]
    rw [← cont_app] at hRi
    have hq := enc_put (i := i) hRi
    cases c with
    | mk op' n' s' t' kk =>
    obtain ⟨g', cs', e1, e2⟩ := Rds_get hr hi
    have hti : (R.take i).length = i := by rw [List.length_take]; omega
    refine loop_step cx0 _ RT [10, 9, 4, 1, 3, 6, 8] ⟨fun h => ?_, fun h => (lt_yes h (by omega)).elim⟩
    refine ⟨⟨by omega, by omega⟩, ?_⟩
    refine ⟨op', n', s', t', g' + 1, kk.length, cs', ⟨e1, rfl⟩, ?_⟩
    obtain ⟨g3, r1⟩ := retEnv (env84 (show Rd (.mk op n s t ks) (core op n s t (g + 2) ks.length (retags cs)) from ⟨_, _, rfl, hr.retag⟩) (nm_retag env) (by omega) (i := i) (g := g2))
    refine ⟨_, r1, ?_⟩
    have hc2 := hc (core op' n' s' t' (g' + 2) kk.length (retags cs')) name v (core vop vn vs vt (vg + 2) vks.length (retags vcs)) (env ++ envS op s t i) g3 _ hzc hv (by rw [List.length_append]; omega) (nm_retag _) ⟨_, _, rfl, e2.retag⟩ (by rw [hve]; exact ⟨_, _, rfl, hvr.retag⟩)
    generalize putB name v ((env ++ envS op s t i).contains name) (.mk op' n' s' t' kk) = P at hc2 hq
    cases P with
    | mk po pn ps pt pk =>
    refine ⟨_, retC hc2, ?_⟩
    refine ⟨by rw [encs_len, hti]; omega, ?_⟩
    refine ⟨⟨by simp only [maxLen]; omega, by show (i + 1) * 72 ≤ _; omega⟩, ?_⟩
    intro jk
    have ih := ih k1 jk
    rw [← hq] at ih
    rw [wrapS hil (by simp only [maxLen]; omega)]
    exact ih

theorem put71 : ∀ c : Co, S71 c := by
  refine Co.ind fun op n s t ks ih => ?_
  intro us name v vs env g cs hz hv he hcs hr hvr
  subst hcs
  obtain ⟨g1, cs, rfl, hr⟩ := hr
  have hz' : szCs ks ≤ 1048576 := by simp only [szC] at hz; omega
  have he' : env.length + 2 * szCs ks ≤ 4194304 := by simp only [szC] at he; omega
  cases v with
  | mk vop vn vs vt vks =>
  obtain ⟨vg, vcs, rfl, hvr⟩ := hvr
  have no : (op == 2 && s == name && !env.contains name) = false → putB name (.mk vop vn vs vt vks) (env.contains name) (.mk op n s t ks) = .mk op n s t (putBs name (.mk vop vn vs vt vks) (env.contains name) op s t 0 ks) := fun h => by rw [putB, h]; rfl
  have hRl := putBs_len (name := name) (v := .mk vop vn vs vt vks) (b := env.contains name) (op := op) (s := s) (t := t) ks 0
  have fin : ∀ jk K, (∀ jk j, K (.exit 0) ⟨[(10, xi j), (9, .box () ((core op n s t 0 ks.length (encs (putBs name (.mk vop vn vs vt vks) (env.contains name) op s t 0 ks))).map .t)), (4, .box () ((core op n s t (g1 + 1) ks.length cs).map .t)), (1, xs name), (3, xl (g + 1) 1 env.length (nm env)), (6, .box () ((core vop vn vs vt (vg + 1) vks.length vcs).map .t)), (8, .box () (zC.map .t))], jk, []⟩) →
      sem cx0 72 RT (.loop (lp Tryd.f72 0)) ⟨[(10, xi (0 : Nat)), (9, .box () ((core op n s t 0 0 []).map .t)), (4, .box () ((core op n s t (g1 + 1) ks.length cs).map .t)), (1, xs name), (3, xl (g + 1) 1 env.length (nm env)), (6, .box () ((core vop vn vs vt (vg + 1) vks.length vcs).map .t)), (8, .box () (zC.map .t))], jk, []⟩ K :=
    fun jk K k1 => l71 (g := g1) (op := op) (n := n) (s := s) (t := t) ih hz' hv rfl hvr he' hr rfl ks 0 rfl (by omega) k1 jk
  have hE : (op == 2 && s == name && !env.contains name) = false → xc (enc (putB name (.mk vop vn vs vt vks) (env.contains name) (.mk op n s t ks))) = xc (core op n s t 0 ks.length (((encs (putBs name (.mk vop vn vs vt vks) (env.contains name) op s t 0 ks)).drop 0).take (ks.length * 5))) := by
    intro hf
    rw [no hf]
    have := encs_whole (putBs name (.mk vop vn vs vt vks) (env.contains name) op s t 0 ks)
    rw [hRl] at this
    rw [this]
    simp only [enc, hRl]
  have hW : 0 + ks.length * 5 ≤ (encs (putBs name (.mk vop vn vs vt vks) (env.contains name) op s t 0 ks)).length := by rw [encs_len, hRl]; omega
  refine fn_is (fn := Tryd.f72) rfl rfl rfl rfl ?_
  refine ⟨fun h2 => ?_, fun h2 => ?_⟩
  · refine ⟨fun hn => ?_, fun hn => ?_⟩
    · refine ⟨_, retB (in83 (g := g + 1) (nm_retag env) (by simp only [maxLen]; omega)), ?_⟩
      refine ⟨fun hb => ?_, fun hb => ?_⟩
      · refine ⟨_, retC (copy86 (.mk vop vn vs vt vks) _ hv (show Rd _ (core vop vn vs vt (vg + 2) vks.length (retags vcs)) from ⟨_, _, rfl, hvr.retag⟩)), ?_⟩
        refine ⟨inV vks, ?_⟩
        refine ⟨?_, rfl⟩
        rw [putB, h2, hn, hb]
        exact congrArg (fun x => xc (core vop vn vs vt 0 vks.length x)) (encs_whole vks).symm
      · refine sem_in cx0 _ RT [10, 9, 4, 1, 3, 6, 8] fun jk => ?_
        have hf : (op == 2 && s == name && !env.contains name) = false := by rw [h2, hn, hb]; rfl
        refine fin jk _ (fun jk j => ?_)
        refine ⟨hW, ?_⟩
        exact ⟨hE hf, rfl⟩
    · refine sem_in cx0 _ RT [10, 9, 4, 1, 3, 6, 8] fun jk => ?_
      have hf : (op == 2 && s == name && !env.contains name) = false := by rw [h2, hn]; rfl
      refine fin jk _ (fun jk j => ?_)
      refine ⟨hW, ?_⟩
      exact ⟨hE hf, rfl⟩
  · refine sem_in cx0 _ RT [10, 9, 4, 1, 3, 6, 8] fun jk => ?_
    have hf : (op == 2 && s == name && !env.contains name) = false := by rw [h2]; rfl
    refine fin jk _ (fun jk j => ?_)
    refine ⟨hW, ?_⟩
    exact ⟨hE hf, rfl⟩

theorem put42 {c v : Co} {us vs : List TU} {name : Nm} (hz : szC c ≤ 1048576) (hv : szC v ≤ 1048576) (hr : Rd c us) (hvr : Rd v vs) : RT 52 [xc us, xs name, xc vs] [] = some (xc (enc (putB name v false c)), []) := by
  have h := fun us vs => put71 c us name v vs [] 0 [] hz hv (by simp; omega) rfl
  rw [show ([] : List Nm).contains name = false from rfl] at h
  cases c with
  | mk op n s t ks =>
  cases v with
  | mk vop vn vs vt vks =>
  obtain ⟨g, cs, rfl, hr⟩ := hr
  obtain ⟨vg, vcs, rfl, hvr⟩ := hvr
  have h := h (core op n s t (g + 2) ks.length (retags cs)) (core vop vn vs vt (vg + 2) vks.length (retags vcs)) ⟨_, _, rfl, hr.retag⟩ ⟨_, _, rfl, hvr.retag⟩
  generalize putB name (.mk vop vn vs vt vks) false (.mk op n s t ks) = P at h
  cases P with
  | mk po pn ps pt pk =>
  refine fn_is (fn := Tryd.f52) rfl rfl rfl rfl ?_
  refine ⟨_, retC h, ?_⟩
  refine ⟨inV pk, ?_⟩
  exact ⟨congrArg (fun x => xc (core po pn ps pt 0 pk.length x)) (encs_whole pk).symm, rfl⟩

def S43 (c : Co) : Prop := ∀ us name v vs, szC c ≤ 1048576 → szC v ≤ 1048576 → Rd c us → Rd v vs →
  RT 56 [xc us, xs name, xc vs] [] = some (xc (enc (putB name v false c)), [])

theorem l43 {ks : List Co} {cs : List TU} {g : Nat} {op n : Int} {s t : List UInt8} {name : Nm} {v : Co} {vop vn : Int} {vs vt : Nm} {vks : List Co} {vg : Nat} {vcs : List TU} {K : Ex → StA → Prop} (H : ∀ c ∈ ks, S43 c) (hz : szCs ks ≤ 1048576) (hv : szC v ≤ 1048576) (hve : v = .mk vop vn vs vt vks) (hvr : Rds vks vcs) (hr : Rds ks cs)
    {R : List Co} (hR : R = putBs name v false op s t 0 ks) :
    ∀ (l : List Co) (i : Nat), ks.drop i = l → i ≤ ks.length →
    (∀ jk j, K (.exit 0) ⟨[(26, xi j), (25, xi ks.length), (24, xl (g + 1) 5 ks.length cs), (7, .box () ((core op n s t 0 ks.length (encs R)).map .t)), (3, .box () ((core op n s t (g + 1) ks.length cs).map .t)), (1, xs name), (5, .box () ((core vop vn vs vt (vg + 1) vks.length vcs).map .t)), (6, .box () (zC.map .t))], jk, []⟩) →
    ∀ jk, sem cx0 56 RT (.loop (lp Tryd.f56 0)) ⟨[(26, xi i), (25, xi ks.length), (24, xl (g + 1) 5 ks.length cs), (7, .box () ((core op n s t 0 i (encs (R.take i))).map .t)), (3, .box () ((core op n s t (g + 1) ks.length cs).map .t)), (1, xs name), (5, .box () ((core vop vn vs vt (vg + 1) vks.length vcs).map .t)), (6, .box () (zC.map .t))], jk, []⟩ K := by
  have hk := szCs_le hz
  have hRl : R.length = ks.length := by rw [hR, putBs_len]
  refine drop_ind ?_ ?_
  · intro k1 jk
    refine loop_step cx0 _ RT [26, 25, 24, 7, 3, 1, 5, 6] ⟨fun h => (lt_no h (by omega)).elim, fun h => ?_⟩
    intro jk
    have := k1 jk ks.length
    rw [← hRl, List.take_length]
    rw [hRl]
    exact this
  · intro i c l hi hil ih k1 jk
    have hm := List.mem_of_getElem? hi
    have hc := H c hm
    have hzc := szCs_mem hz hm
    have hel := envS_le (op := op) (s := s) (t := t) (i := i)
    have hRi : R[i]? = some (putB name v ((envS op s t i).contains name) c) := by
      rw [hR, putBs_at ks 0 i c hi, Nat.zero_add, Bool.false_or]
    have hq := enc_put (i := i) hRi
    cases c with
    | mk op' n' s' t' kk =>
    obtain ⟨g', cs', e1, e2⟩ := Rds_get hr hi
    have hti : (R.take i).length = i := by rw [List.length_take]; omega
    refine loop_step cx0 _ RT [26, 25, 24, 7, 3, 1, 5, 6] ⟨fun h => ?_, fun h => (lt_yes h (by omega)).elim⟩
    refine ⟨⟨by omega, by omega⟩, ?_⟩
    refine ⟨op', n', s', t', g' + 1, kk.length, cs', ⟨e1, rfl⟩, ?_⟩
    refine ⟨_, retN (binds74 (show Rd (.mk op n s t ks) (core op n s t (g + 2) ks.length (retags cs)) from ⟨_, _, rfl, hr.retag⟩)), ?_⟩
    refine ⟨_, retB (con73 (g := 0) (nm_retag _) (by simp only [maxLen]; omega)), ?_⟩
    refine ⟨fun hb => ?_, fun hb => ?_⟩
    · rw [hb, putB_true] at hq
      refine ⟨_, retC (copy72 (.mk op' n' s' t' kk) _ hzc (show Rd _ (core op' n' s' t' (g' + 2) kk.length (retags cs')) from ⟨_, _, rfl, e2.retag⟩)), ?_⟩
      refine ⟨by rw [encs_len, hti]; omega, ?_⟩
      refine ⟨⟨by simp only [maxLen]; omega, by show (i + 1) * 72 ≤ _; omega⟩, ?_⟩
      intro jk
      have ih := ih k1 jk
      rw [← hq] at ih
      rw [wrapS hil (by simp only [maxLen]; omega)]
      exact ih
    · rw [hb] at hq
      have hc2 := hc (core op' n' s' t' (g' + 2) kk.length (retags cs')) name v (core vop vn vs vt (vg + 2) vks.length (retags vcs)) hzc hv ⟨_, _, rfl, e2.retag⟩ (by rw [hve]; exact ⟨_, _, rfl, hvr.retag⟩)
      generalize putB name v false (.mk op' n' s' t' kk) = P at hc2 hq
      cases P with
      | mk po pn ps pt pk =>
      refine ⟨_, retC hc2, ?_⟩
      refine ⟨by rw [encs_len, hti]; omega, ?_⟩
      refine ⟨⟨by simp only [maxLen]; omega, by show (i + 1) * 72 ≤ _; omega⟩, ?_⟩
      intro jk
      have ih := ih k1 jk
      rw [← hq] at ih
      rw [wrapS hil (by simp only [maxLen]; omega)]
      exact ih

theorem put43 : ∀ c : Co, S43 c := by
  refine Co.ind fun op n s t ks ih => ?_
  intro us name v vs hz hv hr hvr
  obtain ⟨g1, cs, rfl, hr⟩ := hr
  have hz' : szCs ks ≤ 1048576 := by simp only [szC] at hz; omega
  cases v with
  | mk vop vn vs vt vks =>
  obtain ⟨vg, vcs, rfl, hvr⟩ := hvr
  have no : (op == 2 && s == name) = false → putB name (.mk vop vn vs vt vks) false (.mk op n s t ks) = .mk op n s t (putBs name (.mk vop vn vs vt vks) false op s t 0 ks) := fun h => by rw [putB, h]; rfl
  have hRl := putBs_len (name := name) (v := .mk vop vn vs vt vks) (b := false) (op := op) (s := s) (t := t) ks 0
  have hE : (op == 2 && s == name) = false → xc (enc (putB name (.mk vop vn vs vt vks) false (.mk op n s t ks))) = xc (core op n s t 0 ks.length (((encs (putBs name (.mk vop vn vs vt vks) false op s t 0 ks)).drop 0).take (ks.length * 5))) := by
    intro hf
    rw [no hf]
    have := encs_whole (putBs name (.mk vop vn vs vt vks) false op s t 0 ks)
    rw [hRl] at this
    rw [this]
    simp only [enc, hRl]
  have hW : 0 + ks.length * 5 ≤ (encs (putBs name (.mk vop vn vs vt vks) false op s t 0 ks)).length := by rw [encs_len, hRl]; omega
  refine fn_is (fn := Tryd.f56) rfl rfl rfl rfl ?_
  refine ⟨fun h2 => ?_, fun h2 => ?_⟩
  · refine ⟨fun hn => ?_, fun hn => ?_⟩
    · refine ⟨_, retC (copy72 (.mk vop vn vs vt vks) _ hv (show Rd _ (core vop vn vs vt (vg + 2) vks.length (retags vcs)) from ⟨_, _, rfl, hvr.retag⟩)), ?_⟩
      refine ⟨inV vks, ?_⟩
      refine ⟨?_, rfl⟩
      rw [putB, h2, hn]
      exact congrArg (fun x => xc (core vop vn vs vt 0 vks.length x)) (encs_whole vks).symm
    · refine sem_in cx0 _ RT [26, 25, 24, 7, 3, 1, 5, 6] fun jk => ?_
      refine l43 (g := g1) (op := op) (n := n) (s := s) (t := t) ih hz' hv rfl hvr hr rfl ks 0 rfl (by omega) (fun jk j => ?_) jk
      refine ⟨hW, ?_⟩
      exact ⟨hE (by rw [h2, hn]; rfl), rfl⟩
  · refine sem_in cx0 _ RT [26, 25, 24, 7, 3, 1, 5, 6] fun jk => ?_
    refine l43 (g := g1) (op := op) (n := n) (s := s) (t := t) ih hz' hv rfl hvr hr rfl ks 0 rfl (by omega) (fun jk j => ?_) jk
    refine ⟨hW, ?_⟩
    exact ⟨hE (by rw [h2]; rfl), rfl⟩

mutual
def nds : Co → Nat
  | .mk _ _ _ _ ks => 1 + ndss ks
def ndss : List Co → Nat
  | [] => 0
  | c :: l => nds c + ndss l
end
mutual
theorem szM_nds : ∀ c : Co, szM c = 4 * nds c
  | .mk op n s t ks => by simp only [szM, nds, szMs_nds ks]; omega
theorem szMs_nds : ∀ l : List Co, szMs l = 4 * ndss l
  | [] => rfl
  | c :: l => by simp only [szMs, ndss, szM_nds c, szMs_nds l]; omega
end
mutual
theorem nds_le : ∀ c : Co, nds c ≤ szC c + 1
  | .mk op n s t ks => by
    have := ndss_le ks
    simp only [nds, szC]; omega
theorem ndss_le : ∀ l : List Co, ndss l ≤ szCs l
  | [] => by simp [ndss]
  | c :: l => by
    have h1 := nds_le c
    have h2 := ndss_le l
    simp only [ndss, szCs]; omega
end
theorem nds_pos : ∀ c : Co, 1 ≤ nds c
  | .mk op n s t ks => by simp only [nds]; omega
mutual
theorem nds_put (name : Nm) (v : Co) : ∀ (b : Bool) (c : Co), nds (putB name v b c) ≤ nds c * nds v
  | b, .mk op n s t ks => by
    have h1 := nds_pos v
    have h2 := ndss_put name v b op s t ks 0
    simp only [putB]
    split
    · simp only [nds]
      rw [Nat.add_mul]; omega
    · simp only [nds]
      rw [Nat.add_mul]; omega
theorem ndss_put (name : Nm) (v : Co) : ∀ (b : Bool) (op : Int) (s t : Nm) (l : List Co) (i : Nat), ndss (putBs name v b op s t i l) ≤ ndss l * nds v
  | b, op, s, t, [], i => by simp [putBs, ndss]
  | b, op, s, t, c :: l, i => by
    have h1 := nds_put name v (b || (envS op s t i).contains name) c
    have h2 := ndss_put name v b op s t l (i + 1)
    simp only [putBs, ndss]
    rw [Nat.add_mul]; omega
end
mutual
theorem wf_put (name : Nm) (v : Co) (hv : Wf v) : ∀ (b : Bool) (c : Co), Wf c → Wf (putB name v b c)
  | b, .mk op n s t ks, h => by
    simp only [putB]
    split
    · exact hv
    · simp only [Wf] at h ⊢
      exact ⟨h.1, h.2.1, h.2.2.1, h.2.2.2.1, by rw [putBs_len]; exact h.2.2.2.2.1, wfs_put name v hv b op s t ks 0 h.2.2.2.2.2⟩
theorem wfs_put (name : Nm) (v : Co) (hv : Wf v) : ∀ (b : Bool) (op : Int) (s t : Nm) (l : List Co) (i : Nat), Wfs l → Wfs (putBs name v b op s t i l)
  | b, op, s, t, [], i, h => trivial
  | b, op, s, t, c :: l, i, h => by
    simp only [Wfs, putBs] at h ⊢
    exact ⟨wf_put name v hv _ c h.1, wfs_put name v hv b op s t l (i + 1) h.2⟩
end
end Go.Proofs.YtlkjnlfddadlmaaDoor.V
