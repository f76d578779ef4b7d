/-
  How large, how deep a core is; its op's kids. No conditions.
-/
import Derived.Test.YtlkjnlfddadlmaaDoorMPCanona
set_option linter.unusedVariables false
set_option linter.unusedSimpArgs false
namespace Go.Proofs.YtlkjnlfddadlmaaDoor.V
set_option maxRecDepth 100000

theorem kids_s (op : Int) : RT 63 [xi op] [] = some (xi (arC op), []) := by
  refine fn_is (fn := Tryd.f63) rfl rfl rfl rfl ?_
  repeat' (first | refine ⟨fun h => ?_, fun h => ?_⟩ | done)
  all_goals (refine ⟨?_, rfl⟩; simp [arC, *]; rfl)

theorem kids_i (op : Int) : RT 68 [xi op] [] = some (xi (arC op), []) := by
  refine fn_is (fn := Tryd.f68) rfl rfl rfl rfl ?_
  repeat' (first | refine ⟨fun h => ?_, fun h => ?_⟩ | done)
  all_goals (refine ⟨?_, rfl⟩; simp [arC, *]; rfl)

theorem named_s (op : Int) : RT 64 [xi op] [] = some (xb (namC op), []) := by
  refine fn_is (fn := Tryd.f64) rfl rfl rfl rfl ?_
  repeat' (first | refine ⟨fun h => ?_, fun h => ?_⟩ | done)
  all_goals (refine ⟨?_, rfl⟩; simp [namC, *]; rfl)

theorem word_s (n : Int) : RT 65 [xi n] [] = some (xb (wordOk n), []) := by
  refine fn_is (fn := Tryd.f65) rfl rfl rfl rfl ?_
  exact ⟨_, retB (in50 _ _ _), rfl, rfl⟩
theorem word_i (n : Int) : RT 69 [xi n] [] = some (xb (wordOk n), []) := by
  refine fn_is (fn := Tryd.f69) rfl rfl rfl rfl ?_
  exact ⟨_, retB (in52 _ _ _), rfl, rfl⟩

def Ssz (c : Co) : Prop := ∀ us, szC c ≤ 1048576 → Rd c us → RT 39 [xc us] [] = some (xi (ndC c), [])

theorem lsz_s {ks : List Co} {cs : List TU} {g : Nat} {op n : Int} {s t : List UInt8} {K : Ex → StA → Prop} (H : ∀ c ∈ ks, Ssz c) (hz : szCs ks ≤ 1048576) (hr : Rds ks cs) :
    ∀ (l : List Co) (i : Nat), ks.drop i = l → i ≤ ks.length → ∀ v : Nat, v + ndCs l ≤ 4194304 →
    (∀ jk j, K (.exit 0) ⟨[(4, xi j), (3, xi ((v + ndCs l : Nat) : Int)), (1, .box () ((core op n s t (g + 1) ks.length cs).map .t))], jk, []⟩) →
    ∀ jk, sem cx0 39 RT (.loop (lp Tryd.f39 0)) ⟨[(4, xi i), (3, xi v), (1, .box () ((core op n s t (g + 1) ks.length cs).map .t))], jk, []⟩ K := by
  have hk := szCs_le hz
  refine drop_ind ?_ ?_
  · intro v hv k1 jk
    refine loop_step cx0 _ RT [4, 3, 1] ⟨fun h => (lt_no h (by omega)).elim, fun h => ?_⟩
    exact fun jk => k1 jk _
  · intro i c l hi hil ih v hv k1 jk
    refine loop_step cx0 _ RT [4, 3, 1] ⟨fun h => ?_, fun h => (lt_yes h (by omega)).elim⟩
    refine ⟨⟨by omega, by omega⟩, ?_⟩
    have hm := List.mem_of_getElem? hi
    have hc := H c hm
    have hzc := szCs_mem hz hm
    simp only [ndCs] at hv
    cases c with
    | mk op' n' s' t' kk =>
    obtain ⟨g', cs', e1, e2⟩ := Rds_get hr hi
    refine ⟨op', n', s', t', g' + 1, kk.length, cs', ⟨e1, rfl⟩, ?_⟩
    refine ⟨_, retI (hc (core op' n' s' t' (g' + 2) kk.length (retags cs')) hzc ⟨_, _, rfl, e2.retag⟩), ?_⟩
    intro jk
    rw [wrapS hil (by simp only [maxLen]; omega), wrap64 (by omega) (by omega)]
    rw [show (v : Int) + ((ndC (.mk op' n' s' t' kk) : Nat) : Int) = ((v + ndC (.mk op' n' s' t' kk) : Nat) : Int) by omega]
    refine ih _ (by omega) (fun jk j => ?_) jk
    have := k1 jk j
    rwa [show v + ndCs (.mk op' n' s' t' kk :: l) = v + ndC (.mk op' n' s' t' kk) + ndCs l by simp only [ndCs]; omega] at this

theorem size_s : ∀ c : Co, Ssz c := by
  refine Co.ind fun op n s t ks ih => ?_
  intro us hz hr
  obtain ⟨g1, cs, rfl, hr⟩ := hr
  have hz' : szCs ks ≤ 1048576 := by simp only [szC] at hz; omega
  have := ndCs_le ks
  refine fn_is (fn := Tryd.f39) rfl rfl rfl rfl ?_
  refine sem_in cx0 _ RT [4, 3, 1] fun jk => ?_
  refine lsz_s (g := g1) (op := op) (n := n) (s := s) (t := t) ih hz' hr ks 0 rfl (by omega) 1 (by omega) (fun jk j => ?_) jk
  exact ⟨rfl, rfl⟩

def Sdp (c : Co) : Prop := ∀ us, szC c ≤ 1048576 → Rd c us → RT 40 [xc us] [] = some (xi (depC c), [])

theorem ldp_s {ks : List Co} {cs : List TU} {g : Nat} {op n : Int} {s t : List UInt8} {K : Ex → StA → Prop} (H : ∀ c ∈ ks, Sdp c) (hz : szCs ks ≤ 1048576) (hr : Rds ks cs) :
    ∀ (l : List Co) (i : Nat), ks.drop i = l → i ≤ ks.length → ∀ v : Nat,
    (∀ jk j, K (.exit 0) ⟨[(4, xi j), (3, xi ((max v (depCs l) : Nat) : Int)), (1, .box () ((core op n s t (g + 1) ks.length cs).map .t))], jk, []⟩) →
    ∀ jk, sem cx0 40 RT (.loop (lp Tryd.f40 0)) ⟨[(4, xi i), (3, xi v), (1, .box () ((core op n s t (g + 1) ks.length cs).map .t))], jk, []⟩ K := by
  have hk := szCs_le hz
  refine drop_ind ?_ ?_
  · intro v k1 jk
    refine loop_step cx0 _ RT [4, 3, 1] ⟨fun h => (lt_no h (by omega)).elim, fun h => ?_⟩
    have := fun jk => k1 jk ks.length
    simp only [depCs, Nat.max_zero] at this
    exact this
  · intro i c l hi hil ih v k1 jk
    refine loop_step cx0 _ RT [4, 3, 1] ⟨fun h => ?_, fun h => (lt_yes h (by omega)).elim⟩
    refine ⟨⟨by omega, by omega⟩, ?_⟩
    have hm := List.mem_of_getElem? hi
    have hc := H c hm
    have hzc := szCs_mem hz hm
    cases c with
    | mk op' n' s' t' kk =>
    obtain ⟨g', cs', e1, e2⟩ := Rds_get hr hi
    refine ⟨op', n', s', t', g' + 1, kk.length, cs', ⟨e1, rfl⟩, ?_⟩
    refine ⟨_, retI (hc (core op' n' s' t' (g' + 2) kk.length (retags cs')) hzc ⟨_, _, rfl, e2.retag⟩), ?_⟩
    refine ⟨_, retI (max59 _ _), ?_⟩
    intro jk
    rw [wrapS hil (by simp only [maxLen]; omega)]
    rw [show max (v : Int) ((depC (.mk op' n' s' t' kk) : Nat) : Int) = ((max v (depC (.mk op' n' s' t' kk)) : Nat) : Int) by omega]
    refine ih _ (fun jk j => ?_) jk
    have := k1 jk j
    rwa [show max v (depCs (.mk op' n' s' t' kk :: l)) = max (max v (depC (.mk op' n' s' t' kk))) (depCs l) by simp only [depCs]; omega] at this

theorem deep_s : ∀ c : Co, Sdp c := by
  refine Co.ind fun op n s t ks ih => ?_
  intro us hz hr
  obtain ⟨g1, cs, rfl, hr⟩ := hr
  have hz' : szCs ks ≤ 1048576 := by simp only [szC] at hz; omega
  have := depCs_le ks
  refine fn_is (fn := Tryd.f40) rfl rfl rfl rfl ?_
  refine sem_in cx0 _ RT [4, 3, 1] fun jk => ?_
  refine ldp_s (g := g1) (op := op) (n := n) (s := s) (t := t) ih hz' hr ks 0 rfl (by omega) 0 (fun jk j => ?_) jk
  refine ⟨?_, rfl⟩
  rw [wrap64 (by omega) (by omega)]
  simp only [depC, Nat.zero_max]
  rfl
end Go.Proofs.YtlkjnlfddadlmaaDoor.V

namespace Go.Proofs.YtlkjnlfddadlmaaDoor.V
set_option maxRecDepth 100000

def Srt (c : Co) : Prop := ∀ us env g cs, szC c ≤ 1048576 → env.length + 2 * szC c ≤ 4194304 → cs = nm env → Rd c us → RT 41 [xc us, xl (g + 1) 1 env.length cs] [] = some (xb (rightC env c), [])

theorem lrt {ks : List Co} {cs : List TU} {g g2 : Nat} {op n : Int} {s t : List UInt8} {env : List Nm} {K : Ex → StA → Prop} (H : ∀ c ∈ ks, Srt c) (hz : szCs ks ≤ 1048576) (he : env.length + 2 * szCs ks ≤ 4194304) (hr : Rds ks cs) :
    ∀ (l : List Co) (i : Nat), ks.drop i = l → i ≤ ks.length →
    (∀ jk j, rightL op s t env i l = true → K (.exit 0) ⟨[(5, xi j), (1, xl (g2 + 1) 1 env.length (nm env)), (2, .box () ((core op n s t (g + 1) ks.length cs).map .t)), (4, xb false)], jk, []⟩) →
    (∀ jk j, rightL op s t env i l = false → K .ret ⟨[(5, xi j), (1, xl (g2 + 1) 1 env.length (nm env)), (2, .box () ((core op n s t (g + 1) ks.length cs).map .t)), (4, xb false)], jk, []⟩) →
    ∀ jk, sem cx0 41 RT (.loop (lp Tryd.f41 0)) ⟨[(5, xi i), (1, xl (g2 + 1) 1 env.length (nm env)), (2, .box () ((core op n s t (g + 1) ks.length cs).map .t)), (4, xb false)], jk, []⟩ K := by
  have hk := szCs_le hz
  refine drop_ind ?_ ?_
  · intro k1 k2 jk
    refine loop_step cx0 _ RT [5, 1, 2, 4] ⟨fun h => (lt_no h (by omega)).elim, fun h => ?_⟩
    exact fun jk => k1 jk _ rfl
  · intro i c l hi hil ih k1 k2 jk
    have hm := List.mem_of_getElem? hi
    have hc := H c hm
    have hzc := szCs_mem hz hm
    have hel := envS_le (op := op) (s := s) (t := t) (i := i)
    have hz1 := szCs_mem1 hm
    cases c with
    | mk op' n' s' t' kk =>
    obtain ⟨g', cs', e1, e2⟩ := Rds_get hr hi
    refine loop_step cx0 _ RT [5, 1, 2, 4] ⟨fun h => ?_, fun h => (lt_yes h (by omega)).elim⟩
    refine ⟨⟨by omega, by omega⟩, ?_⟩
    refine ⟨op', n', s', t', g' + 1, kk.length, cs', ⟨e1, rfl⟩, ?_⟩
    obtain ⟨g3, r1⟩ := retEnv (env84 (show Rd (.mk op n s t ks) (core op n s t (g + 2) ks.length (retags cs)) from ⟨_, _, rfl, hr.retag⟩) (nm_retag env) (by omega) (i := i) (g := g2))
    refine ⟨_, r1, ?_⟩
    have hc2 := hc (core op' n' s' t' (g' + 2) kk.length (retags cs')) (env ++ envS op s t i) g3 _ hzc (by rw [List.length_append]; omega) (nm_retag _) ⟨_, _, rfl, e2.retag⟩
    refine ⟨_, retB hc2, ?_⟩
    refine ⟨fun h2 => ?_, fun h2 => ?_⟩
    · exact fun jk => k2 jk _ (by simp only [rightL, Bool.and_eq_false_iff]; left; simpa using h2)
    · intro jk
      rw [wrapS hil (by simp only [maxLen]; omega)]
      have h2 : rightC (env ++ envS op s t i) (.mk op' n' s' t' kk) = true := by simpa using h2
      exact ih (fun jk j h3 => k1 jk j (by simp only [rightL, h2, h3, Bool.and_self])) (fun jk j h3 => k2 jk j (by simp only [rightL, h3, Bool.and_false])) jk

theorem xb_eq {a b : Bool} (h : a = b) : xb a = xb b := by rw [h]
theorem right_no {env : List Nm} {op n : Int} {s t : Nm} {ks : List Co} (h : hdOk env op n s t ks.length = false) : rightC env (.mk op n s t ks) = false := by simp only [rightC, h, Bool.false_and]

theorem right_s : ∀ c : Co, Srt c := by
  refine Co.ind fun op n s t ks ih => ?_
  intro us env g cs hz he hcs hr
  subst hcs
  obtain ⟨g1, cs, rfl, hr⟩ := hr
  have hz' : szCs ks ≤ 1048576 := by simp only [szC] at hz; omega
  have he' : env.length + 2 * szCs ks ≤ 4194304 := by simp only [szC] at he; omega
  have fin : hdOk env op n s t ks.length = true → ∀ jk K, (∀ jk j, rightC env (.mk op n s t ks) = true → K (.exit 0) ⟨[(5, xi j), (1, xl (g + 1) 1 env.length (nm env)), (2, .box () ((core op n s t (g1 + 1) ks.length cs).map .t)), (4, xb false)], jk, []⟩) →
      (∀ jk j, rightC env (.mk op n s t ks) = false → K .ret ⟨[(5, xi j), (1, xl (g + 1) 1 env.length (nm env)), (2, .box () ((core op n s t (g1 + 1) ks.length cs).map .t)), (4, xb false)], jk, []⟩) →
      sem cx0 41 RT (.loop (lp Tryd.f41 0)) ⟨[(5, xi (0 : Nat)), (1, xl (g + 1) 1 env.length (nm env)), (2, .box () ((core op n s t (g1 + 1) ks.length cs).map .t)), (4, xb false)], jk, []⟩ K := by
    intro hd jk K k1 k2
    refine lrt (g := g1) (op := op) (n := n) (s := s) (t := t) ih hz' he' hr ks 0 rfl (by omega) (fun jk j h => k1 jk j ?_) (fun jk j h => k2 jk j ?_) jk
    · simp only [rightC, hd, h, Bool.and_self]
    · simp only [rightC, h, Bool.and_false]
  refine fn_is (fn := Tryd.f41) rfl rfl rfl rfl ?_
  refine ⟨_, retI (kids_s op), ?_⟩
  refine ⟨fun h1 => ?_, fun h1 => ?_⟩
  · exact ⟨xb_eq (right_no (by simp_all [hdOk])), rfl⟩
  refine ⟨_, retB (named_s op), ?_⟩
  refine ⟨fun h2 => ?_, fun h2 => ?_⟩
  · exact ⟨xb_eq (right_no (by simp_all [hdOk])), rfl⟩
  refine ⟨fun h3 => ?_, fun h3 => ?_⟩
  · exact ⟨xb_eq (right_no (by simp_all [hdOk])), rfl⟩
  refine ⟨fun h4 => ⟨fun h5 => ?_, fun h5 => ?_⟩, fun h4 => ?_⟩
  · exact ⟨xb_eq (right_no (by simp_all [hdOk])), rfl⟩
  all_goals
    refine ⟨_, retB (word_s n), ?_⟩
    refine ⟨fun h6 => ?_, fun h6 => ?_⟩
    · exact ⟨xb_eq (right_no (by simp_all [hdOk])), rfl⟩
    refine ⟨fun h7 => ?_, fun h7 => ?_⟩
    · refine ⟨_, retB (in83 (g := g + 1) (nm_retag env) (by simp only [maxLen]; omega)), ?_⟩
      refine ⟨fun h8 => ?_, fun h8 => ?_⟩
      · exact ⟨xb_eq (right_no (by simp_all [hdOk])), rfl⟩
      refine sem_in cx0 _ RT [5, 1, 2, 4] fun jk => ?_
      refine fin (by simp_all [hdOk]) jk _ (fun jk j h => ?_) (fun jk j h => ?_)
      · exact ⟨xb_eq h, rfl⟩
      · exact ⟨xb_eq h, rfl⟩
    · refine sem_in cx0 _ RT [5, 1, 2, 4] fun jk => ?_
      refine fin (by simp_all [hdOk]) jk _ (fun jk j h => ?_) (fun jk j h => ?_)
      · exact ⟨xb_eq h, rfl⟩
      · exact ⟨xb_eq h, rfl⟩

theorem ok_s {c : Co} {us : List TU} (hz : szC c ≤ 1048576) (hr : Rd c us) : RT 23 [xc us] [] = some (xb (okCo c), []) := by
  cases c with
  | mk op n s t ks =>
  obtain ⟨g, cs, rfl, hr⟩ := hr
  have rd : Rd (.mk op n s t ks) (core op n s t (g + 2) ks.length (retags cs)) := ⟨_, _, rfl, hr.retag⟩
  refine fn_is (fn := Tryd.f23) rfl rfl rfl rfl ?_
  refine ⟨_, retI (size_s _ _ hz rd), ?_⟩
  refine ⟨fun h1 => ?_, fun h1 => ?_⟩
  · refine ⟨_, retI (deep_s _ _ hz rd), ?_⟩
    refine ⟨fun h2 => ?_, fun h2 => ?_⟩
    · refine ⟨_, retB (right_s _ _ [] 0 [] hz (by simp; omega) rfl rd), ?_⟩
      exact ⟨xb_eq (by simp_all [okCo]; omega), rfl⟩
    · exact ⟨xb_eq (by simp_all [okCo]; omega), rfl⟩
  · exact ⟨xb_eq (by simp_all [okCo]; omega), rfl⟩
end Go.Proofs.YtlkjnlfddadlmaaDoor.V

namespace Go.Proofs.YtlkjnlfddadlmaaDoor.V
set_option maxRecDepth 100000

def Spr (c : Co) : Prop := ∀ us env g cs (deep : Nat), szC c ≤ 1048576 → env.length + 2 * szC c ≤ 4194304 → deep + szC c ≤ 2097152 → cs = nm env → Rd c us → RT 45 [xc us, xl (g + 1) 1 env.length cs, xi deep] [] = some (xi (prC deep env c), [])

theorem lpr {ks : List Co} {cs : List TU} {g g2 deep : Nat} {op n : Int} {s t : List UInt8} {env : List Nm} {K : Ex → StA → Prop} (H : ∀ c ∈ ks, Spr c) (hz : szCs ks ≤ 1048576) (he : env.length + 2 * szCs ks ≤ 4194304) (hd : deep + szCs ks ≤ 2097152) (hr : Rds ks cs) :
    ∀ (l : List Co) (i : Nat), ks.drop i = l → i ≤ ks.length → ∀ v : Nat, v ≤ 3000 →
    (∀ jk j, prL op s t env deep i v l ≤ 3000 → K (.exit 0) ⟨[(85, xi j), (8, xi (prL op s t env deep i v l)), (84, xi ks.length), (83, xl (g + 1) 5 ks.length cs), (1, xl (g2 + 1) 1 env.length (nm env)), (2, xi deep), (3, .box () ((core op n s t (g + 1) ks.length cs).map .t)), (6, xi 0)], jk, []⟩) →
    (∀ jk j w, prL op s t env deep i v l = 3001 → K .ret ⟨[(85, xi j), (8, xi w), (84, xi ks.length), (83, xl (g + 1) 5 ks.length cs), (1, xl (g2 + 1) 1 env.length (nm env)), (2, xi deep), (3, .box () ((core op n s t (g + 1) ks.length cs).map .t)), (6, xi 3001)], jk, []⟩) →
    ∀ jk, sem cx0 45 RT (.loop (lp Tryd.f45 0)) ⟨[(85, xi i), (8, xi v), (84, xi ks.length), (83, xl (g + 1) 5 ks.length cs), (1, xl (g2 + 1) 1 env.length (nm env)), (2, xi deep), (3, .box () ((core op n s t (g + 1) ks.length cs).map .t)), (6, xi 0)], jk, []⟩ K := by
  have hk := szCs_le hz
  refine drop_ind ?_ ?_
  · intro v hv k1 k2 jk
    refine loop_step cx0 _ RT [85, 8, 84, 83, 1, 2, 3, 6] ⟨fun h => (lt_no h (by omega)).elim, fun h => ?_⟩
    exact fun jk => k1 jk _ hv
  · intro i c l hi hil ih v hv k1 k2 jk
    have hm := List.mem_of_getElem? hi
    have hc := H c hm
    have hzc := szCs_mem hz hm
    have hel := envS_le (op := op) (s := s) (t := t) (i := i)
    have hz1 := szCs_mem1 hm
    cases c with
    | mk op' n' s' t' kk =>
    obtain ⟨g', cs', e1, e2⟩ := Rds_get hr hi
    refine loop_step cx0 _ RT [85, 8, 84, 83, 1, 2, 3, 6] ⟨fun h => ?_, fun h => (lt_yes h (by omega)).elim⟩
    refine ⟨⟨by omega, by omega⟩, ?_⟩
    refine ⟨op', n', s', t', g' + 1, kk.length, cs', ⟨e1, rfl⟩, ?_⟩
    refine ⟨_, retN (binds74 (show Rd (.mk op n s t ks) (core op n s t (g + 2) ks.length (retags cs)) from ⟨_, _, rfl, hr.retag⟩)), ?_⟩
    refine ⟨_, retN (cat85 (g := g2 + 1) (h := 0) (nm_retag env) (nm_retag (envS op s t i)) (by omega) (by omega)), ?_⟩
    have hc2 := hc (core op' n' s' t' (g' + 2) kk.length (retags cs')) (env ++ envS op s t i) 0 _ (deep + 1) hzc (by rw [List.length_append]; omega) (by omega) (nm_retag _) ⟨_, _, rfl, e2.retag⟩
    have hw : IntKind.wrap .i64 ((deep : Int) + 1) = ((deep + 1 : Nat) : Int) := by rw [wrap64 (by omega) (by omega)]; omega
    have hple := prC_le (deep + 1) (env ++ envS op s t i) (.mk op' n' s' t' kk)
    refine ⟨_, retI (by rw [hw]; exact hc2), ?_⟩
    have hL : prL op s t env deep i v (.mk op' n' s' t' kk :: l) = if v + prC (deep + 1) (env ++ envS op s t i) (.mk op' n' s' t' kk) ≥ 3001 then 3001 else prL op s t env deep (i + 1) (v + prC (deep + 1) (env ++ envS op s t i) (.mk op' n' s' t' kk)) l := rfl
    generalize prC (deep + 1) (env ++ envS op s t i) (.mk op' n' s' t' kk) = p at hple hL
    have hwp : IntKind.wrap .i64 ((v : Int) + p) = ((v + p : Nat) : Int) := by rw [wrap64 (by omega) (by omega)]; omega
    refine ⟨fun h2 => ?_, fun h2 => ?_⟩
    · rw [hwp] at h2
      have h2 : v + p ≥ 3001 := by simp at h2; omega
      rw [if_pos h2] at hL
      exact fun jk => k2 jk _ _ hL
    · rw [hwp] at h2
      have h2 : ¬ v + p ≥ 3001 := by simp at h2; omega
      rw [if_neg h2] at hL
      intro jk
      rw [wrapS hil (by simp only [maxLen]; omega), hwp]
      rw [hL] at k1 k2
      exact ih (v + p) (by omega) k1 k2 jk

theorem xi_eq {a b : Int} (h : a = b) : xi a = xi b := by rw [h]
theorem prC_no {deep : Nat} {env : List Nm} {op n : Int} {s t : Nm} {ks : List Co} (h : ¬ (deep ≤ 150 ∧ hdOk env op n s t ks.length = true)) : (3001 : Int) = ((prC deep env (.mk op n s t ks) : Nat) : Int) := by simp only [prC, if_neg h]; rfl

theorem nam2 {op : Int} (h : (op == 2) = true) : namC op = true := by unfold namC; rw [h]; rfl
theorem nam3 {op : Int} (h : (op == 3) = true) : namC op = true := by unfold namC; rw [h]; simp
theorem nam5 {op : Int} (h : (op == 5) = true) : namC op = true := by unfold namC; rw [h]; simp
theorem nam0 {op : Int} (h2 : (op == 2) = false) (h3 : (op == 3) = false) (h5 : (op == 5) = false) : namC op = (op == 6) := by unfold namC; rw [h2, h3, h5]; rfl

theorem hd_a {env : List Nm} {op n : Int} {s t : Nm} {k : Nat} (h : ((k : Int) != arC op) = true) : hdOk env op n s t k = false := by
  have : (arC op == (k : Int)) = false := by simp at h ⊢; omega
  unfold hdOk; rw [this]; rfl
theorem hd_w {env : List Nm} {op n : Int} {s t : Nm} {k : Nat} (h : (!wordOk n) = true) : hdOk env op n s t k = false := by
  have : wordOk n = false := by simpa using h
  unfold hdOk; rw [this]; simp
theorem hd_n {env : List Nm} {op n : Int} {s t : Nm} {k : Nat} (h1 : (op != 1) = true) (h2 : (n != 0) = true) : hdOk env op n s t k = false := by
  have e1 : (op == 1) = false := by simpa using h1
  have e2 : (n == 0) = false := by simpa using h2
  unfold hdOk; rw [e1, e2]; simp
theorem hd_s {env : List Nm} {op n : Int} {s t : Nm} {k : Nat} {x : Bool} (hx : namC op = x) (h : (!(x == !(s == []))) = true) : hdOk env op n s t k = false := by
  have : (x == !(s == [])) = false := by simpa using h
  unfold hdOk; rw [hx, this]; simp
theorem hd_t {env : List Nm} {op n : Int} {s t : Nm} {k : Nat} (h : (!((op == 6) == !(t == []))) = true) : hdOk env op n s t k = false := by
  have : ((op == 6) == !(t == [])) = false := by simpa using h
  unfold hdOk; rw [this]; simp
theorem hd_e {env : List Nm} {op n : Int} {s t : Nm} {k : Nat} (h1 : (op == 2) = true) (h : (!env.contains s) = true) : hdOk env op n s t k = false := by
  have : env.contains s = false := by simpa using h
  unfold hdOk; rw [h1, this]; simp
theorem hd_yes {env : List Nm} {op n : Int} {s t : Nm} {k : Nat} {x : Bool} (ha : ((k : Int) != arC op) = false) (hx : namC op = x) (hs : (!(x == !(s == []))) = false) (ht : (!((op == 6) == !(t == []))) = false) (hn : (op != 1) = false ∨ (n != 0) = false)
    (hw : (!wordOk n) = false) (he : (op == 2) = false ∨ (!env.contains s) = false) : hdOk env op n s t k = true := by
  have e1 : (arC op == (k : Int)) = true := by simp at ha ⊢; omega
  have e2 : (x == !(s == [])) = true := by simpa using hs
  have e3 : ((op == 6) == !(t == [])) = true := by simpa using ht
  have e4 : wordOk n = true := by simpa using hw
  have e5 : (op == 1 || n == 0) = true := by
    rcases hn with h | h
    · have : (op == 1) = true := by simpa using h
      rw [this]; rfl
    · have : (n == 0) = true := by simpa using h
      rw [this]; simp
  have e6 : (!(op == 2) || env.contains s) = true := by
    rcases he with h | h
    · rw [h]; rfl
    · have : env.contains s = true := by simpa using h
      rw [this]; simp
  unfold hdOk
  rw [e1, hx, e2, e3, e4, e5, e6]; rfl

set_option maxHeartbeats 8000000 in
theorem parts : ∀ c : Co, Spr c := by
  refine Co.ind fun op n s t ks ih => ?_
  intro us env g cs deep hz he hd hcs hr
  subst hcs
  obtain ⟨g1, cs, rfl, hr⟩ := hr
  have hz' : szCs ks ≤ 1048576 := by simp only [szC] at hz; omega
  have he' : env.length + 2 * szCs ks ≤ 4194304 := by simp only [szC] at he; omega
  have hd' : deep + szCs ks ≤ 2097152 := by simp only [szC] at hd; omega
  have fin : deep ≤ 150 → hdOk env op n s t ks.length = true → ∀ jk K, (∀ jk j, K (.exit 0) ⟨[(85, xi j), (8, xi (prC deep env (.mk op n s t ks))), (84, xi ks.length), (83, xl (g1 + 1) 5 ks.length cs), (1, xl (g + 1) 1 env.length (nm env)), (2, xi deep), (3, .box () ((core op n s t (g1 + 1) ks.length cs).map .t)), (6, xi 0)], jk, []⟩) →
      (∀ jk j w, prC deep env (.mk op n s t ks) = 3001 → K .ret ⟨[(85, xi j), (8, xi w), (84, xi ks.length), (83, xl (g1 + 1) 5 ks.length cs), (1, xl (g + 1) 1 env.length (nm env)), (2, xi deep), (3, .box () ((core op n s t (g1 + 1) ks.length cs).map .t)), (6, xi 3001)], jk, []⟩) →
      sem cx0 45 RT (.loop (lp Tryd.f45 0)) ⟨[(85, xi (0 : Nat)), (8, xi (1 : Nat)), (84, xi ks.length), (83, xl (g1 + 1) 5 ks.length cs), (1, xl (g + 1) 1 env.length (nm env)), (2, xi deep), (3, .box () ((core op n s t (g1 + 1) ks.length cs).map .t)), (6, xi 0)], jk, []⟩ K := by
    intro h1 h2 jk K k1 k2
    have e : prC deep env (.mk op n s t ks) = prL op s t env deep 0 1 ks := by simp only [prC]; exact if_pos ⟨h1, h2⟩
    rw [e] at k1 k2
    exact lpr (g := g1) (op := op) (n := n) (s := s) (t := t) ih hz' he' hd' hr ks 0 rfl (by omega) 1 (by omega) (fun jk j _ => k1 jk j) k2 jk
  clear ih
  have no : ¬ (deep ≤ 150 ∧ hdOk env op n s t ks.length = true) → xi ((prC deep env (.mk op n s t ks) : Nat) : Int) = xi 3001 := fun h => (xi_eq (prC_no h)).symm
  refine fn_is (fn := Tryd.f45) rfl rfl rfl rfl ?_
  have nd : hdOk env op n s t ks.length = false → ¬ (deep ≤ 150 ∧ hdOk env op n s t ks.length = true) := fun h h' => by rw [h] at h'; exact Bool.noConfusion h'.2
  refine ⟨fun h0 => ?_, fun h0 => ?_⟩
  · exact ⟨no (by rintro ⟨h, _⟩; simp at h0; omega), rfl⟩
  have hdp : deep ≤ 150 := by simp at h0; omega
  refine ⟨_, retI (kids_i op), ?_⟩
  refine ⟨fun h1 => ⟨no (nd (hd_a h1)), rfl⟩, fun h1 => ?_⟩
  refine ⟨_, retB (word_i n), ?_⟩
  refine ⟨fun h2 => ⟨no (nd (hd_w h2)), rfl⟩, fun h2 => ?_⟩
  refine ⟨fun h3 => ⟨fun h4 => ⟨no (nd (hd_n h3 h4)), rfl⟩, fun h4 => ?_⟩, fun h3 => ?_⟩
  all_goals have hn : (op != 1) = false ∨ (n != 0) = false := by first | exact .inr h4 | exact .inl h3
  all_goals refine ⟨fun h5 => ?_, fun h5 => ⟨fun h6 => ?_, fun h6 => ⟨fun h7 => ?_, fun h7 => ?_⟩⟩⟩
  all_goals first | have hx := nam2 h5 | have hx := nam3 h6 | have hx := nam5 h7 | have hx := nam0 h5 h6 h7
  all_goals refine ⟨fun h8 => ⟨no (nd (hd_s hx h8)), rfl⟩, fun h8 => ?_⟩
  all_goals refine ⟨fun h9 => ⟨no (nd (hd_t h9)), rfl⟩, fun h9 => ?_⟩
  all_goals refine ⟨fun h10 => ?_, fun h10 => ?_⟩
  all_goals try refine ⟨_, retB (con73 (g := g + 1) (nm_retag env) (by simp only [maxLen]; omega)), ?_⟩
  all_goals try refine ⟨fun h11 => ⟨no (nd (hd_e h10 h11)), rfl⟩, fun h11 => ?_⟩
  all_goals have he : (op == 2) = false ∨ (!env.contains s) = false := by first | exact .inl h10 | exact .inr h11
  all_goals
    refine sem_in cx0 _ RT [85, 8, 84, 83, 1, 2, 3, 6] fun jk => ?_
    refine fin hdp (hd_yes h1 hx h8 h9 hn h2 he) jk _ (fun jk j => ?_) (fun jk j w h => ?_)
    · exact ⟨rfl, rfl⟩
    · exact ⟨xi_eq (by rw [h]; rfl), rfl⟩

theorem ok_i {c : Co} {us : List TU} (hz : szC c ≤ 1048576) (hr : Rd c us) : RT 26 [xc us] [] = some (xb (okCo c), []) := by
  cases c with
  | mk op n s t ks =>
  obtain ⟨g, cs, rfl, hr⟩ := hr
  have rd : Rd (.mk op n s t ks) (core op n s t (g + 2) ks.length (retags cs)) := ⟨_, _, rfl, hr.retag⟩
  refine fn_is (fn := Tryd.f26) rfl rfl rfl rfl ?_
  refine ⟨_, retI (parts _ _ [] 0 [] 1 hz (by simp; omega) (by omega) rfl rd), ?_⟩
  refine ⟨xb_eq ?_, rfl⟩
  rw [← prC_ok]
  exact decide_eq_decide.2 (by omega)
end Go.Proofs.YtlkjnlfddadlmaaDoor.V
