/-
  How large, how deep a core is; its op's kids. No conditions.
-/
import Derived.Test.YtlkjnlfddadlmaaGreatDoorMPCoreReada
import Derived.Lib.ItoaNum
import Derived.Lib.AtoiAll
import Derived.Lib.Strings
import Derived.Lib.IndexAny
set_option linter.unusedVariables false
set_option linter.unusedSimpArgs false
namespace Go.Proofs.YtlkjnlfddadlmaaGreatDoor.V
set_option maxRecDepth 100000
theorem zK2 (op : Int) : RT 26 [xi op] [] = some (xi (arC op), []) := by
 refine xM (fn := Tryz.f26) rfl rfl rfl rfl ?_
 repeat' (first | refine ⟨fun h => ?_, fun h => ?_⟩ | done)
 all_goals (refine ⟨?_, rfl⟩; simp [arC, *]; rfl)
theorem zK1 (op : Int) : RT 38 [xi op] [] = some (xi (arC op), []) := by
 refine xM (fn := Tryz.f38) rfl rfl rfl rfl ?_
 repeat' (first | refine ⟨fun h => ?_, fun h => ?_⟩ | done)
 all_goals (refine ⟨?_, rfl⟩; simp [arC, *]; rfl)
theorem zNn (op : Int) : RT 25 [xi op] [] = some (xb (gD op), []) := by
 refine xM (fn := Tryz.f25) rfl rfl rfl rfl ?_
 repeat' (first | refine ⟨fun h => ?_, fun h => ?_⟩ | done)
 all_goals (refine ⟨?_, rfl⟩; simp [gD, *]; rfl)
theorem zXv (n : Int) : RT 46 [xi n] [] = some (xb (gR n), []) := by
 refine xM (fn := Tryz.f46) rfl rfl rfl rfl ?_
 exact ⟨_, j6 (in50 _ _ _), rfl, rfl⟩
theorem zXu (n : Int) : RT 57 [xi n] [] = some (xb (gR n), []) := by
 refine xM (fn := Tryz.f57) rfl rfl rfl rfl ?_
 exact ⟨_, j6 (in52 _ _ _), rfl, rfl⟩
def Ssz (c : Co) : Prop := ∀ us, szC c ≤ 1048576 → Rd c us → RT 27 [xc us] [] = some (xi (ndC c), [])
theorem lsz_s {ks : List Co} {cs : List TU} {g : Nat} {op n : Int} {s t : List UInt8} {K : Ex → StA → Prop} (H : ∀ c ∈ ks, Ssz c) (hz : x8 ks ≤ 1048576) (hr : Rds ks cs) :
  ∀ (l : List Co) (i : Nat), ks.drop i = l → i ≤ ks.length → ∀ v : Nat, v + vQ l ≤ 4194304 →
  (∀ jk j, K (.exit 0) ⟨[(4, xi j), (3, xi ((v + vQ l : Nat) : Int)), (1, .box () ((qA op n s t (g + 1) ks.length cs).map .t))], jk, []⟩) →
  ∀ jk, sem cx0 27 RT (.loop (lp Tryz.f27 0)) ⟨[(4, xi i), (3, xi v), (1, .box () ((qA op n s t (g + 1) ks.length cs).map .t))], jk, []⟩ K := by
 have hk := pR hz
 refine qE ?_ ?_
 ·intro v hv k1 jk
  refine zO cx0 _ RT [4, 3, 1] ⟨fun h => (g7 h (by omega)).elim, fun h => ?_⟩
  exact fun jk => k1 jk _
 ·intro i c l hi hil ih v hv k1 jk
  refine zO cx0 _ RT [4, 3, 1] ⟨fun h => ?_, fun h => (jO h (by omega)).elim⟩
  refine ⟨⟨by omega, by omega⟩, ?_⟩
  have hm := List.mem_of_getElem? hi
  have hc := H c hm
  have hzc := bX hz hm
  simp only [vQ] at hv
  cases c with
  | mk op' n' s' t' kk =>
  obtain ⟨g', cs', e1, e2⟩ := vK hr hi
  refine ⟨op', n', s', t', g' + 1, kk.length, cs', ⟨e1, rfl⟩, ?_⟩
  refine ⟨_, uH (hc (qA op' n' s' t' (g' + 2) kk.length (yD cs')) hzc ⟨_, _, rfl, e2.retag⟩), ?_⟩
  intro jk
  rw [kK hil (by simp only [maxLen]; omega), wrap64 (by omega) (by omega)]
  rw [show (v : Int) + ((ndC (.mk op' n' s' t' kk) : Nat) : Int) = ((v + ndC (.mk op' n' s' t' kk) : Nat) : Int) by omega]
  refine ih _ (by omega) (fun jk j => ?_) jk
  have := k1 jk j
  rwa [show v + vQ (.mk op' n' s' t' kk :: l) = v + ndC (.mk op' n' s' t' kk) + vQ l by simp only [vQ]; omega] at this
theorem zXj : ∀ c : Co, Ssz c := by
 refine Co.ind fun op n s t ks ih => ?_
 intro us hz hr
 obtain ⟨g1, cs, rfl, hr⟩ := hr
 have hz' : x8 ks ≤ 1048576 := by simp only [szC] at hz; omega
 have := zFt ks
 refine xM (fn := Tryz.f27) rfl rfl rfl rfl ?_
 refine yU cx0 _ RT [4, 3, 1] fun jk => ?_
 refine lsz_s (g := g1) (op := op) (n := n) (s := s) (t := t) ih hz' hr ks 0 rfl (by omega) 1 (by omega) (fun jk j => ?_) jk
 exact ⟨rfl, rfl⟩
def Sdp (c : Co) : Prop := ∀ us, szC c ≤ 1048576 → Rd c us → RT 28 [xc us] [] = some (xi (uO c), [])
theorem ldp_s {ks : List Co} {cs : List TU} {g : Nat} {op n : Int} {s t : List UInt8} {K : Ex → StA → Prop} (H : ∀ c ∈ ks, Sdp c) (hz : x8 ks ≤ 1048576) (hr : Rds ks cs) :
  ∀ (l : List Co) (i : Nat), ks.drop i = l → i ≤ ks.length → ∀ v : Nat,
  (∀ jk j, K (.exit 0) ⟨[(4, xi j), (3, xi ((max v (vE l) : Nat) : Int)), (1, .box () ((qA op n s t (g + 1) ks.length cs).map .t))], jk, []⟩) →
  ∀ jk, sem cx0 28 RT (.loop (lp Tryz.f28 0)) ⟨[(4, xi i), (3, xi v), (1, .box () ((qA op n s t (g + 1) ks.length cs).map .t))], jk, []⟩ K := by
 have hk := pR hz
 refine qE ?_ ?_
 ·intro v k1 jk
  refine zO cx0 _ RT [4, 3, 1] ⟨fun h => (g7 h (by omega)).elim, fun h => ?_⟩
  have := fun jk => k1 jk ks.length
  simp only [vE, Nat.max_zero] at this
  exact this
 ·intro i c l hi hil ih v k1 jk
  refine zO cx0 _ RT [4, 3, 1] ⟨fun h => ?_, fun h => (jO h (by omega)).elim⟩
  refine ⟨⟨by omega, by omega⟩, ?_⟩
  have hm := List.mem_of_getElem? hi
  have hc := H c hm
  have hzc := bX hz hm
  cases c with
  | mk op' n' s' t' kk =>
  obtain ⟨g', cs', e1, e2⟩ := vK hr hi
  refine ⟨op', n', s', t', g' + 1, kk.length, cs', ⟨e1, rfl⟩, ?_⟩
  refine ⟨_, uH (hc (qA op' n' s' t' (g' + 2) kk.length (yD cs')) hzc ⟨_, _, rfl, e2.retag⟩), ?_⟩
  refine ⟨_, uH (max59 _ _), ?_⟩
  intro jk
  rw [kK hil (by simp only [maxLen]; omega)]
  rw [show max (v : Int) ((uO (.mk op' n' s' t' kk) : Nat) : Int) = ((max v (uO (.mk op' n' s' t' kk)) : Nat) : Int) by omega]
  refine ih _ (fun jk j => ?_) jk
  have := k1 jk j
  rwa [show max v (vE (.mk op' n' s' t' kk :: l)) = max (max v (uO (.mk op' n' s' t' kk))) (vE l) by simp only [vE]; omega] at this
theorem zWg : ∀ c : Co, Sdp c := by
 refine Co.ind fun op n s t ks ih => ?_
 intro us hz hr
 obtain ⟨g1, cs, rfl, hr⟩ := hr
 have hz' : x8 ks ≤ 1048576 := by simp only [szC] at hz; omega
 have := zAd ks
 refine xM (fn := Tryz.f28) rfl rfl rfl rfl ?_
 refine yU cx0 _ RT [4, 3, 1] fun jk => ?_
 refine ldp_s (g := g1) (op := op) (n := n) (s := s) (t := t) ih hz' hr ks 0 rfl (by omega) 0 (fun jk j => ?_) jk
 refine ⟨?_, rfl⟩
 rw [wrap64 (by omega) (by omega)]
 simp only [uO, Nat.zero_max]
 rfl
end Go.Proofs.YtlkjnlfddadlmaaGreatDoor.V
namespace Go.Proofs.YtlkjnlfddadlmaaGreatDoor.V
set_option maxRecDepth 100000
def Srt (c : Co) : Prop := ∀ us env g cs, szC c ≤ 1048576 → env.length + 2 * szC c ≤ 4194304 → cs = nm env → Rd c us → RT 29 [xc us, xl (g + 1) 1 env.length cs] [] = some (xb (j7 env c), [])
theorem lrt {ks : List Co} {cs : List TU} {g g2 : Nat} {op n : Int} {s t : List UInt8} {env : List Nm} {K : Ex → StA → Prop} (H : ∀ c ∈ ks, Srt c) (hz : x8 ks ≤ 1048576) (he : env.length + 2 * x8 ks ≤ 4194304) (hr : Rds ks cs) :
  ∀ (l : List Co) (i : Nat), ks.drop i = l → i ≤ ks.length →
  (∀ jk j, uI op s t env i l = true → K (.exit 0) ⟨[(5, xi j), (1, xl (g2 + 1) 1 env.length (nm env)), (2, .box () ((qA op n s t (g + 1) ks.length cs).map .t)), (4, xb false)], jk, []⟩) →
  (∀ jk j, uI op s t env i l = false → K .ret ⟨[(5, xi j), (1, xl (g2 + 1) 1 env.length (nm env)), (2, .box () ((qA op n s t (g + 1) ks.length cs).map .t)), (4, xb false)], jk, []⟩) →
  ∀ jk, sem cx0 29 RT (.loop (lp Tryz.f29 0)) ⟨[(5, xi i), (1, xl (g2 + 1) 1 env.length (nm env)), (2, .box () ((qA op n s t (g + 1) ks.length cs).map .t)), (4, xb false)], jk, []⟩ K := by
 have hk := pR hz
 refine qE ?_ ?_
 ·intro k1 k2 jk
  refine zO cx0 _ RT [5, 1, 2, 4] ⟨fun h => (g7 h (by omega)).elim, fun h => ?_⟩
  exact fun jk => k1 jk _ rfl
 ·intro i c l hi hil ih k1 k2 jk
  have hm := List.mem_of_getElem? hi
  have hc := H c hm
  have hzc := bX hz hm
  have hel := zM3 (op := op) (s := s) (t := t) (i := i)
  have hz1 := oC hm
  cases c with
  | mk op' n' s' t' kk =>
  obtain ⟨g', cs', e1, e2⟩ := vK hr hi
  refine zO cx0 _ RT [5, 1, 2, 4] ⟨fun h => ?_, fun h => (jO h (by omega)).elim⟩
  refine ⟨⟨by omega, by omega⟩, ?_⟩
  refine ⟨op', n', s', t', g' + 1, kk.length, cs', ⟨e1, rfl⟩, ?_⟩
  obtain ⟨g3, r1⟩ := zXe (env84 (show Rd (.mk op n s t ks) (qA op n s t (g + 2) ks.length (yD cs)) from ⟨_, _, rfl, hr.retag⟩) (qX env) (by omega) (i := i) (g := g2))
  refine ⟨_, r1, ?_⟩
  have hc2 := hc (qA op' n' s' t' (g' + 2) kk.length (yD cs')) (env ++ j3 op s t i) g3 _ hzc (by rw [List.length_append]; omega) (qX _) ⟨_, _, rfl, e2.retag⟩
  refine ⟨_, j6 hc2, ?_⟩
  refine ⟨fun h2 => ?_, fun h2 => ?_⟩
  ·exact fun jk => k2 jk _ (by simp only [uI, Bool.and_eq_false_iff]; left; simpa using h2)
  ·intro jk
   rw [kK hil (by simp only [maxLen]; omega)]
   have h2 : j7 (env ++ j3 op s t i) (.mk op' n' s' t' kk) = true := by simpa using h2
   exact ih (fun jk j h3 => k1 jk j (by simp only [uI, h2, h3, Bool.and_self])) (fun jk j h3 => k2 jk j (by simp only [uI, h3, Bool.and_false])) jk
theorem dK {a b : Bool} (h : a = b) : xb a = xb b := by rw [h]
theorem hJ {env : List Nm} {op n : Int} {s t : Nm} {ks : List Co} (h : wA env op n s t ks.length = false) : j7 env (.mk op n s t ks) = false := by simp only [j7, h, Bool.false_and]
theorem zU8 : ∀ c : Co, Srt c := by
 refine Co.ind fun op n s t ks ih => ?_
 intro us env g cs hz he hcs hr
 subst hcs
 obtain ⟨g1, cs, rfl, hr⟩ := hr
 have hz' : x8 ks ≤ 1048576 := by simp only [szC] at hz; omega
 have he' : env.length + 2 * x8 ks ≤ 4194304 := by simp only [szC] at he; omega
 have fin : wA env op n s t ks.length = true → ∀ jk K, (∀ jk j, j7 env (.mk op n s t ks) = true → K (.exit 0) ⟨[(5, xi j), (1, xl (g + 1) 1 env.length (nm env)), (2, .box () ((qA op n s t (g1 + 1) ks.length cs).map .t)), (4, xb false)], jk, []⟩) →
   (∀ jk j, j7 env (.mk op n s t ks) = false → K .ret ⟨[(5, xi j), (1, xl (g + 1) 1 env.length (nm env)), (2, .box () ((qA op n s t (g1 + 1) ks.length cs).map .t)), (4, xb false)], jk, []⟩) →
   sem cx0 29 RT (.loop (lp Tryz.f29 0)) ⟨[(5, xi (0 : Nat)), (1, xl (g + 1) 1 env.length (nm env)), (2, .box () ((qA op n s t (g1 + 1) ks.length cs).map .t)), (4, xb false)], jk, []⟩ K := by
  intro hd jk K k1 k2
  refine lrt (g := g1) (op := op) (n := n) (s := s) (t := t) ih hz' he' hr ks 0 rfl (by omega) (fun jk j h => k1 jk j ?_) (fun jk j h => k2 jk j ?_) jk
  ·simp only [j7, hd, h, Bool.and_self]
  ·simp only [j7, h, Bool.and_false]
 refine xM (fn := Tryz.f29) rfl rfl rfl rfl ?_
 refine ⟨_, uH (zK2 op), ?_⟩
 refine ⟨fun h1 => ?_, fun h1 => ?_⟩
 ·exact ⟨dK (hJ (by simp_all [wA])), rfl⟩
 refine ⟨_, j6 (zNn op), ?_⟩
 refine ⟨fun h2 => ?_, fun h2 => ?_⟩
 ·exact ⟨dK (hJ (by simp_all [wA])), rfl⟩
 refine ⟨fun h3 => ?_, fun h3 => ?_⟩
 ·exact ⟨dK (hJ (by simp_all [wA])), rfl⟩
 refine ⟨fun h4 => ⟨fun h5 => ?_, fun h5 => ?_⟩, fun h4 => ?_⟩
 ·exact ⟨dK (hJ (by simp_all [wA])), rfl⟩
 all_goals
  refine ⟨_, j6 (zXv n), ?_⟩
  refine ⟨fun h6 => ?_, fun h6 => ?_⟩
  ·exact ⟨dK (hJ (by simp_all [wA])), rfl⟩
  refine ⟨fun h7 => ?_, fun h7 => ?_⟩
  ·refine ⟨_, j6 (in83 (g := g + 1) (qX env) (by simp only [maxLen]; omega)), ?_⟩
   refine ⟨fun h8 => ?_, fun h8 => ?_⟩
   ·exact ⟨dK (hJ (by simp_all [wA])), rfl⟩
   refine yU cx0 _ RT [5, 1, 2, 4] fun jk => ?_
   refine fin (by simp_all [wA]) jk _ (fun jk j h => ?_) (fun jk j h => ?_)
   ·exact ⟨dK h, rfl⟩
   ·exact ⟨dK h, rfl⟩
  ·refine yU cx0 _ RT [5, 1, 2, 4] fun jk => ?_
   refine fin (by simp_all [wA]) jk _ (fun jk j h => ?_) (fun jk j h => ?_)
   ·exact ⟨dK h, rfl⟩
   ·exact ⟨dK h, rfl⟩
theorem ok_s {c : Co} {us : List TU} (hz : szC c ≤ 1048576) (hr : Rd c us) : RT 11 [xc us] [] = some (xb (dM c), []) := by
 cases c with
 | mk op n s t ks =>
 obtain ⟨g, cs, rfl, hr⟩ := hr
 have rd : Rd (.mk op n s t ks) (qA op n s t (g + 2) ks.length (yD cs)) := ⟨_, _, rfl, hr.retag⟩
 refine xM (fn := Tryz.f11) rfl rfl rfl rfl ?_
 refine ⟨_, uH (zXj _ _ hz rd), ?_⟩
 refine ⟨fun h1 => ?_, fun h1 => ?_⟩
 ·refine ⟨_, uH (zWg _ _ hz rd), ?_⟩
  refine ⟨fun h2 => ?_, fun h2 => ?_⟩
  ·refine ⟨_, j6 (zU8 _ _ [] 0 [] hz (by simp; omega) rfl rd), ?_⟩
   exact ⟨dK (by simp_all [dM]; omega), rfl⟩
  ·exact ⟨dK (by simp_all [dM]; omega), rfl⟩
 ·exact ⟨dK (by simp_all [dM]; omega), rfl⟩
end Go.Proofs.YtlkjnlfddadlmaaGreatDoor.V
namespace Go.Proofs.YtlkjnlfddadlmaaGreatDoor.V
set_option maxRecDepth 100000
def Spr (c : Co) : Prop := ∀ us env g cs (deep : Nat), szC c ≤ 1048576 → env.length + 2 * szC c ≤ 4194304 → deep + szC c ≤ 2097152 → cs = nm env → Rd c us → RT 39 [xc us, xl (g + 1) 1 env.length cs, xi deep] [] = some (xi (prC deep env c), [])
theorem lpr {ks : List Co} {cs : List TU} {g g2 deep : Nat} {op n : Int} {s t : List UInt8} {env : List Nm} {K : Ex → StA → Prop} (H : ∀ c ∈ ks, Spr c) (hz : x8 ks ≤ 1048576) (he : env.length + 2 * x8 ks ≤ 4194304) (hd : deep + x8 ks ≤ 2097152) (hr : Rds ks cs) :
  ∀ (l : List Co) (i : Nat), ks.drop i = l → i ≤ ks.length → ∀ v : Nat, v ≤ 3000 →
  (∀ jk j, prL op s t env deep i v l ≤ 3000 → K (.exit 0) ⟨[(85, xi j), (8, xi (prL op s t env deep i v l)), (84, xi ks.length), (83, xl (g + 1) 5 ks.length cs), (1, xl (g2 + 1) 1 env.length (nm env)), (2, xi deep), (3, .box () ((qA op n s t (g + 1) ks.length cs).map .t)), (6, xi 0)], jk, []⟩) →
  (∀ jk j w, prL op s t env deep i v l = 3001 → K .ret ⟨[(85, xi j), (8, xi w), (84, xi ks.length), (83, xl (g + 1) 5 ks.length cs), (1, xl (g2 + 1) 1 env.length (nm env)), (2, xi deep), (3, .box () ((qA op n s t (g + 1) ks.length cs).map .t)), (6, xi 3001)], jk, []⟩) →
  ∀ jk, sem cx0 39 RT (.loop (lp Tryz.f39 0)) ⟨[(85, xi i), (8, xi v), (84, xi ks.length), (83, xl (g + 1) 5 ks.length cs), (1, xl (g2 + 1) 1 env.length (nm env)), (2, xi deep), (3, .box () ((qA op n s t (g + 1) ks.length cs).map .t)), (6, xi 0)], jk, []⟩ K := by
 have hk := pR hz
 refine qE ?_ ?_
 ·intro v hv k1 k2 jk
  refine zO cx0 _ RT [85, 8, 84, 83, 1, 2, 3, 6] ⟨fun h => (g7 h (by omega)).elim, fun h => ?_⟩
  exact fun jk => k1 jk _ hv
 ·intro i c l hi hil ih v hv k1 k2 jk
  have hm := List.mem_of_getElem? hi
  have hc := H c hm
  have hzc := bX hz hm
  have hel := zM3 (op := op) (s := s) (t := t) (i := i)
  have hz1 := oC hm
  cases c with
  | mk op' n' s' t' kk =>
  obtain ⟨g', cs', e1, e2⟩ := vK hr hi
  refine zO cx0 _ RT [85, 8, 84, 83, 1, 2, 3, 6] ⟨fun h => ?_, fun h => (jO h (by omega)).elim⟩
  refine ⟨⟨by omega, by omega⟩, ?_⟩
  refine ⟨op', n', s', t', g' + 1, kk.length, cs', ⟨e1, rfl⟩, ?_⟩
  refine ⟨_, zI5 (zT3 (show Rd (.mk op n s t ks) (qA op n s t (g + 2) ks.length (yD cs)) from ⟨_, _, rfl, hr.retag⟩)), ?_⟩
  refine ⟨_, zI5 (cat85 (g := g2 + 1) (h := 0) (qX env) (qX (j3 op s t i)) (by omega) (by omega)), ?_⟩
  have hc2 := hc (qA op' n' s' t' (g' + 2) kk.length (yD cs')) (env ++ j3 op s t i) 0 _ (deep + 1) hzc (by rw [List.length_append]; omega) (by omega) (qX _) ⟨_, _, rfl, e2.retag⟩
  have hw : IntKind.wrap .i64 ((deep : Int) + 1) = ((deep + 1 : Nat) : Int) := by rw [wrap64 (by omega) (by omega)]; omega
  have hple := zW6 (deep + 1) (env ++ j3 op s t i) (.mk op' n' s' t' kk)
  refine ⟨_, uH (by rw [hw]; exact hc2), ?_⟩
  have hL : prL op s t env deep i v (.mk op' n' s' t' kk :: l) = if v + prC (deep + 1) (env ++ j3 op s t i) (.mk op' n' s' t' kk) ≥ 3001 then 3001 else prL op s t env deep (i + 1) (v + prC (deep + 1) (env ++ j3 op s t i) (.mk op' n' s' t' kk)) l := rfl
  generalize prC (deep + 1) (env ++ j3 op s t i) (.mk op' n' s' t' kk) = p at hple hL
  have hwp : IntKind.wrap .i64 ((v : Int) + p) = ((v + p : Nat) : Int) := by rw [wrap64 (by omega) (by omega)]; omega
  refine ⟨fun h2 => ?_, fun h2 => ?_⟩
  ·rw [hwp] at h2
   have h2 : v + p ≥ 3001 := by simp at h2; omega
   rw [if_pos h2] at hL
   exact fun jk => k2 jk _ _ hL
  ·rw [hwp] at h2
   have h2 : ¬ v + p ≥ 3001 := by simp at h2; omega
   rw [if_neg h2] at hL
   intro jk
   rw [kK hil (by simp only [maxLen]; omega), hwp]
   rw [hL] at k1 k2
   exact ih (v + p) (by omega) k1 k2 jk
theorem zV3 {a b : Int} (h : a = b) : xi a = xi b := by rw [h]
theorem zW7 {deep : Nat} {env : List Nm} {op n : Int} {s t : Nm} {ks : List Co} (h : ¬ (deep ≤ 150 ∧ wA env op n s t ks.length = true)) : (3001 : Int) = ((prC deep env (.mk op n s t ks) : Nat) : Int) := by simp only [prC, if_neg h]; rfl
theorem nam2 {op : Int} (h : (op == 2) = true) : gD op = true := by unfold gD; rw [h]; rfl
theorem nam3 {op : Int} (h : (op == 3) = true) : gD op = true := by unfold gD; rw [h]; simp
theorem nam5 {op : Int} (h : (op == 5) = true) : gD op = true := by unfold gD; rw [h]; simp
theorem nam0 {op : Int} (h2 : (op == 2) = false) (h3 : (op == 3) = false) (h5 : (op == 5) = false) : gD op = (op == 6) := by unfold gD; rw [h2, h3, h5]; rfl
theorem hd_a {env : List Nm} {op n : Int} {s t : Nm} {k : Nat} (h : ((k : Int) != arC op) = true) : wA env op n s t k = false := by
 have : (arC op == (k : Int)) = false := by simp at h ⊢; omega
 unfold wA; rw [this]; rfl
theorem hd_w {env : List Nm} {op n : Int} {s t : Nm} {k : Nat} (h : (!gR n) = true) : wA env op n s t k = false := by
 have : gR n = false := by simpa using h
 unfold wA; rw [this]; simp
theorem hd_n {env : List Nm} {op n : Int} {s t : Nm} {k : Nat} (h1 : (op != 1) = true) (h2 : (n != 0) = true) : wA env op n s t k = false := by
 have e1 : (op == 1) = false := by simpa using h1
 have e2 : (n == 0) = false := by simpa using h2
 unfold wA; rw [e1, e2]; simp
theorem hd_s {env : List Nm} {op n : Int} {s t : Nm} {k : Nat} {x : Bool} (hx : gD op = x) (h : (!(x == !(s == []))) = true) : wA env op n s t k = false := by
 have : (x == !(s == [])) = false := by simpa using h
 unfold wA; rw [hx, this]; simp
theorem hd_t {env : List Nm} {op n : Int} {s t : Nm} {k : Nat} (h : (!((op == 6) == !(t == []))) = true) : wA env op n s t k = false := by
 have : ((op == 6) == !(t == [])) = false := by simpa using h
 unfold wA; rw [this]; simp
theorem hd_e {env : List Nm} {op n : Int} {s t : Nm} {k : Nat} (h1 : (op == 2) = true) (h : (!env.contains s) = true) : wA env op n s t k = false := by
 have : env.contains s = false := by simpa using h
 unfold wA; rw [h1, this]; simp
theorem zWr {env : List Nm} {op n : Int} {s t : Nm} {k : Nat} {x : Bool} (ha : ((k : Int) != arC op) = false) (hx : gD op = x) (hs : (!(x == !(s == []))) = false) (ht : (!((op == 6) == !(t == []))) = false) (hn : (op != 1) = false ∨ (n != 0) = false)
  (hw : (!gR n) = false) (he : (op == 2) = false ∨ (!env.contains s) = false) : wA env op n s t k = true := by
 have e1 : (arC op == (k : Int)) = true := by simp at ha ⊢; omega
 have e2 : (x == !(s == [])) = true := by simpa using hs
 have e3 : ((op == 6) == !(t == [])) = true := by simpa using ht
 have e4 : gR n = true := by simpa using hw
 have e5 : (op == 1 || n == 0) = true := by
  rcases hn with h | h
  ·have : (op == 1) = true := by simpa using h
   rw [this]; rfl
  ·have : (n == 0) = true := by simpa using h
   rw [this]; simp
 have e6 : (!(op == 2) || env.contains s) = true := by
  rcases he with h | h
  ·rw [h]; rfl
  ·have : env.contains s = true := by simpa using h
   rw [this]; simp
 unfold wA
 rw [e1, hx, e2, e3, e4, e5, e6]; rfl
set_option maxHeartbeats 8000000 in
theorem parts : ∀ c : Co, Spr c := by
 refine Co.ind fun op n s t ks ih => ?_
 intro us env g cs deep hz he hd hcs hr
 subst hcs
 obtain ⟨g1, cs, rfl, hr⟩ := hr
 have hz' : x8 ks ≤ 1048576 := by simp only [szC] at hz; omega
 have he' : env.length + 2 * x8 ks ≤ 4194304 := by simp only [szC] at he; omega
 have hd' : deep + x8 ks ≤ 2097152 := by simp only [szC] at hd; omega
 have fin : deep ≤ 150 → wA env op n s t ks.length = true → ∀ jk K, (∀ jk j, K (.exit 0) ⟨[(85, xi j), (8, xi (prC deep env (.mk op n s t ks))), (84, xi ks.length), (83, xl (g1 + 1) 5 ks.length cs), (1, xl (g + 1) 1 env.length (nm env)), (2, xi deep), (3, .box () ((qA op n s t (g1 + 1) ks.length cs).map .t)), (6, xi 0)], jk, []⟩) →
   (∀ jk j w, prC deep env (.mk op n s t ks) = 3001 → K .ret ⟨[(85, xi j), (8, xi w), (84, xi ks.length), (83, xl (g1 + 1) 5 ks.length cs), (1, xl (g + 1) 1 env.length (nm env)), (2, xi deep), (3, .box () ((qA op n s t (g1 + 1) ks.length cs).map .t)), (6, xi 3001)], jk, []⟩) →
   sem cx0 39 RT (.loop (lp Tryz.f39 0)) ⟨[(85, xi (0 : Nat)), (8, xi (1 : Nat)), (84, xi ks.length), (83, xl (g1 + 1) 5 ks.length cs), (1, xl (g + 1) 1 env.length (nm env)), (2, xi deep), (3, .box () ((qA op n s t (g1 + 1) ks.length cs).map .t)), (6, xi 0)], jk, []⟩ K := by
  intro h1 h2 jk K k1 k2
  have e : prC deep env (.mk op n s t ks) = prL op s t env deep 0 1 ks := by simp only [prC]; exact if_pos ⟨h1, h2⟩
  rw [e] at k1 k2
  exact lpr (g := g1) (op := op) (n := n) (s := s) (t := t) ih hz' he' hd' hr ks 0 rfl (by omega) 1 (by omega) (fun jk j _ => k1 jk j) k2 jk
 clear ih
 have no : ¬ (deep ≤ 150 ∧ wA env op n s t ks.length = true) → xi ((prC deep env (.mk op n s t ks) : Nat) : Int) = xi 3001 := fun h => (zV3 (zW7 h)).symm
 refine xM (fn := Tryz.f39) rfl rfl rfl rfl ?_
 have nd : wA env op n s t ks.length = false → ¬ (deep ≤ 150 ∧ wA env op n s t ks.length = true) := fun h h' => by rw [h] at h'; exact Bool.noConfusion h'.2
 refine ⟨fun h0 => ?_, fun h0 => ?_⟩
 ·exact ⟨no (by rintro ⟨h, _⟩; simp at h0; omega), rfl⟩
 have hdp : deep ≤ 150 := by simp at h0; omega
 refine ⟨_, uH (zK1 op), ?_⟩
 refine ⟨fun h1 => ⟨no (nd (hd_a h1)), rfl⟩, fun h1 => ?_⟩
 refine ⟨_, j6 (zXu n), ?_⟩
 refine ⟨fun h2 => ⟨no (nd (hd_w h2)), rfl⟩, fun h2 => ?_⟩
 refine ⟨fun h3 => ⟨fun h4 => ⟨no (nd (hd_n h3 h4)), rfl⟩, fun h4 => ?_⟩, fun h3 => ?_⟩
 all_goals have hn : (op != 1) = false ∨ (n != 0) = false := by first | exact .inr h4 | exact .inl h3
 all_goals refine ⟨fun h5 => ?_, fun h5 => ⟨fun h6 => ?_, fun h6 => ⟨fun h7 => ?_, fun h7 => ?_⟩⟩⟩
 all_goals first | have hx := nam2 h5 | have hx := nam3 h6 | have hx := nam5 h7 | have hx := nam0 h5 h6 h7
 all_goals refine ⟨fun h8 => ⟨no (nd (hd_s hx h8)), rfl⟩, fun h8 => ?_⟩
 all_goals refine ⟨fun h9 => ⟨no (nd (hd_t h9)), rfl⟩, fun h9 => ?_⟩
 all_goals refine ⟨fun h10 => ?_, fun h10 => ?_⟩
 all_goals try refine ⟨_, j6 (con73 (g := g + 1) (qX env) (by simp only [maxLen]; omega)), ?_⟩
 all_goals try refine ⟨fun h11 => ⟨no (nd (hd_e h10 h11)), rfl⟩, fun h11 => ?_⟩
 all_goals have he : (op == 2) = false ∨ (!env.contains s) = false := by first | exact .inl h10 | exact .inr h11
 all_goals
  refine yU cx0 _ RT [85, 8, 84, 83, 1, 2, 3, 6] fun jk => ?_
  refine fin hdp (zWr h1 hx h8 h9 hn h2 he) jk _ (fun jk j => ?_) (fun jk j w h => ?_)
  ·exact ⟨rfl, rfl⟩
  ·exact ⟨zV3 (by rw [h]; rfl), rfl⟩
theorem ok_i {c : Co} {us : List TU} (hz : szC c ≤ 1048576) (hr : Rd c us) : RT 15 [xc us] [] = some (xb (dM c), []) := by
 cases c with
 | mk op n s t ks =>
 obtain ⟨g, cs, rfl, hr⟩ := hr
 have rd : Rd (.mk op n s t ks) (qA op n s t (g + 2) ks.length (yD cs)) := ⟨_, _, rfl, hr.retag⟩
 refine xM (fn := Tryz.f15) rfl rfl rfl rfl ?_
 refine ⟨_, uH (parts _ _ [] 0 [] 1 hz (by simp; omega) (by omega) rfl rd), ?_⟩
 refine ⟨dK ?_, rfl⟩
 rw [← zW8]
 exact decide_eq_decide.2 (by omega)
end Go.Proofs.YtlkjnlfddadlmaaGreatDoor.V
namespace Go.Proofs.YtlkjnlfddadlmaaGreatDoor.V
set_option maxRecDepth 100000
def zPh : List Int → List TU
 | [] => []
 | n :: l => .int .i64 n :: zPh l
theorem zNs : ∀ {l : List Int} {i : Nat} {s : Int}, l[i]? = some s → ((zPh l).drop (i * 1)).take 1 = [.int .i64 s]
 | [], i, s, h => by simp at h
 | x :: l, 0, s, h => by
  simp only [List.getElem?_cons_zero, Option.some.injEq] at h
  subst h; rfl
 | x :: l, i + 1, s, h => by
  simp only [List.getElem?_cons_succ] at h
  have := zNs h
  rw [show (i + 1) * 1 = i * 1 + 1 by omega]; exact this
end Go.Proofs.YtlkjnlfddadlmaaGreatDoor.V
namespace Go.Proofs.YtlkjnlfddadlmaaGreatDoor.V
set_option maxRecDepth 100000
theorem zFc : ∀ (m k : Nat) (out : List UInt8), 0 < k → k < 10 ^ m → dgs m k out = Lib.decDigits k ++ out
 | 0, k, out, h, hk => by simp at hk; omega
 | m + 1, k, out, h, hk => by
  rw [zAe h, Lib.decDigits]
  split
  ·next h10 =>
   rw [show k / 10 = 0 by omega, show k % 10 = k by omega]
   cases m <;> simp [dgs, Nat.toUInt8]
  ·next h10 =>
   rw [zFc m (k / 10) _ (by omega) (by rw [Nat.pow_succ] at hk; omega)]
   simp [Nat.toUInt8]
theorem td10 (n : Int) : (0 ≤ n ∧ n.tdiv 10 = n / 10 ∧ n.tmod 10 = n % 10) ∨ (n < 0 ∧ n.tdiv 10 = -((-n) / 10) ∧ n.tmod 10 = -((-n) % 10)) := by
 rcases (by omega : n < 0 ∨ 0 ≤ n) with h | h
 ·right
  obtain ⟨k, rfl⟩ : ∃ k : Int, n = -k := ⟨-n, by omega⟩
  refine ⟨h, ?_, ?_⟩
  ·rw [Int.neg_tdiv, Int.tdiv_eq_ediv_of_nonneg (by omega), Int.neg_neg]
  ·rw [Int.neg_tmod, Int.tmod_eq_emod_of_nonneg (by omega), Int.neg_neg]
 ·exact .inl ⟨h, Int.tdiv_eq_ediv_of_nonneg h, Int.tmod_eq_emod_of_nonneg h⟩
theorem lDg {b : Bool} {K : Ex → StA → Prop} : ∀ (m : Nat) (n : Int) (out : List UInt8), n.natAbs < 10 ^ m → -9223372036854775808 ≤ n → n ≤ 9223372036854775807 → out.length + m ≤ 40 →
  (∀ jk, K (.exit 0) ⟨[(0, xi 0), (4, xs (dgs m n.natAbs out)), (3, xb b), (2, xs [])], jk, []⟩) →
  ∀ jk, sem cx0 31 RT (.loop (lp Tryz.f31 0)) ⟨[(0, xi n), (4, xs out), (3, xb b), (2, xs [])], jk, []⟩ K
 | m, n, out, hk, h0, h1, hl, k1, jk => by
  refine zO cx0 _ RT [0, 4, 3, 2] ⟨fun h => ?_, fun h => ?_⟩
  ·refine ⟨by decide, ?_⟩
   have hm : ∃ m', m = m' + 1 := by
    cases m with
    | zero => simp at hk h; omega
    | succ m => exact ⟨m, rfl⟩
   obtain ⟨m, rfl⟩ := hm
   have hn0 : 0 < n.natAbs := by simp at h; omega
   have ht := td10 n
   have e1 : IntKind.wrap .i64 (n.tdiv 10) = n.tdiv 10 := wrap64 (by omega) (by omega)
   have e3 : (n.tdiv 10).natAbs = n.natAbs / 10 := by omega
   have hk' : (n.tdiv 10).natAbs < 10 ^ m := by rw [e3]; rw [Nat.pow_succ] at hk; omega
   rw [zAe hn0, ← e3] at k1
   have ih := fun jk => lDg m (n.tdiv 10) ((48 + n.natAbs % 10).toUInt8 :: out) hk' (by omega) (by omega) (by simp only [List.length_cons]; omega) k1 jk
   refine ⟨fun hd => ?_, fun hd => ?_⟩
   ·have hd := of_decide_eq_true hd
    refine ⟨_, rfl, ?_⟩
    refine ⟨by simp only [List.length_cons, List.length_nil, maxLen]; omega, ?_⟩
    refine ⟨by decide, ?_⟩
    intro jk
    have e2 : (IntKind.wrap .u8 (IntKind.wrap .i64 (48 + IntKind.wrap .i64 (0 - n.tmod 10)))).toNat.toUInt8 = (48 + n.natAbs % 10).toUInt8 := by
     rw [wrap64 (n := 0 - n.tmod 10) (by omega) (by omega), show (48 + (0 - n.tmod 10)) = ((48 + n.natAbs % 10 : Nat) : Int) by omega, wrap64 (by omega) (by omega), zTw (by omega)]
     rfl
    have ih := ih jk
    rw [← e2, ← e1] at ih
    exact ih
   ·have hd := of_decide_eq_false hd
    refine ⟨_, rfl, ?_⟩
    refine ⟨by simp only [List.length_cons, List.length_nil, maxLen]; omega, ?_⟩
    refine ⟨by decide, ?_⟩
    intro jk
    have e2 : (IntKind.wrap .u8 (IntKind.wrap .i64 (48 + n.tmod 10))).toNat.toUInt8 = (48 + n.natAbs % 10).toUInt8 := by
     rw [show (48 + n.tmod 10) = ((48 + n.natAbs % 10 : Nat) : Int) by omega, wrap64 (by omega) (by omega), zTw (by omega)]
     rfl
    have ih := ih jk
    rw [← e2, ← e1] at ih
    exact ih
  ·have h : n = 0 := by simp at h; omega
   subst h
   intro jk
   have := k1 jk
   cases m <;> exact this
theorem zRx (n : Int) (h0 : -9223372036854775808 ≤ n) (h1 : n ≤ 9223372036854775807) : (Lib.itoa n).length ≤ 21 := by
 have key : ∀ k : Nat, 0 < k → k < 10 ^ 20 → (Lib.decDigits k).length ≤ 20 := fun k h hk => by
  have := iZ 20 k []
  rw [zFc 20 k [] h hk, List.append_nil] at this
  simpa using this
 unfold Lib.itoa
 have hp : (10 : Nat) ^ 20 = 100000000000000000000 := rfl
 split
 ·have := key n.natAbs (by omega) (by omega)
  simp only [List.length_cons]; omega
 ·rcases Nat.eq_zero_or_pos n.toNat with h | h
  ·rw [h, Lib.decDigits]; simp
  ·have := key n.toNat h (by omega); omega
theorem zC3 {g : Nat} {a : List XU} {s : List UInt8} (h : RT g a [] = some (xs s, [])) : Ret RT g a (xs s) := ⟨_, h, rfl⟩
theorem dig_s {n : Int} (h0 : -9223372036854775808 ≤ n) (h1 : n ≤ 9223372036854775807) : RT 31 [xi n] [] = some (xs (Lib.itoa n), []) := by
 refine xM (fn := Tryz.f31) rfl rfl rfl rfl ?_
 refine ⟨fun h => ?_, fun h => ?_⟩
 ·have h : n = 0 := by simpa using h
  subst h
  exact ⟨by rw [Lib.itoa, if_neg (by decide), Lib.decDigits, dif_pos (by decide)]; rfl, rfl⟩
 ·have h : n ≠ 0 := by simpa using h
  refine yU cx0 _ RT [0, 4, 3, 2] fun jk => ?_
  refine lDg 20 n [] (by have : (10 : Nat) ^ 20 = 100000000000000000000 := rfl; omega) h0 h1 (by simp) (fun jk => ?_) jk
  have hp : (10 : Nat) ^ 20 = 100000000000000000000 := rfl
  have e := zFc 20 n.natAbs [] (by omega) (by omega)
  have el := iZ 20 n.natAbs []
  refine ⟨fun hb => ?_, fun hb => ?_⟩
  ·have hb := of_decide_eq_true hb
   refine ⟨by simp only [List.length_cons, List.length_nil] at el ⊢; simp only [maxLen]; omega, ?_⟩
   refine ⟨?_, rfl⟩
   rw [Lib.itoa, if_pos hb, e, List.append_nil]
   rfl
  ·have hb := of_decide_eq_false hb
   refine ⟨?_, rfl⟩
   rw [Lib.itoa, if_neg hb, e, List.append_nil, show n.natAbs = n.toNat by omega]
   rfl
theorem zVm {n : Int} (h0 : -9223372036854775808 ≤ n) (h1 : n ≤ 9223372036854775807) : RT 34 [xi n] [] = some (xs (Lib.itoa n), []) := by
 refine xM (fn := Tryz.f34) rfl rfl rfl rfl ?_
 have e : RT 53 [xi n] [] = some (xs (Lib.itoa n), []) := rB (h := eG) rfl (by simp only [eG, zNx]; rw [if_pos ⟨h0, h1⟩])
 refine ⟨_, ⟨_, e, rfl⟩, ?_⟩
 exact ⟨rfl, rfl⟩
end Go.Proofs.YtlkjnlfddadlmaaGreatDoor.V
namespace Go.Proofs.YtlkjnlfddadlmaaGreatDoor.V
set_option maxRecDepth 100000
def zCo : Co := .mk 0 0 [] [] []
def cwL : List Nm := [[102, 117, 110], [97, 112, 112], [108, 101, 116], [114, 101, 99], [105, 102], [43], [45], [42], [60], [61], [], [99, 111, 110, 115], [99, 97, 114], [99, 100, 114], [112, 97, 105, 114, 63], [112, 117, 116]]
def cwd (op : Int) : Nm := if 3 ≤ op ∧ op ≤ 18 ∧ op ≠ 13 then cwL.getD (op - 3).toNat [] else [63]
def spd (s : Nm) : Nm := if s = [] then [] else 32 :: s
mutual
def txt : Co → Nm
 | .mk op n s t ks => if op = 1 then Lib.itoa n else if op = 2 then s else if op = 13 then [40, 41] else 40 :: (cwd op ++ (spd s ++ (spd t ++ (wC ks ++ [41]))))
def wC : List Co → Nm
 | [] => []
 | c :: l => 32 :: (txt c ++ wC l)
end
def dT (b : UInt8) : Bool := b == 32 || b == 40 || b == 41
def one (s : Nm) : List Nm := if s = [] then [] else [s]
def wdL : Nm → Nm → List Nm
 | cur, [] => one cur
 | cur, b :: l => if dT b = true then one cur ++ ((if b = 32 then [] else [[b]]) ++ wdL [] l) else wdL (cur ++ [b]) l
abbrev StS := List Nm × Bool
def nxS : StS → Nm × StS
 | ([], _) => ([], ([], false))
 | (w :: r, ok) => (w, (r, ok))
def kF (w : Nm) : Bool := (decide (1 ≤ w.length) && decide (w.length ≤ 11)) && ((w.getD 0 0 == 45 && decide (1 < w.length) && y7 (w.getD 1 0)) || y7 (w.getD 0 0))
def gF : Int → Nm → Int
 | a, [] => a
 | a, b :: l => gF (if y7 b = true then 10 * a + (b.toNat : Int) - 48 else a) l
def zC2 (w : Nm) : Int := if w.getD 0 0 = 45 then 0 - gF 0 w else gF 0 w
def zFy : List Nm := [[102, 117, 110], [97, 112, 112], [108, 101, 116], [114, 101, 99], [105, 102], [43], [45], [42], [60], [61], [99, 111, 110, 115], [99, 97, 114], [99, 100, 114], [112, 97, 105, 114, 63], [112, 117, 116]]
def cK : List Int := [3, 4, 5, 6, 7, 8, 9, 10, 11, 12, 14, 15, 16, 17, 18]
def opF : List Nm → List Int → Nm → Int
 | a :: l, o :: m, w => if a = w then o else opF l m w
 | _, _, _ => 0
def opS (w : Nm) : Int := opF zFy cK w
def qN (f : StS → Co × StS) : Nat → StS → List Co × StS
 | 0, st => ([], st)
 | k + 1, st => if st.2 = false then ([], st) else ((f st).1 :: (qN f k (f st).2).1, (qN f k (f st).2).2)
def nmS (b : Bool) (st : StS) : Nm × StS := if b = true then nxS st else ([], st)
def zRd (st : StS) : StS := ((nxS st).2.1, if (nxS st).1 = [41] then (nxS st).2.2 else false)
def zDb (f : StS → Co × StS) (st : StS) : Co × StS :=
 if (nxS st).1 = [41] then (.mk 13 0 [] [] [], (nxS st).2)
 else if opS (nxS st).1 = 0 then (zCo, ((nxS st).2.1, false))
 else
  let op := opS (nxS st).1
  let a := nmS (gD op) (nxS st).2
  let b := nmS (op == 6) a.2
  let k := qN f (arC op).toNat b.2
  (.mk op 0 a.1 b.1 k.1, zRd k.2)
def xB : Nat → StS → Co × StS
 | 0 => fun st => (zCo, ((nxS st).2.1, false))
 | d + 1 => fun st =>
  if (nxS st).2.2 = false then (zCo, ((nxS st).2.1, false))
  else if (nxS st).1 ≠ [40] then (if kF (nxS st).1 = true then .mk 1 (zC2 (nxS st).1) [] [] [] else .mk 2 0 (nxS st).1 [] [], (nxS st).2)
  else zDb (xB d) (nxS st).2
abbrev StI := Nm × Bool
def tkI (t : Nm) (st : StI) : StI := (Lib.trimPrefix st.1 t, st.2 || !Lib.hasPrefix st.1 t)
def tW (b : UInt8) : Bool := b == 32 || b == 41
def wdI (st : StI) : Nm × StI := (st.1.takeWhile (fun b => !tW b), (st.1.dropWhile (fun b => !tW b), st.2))
def bS : Nat → Int → Nm → Int
 | 0, o, _ => o
 | k + 1, o, w => if o ≤ 18 ∧ cwd o ≠ w then bS k (o + 1) w else o
def opI (w : Nm) : Int := bS 16 3 w
def jD (f : StI → Co × StI) : Nat → StI → List Co × StI
 | 0, st => ([], st)
 | k + 1, st => ((f (tkI [32] st)).1 :: (jD f k (f (tkI [32] st)).2).1, (jD f k (f (tkI [32] st)).2).2)
def nmI (b : Bool) (st : StI) : Nm × StI := if b = true then wdI (tkI [32] st) else ([], st)
def nB (w : Nm) : Co := match Lib.atoiAll w with
 | .ok n => if Lib.itoa n = w then .mk 1 n [] [] [] else .mk 2 0 w [] []
 | _ => .mk 2 0 w [] []
def zDa (f : StI → Co × StI) (st : StI) : Co × StI :=
 if Lib.hasPrefix st.1 [41] = true then (.mk 13 0 [] [] [], tkI [41] st)
 else if 18 < opI (wdI st).1 then (zCo, ((wdI st).2.1, true))
 else
  let op := opI (wdI st).1
  let a := nmI (op == 3 || op == 5 || op == 6) (wdI st).2
  let b := nmI (op == 6) a.2
  let k := jD f (arC op).toNat b.2
  (.mk op 0 a.1 b.1 k.1, tkI [41] k.2)
def xE : Nat → StI → Co × StI
 | 0 => fun st => (zCo, (st.1, true))
 | d + 1 => fun st =>
  if st.2 = true ∨ st.1 = [] then (zCo, (st.1, true))
  else if st.1.getD 0 0 ≠ 40 then (nB (wdI st).1, (wdI st).2)
  else zDa (xE d) (tkI [40] st)
def zI3 (s : Nm) : Co × Bool :=
 if 60000 < s.length then (zCo, false)
 else
  let r := xB 151 (wdL [] s, true)
  if r.2.2 = true ∧ r.2.1 = [] ∧ dM r.1 = true ∧ jR r.1 = true ∧ txt r.1 = s then (r.1, true) else (zCo, false)
def resI (s : Nm) : Co × Bool :=
 if 60000 < s.length then (zCo, false)
 else
  let r := xE 150 (s, false)
  if r.2.2 = false ∧ r.2.1 = [] ∧ dM r.1 = true ∧ jR r.1 = true ∧ txt r.1 = s then (r.1, true) else (zCo, false)
mutual
def Gd : Co → Prop
 | .mk op n s t ks => arC op = (ks.length : Int) ∧ gD op = !(s == []) ∧ (op == 6) = !(t == []) ∧ (op = 1 ∨ n = 0) ∧ gR n = true ∧ gE s = true ∧ gE t = true ∧ Gds ks
def Gds : List Co → Prop
 | [] => True
 | c :: l => Gd c ∧ Gds l
end
mutual
theorem zVs : ∀ (env : List Nm) (c : Co), j7 env c = true → jR c = true → Gd c
 | env, .mk op n s t ks, h, ha => by
  simp only [j7, wA, Bool.and_eq_true] at h
  simp only [jR, Bool.and_eq_true] at ha
  obtain ⟨⟨⟨⟨⟨⟨h1, h2⟩, h3⟩, h4⟩, h5⟩, -⟩, h6⟩ := h
  refine ⟨by simpa using h1, by simpa using h2, by simpa using h3, ?_, h5, ha.2.1, ha.2.2, zRo op s t env 0 ks h6 ha.1⟩
  simpa using h4
theorem zRo : ∀ (op : Int) (s t : Nm) (env : List Nm) (i : Nat) (l : List Co), uI op s t env i l = true → kC l = true → Gds l
 | op, s, t, env, i, [], _, _ => trivial
 | op, s, t, env, i, c :: l, h, ha => by
  simp only [uI, Bool.and_eq_true] at h
  simp only [kC, Bool.and_eq_true] at ha
  exact ⟨zVs _ c h.1 ha.1, zRo op s t env (i + 1) l h.2 ha.2⟩
end
end Go.Proofs.YtlkjnlfddadlmaaGreatDoor.V
namespace Go.Proofs.YtlkjnlfddadlmaaGreatDoor.V
set_option maxRecDepth 100000
theorem j1 {b : UInt8} : y7 b = true ↔ 48 ≤ b.toNat ∧ b.toNat ≤ 57 := by
 simp only [y7, Bool.and_eq_true, decide_eq_true_eq]; omega
theorem zDj (d : Nat) (h : d < 10) : (UInt8.ofNat (48 + d)).toNat = 48 + d := by
 simp; omega
theorem rX : ∀ (l : Nm) (acc v d : Nat), d < 10 → v * 10 + d < 1844674407370955162 → Lib.parseUint10 acc l = .ok v → Lib.parseUint10 acc (l ++ [UInt8.ofNat (48 + d)]) = .ok (v * 10 + d)
 | [], acc, v, d, hd, hv, h => by
  simp only [Lib.parseUint10] at h
  injection h with h
  subst h
  simp only [List.nil_append, Lib.parseUint10, zDj d hd]
  rw [if_pos (by omega), if_neg (by omega), if_neg (by omega)]
  congr 1; omega
 | c :: l, acc, v, d, hd, hv, h => by
  simp only [Lib.parseUint10, List.cons_append] at h ⊢
  split at h
  ·split at h
   ·cases h
   ·split at h
    ·cases h
    ·next h1 h2 h3 =>
     rw [if_pos h1, if_neg h2, if_neg h3]
     exact rX l _ v d hd hv h
  ·cases h
theorem cH : ∀ (l : Nm) (a : Int) (d : Nat), d < 10 → gF a (l ++ [UInt8.ofNat (48 + d)]) = 10 * gF a l + d
 | [], a, d, hd => by
  have hb : y7 (UInt8.ofNat (48 + d)) = true := j1.2 (by rw [zDj d hd]; omega)
  simp only [List.nil_append, gF, if_pos hb, zDj d hd]
  push_cast; omega
 | c :: l, a, d, hd => by
  simp only [List.cons_append, gF]
  exact cH l _ d hd
theorem zFb : ∀ (m u : Nat), u < 10 ^ m → u < 1152921504606846976 →
  Lib.parseUint10 0 (Lib.decDigits u) = .ok u ∧ gF 0 (Lib.decDigits u) = u ∧ (∀ b ∈ Lib.decDigits u, y7 b = true) ∧ Lib.decDigits u ≠ [] ∧ (0 < m → (Lib.decDigits u).length ≤ m)
 | 0, u, h, h1 => by
  obtain rfl : u = 0 := by simpa using h
  rw [Lib.decDigits, dif_pos (by omega)]
  refine ⟨rfl, by decide, by decide, by simp, by omega⟩
 | m + 1, u, h, h1 => by
  rw [Lib.decDigits]
  split
  ·next hu =>
   have hb : y7 (UInt8.ofNat (48 + u)) = true := j1.2 (by rw [zDj u hu]; omega)
   refine ⟨?_, ?_, by simpa using hb, by simp, by simp⟩
   ·have := rX [] 0 0 u hu (by omega) rfl
    simpa using this
   ·have := cH [] 0 u hu
    simpa [gF] using this
  ·next hu =>
   obtain ⟨i1, i2, i3, i4, i5⟩ := zFb m (u / 10) (by rw [Nat.pow_succ] at h; omega) (by omega)
   have hb : y7 (UInt8.ofNat (48 + u % 10)) = true := j1.2 (by rw [zDj _ (by omega)]; omega)
   refine ⟨?_, ?_, ?_, by simp, ?_⟩
   ·have := rX _ 0 _ (u % 10) (by omega) (by omega) i1
    rw [this]; congr 1; omega
   ·rw [cH _ _ _ (by omega), i2]; omega
   ·intro b hm
    rcases List.mem_append.1 hm with h | h
    ·exact i3 b h
    ·rw [List.mem_singleton] at h; subst h; exact hb
   ·intro _
    rw [List.length_append]
    have : 0 < m := by
     rcases Nat.eq_zero_or_pos m with rfl | hm
     ·simp at h; omega
     ·exact hm
    have := i5 this
    simp; omega
theorem mF {n : Int} : gR n = true ↔ -1073741824 ≤ n ∧ n ≤ 1073741823 := by
 simp only [gR, Bool.and_eq_true, decide_eq_true_eq, ge_iff_le]
structure NumOk (n : Int) (w : Nm) : Prop where
 parse : Lib.atoiAll w = .ok n
 num : zC2 w = n
 isn : kF w = true
 cs : ∀ b ∈ w, y7 b = true ∨ b = 45
 ne : w ≠ []
 fst : y7 (w.getD 0 0) = true ∨ w.getD 0 0 = 45 ∧ 1 < w.length ∧ y7 (w.getD 1 0) = true
theorem rV {n : Int} (h : gR n = true) : NumOk n (Lib.itoa n) := by
 obtain ⟨h1, h2⟩ := mF.1 h
 unfold Lib.itoa
 split
 ·next hn =>
  obtain ⟨i1, i2, i3, i4, i5⟩ := zFb 10 n.natAbs (by simp; omega) (by omega)
  have i5 := i5 (by omega)
  generalize Lib.decDigits n.natAbs = l at i1 i2 i3 i4 i5
  cases l with
  | nil => exact absurd rfl i4
  | cons b l =>
   have hb := i3 b (List.mem_cons_self)
   refine ⟨?_, ?_, ?_, ?_, by simp, .inr ⟨rfl, by simp, by simpa using hb⟩⟩
   ·simp only [Lib.atoiAll]
    rw [if_pos (by right; rfl)]
    simp only [Lib.parseMag]
    rw [if_neg (by simp), i1]
    simp only
    rw [if_neg (by intro h; exact h.1 rfl), if_neg (by omega), if_pos (show UInt8.toNat 45 = 45 from rfl)]
    congr 1; omega
   ·have e45 : y7 45 = false := by decide
    simp only [zC2, List.getD_cons_zero, if_true]
    rw [gF, e45]
    simp only [Bool.false_eq_true, if_false]
    rw [i2]; omega
   ·simp only [kF, List.getD_cons_zero, List.getD_cons_succ, hb, Bool.and_true, List.length_cons, Bool.and_eq_true, Bool.or_eq_true, decide_eq_true_eq, beq_self_eq_true, true_and]
    refine ⟨⟨by omega, ?_⟩, .inl (by omega)⟩
    simp at i5; omega
   ·intro x hx
    rcases List.mem_cons.1 hx with rfl | hx
    ·exact .inr rfl
    ·exact .inl (i3 x hx)
 ·next hn =>
  obtain ⟨i1, i2, i3, i4, i5⟩ := zFb 10 n.toNat (by simp; omega) (by omega)
  have i5 := i5 (by omega)
  generalize Lib.decDigits n.toNat = l at i1 i2 i3 i4 i5
  cases l with
  | nil => exact absurd rfl i4
  | cons b l =>
   have hb := i3 b (List.mem_cons_self)
   have hbb := j1.1 hb
   have h45 : b ≠ 45 := fun e => by subst e; exact absurd hbb.1 (by decide)
   refine ⟨?_, ?_, ?_, fun x hx => .inl (i3 x hx), by simp, .inl (by simpa using hb)⟩
   ·simp only [Lib.atoiAll]
    rw [if_neg (by omega)]
    simp only [Lib.parseMag]
    rw [if_neg (by simp), i1]
    simp only
    rw [if_neg (by omega), if_neg (by omega), if_neg (by omega)]
    congr 1; omega
   ·simp only [zC2, List.getD_cons_zero]
    rw [if_neg h45, i2]; omega
   ·simp only [kF, List.getD_cons_zero, hb, List.length_cons, Bool.and_eq_true, Bool.or_true, decide_eq_true_eq, and_true]
    refine ⟨by omega, ?_⟩
    simp at i5; omega
theorem zGh {s : Nm} (h : vJ s = true) : (∀ b ∈ s, okB b = true) ∧ s ≠ [] ∧ y7 (s.getD 0 0) = false ∧ (s.getD 0 0 = 45 → 1 < s.length → y7 (s.getD 1 0) = false) := by
 simp only [vJ, Bool.and_eq_true, List.all_eq_true] at h
 obtain ⟨⟨⟨h1, h2, -⟩, h3⟩, h4⟩ := h
 refine ⟨h1, fun e => by subst e; simp at h2, by simpa using h3, fun e hl => ?_⟩
 have e' : ((s.getD 0 0).toNat : Int) = 45 := by rw [e]; rfl
 rw [e'] at h4
 have hl' : decide ((s.length : Int) > 1) = true := decide_eq_true (by omega)
 rw [hl'] at h4
 simpa using h4
theorem zUz {b : UInt8} (h : okB b = true) : dT b = false := by
 have h1 : b ≠ 32 := fun e => by subst e; exact absurd h (by decide)
 have h2 : b ≠ 40 := fun e => by subst e; exact absurd h (by decide)
 have h3 : b ≠ 41 := fun e => by subst e; exact absurd h (by decide)
 simp [dT, h1, h2, h3]
theorem sep32 {b : UInt8} (h : dT b = false) : tW b = false := by
 simp only [dT, tW, Bool.or_eq_false_iff] at h ⊢
 exact ⟨h.1.1, h.2⟩
def Wd (w : Nm) : Prop := ∀ b ∈ w, dT b = false
theorem zL9 {s : Nm} (h : vJ s = true) : Wd s := fun b hb => zUz ((zGh h).1 b hb)
theorem zJ4 {s : Nm} (h : gE s = true) : Wd s := by
 simp only [gE, Bool.or_eq_true, Bool.and_eq_true] at h
 rcases h with h | h
 ·have : s = [] := by simpa using h
  subst this; exact fun b hb => by cases hb
 ·exact zL9 h.1.1
theorem zTs {n : Int} (h : gR n = true) : Wd (Lib.itoa n) := fun b hb => by
 rcases (rV h).cs b hb with h | rfl
 ·obtain ⟨h1, h2⟩ := j1.1 h
  have e1 : b ≠ 32 := fun e => by subst e; exact absurd h1 (by decide)
  have e2 : b ≠ 40 := fun e => by subst e; exact absurd h1 (by decide)
  have e3 : b ≠ 41 := fun e => by subst e; exact absurd h1 (by decide)
  simp [dT, e1, e2, e3]
 ·decide
theorem zSb {s : Nm} (h : gE s = true) (hn : s ≠ []) : vJ s = true := by
 simp only [gE, Bool.or_eq_true, Bool.and_eq_true] at h
 rcases h with h | h
 ·exact absurd (by simpa using h) hn
 ·exact h.1.1
theorem zP9 {s : Nm} (h : vJ s = true) : kF s = false := by
 obtain ⟨-, -, h3, h4⟩ := zGh h
 simp only [kF, h3, Bool.or_false]
 by_cases e : s.getD 0 0 = 45
 ·by_cases hl : 1 < s.length
  ·rw [h4 e hl]; simp
  ·simp [hl]
 ·have : (s.getD 0 0 == 45) = false := by simpa using e
  rw [this]; simp
theorem zMx (u : Nat) : y7 ((Lib.decDigits u).getD 0 0) = true := by
 induction u using Nat.strongRecOn with
 | _ u ih =>
  rw [Lib.decDigits]
  split
  ·next h => exact j1.2 (by simp [zDj u h]; omega)
  ·next h =>
   have := ih (u / 10) (by omega)
   cases hd : Lib.decDigits (u / 10) with
   | nil => rw [hd] at this; exact absurd this (by decide)
   | cons b l => rw [hd] at this; simpa using this
theorem zTl {s : Nm} (h : vJ s = true) (n : Int) : Lib.itoa n ≠ s := fun e => by
 subst e
 obtain ⟨-, -, h3, h4⟩ := zGh h
 unfold Lib.itoa at h3 h4
 split at h3
 ·next hn =>
  rw [if_pos hn] at h4
  have h1 := zMx n.natAbs
  cases hd : Lib.decDigits n.natAbs with
  | nil => rw [hd] at h1; exact absurd h1 (by decide)
  | cons b l =>
   rw [hd] at h1 h4
   have := h4 rfl (by simp)
   simp only [List.getD_cons_succ] at this
   rw [this] at h1; cases h1
 ·next hn =>
  rw [zMx] at h3; cases h3
theorem zSc {n : Int} (h : gR n = true) : nB (Lib.itoa n) = .mk 1 n [] [] [] := by
 unfold nB
 rw [(rV h).parse]
 simp
theorem zSd {s : Nm} (h : vJ s = true) : nB s = .mk 2 0 s [] [] := by
 unfold nB
 split
 ·rw [if_neg (zTl h _)]
 ·rfl
end Go.Proofs.YtlkjnlfddadlmaaGreatDoor.V
namespace Go.Proofs.YtlkjnlfddadlmaaGreatDoor.V
set_option maxRecDepth 100000
theorem nX {op : Int} {k : Nat} (h : arC op = (k : Int)) : 1 ≤ op ∧ op ≤ 18 := by
 unfold arC at h
 split at h
 ·next e => simp only [Bool.or_eq_true, beq_iff_eq] at e; omega
 ·split at h
  ·next e => simp only [Bool.or_eq_true, beq_iff_eq] at e; omega
  ·split at h
   ·next e => simp only [Bool.or_eq_true, beq_iff_eq] at e; omega
   ·split at h
    ·next e => simp only [beq_iff_eq] at e; omega
    ·omega
structure WordIs (op : Int) : Prop where
 wd : Wd (cwd op)
 ne : cwd op ≠ []
 fst : (cwd op).getD 0 0 ≠ 41
 oi : opI (cwd op) = op
 os : opS (cwd op) = op
 nb : cwd op ≠ [41]
theorem zXt {w : Nm} (h : w.all (fun b => !dT b) = true) : Wd w := fun b hb => by
 have := List.all_eq_true.1 h b hb
 simpa using this
theorem zGs {op : Int} (h3 : 3 ≤ op) (h18 : op ≤ 18) (h13 : op ≠ 13) : WordIs op := by
 have : op = 3 ∨ op = 4 ∨ op = 5 ∨ op = 6 ∨ op = 7 ∨ op = 8 ∨ op = 9 ∨ op = 10 ∨ op = 11 ∨ op = 12 ∨ op = 14 ∨ op = 15 ∨ op = 16 ∨ op = 17 ∨ op = 18 := by omega
 rcases this with rfl | rfl | rfl | rfl | rfl | rfl | rfl | rfl | rfl | rfl | rfl | rfl | rfl | rfl | rfl
 all_goals exact ⟨zXt (by decide), by decide, by decide, by decide, by decide, by decide⟩
def Ed (X : Nm) : Prop := X = [] ∨ ∃ l, X = 32 :: l ∨ X = 41 :: l
theorem ed32 (l : Nm) : Ed (32 :: l) := .inr ⟨l, .inl rfl⟩
theorem ed41 (l : Nm) : Ed (41 :: l) := .inr ⟨l, .inr rfl⟩
theorem zGp {w X : Nm} (hw : Wd w) (hX : Ed X) (b : Bool) : wdI (w ++ X, b) = (w, (X, b)) := by
 have hp : ∀ x ∈ w, (!tW x) = true := fun x hx => by rw [sep32 (hw x hx)]; rfl
 have h1 : X.takeWhile (fun b => !tW b) = [] ∧ X.dropWhile (fun b => !tW b) = X := by
  rcases hX with rfl | ⟨l, rfl | rfl⟩
  ·exact ⟨rfl, rfl⟩
  ·exact ⟨rfl, rfl⟩
  ·exact ⟨rfl, rfl⟩
 simp only [wdI]
 rw [List.takeWhile_append_of_pos hp, List.dropWhile_append_of_pos hp, h1.1, h1.2, List.append_nil]
theorem sI (c : UInt8) (X : Nm) (b : Bool) : tkI [c] (c :: X, b) = (X, b) := by
 simp [tkI, Lib.trimPrefix, Lib.hasPrefix, List.isPrefixOf]
theorem zW9 (X : Nm) : Lib.hasPrefix (41 :: X) [41] = true := by simp [Lib.hasPrefix, List.isPrefixOf]
theorem zXa {X : Nm} (h : X.getD 0 0 ≠ 41) : Lib.hasPrefix X [41] = false := by
 cases X with
 | nil => rfl
 | cons b l =>
  have h' : b ≠ 41 := h
  have : (41 == b) = false := by simpa using fun e => h' e.symm
  simp [Lib.hasPrefix, List.isPrefixOf, this]
theorem zR8 {s X : Nm} {p : Bool} (hs : Wd s) (h : p = !(s == [])) (hX : Ed X) : nmI p (spd s ++ X, false) = (s, (X, false)) := by
 unfold nmI spd
 by_cases e : s = []
 ·subst e
  rw [h]; rfl
 ·have e' : (s == []) = false := by simpa using e
  rw [h, e', if_neg e, Bool.not_false, if_pos rfl, List.cons_append, sI, zGp hs hX]
theorem zM2 (ks : List Co) (X : Nm) : Ed (wC ks ++ ([41] ++ X)) := by
 cases ks with
 | nil => exact ed41 X
 | cons c l => simp only [wC, List.cons_append]; exact ed32 _
theorem zFe (s X : Nm) (h : Ed X) : Ed (spd s ++ X) := by
 unfold spd
 split
 ·exact h
 ·exact ed32 _
theorem zW0 {op : Int} (h3 : 3 ≤ op) : (op == 3 || op == 5 || op == 6) = gD op := by
 unfold gD
 have : (op == 2) = false := by simpa using (show op ≠ 2 by omega)
 rw [this]; rfl
theorem zXr {c : Co} (h : Gd c) : txt c ≠ [] := by
 cases c with
 | mk op n s t ks =>
  obtain ⟨h1, h2, -, -, h5, -⟩ := h
  simp only [txt]
  split
  ·exact (rV h5).ne
  ·split
   ·next e =>
    subst e
    intro e'
    subst e'
    exact absurd h2 (by decide)
   ·split <;> simp
mutual
theorem rtI : ∀ (c : Co), Gd c → ∀ (d : Nat) (X : Nm), uO c ≤ d → Ed X → xE d (txt c ++ X, false) = (c, (X, false))
 | .mk op n s t ks, hg, 0, X, hd, hX => by
  simp only [uO] at hd; omega
 | .mk op n s t ks, hg, d + 1, X, hd, hX => by
  have hne := zXr hg
  obtain ⟨h1, h2, h3, h4, h5, h6, h7, h8⟩ := hg
  obtain ⟨hr1, hr2⟩ := nX h1
  have hkd : vE ks ≤ d := by simp only [uO] at hd; omega
  have hst : ¬ (false = true ∨ txt (.mk op n s t ks) ++ X = []) := fun h => by
   rcases h with h | h
   ·cases h
   ·exact hne (List.append_eq_nil_iff.1 h).1
  simp only [xE]
  rw [if_neg hst]
  by_cases e1 : op = 1
  ·subst e1
   have k0 : ks = [] := List.eq_nil_of_length_eq_zero (by simp only [arC] at h1; simp at h1; omega)
   have s0 : s = [] := by simpa [gD] using h2
   have t0 : t = [] := by simpa using h3
   subst k0 s0 t0
   simp only [txt, if_true]
   have hf := (rV h5).fst
   have hfs : (Lib.itoa n ++ X).getD 0 0 = (Lib.itoa n).getD 0 0 := by
    cases hl : Lib.itoa n with
    | nil => exact absurd hl (rV h5).ne
    | cons b l => rfl
   rw [hfs, if_pos (fun e => by rw [e] at hf; rcases hf with h | h; exact absurd h (by decide); exact absurd h.1 (by decide)), zGp (zTs h5) hX, zSc h5]
  ·by_cases e2 : op = 2
   ·subst e2
    have k0 : ks = [] := List.eq_nil_of_length_eq_zero (by simp only [arC] at h1; simp at h1; omega)
    have n0 : n = 0 := by rcases h4 with h | h; exact absurd h e1; exact h
    have s0 : s ≠ [] := fun e => by subst e; exact absurd h2 (by decide)
    have t0 : t = [] := by simpa using h3
    subst k0 n0 t0
    have hs := zSb h6 s0
    simp only [txt, if_neg e1, if_true]
    have hfs : (s ++ X).getD 0 0 ≠ 40 := by
     cases hl : s with
     | nil => exact absurd hl s0
     | cons b l =>
      have := zL9 hs b (by rw [hl]; exact List.mem_cons_self)
      intro e
      have e' : b = 40 := e
      subst e'
      exact absurd this (by decide)
    rw [if_pos hfs, zGp (zL9 hs) hX, zSd hs]
   ·have n0 : n = 0 := by rcases h4 with h | h; exact absurd h e1; exact h
    subst n0
    by_cases e13 : op = 13
    ·subst e13
     have k0 : ks = [] := List.eq_nil_of_length_eq_zero (by simp only [arC] at h1; simp at h1; omega)
     have s0 : s = [] := by simpa [gD] using h2
     have t0 : t = [] := by simpa using h3
     subst k0 s0 t0
     simp only [txt, if_neg e1, if_neg e2, if_true, List.cons_append, List.nil_append]
     rw [if_neg (by simp), sI]
     simp only [zDa]
     rw [if_pos (zW9 X), sI]
    ·have hw := zGs (op := op) (by omega) hr2 e13
     have hE3 : Ed (wC ks ++ ([41] ++ X)) := zM2 ks X
     have hE2 := zFe t _ hE3
     have hE1 := zFe s _ hE2
     simp only [txt, if_neg e1, if_neg e2, if_neg e13, List.cons_append, List.append_assoc]
     rw [if_neg (by simp), sI]
     simp only [zDa]
     have hp : Lib.hasPrefix (cwd op ++ (spd s ++ (spd t ++ (wC ks ++ (41 :: ([] ++ X)))))) [41] = false := zXa (by
      cases hl : cwd op with
      | nil => exact absurd hl hw.ne
      | cons b l => have := hw.fst; rw [hl] at this; exact this)
     have hwd : wdI (cwd op ++ (spd s ++ (spd t ++ (wC ks ++ (41 :: ([] ++ X))))), false) = (cwd op, (spd s ++ (spd t ++ (wC ks ++ (41 :: ([] ++ X)))), false)) := zGp hw.wd hE1 false
     have ha : nmI (op == 3 || op == 5 || op == 6) (spd s ++ (spd t ++ (wC ks ++ (41 :: ([] ++ X)))), false) = (s, (spd t ++ (wC ks ++ (41 :: ([] ++ X))), false)) := zR8 (zJ4 h6) (by rw [zW0 (by omega)]; exact h2) hE2
     have hb : nmI (op == 6) (spd t ++ (wC ks ++ (41 :: ([] ++ X))), false) = (t, (wC ks ++ (41 :: ([] ++ X)), false)) := zR8 (zJ4 h7) h3 hE3
     have hk : jD (xE d) (arC op).toNat (wC ks ++ (41 :: ([] ++ X)), false) = (ks, (41 :: X, false)) := by
      rw [h1, Int.toNat_natCast]
      exact ktI ks h8 d (41 :: X) hkd (ed41 X)
     rw [if_neg (by rw [hp]; exact Bool.false_ne_true), hwd]
     simp only [hw.oi]
     rw [if_neg (by omega)]
     simp only [ha, hb, hk, sI]
theorem ktI : ∀ (l : List Co), Gds l → ∀ (d : Nat) (X : Nm), vE l ≤ d → Ed X → jD (xE d) l.length (wC l ++ X, false) = (l, (X, false))
 | [], _, d, X, _, _ => rfl
 | c :: l, h, d, X, hd, hX => by
  simp only [vE] at hd
  have hE : Ed (wC l ++ X) := by
   cases l with
   | nil => exact hX
   | cons c' l' => simp only [wC, List.cons_append]; exact ed32 _
  simp only [wC, List.cons_append, List.append_assoc, List.length_cons, jD, sI]
  rw [rtI c h.1 d _ (by omega) hE]
  simp only
  rw [ktI l h.2 d X (by omega) hX]
end
theorem zJ3 : ∀ (w cur X : Nm), Wd w → wdL cur (w ++ X) = wdL (cur ++ w) X
 | [], cur, X, _ => by simp
 | b :: w, cur, X, h => by
  have hb := h b List.mem_cons_self
  simp only [List.cons_append, wdL]
  rw [if_neg (by rw [hb]; exact Bool.false_ne_true), zJ3 w _ X (fun x hx => h x (List.mem_cons_of_mem _ hx))]
  simp
theorem zVh {w X : Nm} (hX : Ed X) : wdL w X = one w ++ wdL [] X := by
 rcases hX with rfl | ⟨l, rfl | rfl⟩
 ·simp [wdL, one]
 ·have : dT 32 = true := by decide
  simp only [wdL, if_pos this]; simp [one]
 ·have : dT 41 = true := by decide
  simp only [wdL, if_pos this]; simp [one]
theorem zGq {w X : Nm} (hw : Wd w) (hX : Ed X) : wdL [] (w ++ X) = one w ++ wdL [] X := by
 rw [zJ3 w [] X hw, List.nil_append, zVh hX]
theorem zTp (X : Nm) : wdL [] (32 :: X) = wdL [] X := by
 have : dT 32 = true := by decide
 simp only [wdL, if_pos this]; simp [one]
theorem zTq (X : Nm) : wdL [] (40 :: X) = [40] :: wdL [] X := by
 have : dT 40 = true := by decide
 simp only [wdL, if_pos this]; simp [one]
theorem zTr (X : Nm) : wdL [] (41 :: X) = [41] :: wdL [] X := by
 have : dT 41 = true := by decide
 simp only [wdL, if_pos this]; simp [one]
theorem nD {w : Nm} (h : w ≠ []) : one w = [w] := by unfold one; rw [if_neg h]
theorem zOo {s X : Nm} (hs : Wd s) (hX : Ed X) : wdL [] (spd s ++ X) = one s ++ wdL [] X := by
 unfold spd one
 split
 ·rfl
 ·next h => rw [List.cons_append, zTp, zGq hs hX, nD h]
mutual
def tok : Co → List Nm
 | .mk op n s t ks => if op = 1 then [Lib.itoa n] else if op = 2 then [s] else if op = 13 then [[40], [41]] else [40] :: cwd op :: (one s ++ (one t ++ (oF ks ++ [[41]])))
def oF : List Co → List Nm
 | [] => []
 | c :: l => tok c ++ oF l
end
mutual
theorem zTt : ∀ (c : Co), Gd c → ∀ (X : Nm), Ed X → wdL [] (txt c ++ X) = tok c ++ wdL [] X
 | .mk op n s t ks, hg, X, hX => by
  obtain ⟨h1, h2, h3, h4, h5, h6, h7, h8⟩ := hg
  obtain ⟨hr1, hr2⟩ := nX h1
  simp only [txt, tok]
  by_cases e1 : op = 1
  ·rw [if_pos e1, if_pos e1, zGq (zTs h5) hX, nD (rV h5).ne]
  ·rw [if_neg e1, if_neg e1]
   by_cases e2 : op = 2
   ·have s0 : s ≠ [] := fun e => by subst e e2; exact absurd h2 (by decide)
    rw [if_pos e2, if_pos e2, zGq (zJ4 h6) hX, nD s0]
   ·rw [if_neg e2, if_neg e2]
    by_cases e13 : op = 13
    ·rw [if_pos e13, if_pos e13]
     show wdL [] (40 :: 41 :: X) = _
     rw [zTq, zTr]; rfl
    ·have hw := zGs (op := op) (by omega) hr2 e13
     have hE3 : Ed (wC ks ++ ([41] ++ X)) := zM2 ks X
     have hE2 := zFe t _ hE3
     have hE1 := zFe s _ hE2
     rw [if_neg e13, if_neg e13]
     simp only [List.cons_append, List.append_assoc]
     rw [zTq]
     have e1 := zGq hw.wd hE1
     have e2 := zOo (zJ4 h6) hE2
     have e3 := zOo (zJ4 h7) hE3
     have e4 := zOp ks h8 ([41] ++ X) (ed41 X)
     simp only [List.cons_append, List.nil_append] at e1 e2 e3 e4 ⊢
     rw [e1, e2, e3, e4, zTr, nD hw.ne]
     simp
theorem zOp : ∀ (l : List Co), Gds l → ∀ (X : Nm), Ed X → wdL [] (wC l ++ X) = oF l ++ wdL [] X
 | [], _, X, _ => rfl
 | c :: l, h, X, hX => by
  have hE : Ed (wC l ++ X) := by
   cases l with
   | nil => exact hX
   | cons c' l' => simp only [wC, List.cons_append]; exact ed32 _
  simp only [wC, oF, List.cons_append, List.append_assoc]
  rw [zTp, zTt c h.1 _ hE, zOp l h.2 X hX]
end
theorem zR9 {s : Nm} {p : Bool} {r : List Nm} (h : p = !(s == [])) : nmS p (one s ++ r, true) = (s, (r, true)) := by
 unfold nmS one
 by_cases e : s = []
 ·subst e; rw [h]; rfl
 ·have e' : (s == []) = false := by simpa using e
  rw [h, e', if_neg e]; rfl
mutual
theorem rtS : ∀ (c : Co), Gd c → ∀ (d : Nat) (r : List Nm), uO c ≤ d → xB d (tok c ++ r, true) = (c, (r, true))
 | .mk op n s t ks, hg, 0, r, hd => by
  simp only [uO] at hd; omega
 | .mk op n s t ks, hg, d + 1, r, hd => by
  obtain ⟨h1, h2, h3, h4, h5, h6, h7, h8⟩ := hg
  obtain ⟨hr1, hr2⟩ := nX h1
  have hkd : vE ks ≤ d := by simp only [uO] at hd; omega
  simp only [xB, tok]
  by_cases e1 : op = 1
  ·subst e1
   have k0 : ks = [] := List.eq_nil_of_length_eq_zero (by simp only [arC] at h1; simp at h1; omega)
   have s0 : s = [] := by simpa [gD] using h2
   have t0 : t = [] := by simpa using h3
   subst k0 s0 t0
   have hno := rV h5
   have h40 : Lib.itoa n ≠ [40] := fun e => by have := hno.fst; rw [e] at this; rcases this with h | h; exact absurd h (by decide); exact absurd h.1 (by decide)
   simp only [if_true, List.cons_append, List.nil_append, nxS]
   rw [if_neg (by decide), if_pos h40, if_pos hno.isn, hno.num]
  ·by_cases e2 : op = 2
   ·subst e2
    have k0 : ks = [] := List.eq_nil_of_length_eq_zero (by simp only [arC] at h1; simp at h1; omega)
    have n0 : n = 0 := by rcases h4 with h | h; exact absurd h e1; exact h
    have s0 : s ≠ [] := fun e => by subst e; exact absurd h2 (by decide)
    have t0 : t = [] := by simpa using h3
    subst k0 n0 t0
    have hs := zSb h6 s0
    have h40 : s ≠ [40] := fun e => by subst e; exact absurd hs (by decide)
    simp only [if_neg e1, if_true, List.cons_append, List.nil_append, nxS]
    rw [if_neg (by decide), if_pos h40, if_neg (by rw [zP9 hs]; exact Bool.false_ne_true)]
   ·have n0 : n = 0 := by rcases h4 with h | h; exact absurd h e1; exact h
    subst n0
    by_cases e13 : op = 13
    ·subst e13
     have k0 : ks = [] := List.eq_nil_of_length_eq_zero (by simp only [arC] at h1; simp at h1; omega)
     have s0 : s = [] := by simpa [gD] using h2
     have t0 : t = [] := by simpa using h3
     subst k0 s0 t0
     simp only [if_neg e1, if_neg e2, if_true, List.cons_append, List.nil_append, nxS]
     rw [if_neg (by decide), if_neg (by simp)]
     simp only [zDb, nxS, if_true]
    ·have hw := zGs (op := op) (by omega) hr2 e13
     simp only [if_neg e1, if_neg e2, if_neg e13, List.cons_append, List.append_assoc, nxS]
     rw [if_neg (by decide), if_neg (by simp)]
     have ho : ¬ opS (cwd op) = 0 := by rw [hw.os]; omega
     simp only [zDb]
     rw [if_neg (show ¬ (nxS (cwd op :: (one s ++ (one t ++ (oF ks ++ [41] :: ([] ++ r)))), true)).1 = [41] from hw.nb), if_neg (show ¬ opS (nxS (cwd op :: (one s ++ (one t ++ (oF ks ++ [41] :: ([] ++ r)))), true)).1 = 0 from ho)]
     simp only [nxS, hw.os]
     have ha : nmS (gD op) (one s ++ (one t ++ (oF ks ++ ([41] :: ([] ++ r)))), true) = (s, (one t ++ (oF ks ++ ([41] :: ([] ++ r))), true)) := zR9 h2
     have hb : nmS (op == 6) (one t ++ (oF ks ++ ([41] :: ([] ++ r))), true) = (t, (oF ks ++ ([41] :: ([] ++ r)), true)) := zR9 h3
     have hk : qN (xB d) (arC op).toNat (oF ks ++ ([41] :: ([] ++ r)), true) = (ks, ([41] :: r, true)) := by
      rw [h1, Int.toNat_natCast]
      exact ktS ks h8 d ([41] :: r) hkd
     simp only [ha, hb, hk, zRd, nxS, if_true]
theorem ktS : ∀ (l : List Co), Gds l → ∀ (d : Nat) (r : List Nm), vE l ≤ d → qN (xB d) l.length (oF l ++ r, true) = (l, (r, true))
 | [], _, d, r, _ => rfl
 | c :: l, h, d, r, hd => by
  simp only [vE] at hd
  simp only [oF, List.append_assoc, List.length_cons, qN]
  rw [if_neg (by decide), rtS c h.1 d _ (by omega)]
  simp only
  rw [ktS l h.2 d r (by omega)]
end
theorem zNw {c : Co} (h : dM c = true) (ha : jR c = true) : Gd c ∧ uO c ≤ 150 := by
 simp only [dM, Bool.and_eq_true, decide_eq_true_eq] at h
 exact ⟨zVs [] c h.2 ha, h.1.2⟩
theorem all_I {c : Co} (h : dM c = true) (ha : jR c = true) : xE 150 (txt c, false) = (c, ([], false)) := by
 obtain ⟨h1, h2⟩ := zNw h ha
 have := rtI c h1 150 [] h2 (.inl rfl)
 rwa [List.append_nil] at this
theorem all_S {c : Co} (h : dM c = true) (ha : jR c = true) : xB 151 (wdL [] (txt c), true) = (c, ([], true)) := by
 obtain ⟨h1, h2⟩ := zNw h ha
 have := zTt c h1 [] (.inl rfl)
 rw [List.append_nil] at this
 rw [this]
 exact rtS c h1 151 _ (by omega)
theorem zXd (s : Nm) : zI3 s = resI s := by
 unfold zI3 resI
 split
 ·rfl
 ·simp only
  by_cases hS : (xB 151 (wdL [] s, true)).2.2 = true ∧ (xB 151 (wdL [] s, true)).2.1 = [] ∧ dM (xB 151 (wdL [] s, true)).1 = true ∧ jR (xB 151 (wdL [] s, true)).1 = true ∧ txt (xB 151 (wdL [] s, true)).1 = s
  ·rw [if_pos hS]
   obtain ⟨-, -, k3, k4, k5⟩ := hS
   have e := all_I k3 k4
   rw [k5] at e
   rw [e, if_pos ⟨rfl, rfl, k3, k4, k5⟩]
  ·rw [if_neg hS]
   by_cases hI : (xE 150 (s, false)).2.2 = false ∧ (xE 150 (s, false)).2.1 = [] ∧ dM (xE 150 (s, false)).1 = true ∧ jR (xE 150 (s, false)).1 = true ∧ txt (xE 150 (s, false)).1 = s
   ·obtain ⟨-, -, k3, k4, k5⟩ := hI
    have e := all_S k3 k4
    rw [k5] at e
    exact absurd (by rw [e]; exact ⟨rfl, rfl, k3, k4, k5⟩) hS
   ·rw [if_neg hI]
end Go.Proofs.YtlkjnlfddadlmaaGreatDoor.V
