/-
  How large, how deep a core is; its op's kids. No conditions.
-/
import Derived.Test.YtlkjnlfddadlmaaMPClosea
import Derived.Test.YtlkjnlfddadlmaaMPClosed
set_option linter.unusedVariables false
set_option linter.unusedSimpArgs false
namespace Go.Proofs.Ytlkjnlfddadlmaa.V
set_option maxRecDepth 100000
theorem zY0 (op : Int) : RT 112 [xi op] [] = some (xi (arC op), []) := by
 refine xL (fn := Try.f112) rfl rfl rfl rfl ?_
 repeat' (first | refine ⟨fun h => ?_, fun h => ?_⟩ | done)
 all_goals (refine ⟨?_, rfl⟩; simp [arC, *]; rfl)
theorem zYy (op : Int) : RT 117 [xi op] [] = some (xi (arC op), []) := by
 refine xL (fn := Try.f117) rfl rfl rfl rfl ?_
 repeat' (first | refine ⟨fun h => ?_, fun h => ?_⟩ | done)
 all_goals (refine ⟨?_, rfl⟩; simp [arC, *]; rfl)
theorem zWz (op : Int) : RT 113 [xi op] [] = some (xb (aV op), []) := by
 refine xL (fn := Try.f113) rfl rfl rfl rfl ?_
 repeat' (first | refine ⟨fun h => ?_, fun h => ?_⟩ | done)
 all_goals (refine ⟨?_, rfl⟩; simp [aV, *]; rfl)
theorem zEf (n : Int) : RT 104 [xi n] [] = some (xb (bB n), []) := by
 refine xL (fn := Try.f104) rfl rfl rfl rfl ?_
 exact ⟨_, xZ (sO _ _ _), rfl, rfl⟩
theorem zEe (n : Int) : RT 108 [xi n] [] = some (xb (bB n), []) := by
 refine xL (fn := Try.f108) rfl rfl rfl rfl ?_
 exact ⟨_, xZ (aK _ _ _), rfl, rfl⟩
def Ssz (c : Co) : Prop := ∀ us, szC c ≤ 1048576 → Rd c us → RT 60 [xc us] [] = some (xi (ndC c), [])
theorem lsz_s {ks : List Co} {cs : List TU} {g : Nat} {op n : Int} {s t : List UInt8} {K : Ex → StA → Prop} (H : ∀ c ∈ ks, Ssz c) (hz : x0 ks ≤ 1048576) (hr : Rds ks cs) :
  ∀ (l : List Co) (i : Nat), ks.drop i = l → i ≤ ks.length → ∀ v : Nat, v + y7 l ≤ 4194304 →
  (∀ jk j, K (.exit 0) ⟨[(4, xi j), (3, xi ((v + y7 l : Nat) : Int)), (1, .box () ((xJ op n s t (g + 1) ks.length cs).map .t))], jk, []⟩) →
  ∀ jk, sem cx0 60 RT (.loop (lp Try.f60 0)) ⟨[(4, xi i), (3, xi v), (1, .box () ((xJ op n s t (g + 1) ks.length cs).map .t))], jk, []⟩ K := by
 have hk := uM hz
 refine xE ?_ ?_
 ·intro v hv k1 jk
  refine zK cx0 _ RT [4, 3, 1] ⟨fun h => (jZ h (by omega)).elim, fun h => ?_⟩
  exact fun jk => k1 jk _
 ·intro i c l hi hil ih v hv k1 jk
  refine zK cx0 _ RT [4, 3, 1] ⟨fun h => ?_, fun h => (qL h (by omega)).elim⟩
  refine ⟨⟨by omega, by omega⟩, ?_⟩
  have hm := List.mem_of_getElem? hi
  have hc := H c hm
  have hzc := w7 hz hm
  simp only [y7] at hv
  cases c with
  | mk op' n' s' t' kk =>
  obtain ⟨g', cs', e1, e2⟩ := qV hr hi
  refine ⟨op', n', s', t', g' + 1, kk.length, cs', ⟨e1, rfl⟩, ?_⟩
  refine ⟨_, gF (hc (xJ op' n' s' t' (g' + 2) kk.length (zI cs')) hzc ⟨_, _, rfl, e2.retag⟩), ?_⟩
  intro jk
  rw [q8 hil (by simp only [maxLen]; omega), wrap64 (by omega) (by omega)]
  rw [show (v : Int) + ((ndC (.mk op' n' s' t' kk) : Nat) : Int) = ((v + ndC (.mk op' n' s' t' kk) : Nat) : Int) by omega]
  refine ih _ (by omega) (fun jk j => ?_) jk
  have := k1 jk j
  rwa [show v + y7 (.mk op' n' s' t' kk :: l) = v + ndC (.mk op' n' s' t' kk) + y7 l by simp only [y7]; omega] at this
theorem zZm : ∀ c : Co, Ssz c := by
 refine Co.ind fun op n s t ks ih => ?_
 intro us hz hr
 obtain ⟨g1, cs, rfl, hr⟩ := hr
 have hz' : x0 ks ≤ 1048576 := by simp only [szC] at hz; omega
 have := zHq ks
 refine xL (fn := Try.f60) rfl rfl rfl rfl ?_
 refine yE cx0 _ RT [4, 3, 1] fun jk => ?_
 refine lsz_s (g := g1) (op := op) (n := n) (s := s) (t := t) ih hz' hr ks 0 rfl (by omega) 1 (by omega) (fun jk j => ?_) jk
 exact ⟨rfl, rfl⟩
def Sdp (c : Co) : Prop := ∀ us, szC c ≤ 1048576 → Rd c us → RT 81 [xc us] [] = some (xi (nH c), [])
theorem ldp_s {ks : List Co} {cs : List TU} {g : Nat} {op n : Int} {s t : List UInt8} {K : Ex → StA → Prop} (H : ∀ c ∈ ks, Sdp c) (hz : x0 ks ≤ 1048576) (hr : Rds ks cs) :
  ∀ (l : List Co) (i : Nat), ks.drop i = l → i ≤ ks.length → ∀ v : Nat,
  (∀ jk j, K (.exit 0) ⟨[(4, xi j), (3, xi ((max v (dU l) : Nat) : Int)), (1, .box () ((xJ op n s t (g + 1) ks.length cs).map .t))], jk, []⟩) →
  ∀ jk, sem cx0 81 RT (.loop (lp Try.f81 0)) ⟨[(4, xi i), (3, xi v), (1, .box () ((xJ op n s t (g + 1) ks.length cs).map .t))], jk, []⟩ K := by
 have hk := uM hz
 refine xE ?_ ?_
 ·intro v k1 jk
  refine zK cx0 _ RT [4, 3, 1] ⟨fun h => (jZ h (by omega)).elim, fun h => ?_⟩
  have := fun jk => k1 jk ks.length
  simp only [dU, Nat.max_zero] at this
  exact this
 ·intro i c l hi hil ih v k1 jk
  refine zK cx0 _ RT [4, 3, 1] ⟨fun h => ?_, fun h => (qL h (by omega)).elim⟩
  refine ⟨⟨by omega, by omega⟩, ?_⟩
  have hm := List.mem_of_getElem? hi
  have hc := H c hm
  have hzc := w7 hz hm
  cases c with
  | mk op' n' s' t' kk =>
  obtain ⟨g', cs', e1, e2⟩ := qV hr hi
  refine ⟨op', n', s', t', g' + 1, kk.length, cs', ⟨e1, rfl⟩, ?_⟩
  refine ⟨_, gF (hc (xJ op' n' s' t' (g' + 2) kk.length (zI cs')) hzc ⟨_, _, rfl, e2.retag⟩), ?_⟩
  refine ⟨_, gF (max59 _ _), ?_⟩
  intro jk
  rw [q8 hil (by simp only [maxLen]; omega)]
  rw [show max (v : Int) ((nH (.mk op' n' s' t' kk) : Nat) : Int) = ((max v (nH (.mk op' n' s' t' kk)) : Nat) : Int) by omega]
  refine ih _ (fun jk j => ?_) jk
  have := k1 jk j
  rwa [show max v (dU (.mk op' n' s' t' kk :: l)) = max (max v (nH (.mk op' n' s' t' kk))) (dU l) by simp only [dU]; omega] at this
theorem zYg : ∀ c : Co, Sdp c := by
 refine Co.ind fun op n s t ks ih => ?_
 intro us hz hr
 obtain ⟨g1, cs, rfl, hr⟩ := hr
 have hz' : x0 ks ≤ 1048576 := by simp only [szC] at hz; omega
 have := zBr ks
 refine xL (fn := Try.f81) rfl rfl rfl rfl ?_
 refine yE cx0 _ RT [4, 3, 1] fun jk => ?_
 refine ldp_s (g := g1) (op := op) (n := n) (s := s) (t := t) ih hz' hr ks 0 rfl (by omega) 0 (fun jk j => ?_) jk
 refine ⟨?_, rfl⟩
 rw [wrap64 (by omega) (by omega)]
 simp only [nH, Nat.zero_max]
 rfl
end Go.Proofs.Ytlkjnlfddadlmaa.V
namespace Go.Proofs.Ytlkjnlfddadlmaa.V
set_option maxRecDepth 100000
def Srt (c : Co) : Prop := ∀ us env g cs, szC c ≤ 1048576 → env.length + 2 * szC c ≤ 4194304 → cs = nm env → Rd c us → RT 82 [xc us, xl (g + 1) 1 env.length cs] [] = some (xb (jH env c), [])
theorem lrt {ks : List Co} {cs : List TU} {g g2 : Nat} {op n : Int} {s t : List UInt8} {env : List Nm} {K : Ex → StA → Prop} (H : ∀ c ∈ ks, Srt c) (hz : x0 ks ≤ 1048576) (he : env.length + 2 * x0 ks ≤ 4194304) (hr : Rds ks cs) :
  ∀ (l : List Co) (i : Nat), ks.drop i = l → i ≤ ks.length →
  (∀ jk j, wP op s t env i l = true → K (.exit 0) ⟨[(5, xi j), (1, xl (g2 + 1) 1 env.length (nm env)), (2, .box () ((xJ op n s t (g + 1) ks.length cs).map .t)), (4, xb false)], jk, []⟩) →
  (∀ jk j, wP op s t env i l = false → K .ret ⟨[(5, xi j), (1, xl (g2 + 1) 1 env.length (nm env)), (2, .box () ((xJ op n s t (g + 1) ks.length cs).map .t)), (4, xb false)], jk, []⟩) →
  ∀ jk, sem cx0 82 RT (.loop (lp Try.f82 0)) ⟨[(5, xi i), (1, xl (g2 + 1) 1 env.length (nm env)), (2, .box () ((xJ op n s t (g + 1) ks.length cs).map .t)), (4, xb false)], jk, []⟩ K := by
 have hk := uM hz
 refine xE ?_ ?_
 ·intro k1 k2 jk
  refine zK cx0 _ RT [5, 1, 2, 4] ⟨fun h => (jZ h (by omega)).elim, fun h => ?_⟩
  exact fun jk => k1 jk _ rfl
 ·intro i c l hi hil ih k1 k2 jk
  have hm := List.mem_of_getElem? hi
  have hc := H c hm
  have hzc := w7 hz hm
  have hel := zHb (op := op) (s := s) (t := t) (i := i)
  have hz1 := dB hm
  cases c with
  | mk op' n' s' t' kk =>
  obtain ⟨g', cs', e1, e2⟩ := qV hr hi
  refine zK cx0 _ RT [5, 1, 2, 4] ⟨fun h => ?_, fun h => (qL h (by omega)).elim⟩
  refine ⟨⟨by omega, by omega⟩, ?_⟩
  refine ⟨op', n', s', t', g' + 1, kk.length, cs', ⟨e1, rfl⟩, ?_⟩
  obtain ⟨g3, r1⟩ := zZe (env84 (show Rd (.mk op n s t ks) (xJ op n s t (g + 2) ks.length (zI cs)) from ⟨_, _, rfl, hr.retag⟩) (qG env) (by omega) (i := i) (g := g2))
  refine ⟨_, r1, ?_⟩
  have hc2 := hc (xJ op' n' s' t' (g' + 2) kk.length (zI cs')) (env ++ qY op s t i) g3 _ hzc (by rw [List.length_append]; omega) (qG _) ⟨_, _, rfl, e2.retag⟩
  refine ⟨_, xZ hc2, ?_⟩
  refine ⟨fun h2 => ?_, fun h2 => ?_⟩
  ·exact fun jk => k2 jk _ (by simp only [wP, Bool.and_eq_false_iff]; left; simpa using h2)
  ·intro jk
   rw [q8 hil (by simp only [maxLen]; omega)]
   have h2 : jH (env ++ qY op s t i) (.mk op' n' s' t' kk) = true := by simpa using h2
   exact ih (fun jk j h3 => k1 jk j (by simp only [wP, h2, h3, Bool.and_self])) (fun jk j h3 => k2 jk j (by simp only [wP, h3, Bool.and_false])) jk
theorem fB {a b : Bool} (h : a = b) : xb a = xb b := by rw [h]
theorem lR {env : List Nm} {op n : Int} {s t : Nm} {ks : List Co} (h : kS env op n s t ks.length = false) : jH env (.mk op n s t ks) = false := by simp only [jH, h, Bool.false_and]
theorem zXc : ∀ c : Co, Srt c := by
 refine Co.ind fun op n s t ks ih => ?_
 intro us env g cs hz he hcs hr
 subst hcs
 obtain ⟨g1, cs, rfl, hr⟩ := hr
 have hz' : x0 ks ≤ 1048576 := by simp only [szC] at hz; omega
 have he' : env.length + 2 * x0 ks ≤ 4194304 := by simp only [szC] at he; omega
 have fin : kS env op n s t ks.length = true → ∀ jk K, (∀ jk j, jH env (.mk op n s t ks) = true → K (.exit 0) ⟨[(5, xi j), (1, xl (g + 1) 1 env.length (nm env)), (2, .box () ((xJ op n s t (g1 + 1) ks.length cs).map .t)), (4, xb false)], jk, []⟩) →
   (∀ jk j, jH env (.mk op n s t ks) = false → K .ret ⟨[(5, xi j), (1, xl (g + 1) 1 env.length (nm env)), (2, .box () ((xJ op n s t (g1 + 1) ks.length cs).map .t)), (4, xb false)], jk, []⟩) →
   sem cx0 82 RT (.loop (lp Try.f82 0)) ⟨[(5, xi (0 : Nat)), (1, xl (g + 1) 1 env.length (nm env)), (2, .box () ((xJ op n s t (g1 + 1) ks.length cs).map .t)), (4, xb false)], jk, []⟩ K := by
  intro hd jk K k1 k2
  refine lrt (g := g1) (op := op) (n := n) (s := s) (t := t) ih hz' he' hr ks 0 rfl (by omega) (fun jk j h => k1 jk j ?_) (fun jk j h => k2 jk j ?_) jk
  ·simp only [jH, hd, h, Bool.and_self]
  ·simp only [jH, h, Bool.and_false]
 refine xL (fn := Try.f82) rfl rfl rfl rfl ?_
 refine ⟨_, gF (zY0 op), ?_⟩
 refine ⟨fun h1 => ?_, fun h1 => ?_⟩
 ·exact ⟨fB (lR (by simp_all [kS])), rfl⟩
 refine ⟨_, xZ (zWz op), ?_⟩
 refine ⟨fun h2 => ?_, fun h2 => ?_⟩
 ·exact ⟨fB (lR (by simp_all [kS])), rfl⟩
 refine ⟨fun h3 => ?_, fun h3 => ?_⟩
 ·exact ⟨fB (lR (by simp_all [kS])), rfl⟩
 refine ⟨fun h4 => ⟨fun h5 => ?_, fun h5 => ?_⟩, fun h4 => ?_⟩
 ·exact ⟨fB (lR (by simp_all [kS])), rfl⟩
 all_goals
  refine ⟨_, xZ (zEf n), ?_⟩
  refine ⟨fun h6 => ?_, fun h6 => ?_⟩
  ·exact ⟨fB (lR (by simp_all [kS])), rfl⟩
  refine ⟨fun h7 => ?_, fun h7 => ?_⟩
  ·refine ⟨_, xZ (in83 (g := g + 1) (qG env) (by simp only [maxLen]; omega)), ?_⟩
   refine ⟨fun h8 => ?_, fun h8 => ?_⟩
   ·exact ⟨fB (lR (by simp_all [kS])), rfl⟩
   refine yE cx0 _ RT [5, 1, 2, 4] fun jk => ?_
   refine fin (by simp_all [kS]) jk _ (fun jk j h => ?_) (fun jk j h => ?_)
   ·exact ⟨fB h, rfl⟩
   ·exact ⟨fB h, rfl⟩
  ·refine yE cx0 _ RT [5, 1, 2, 4] fun jk => ?_
   refine fin (by simp_all [kS]) jk _ (fun jk j h => ?_) (fun jk j h => ?_)
   ·exact ⟨fB h, rfl⟩
   ·exact ⟨fB h, rfl⟩
theorem ok_s {c : Co} {us : List TU} (hz : szC c ≤ 1048576) (hr : Rd c us) : RT 49 [xc us] [] = some (xb (lK c), []) := by
 cases c with
 | mk op n s t ks =>
 obtain ⟨g, cs, rfl, hr⟩ := hr
 have rd : Rd (.mk op n s t ks) (xJ op n s t (g + 2) ks.length (zI cs)) := ⟨_, _, rfl, hr.retag⟩
 refine xL (fn := Try.f49) rfl rfl rfl rfl ?_
 refine ⟨_, gF (zZm _ _ hz rd), ?_⟩
 refine ⟨fun h1 => ?_, fun h1 => ?_⟩
 ·refine ⟨_, gF (zYg _ _ hz rd), ?_⟩
  refine ⟨fun h2 => ?_, fun h2 => ?_⟩
  ·refine ⟨_, xZ (zXc _ _ [] 0 [] hz (by simp; omega) rfl rd), ?_⟩
   exact ⟨fB (by simp_all [lK]; omega), rfl⟩
  ·exact ⟨fB (by simp_all [lK]; omega), rfl⟩
 ·exact ⟨fB (by simp_all [lK]; omega), rfl⟩
end Go.Proofs.Ytlkjnlfddadlmaa.V
namespace Go.Proofs.Ytlkjnlfddadlmaa.V
set_option maxRecDepth 100000
def Spr (c : Co) : Prop := ∀ us env g cs (deep : Nat), szC c ≤ 1048576 → env.length + 2 * szC c ≤ 4194304 → deep + szC c ≤ 2097152 → cs = nm env → Rd c us → RT 85 [xc us, xl (g + 1) 1 env.length cs, xi deep] [] = some (xi (prC deep env c), [])
theorem lpr {ks : List Co} {cs : List TU} {g g2 deep : Nat} {op n : Int} {s t : List UInt8} {env : List Nm} {K : Ex → StA → Prop} (H : ∀ c ∈ ks, Spr c) (hz : x0 ks ≤ 1048576) (he : env.length + 2 * x0 ks ≤ 4194304) (hd : deep + x0 ks ≤ 2097152) (hr : Rds ks cs) :
  ∀ (l : List Co) (i : Nat), ks.drop i = l → i ≤ ks.length → ∀ v : Nat, v ≤ 3000 →
  (∀ jk j, prL op s t env deep i v l ≤ 3000 → K (.exit 0) ⟨[(85, xi j), (8, xi (prL op s t env deep i v l)), (84, xi ks.length), (83, xl (g + 1) 5 ks.length cs), (1, xl (g2 + 1) 1 env.length (nm env)), (2, xi deep), (3, .box () ((xJ op n s t (g + 1) ks.length cs).map .t)), (6, xi 0)], jk, []⟩) →
  (∀ jk j w, prL op s t env deep i v l = 3001 → K .ret ⟨[(85, xi j), (8, xi w), (84, xi ks.length), (83, xl (g + 1) 5 ks.length cs), (1, xl (g2 + 1) 1 env.length (nm env)), (2, xi deep), (3, .box () ((xJ op n s t (g + 1) ks.length cs).map .t)), (6, xi 3001)], jk, []⟩) →
  ∀ jk, sem cx0 85 RT (.loop (lp Try.f85 0)) ⟨[(85, xi i), (8, xi v), (84, xi ks.length), (83, xl (g + 1) 5 ks.length cs), (1, xl (g2 + 1) 1 env.length (nm env)), (2, xi deep), (3, .box () ((xJ op n s t (g + 1) ks.length cs).map .t)), (6, xi 0)], jk, []⟩ K := by
 have hk := uM hz
 refine xE ?_ ?_
 ·intro v hv k1 k2 jk
  refine zK cx0 _ RT [85, 8, 84, 83, 1, 2, 3, 6] ⟨fun h => (jZ h (by omega)).elim, fun h => ?_⟩
  exact fun jk => k1 jk _ hv
 ·intro i c l hi hil ih v hv k1 k2 jk
  have hm := List.mem_of_getElem? hi
  have hc := H c hm
  have hzc := w7 hz hm
  have hel := zHb (op := op) (s := s) (t := t) (i := i)
  have hz1 := dB hm
  cases c with
  | mk op' n' s' t' kk =>
  obtain ⟨g', cs', e1, e2⟩ := qV hr hi
  refine zK cx0 _ RT [85, 8, 84, 83, 1, 2, 3, 6] ⟨fun h => ?_, fun h => (qL h (by omega)).elim⟩
  refine ⟨⟨by omega, by omega⟩, ?_⟩
  refine ⟨op', n', s', t', g' + 1, kk.length, cs', ⟨e1, rfl⟩, ?_⟩
  refine ⟨_, zDo (zOm (show Rd (.mk op n s t ks) (xJ op n s t (g + 2) ks.length (zI cs)) from ⟨_, _, rfl, hr.retag⟩)), ?_⟩
  refine ⟨_, zDo (zXm (g := g2 + 1) (h := 0) (qG env) (qG (qY op s t i)) (by omega) (by omega)), ?_⟩
  have hc2 := hc (xJ op' n' s' t' (g' + 2) kk.length (zI cs')) (env ++ qY op s t i) 0 _ (deep + 1) hzc (by rw [List.length_append]; omega) (by omega) (qG _) ⟨_, _, rfl, e2.retag⟩
  have hw : IntKind.wrap .i64 ((deep : Int) + 1) = ((deep + 1 : Nat) : Int) := by rw [wrap64 (by omega) (by omega)]; omega
  have hple := zY9 (deep + 1) (env ++ qY op s t i) (.mk op' n' s' t' kk)
  refine ⟨_, gF (by rw [hw]; exact hc2), ?_⟩
  have hL : prL op s t env deep i v (.mk op' n' s' t' kk :: l) = if v + prC (deep + 1) (env ++ qY op s t i) (.mk op' n' s' t' kk) ≥ 3001 then 3001 else prL op s t env deep (i + 1) (v + prC (deep + 1) (env ++ qY op s t i) (.mk op' n' s' t' kk)) l := rfl
  generalize prC (deep + 1) (env ++ qY op s t i) (.mk op' n' s' t' kk) = p at hple hL
  have hwp : IntKind.wrap .i64 ((v : Int) + p) = ((v + p : Nat) : Int) := by rw [wrap64 (by omega) (by omega)]; omega
  refine ⟨fun h2 => ?_, fun h2 => ?_⟩
  ·rw [hwp] at h2
   have h2 : v + p ≥ 3001 := by simp at h2; omega
   rw [if_pos h2] at hL
   exact fun jk => k2 jk _ _ hL
  ·rw [hwp] at h2
   have h2 : ¬ v + p ≥ 3001 := by simp at h2; omega
   rw [if_neg h2] at hL
   intro jk
   rw [q8 hil (by simp only [maxLen]; omega), hwp]
   rw [hL] at k1 k2
   exact ih (v + p) (by omega) k1 k2 jk
theorem zX8 {a b : Int} (h : a = b) : xi a = xi b := by rw [h]
theorem zZa {deep : Nat} {env : List Nm} {op n : Int} {s t : Nm} {ks : List Co} (h : ¬ (deep ≤ 150 ∧ kS env op n s t ks.length = true)) : (3001 : Int) = ((prC deep env (.mk op n s t ks) : Nat) : Int) := by simp only [prC, if_neg h]; rfl
theorem nam2 {op : Int} (h : (op == 2) = true) : aV op = true := by unfold aV; rw [h]; rfl
theorem nam3 {op : Int} (h : (op == 3) = true) : aV op = true := by unfold aV; rw [h]; simp
theorem nam5 {op : Int} (h : (op == 5) = true) : aV op = true := by unfold aV; rw [h]; simp
theorem nam0 {op : Int} (h2 : (op == 2) = false) (h3 : (op == 3) = false) (h5 : (op == 5) = false) : aV op = (op == 6) := by unfold aV; rw [h2, h3, h5]; rfl
theorem hd_a {env : List Nm} {op n : Int} {s t : Nm} {k : Nat} (h : ((k : Int) != arC op) = true) : kS env op n s t k = false := by
 have : (arC op == (k : Int)) = false := by simp at h ⊢; omega
 unfold kS; rw [this]; rfl
theorem hd_w {env : List Nm} {op n : Int} {s t : Nm} {k : Nat} (h : (!bB n) = true) : kS env op n s t k = false := by
 have : bB n = false := by simpa using h
 unfold kS; rw [this]; simp
theorem hd_n {env : List Nm} {op n : Int} {s t : Nm} {k : Nat} (h1 : (op != 1) = true) (h2 : (n != 0) = true) : kS env op n s t k = false := by
 have e1 : (op == 1) = false := by simpa using h1
 have e2 : (n == 0) = false := by simpa using h2
 unfold kS; rw [e1, e2]; simp
theorem hd_s {env : List Nm} {op n : Int} {s t : Nm} {k : Nat} {x : Bool} (hx : aV op = x) (h : (!(x == !(s == []))) = true) : kS env op n s t k = false := by
 have : (x == !(s == [])) = false := by simpa using h
 unfold kS; rw [hx, this]; simp
theorem hd_t {env : List Nm} {op n : Int} {s t : Nm} {k : Nat} (h : (!((op == 6) == !(t == []))) = true) : kS env op n s t k = false := by
 have : ((op == 6) == !(t == [])) = false := by simpa using h
 unfold kS; rw [this]; simp
theorem hd_e {env : List Nm} {op n : Int} {s t : Nm} {k : Nat} (h1 : (op == 2) = true) (h : (!env.contains s) = true) : kS env op n s t k = false := by
 have : env.contains s = false := by simpa using h
 unfold kS; rw [h1, this]; simp
theorem zYr {env : List Nm} {op n : Int} {s t : Nm} {k : Nat} {x : Bool} (ha : ((k : Int) != arC op) = false) (hx : aV op = x) (hs : (!(x == !(s == []))) = false) (ht : (!((op == 6) == !(t == []))) = false) (hn : (op != 1) = false ∨ (n != 0) = false)
  (hw : (!bB n) = false) (he : (op == 2) = false ∨ (!env.contains s) = false) : kS env op n s t k = true := by
 have e1 : (arC op == (k : Int)) = true := by simp at ha ⊢; omega
 have e2 : (x == !(s == [])) = true := by simpa using hs
 have e3 : ((op == 6) == !(t == [])) = true := by simpa using ht
 have e4 : bB n = true := by simpa using hw
 have e5 : (op == 1 || n == 0) = true := by
  rcases hn with h | h
  ·have : (op == 1) = true := by simpa using h
   rw [this]; rfl
  ·have : (n == 0) = true := by simpa using h
   rw [this]; simp
 have e6 : (!(op == 2) || env.contains s) = true := by
  rcases he with h | h
  ·rw [h]; rfl
  ·have : env.contains s = true := by simpa using h
   rw [this]; simp
 unfold kS
 rw [e1, hx, e2, e3, e4, e5, e6]; rfl
set_option maxHeartbeats 8000000 in
theorem parts : ∀ c : Co, Spr c := by
 refine Co.ind fun op n s t ks ih => ?_
 intro us env g cs deep hz he hd hcs hr
 subst hcs
 obtain ⟨g1, cs, rfl, hr⟩ := hr
 have hz' : x0 ks ≤ 1048576 := by simp only [szC] at hz; omega
 have he' : env.length + 2 * x0 ks ≤ 4194304 := by simp only [szC] at he; omega
 have hd' : deep + x0 ks ≤ 2097152 := by simp only [szC] at hd; omega
 have fin : deep ≤ 150 → kS env op n s t ks.length = true → ∀ jk K, (∀ jk j, K (.exit 0) ⟨[(85, xi j), (8, xi (prC deep env (.mk op n s t ks))), (84, xi ks.length), (83, xl (g1 + 1) 5 ks.length cs), (1, xl (g + 1) 1 env.length (nm env)), (2, xi deep), (3, .box () ((xJ op n s t (g1 + 1) ks.length cs).map .t)), (6, xi 0)], jk, []⟩) →
   (∀ jk j w, prC deep env (.mk op n s t ks) = 3001 → K .ret ⟨[(85, xi j), (8, xi w), (84, xi ks.length), (83, xl (g1 + 1) 5 ks.length cs), (1, xl (g + 1) 1 env.length (nm env)), (2, xi deep), (3, .box () ((xJ op n s t (g1 + 1) ks.length cs).map .t)), (6, xi 3001)], jk, []⟩) →
   sem cx0 85 RT (.loop (lp Try.f85 0)) ⟨[(85, xi (0 : Nat)), (8, xi (1 : Nat)), (84, xi ks.length), (83, xl (g1 + 1) 5 ks.length cs), (1, xl (g + 1) 1 env.length (nm env)), (2, xi deep), (3, .box () ((xJ op n s t (g1 + 1) ks.length cs).map .t)), (6, xi 0)], jk, []⟩ K := by
  intro h1 h2 jk K k1 k2
  have e : prC deep env (.mk op n s t ks) = prL op s t env deep 0 1 ks := by simp only [prC]; exact if_pos ⟨h1, h2⟩
  rw [e] at k1 k2
  exact lpr (g := g1) (op := op) (n := n) (s := s) (t := t) ih hz' he' hd' hr ks 0 rfl (by omega) 1 (by omega) (fun jk j _ => k1 jk j) k2 jk
 clear ih
 have no : ¬ (deep ≤ 150 ∧ kS env op n s t ks.length = true) → xi ((prC deep env (.mk op n s t ks) : Nat) : Int) = xi 3001 := fun h => (zX8 (zZa h)).symm
 refine xL (fn := Try.f85) rfl rfl rfl rfl ?_
 have nd : kS env op n s t ks.length = false → ¬ (deep ≤ 150 ∧ kS env op n s t ks.length = true) := fun h h' => by rw [h] at h'; exact Bool.noConfusion h'.2
 refine ⟨fun h0 => ?_, fun h0 => ?_⟩
 ·exact ⟨no (by rintro ⟨h, _⟩; simp at h0; omega), rfl⟩
 have hdp : deep ≤ 150 := by simp at h0; omega
 refine ⟨_, gF (zYy op), ?_⟩
 refine ⟨fun h1 => ⟨no (nd (hd_a h1)), rfl⟩, fun h1 => ?_⟩
 refine ⟨_, xZ (zEe n), ?_⟩
 refine ⟨fun h2 => ⟨no (nd (hd_w h2)), rfl⟩, fun h2 => ?_⟩
 refine ⟨fun h3 => ⟨fun h4 => ⟨no (nd (hd_n h3 h4)), rfl⟩, fun h4 => ?_⟩, fun h3 => ?_⟩
 all_goals have hn : (op != 1) = false ∨ (n != 0) = false := by first | exact .inr h4 | exact .inl h3
 all_goals refine ⟨fun h5 => ?_, fun h5 => ⟨fun h6 => ?_, fun h6 => ⟨fun h7 => ?_, fun h7 => ?_⟩⟩⟩
 all_goals first | have hx := nam2 h5 | have hx := nam3 h6 | have hx := nam5 h7 | have hx := nam0 h5 h6 h7
 all_goals refine ⟨fun h8 => ⟨no (nd (hd_s hx h8)), rfl⟩, fun h8 => ?_⟩
 all_goals refine ⟨fun h9 => ⟨no (nd (hd_t h9)), rfl⟩, fun h9 => ?_⟩
 all_goals refine ⟨fun h10 => ?_, fun h10 => ?_⟩
 all_goals try refine ⟨_, xZ (zSu (g := g + 1) (qG env) (by simp only [maxLen]; omega)), ?_⟩
 all_goals try refine ⟨fun h11 => ⟨no (nd (hd_e h10 h11)), rfl⟩, fun h11 => ?_⟩
 all_goals have he : (op == 2) = false ∨ (!env.contains s) = false := by first | exact .inl h10 | exact .inr h11
 all_goals
  refine yE cx0 _ RT [85, 8, 84, 83, 1, 2, 3, 6] fun jk => ?_
  refine fin hdp (zYr h1 hx h8 h9 hn h2 he) jk _ (fun jk j => ?_) (fun jk j w h => ?_)
  ·exact ⟨rfl, rfl⟩
  ·exact ⟨zX8 (by rw [h]; rfl), rfl⟩
theorem ok_i {c : Co} {us : List TU} (hz : szC c ≤ 1048576) (hr : Rd c us) : RT 53 [xc us] [] = some (xb (lK c), []) := by
 cases c with
 | mk op n s t ks =>
 obtain ⟨g, cs, rfl, hr⟩ := hr
 have rd : Rd (.mk op n s t ks) (xJ op n s t (g + 2) ks.length (zI cs)) := ⟨_, _, rfl, hr.retag⟩
 refine xL (fn := Try.f53) rfl rfl rfl rfl ?_
 refine ⟨_, gF (parts _ _ [] 0 [] 1 hz (by simp; omega) (by omega) rfl rd), ?_⟩
 refine ⟨fB ?_, rfl⟩
 rw [← zZb]
 exact decide_eq_decide.2 (by omega)
end Go.Proofs.Ytlkjnlfddadlmaa.V
namespace Go.Proofs.Ytlkjnlfddadlmaa.V
set_option maxRecDepth 100000
def dX (op : Int) : Int :=
 if op == 1 || op == 2 || op == 3 || op == 4 || op == 19 then 0 else if op == 15 || op == 16 then 1 else if op == 6 || op == 7 || op == 9 || op == 10 || op == 11 || op == 12 || op == 13 then 2
 else if op == 8 || op == 17 || op == 18 then 3 else if op == 5 || op == 14 then -2 else -1
theorem ar_in {op : Int} (h0 : 1 ≤ op) (h1 : op ≤ 19) : dX op = if lA op = -1 then -2 else lA op := by
 have : op = 1 ∨ op = 2 ∨ op = 3 ∨ op = 4 ∨ op = 5 ∨ op = 6 ∨ op = 7 ∨ op = 8 ∨ op = 9 ∨ op = 10 ∨ op = 11 ∨ op = 12 ∨ op = 13 ∨ op = 14 ∨ op = 15 ∨ op = 16 ∨ op = 17 ∨ op = 18 ∨ op = 19 := by omega
 rcases this with rfl | rfl | rfl | rfl | rfl | rfl | rfl | rfl | rfl | rfl | rfl | rfl | rfl | rfl | rfl | rfl | rfl | rfl | rfl
 all_goals decide
theorem mI {a b : Int} (h : a ≠ b) : (a == b) = false := by simpa using h
theorem zYb {op : Int} (h : ¬ (1 ≤ op ∧ op ≤ 19)) : dX op = -1 := by
 unfold dX
 simp only [mI (a := op) (b := 1) (by omega), mI (a := op) (b := 2) (by omega), mI (a := op) (b := 3) (by omega), mI (a := op) (b := 4) (by omega), mI (a := op) (b := 5) (by omega), mI (a := op) (b := 6) (by omega), mI (a := op) (b := 7) (by omega), mI (a := op) (b := 8) (by omega), mI (a := op) (b := 9) (by omega), mI (a := op) (b := 10) (by omega), mI (a := op) (b := 11) (by omega), mI (a := op) (b := 12) (by omega), mI (a := op) (b := 13) (by omega), mI (a := op) (b := 14) (by omega), mI (a := op) (b := 15) (by omega), mI (a := op) (b := 16) (by omega), mI (a := op) (b := 17) (by omega), mI (a := op) (b := 18) (by omega), mI (a := op) (b := 19) (by omega)]
 rfl
theorem zPc (op : Int) : -1 ≤ lA op ∧ lA op ≤ 3 := by
 unfold lA
 repeat' split
 all_goals omega
theorem zYs {op : Int} {k : Nat} : (dX op == -1 || (decide (dX op ≥ 0) && !((k : Int) == dX op))) = !u6 op k := by
 unfold u6
 by_cases h : 1 ≤ op ∧ op ≤ 19
 ·rw [ar_in h.1 h.2]
  have hg := zPc op
  simp only [h.1, h.2, decide_true, Bool.true_and]
  by_cases h1 : lA op = -1
  ·simp [h1]
  ·have h2 : ¬ lA op < 0 := by omega
   have h3 : lA op ≥ 0 := by omega
   simp [h1, h2, h3]
 ·rw [zYb h]
  by_cases h1 : 1 ≤ op
  ·have h2 : ¬ op ≤ 19 := fun h2 => h ⟨h1, h2⟩
   simp [h2]
  ·simp [h1]
set_option maxHeartbeats 4000000 in
theorem zYz (op : Int) : RT 127 [xi op] [] = some (xi (lA op), []) := by
 refine xL (fn := Try.f127) rfl rfl rfl rfl ?_
 repeat' (first | refine ⟨fun h => ?_, fun h => ?_⟩ | done)
 all_goals (refine ⟨?_, rfl⟩; simp [lA, *]; rfl)
set_option maxHeartbeats 4000000 in
theorem zTv (op : Int) : RT 129 [xi op] [] = some (xi (dX op), []) := by
 refine xL (fn := Try.f129) rfl rfl rfl rfl ?_
 repeat' (first | refine ⟨fun h => ?_, fun h => ?_⟩ | done)
 all_goals (refine ⟨?_, rfl⟩; simp [dX, *]; rfl)
def Sis (c : Ir) : Prop := ∀ us, q7 c ≤ 1000000000 → RdI c us → RT 97 [xc us] [] = some (xi (q7 c), [])
theorem p6 : ∀ {l : List Ir} {c : Ir}, c ∈ l → q7 c ≤ zX l
 | x :: l, c, h => by
  simp only [zX]
  rcases List.mem_cons.1 h with rfl | h
  ·omega
  ·have := p6 h; omega
theorem zUb : ∀ c : Ir, 1 ≤ q7 c
 | .mk op n ks => by simp only [q7]; omega
theorem lI : ∀ l : List Ir, l.length ≤ zX l
 | [] => by simp
 | c :: l => by have := zUb c; have := lI l; simp only [zX, List.length_cons]; omega
theorem lis {ks : List Ir} {cs : List TU} {g : Nat} {op n : Int} {K : Ex → StA → Prop} (H : ∀ c ∈ ks, Sis c) (hz : zX ks ≤ 1000000000) (hr : kY ks cs) :
  ∀ (l : List Ir) (i : Nat), ks.drop i = l → i ≤ ks.length → ∀ v : Nat, v + zX l ≤ 1000000001 →
  (∀ jk j, K (.exit 0) ⟨[(4, xi j), (3, xi ((v + zX l : Nat) : Int)), (1, .box () ((irc op n (g + 1) ks.length cs).map .t)), (2, xi 0)], jk, []⟩) →
  ∀ jk, sem cx0 97 RT (.loop (lp Try.f97 0)) ⟨[(4, xi i), (3, xi v), (1, .box () ((irc op n (g + 1) ks.length cs).map .t)), (2, xi 0)], jk, []⟩ K := by
 have hk := lI ks
 refine xE ?_ ?_
 ·intro v hv k1 jk
  refine zK cx0 _ RT [4, 3, 1, 2] ⟨fun h => (jZ h (by omega)).elim, fun h => ?_⟩
  exact fun jk => k1 jk _
 ·intro i c l hi hil ih v hv k1 jk
  have hm := List.mem_of_getElem? hi
  have hc := H c hm
  have hzc := p6 hm
  simp only [zX] at hv k1
  cases c with
  | mk op' n' kk =>
  obtain ⟨g', cs', e1, e2⟩ := fP hr hi
  refine zK cx0 _ RT [4, 3, 1, 2] ⟨fun h => ?_, fun h => (qL h (by omega)).elim⟩
  refine ⟨⟨by omega, by omega⟩, ?_⟩
  refine ⟨op', n', g' + 1, kk.length, cs', ⟨e1, rfl⟩, ?_⟩
  refine ⟨_, gF (hc (irc op' n' (g' + 2) kk.length (zI cs')) (by omega) ⟨_, _, rfl, e2.retag⟩), ?_⟩
  have e : IntKind.wrap .i64 ((v : Int) + (q7 (.mk op' n' kk) : Nat)) = ((v + q7 (.mk op' n' kk) : Nat) : Int) := by rw [wrap64 (by omega) (by omega)]; omega
  intro jk
  rw [q8 hil (by simp only [maxLen]; omega), e]
  refine ih _ (by omega) (fun jk j => ?_) jk
  have := k1 jk j
  rw [← Nat.add_assoc] at this
  exact this
theorem zZl : ∀ c : Ir, Sis c := by
 refine Ir.ind fun op n ks ih => ?_
 intro us hz hr
 obtain ⟨g, cs, rfl, hr⟩ := hr
 simp only [q7] at hz
 refine xL (fn := Try.f97) rfl rfl rfl rfl ?_
 refine yE cx0 _ RT [4, 3, 1, 2] fun jk => ?_
 refine lis (g := g) (op := op) (n := n) ih (by omega) hr ks 0 rfl (by omega) 1 (by omega) (fun jk j => ?_) jk
 exact ⟨rfl, rfl⟩
end Go.Proofs.Ytlkjnlfddadlmaa.V
namespace Go.Proofs.Ytlkjnlfddadlmaa.V
set_option maxRecDepth 100000
theorem m6 {l : List Blk} {cs : List TU} {i : Nat} {b : Blk} (h : RdB l cs) (hi : l[i]? = some b) : ∃ r, cs.drop (i * 4) = .int .i64 b.1 :: r := by
 induction l generalizing cs i with
 | nil => simp at hi
 | cons x l ih =>
  simp only [RdB] at h
  obtain ⟨us, vs, rfl, h1, h2⟩ := h
  cases i with
  | zero =>
   simp only [List.getElem?_cons_zero, Option.some.injEq] at hi
   subst hi
   exact ⟨us ++ vs, rfl⟩
  | succ i =>
   simp only [List.getElem?_cons_succ] at hi
   have e : (i + 1) * 4 = ((T.int .i64 x.1 : TU) :: us).length + i * 4 := by simp only [List.length_cons, zAl h1]; omega
   rw [e, List.drop_length_add_append]
   exact ih h2 hi
theorem aF {bs : List Blk} {i : Nat} (h : i < bs.length) : bs[i]? = some (bs.getD i (0, zIr)) := by
 rw [List.getD_eq_getElem?_getD, List.getElem?_eq_getElem h]; rfl
def zBa (bs : List Blk) : Prop := bs.length ≤ 1000000 ∧ ∀ b ∈ bs, 0 ≤ b.1 ∧ b.1 ≤ 1000000
def Srg (bs : List Blk) (w : Nat) (c : Ir) : Prop := ∀ us g cs (deep : Nat), q7 c + deep ≤ 1000000000 → RdB bs cs → RdI c us → RT 98 [xl (g + 1) 4 bs.length cs, xi w, xc us, xi deep] [] = some (xb (nV bs w deep c), [])
theorem rgl {bs : List Blk} {w deep : Nat} {ks : List Ir} {cs ds : List TU} {g g2 : Nat} {op n : Int} {K : Ex → StA → Prop} (H : ∀ c ∈ ks, Srg bs w c) (hz : zX ks + deep + 1 ≤ 1000000000) (hr : kY ks cs) (hB : RdB bs ds) :
  ∀ (l : List Ir) (i : Nat), ks.drop i = l → i ≤ ks.length →
  (∀ jk j, gD bs w op deep i l = true → K (.exit 0) ⟨[(10, xi j), (0, xl (g2 + 1) 4 bs.length ds), (1, xi w), (3, xi deep), (6, .box () ((irc op n (g + 1) ks.length cs).map .t)), (8, xb false)], jk, []⟩) →
  (∀ jk j, gD bs w op deep i l = false → K .ret ⟨[(10, xi j), (0, xl (g2 + 1) 4 bs.length ds), (1, xi w), (3, xi deep), (6, .box () ((irc op n (g + 1) ks.length cs).map .t)), (8, xb false)], jk, []⟩) →
  ∀ jk, sem cx0 98 RT (.loop (lp Try.f98 0)) ⟨[(10, xi i), (0, xl (g2 + 1) 4 bs.length ds), (1, xi w), (3, xi deep), (6, .box () ((irc op n (g + 1) ks.length cs).map .t)), (8, xb false)], jk, []⟩ K := by
 have hk := lI ks
 refine xE ?_ ?_
 ·intro k1 k2 jk
  refine zK cx0 _ RT [10, 0, 1, 3, 6, 8] ⟨fun h => (jZ h (by omega)).elim, fun h => ?_⟩
  exact fun jk => k1 jk _ rfl
 ·intro i c l hi hil ih k1 k2 jk
  have hm := List.mem_of_getElem? hi
  have hc := H c hm
  have hzc := p6 hm
  cases c with
  | mk op' n' kk =>
  obtain ⟨g', cs', e1, e2⟩ := fP hr hi
  refine zK cx0 _ RT [10, 0, 1, 3, 6, 8] ⟨fun h => ?_, fun h => (qL h (by omega)).elim⟩
  refine ⟨⟨by omega, by omega⟩, ?_⟩
  refine ⟨op', n', g' + 1, kk.length, cs', ⟨e1, rfl⟩, ?_⟩
  have eo : gD bs w op deep i (.mk op' n' kk :: l) = (nV bs w (deep + if op == 7 && (i : Int) == 1 then 1 else 0) (.mk op' n' kk) && gD bs w op deep (i + 1) l) := by simp only [gD]
  refine ⟨fun h7 => ?_, fun h7 => ?_⟩
  ·have e7 : (if op == 7 && (i : Int) == 1 then 1 else 0) = bit ((i : Int) == 1) := by rw [show (op == 7) = true from h7]; rfl
   have hb := zSm ((i : Int) == 1)
   have ew : IntKind.wrap .i64 ((deep : Int) + (bit ((i : Int) == 1) : Nat)) = ((deep + bit ((i : Int) == 1) : Nat) : Int) := by rw [wrap64 (by omega) (by omega)]; omega
   have hcc := hc (irc op' n' (g' + 2) kk.length (zI cs')) (g2 + 1) (zI ds) (deep + bit ((i : Int) == 1)) (by omega) hB.retag ⟨_, _, rfl, e2.retag⟩
   rw [e7] at eo
   refine ⟨_, gF (zXl _), ?_⟩
   refine ⟨_, xZ (by rw [ew]; exact hcc), ?_⟩
   refine ⟨fun h => ?_, fun h => ?_⟩
   ·have h : nV bs w (deep + bit ((i : Int) == 1)) (.mk op' n' kk) = false := by simpa using h
    rw [h, Bool.false_and] at eo
    exact fun jk => k2 jk _ eo
   ·have h : nV bs w (deep + bit ((i : Int) == 1)) (.mk op' n' kk) = true := by simpa using h
    rw [h, Bool.true_and] at eo
    intro jk
    rw [q8 hil (by simp only [maxLen]; omega)]
    exact ih (fun jk j hh => k1 jk j (by rw [eo]; exact hh)) (fun jk j hh => k2 jk j (by rw [eo]; exact hh)) jk
  ·have e7 : (if op == 7 && (i : Int) == 1 then 1 else 0) = bit (false) := by rw [show (op == 7) = false from h7]; rfl
   have hb := zSm (false)
   have ew : IntKind.wrap .i64 ((deep : Int) + (bit (false) : Nat)) = ((deep + bit (false) : Nat) : Int) := by rw [wrap64 (by omega) (by omega)]; omega
   have hcc := hc (irc op' n' (g' + 2) kk.length (zI cs')) (g2 + 1) (zI ds) (deep + bit (false)) (by omega) hB.retag ⟨_, _, rfl, e2.retag⟩
   rw [e7] at eo
   refine ⟨_, gF (zXl _), ?_⟩
   refine ⟨_, xZ (by rw [ew]; exact hcc), ?_⟩
   refine ⟨fun h => ?_, fun h => ?_⟩
   ·have h : nV bs w (deep + bit (false)) (.mk op' n' kk) = false := by simpa using h
    rw [h, Bool.false_and] at eo
    exact fun jk => k2 jk _ eo
   ·have h : nV bs w (deep + bit (false)) (.mk op' n' kk) = true := by simpa using h
    rw [h, Bool.true_and] at eo
    intro jk
    rw [q8 hil (by simp only [maxLen]; omega)]
    exact ih (fun jk j hh => k1 jk j (by rw [eo]; exact hh)) (fun jk j hh => k2 jk j (by rw [eo]; exact hh)) jk
theorem v6 {b : Bool} (h : (!b) = true) : b = false := by cases b <;> simp_all
theorem v1 {b : Bool} (h : (!b) = false) : b = true := by cases b <;> simp_all
set_option maxHeartbeats 16000000 in
theorem zXb {bs : List Blk} {w : Nat} (hF : zBa bs) (hw : w < bs.length) : ∀ c : Ir, Srg bs w c := by
 refine Ir.ind fun op n ks ih => ?_
 intro us g2 ds deep hz hB hr
 obtain ⟨g, cs, rfl, hr⟩ := hr
 simp only [q7] at hz
 have hkl := lI ks
 have hl := fun K => rgl (K := K) (g := g) (g2 := g2) (op := op) (n := n) (deep := deep) ih (by omega) hr hB ks 0 rfl (by omega)
 have hg := zPc op
 have eo : nV bs w deep (.mk op n ks) = (u6 op ks.length && x4 bs w deep op n ks.length && gD bs w op deep 0 ks) := by simp only [nV]
 rw [eo]
 clear eo ih
 have fin : u6 op ks.length = true → ∀ jk (K : Ex → StA → Prop),
  (∀ jk j, gD bs w op deep 0 ks = true → K (.exit 0) ⟨[(10, xi j), (0, xl (g2 + 1) 4 bs.length ds), (1, xi w), (3, xi deep), (6, .box () ((irc op n (g + 1) ks.length cs).map .t)), (8, xb false)], jk, []⟩) →
  (∀ jk j, gD bs w op deep 0 ks = false → K .ret ⟨[(10, xi j), (0, xl (g2 + 1) 4 bs.length ds), (1, xi w), (3, xi deep), (6, .box () ((irc op n (g + 1) ks.length cs).map .t)), (8, xb false)], jk, []⟩) →
  sem cx0 98 RT (.loop (lp Try.f98 0)) ⟨[(10, xi (0 : Nat)), (0, xl (g2 + 1) 4 bs.length ds), (1, xi w), (3, xi deep), (6, .box () ((irc op n (g + 1) ks.length cs).map .t)), (8, xb false)], jk, []⟩ K := fun _ jk K k1 k2 => hl K k1 k2 jk
 refine xL (fn := Try.f98) rfl rfl rfl rfl ?_
 refine ⟨_, gF (zYz op), ?_⟩
 refine ⟨_, xZ (sO op 1 19), ?_⟩
 refine ⟨fun h => ?_, fun h => ?_⟩
 ·have hh : u6 op ks.length = false := by
   unfold u6
   have h : (decide (op ≥ 1) && decide (op ≤ 19)) = false := v6 h
   rw [show decide (1 ≤ op) = decide (op ≥ 1) from rfl, h]; rfl
  rw [hh]
  exact ⟨rfl, rfl⟩
 have h : (decide (op ≥ 1) && decide (op ≤ 19)) = true := v1 h
 have eh : u6 op ks.length = (decide (lA op < 0) || (ks.length : Int) == lA op) := by
  unfold u6
  rw [show decide (1 ≤ op) = decide (op ≥ 1) from rfl, h, Bool.true_and]
 refine ⟨fun h2 => ?_, fun h2 => ?_⟩
 ·have h2 : lA op ≥ 0 := by simpa using h2
  rw [show decide (lA op < 0) = false by simp; omega, Bool.false_or] at eh
  refine ⟨fun h3 => ?_, fun h3 => ?_⟩
  ·have h3 : ((ks.length : Int) == lA op) = false := by simpa using h3
   rw [eh, h3]
   exact ⟨rfl, rfl⟩
  ·have h3 : ((ks.length : Int) == lA op) = true := by simpa using h3
   rw [h3] at eh
   rw [eh, Bool.true_and]
   refine yE cx0 _ RT [10, 0, 1, 3, 6, 8] fun jk => ?_
   refine fin eh jk _ (fun jk j ho => ?_) (fun jk j ho => ?_)
   ·rw [ho, Bool.and_true]
    refine ⟨fun h => ?_, fun n1 => ?_⟩
    ·have h := eq_of_beq h
     subst h
     refine ⟨_, xZ (zEf n), ?_⟩
     exact ⟨rfl, rfl⟩
    refine ⟨fun h => ?_, fun n18 => ?_⟩
    ·have h := eq_of_beq h
     subst h
     refine ⟨_, xZ (zEf n), ?_⟩
     exact ⟨rfl, rfl⟩
    refine ⟨fun h => ?_, fun n2 => ?_⟩
    ·have h := eq_of_beq h
     subst h
     have ew : IntKind.wrap .i64 ((deep : Int) - 1) = (deep : Int) - 1 := wrap64 (by omega) (by omega)
     refine ⟨_, xZ (sO _ _ _), ?_⟩
     rw [ew]
     exact ⟨rfl, rfl⟩
    refine ⟨fun h => ?_, fun n3 => ?_⟩
    ·have h := eq_of_beq h
     subst h
     obtain ⟨r, hr3⟩ := m6 hB (aF hw)
     have hf := hF.2 _ (List.mem_of_getElem? (aF hw))
     have ew : IntKind.wrap .i64 ((bs.getD w (0, zIr)).1 - 1) = (bs.getD w (0, zIr)).1 - 1 := wrap64 (by omega) (by omega)
     refine ⟨⟨by omega, by omega⟩, ?_⟩
     refine ⟨by show 0 ≤ _; omega, ?_⟩
     refine ⟨(bs.getD w (0, zIr)).1, ⟨?_, rfl⟩, ?_⟩
     ·show ((ds.drop ((w : Int).toNat * 4)).drop 0).take 1 = _
      rw [show (w : Int).toNat = w from rfl, hr3]; rfl
     refine ⟨_, xZ (sO _ _ _), ?_⟩
     rw [ew]
     exact ⟨rfl, rfl⟩
    refine ⟨fun h => ?_, fun n4 => ?_⟩
    ·have h := eq_of_beq h
     subst h
     refine ⟨fun h => ?_, fun h => ?_⟩
     ·refine ⟨?_, rfl⟩
      show xb ((n == 0) && decide (0 < w)) = _
      rw [show (n == 0) = true from h, Bool.true_and]
      refine congrArg xb ?_
      rw [Bool.eq_iff_iff]; simp only [decide_eq_true_eq]; omega
     ·refine ⟨?_, rfl⟩
      show xb ((n == 0) && decide (0 < w)) = _
      rw [show (n == 0) = false from h]; rfl
    refine ⟨fun h => ?_, fun n5 => ?_⟩
    ·have h := eq_of_beq h
     subst h
     have hF1 := hF.1
     have ew : IntKind.wrap .i64 ((bs.length : Int) - 1) = (bs.length : Int) - 1 := wrap64 (by omega) (by omega)
     refine ⟨_, xZ (sO _ _ _), ?_⟩
     rw [ew]
     have en : x4 bs w deep 5 n ks.length = ((decide (n ≥ 1) && decide (n ≤ (bs.length : Int) - 1)) && (ks.length : Int) == nN bs n.toNat) := rfl
     rw [en]
     refine ⟨fun h => ?_, fun h => ?_⟩
     ·rw [h, Bool.true_and]
      simp only [Bool.and_eq_true, decide_eq_true_eq] at h
      have hn : n.toNat < bs.length := by omega
      obtain ⟨r, hr3⟩ := m6 hB (aF hn)
      refine ⟨⟨by omega, by omega⟩, ?_⟩
      refine ⟨by show 0 ≤ _; omega, ?_⟩
      refine ⟨(bs.getD n.toNat (0, zIr)).1, ⟨?_, rfl⟩, ?_⟩
      ·show ((ds.drop (n.toNat * 4)).drop 0).take 1 = _
       rw [hr3]; rfl
      exact ⟨rfl, rfl⟩
     ·rw [h, Bool.false_and]
      exact ⟨rfl, rfl⟩
    refine ⟨fun h => ?_, fun n14 => ?_⟩
    ·have h := eq_of_beq h
     subst h
     refine ⟨_, xZ (sO _ _ _), ?_⟩
     exact ⟨rfl, rfl⟩
    refine ⟨fun h => ?_, fun n16 => ?_⟩
    ·have h := eq_of_beq h
     subst h
     refine ⟨_, xZ (sO _ _ _), ?_⟩
     exact ⟨rfl, rfl⟩
    refine ⟨fun h => ?_, fun n17 => ?_⟩
    ·have h := eq_of_beq h
     subst h
     refine ⟨_, xZ (sO _ _ _), ?_⟩
     exact ⟨rfl, rfl⟩
    have en : x4 bs w deep op n ks.length = (n == 0) := by
     unfold x4
     rw [if_neg (by simp_all), if_neg (by simp_all), if_neg (by simp_all), if_neg (by simp_all), if_neg (by simp_all), if_neg (by simp_all)]
    rw [en]
    exact ⟨rfl, rfl⟩
   ·rw [ho, Bool.and_false]
    exact ⟨rfl, rfl⟩
 ·have h2 : lA op < 0 := by simpa using h2
  rw [show decide (lA op < 0) = true by simp; omega, Bool.true_or] at eh
  rw [eh, Bool.true_and]
  refine yE cx0 _ RT [10, 0, 1, 3, 6, 8] fun jk => ?_
  refine fin eh jk _ (fun jk j ho => ?_) (fun jk j ho => ?_)
  ·skip
   rw [ho, Bool.and_true]
   refine ⟨fun h => ?_, fun n1 => ?_⟩
   ·have h := eq_of_beq h
    subst h
    refine ⟨_, xZ (zEf n), ?_⟩
    exact ⟨rfl, rfl⟩
   refine ⟨fun h => ?_, fun n18 => ?_⟩
   ·have h := eq_of_beq h
    subst h
    refine ⟨_, xZ (zEf n), ?_⟩
    exact ⟨rfl, rfl⟩
   refine ⟨fun h => ?_, fun n2 => ?_⟩
   ·have h := eq_of_beq h
    subst h
    have ew : IntKind.wrap .i64 ((deep : Int) - 1) = (deep : Int) - 1 := wrap64 (by omega) (by omega)
    refine ⟨_, xZ (sO _ _ _), ?_⟩
    rw [ew]
    exact ⟨rfl, rfl⟩
   refine ⟨fun h => ?_, fun n3 => ?_⟩
   ·have h := eq_of_beq h
    subst h
    obtain ⟨r, hr3⟩ := m6 hB (aF hw)
    have hf := hF.2 _ (List.mem_of_getElem? (aF hw))
    have ew : IntKind.wrap .i64 ((bs.getD w (0, zIr)).1 - 1) = (bs.getD w (0, zIr)).1 - 1 := wrap64 (by omega) (by omega)
    refine ⟨⟨by omega, by omega⟩, ?_⟩
    refine ⟨by show 0 ≤ _; omega, ?_⟩
    refine ⟨(bs.getD w (0, zIr)).1, ⟨?_, rfl⟩, ?_⟩
    ·show ((ds.drop ((w : Int).toNat * 4)).drop 0).take 1 = _
     rw [show (w : Int).toNat = w from rfl, hr3]; rfl
    refine ⟨_, xZ (sO _ _ _), ?_⟩
    rw [ew]
    exact ⟨rfl, rfl⟩
   refine ⟨fun h => ?_, fun n4 => ?_⟩
   ·have h := eq_of_beq h
    subst h
    refine ⟨fun h => ?_, fun h => ?_⟩
    ·refine ⟨?_, rfl⟩
     show xb ((n == 0) && decide (0 < w)) = _
     rw [show (n == 0) = true from h, Bool.true_and]
     refine congrArg xb ?_
     rw [Bool.eq_iff_iff]; simp only [decide_eq_true_eq]; omega
    ·refine ⟨?_, rfl⟩
     show xb ((n == 0) && decide (0 < w)) = _
     rw [show (n == 0) = false from h]; rfl
   refine ⟨fun h => ?_, fun n5 => ?_⟩
   ·have h := eq_of_beq h
    subst h
    have hF1 := hF.1
    have ew : IntKind.wrap .i64 ((bs.length : Int) - 1) = (bs.length : Int) - 1 := wrap64 (by omega) (by omega)
    refine ⟨_, xZ (sO _ _ _), ?_⟩
    rw [ew]
    have en : x4 bs w deep 5 n ks.length = ((decide (n ≥ 1) && decide (n ≤ (bs.length : Int) - 1)) && (ks.length : Int) == nN bs n.toNat) := rfl
    rw [en]
    refine ⟨fun h => ?_, fun h => ?_⟩
    ·rw [h, Bool.true_and]
     simp only [Bool.and_eq_true, decide_eq_true_eq] at h
     have hn : n.toNat < bs.length := by omega
     obtain ⟨r, hr3⟩ := m6 hB (aF hn)
     refine ⟨⟨by omega, by omega⟩, ?_⟩
     refine ⟨by show 0 ≤ _; omega, ?_⟩
     refine ⟨(bs.getD n.toNat (0, zIr)).1, ⟨?_, rfl⟩, ?_⟩
     ·show ((ds.drop (n.toNat * 4)).drop 0).take 1 = _
      rw [hr3]; rfl
     exact ⟨rfl, rfl⟩
    ·rw [h, Bool.false_and]
     exact ⟨rfl, rfl⟩
   refine ⟨fun h => ?_, fun n14 => ?_⟩
   ·have h := eq_of_beq h
    subst h
    refine ⟨_, xZ (sO _ _ _), ?_⟩
    exact ⟨rfl, rfl⟩
   refine ⟨fun h => ?_, fun n16 => ?_⟩
   ·have h := eq_of_beq h
    subst h
    refine ⟨_, xZ (sO _ _ _), ?_⟩
    exact ⟨rfl, rfl⟩
   refine ⟨fun h => ?_, fun n17 => ?_⟩
   ·have h := eq_of_beq h
    subst h
    refine ⟨_, xZ (sO _ _ _), ?_⟩
    exact ⟨rfl, rfl⟩
   have en : x4 bs w deep op n ks.length = (n == 0) := by
    unfold x4
    rw [if_neg (by simp_all), if_neg (by simp_all), if_neg (by simp_all), if_neg (by simp_all), if_neg (by simp_all), if_neg (by simp_all)]
   rw [en]
   exact ⟨rfl, rfl⟩
  ·rw [ho, Bool.and_false]
   exact ⟨rfl, rfl⟩
end Go.Proofs.Ytlkjnlfddadlmaa.V
namespace Go.Proofs.Ytlkjnlfddadlmaa.V
set_option maxRecDepth 100000
abbrev xC (g : Nat) (bs : List Blk) (ds : List TU) (w left : Int) : List CU := [.t (.sl () g 4 bs.length ds), .t (ii w), .t (ii left)]
def Sck (bs : List Blk) (w : Nat) (c : Ir) : Prop := ∀ us g ds (deep left : Nat), left ≤ 4000 → deep + left ≤ 1000000 → RdB bs ds → RdI c us →
 ∃ l' : Int, ((nV bs w deep c && decide (q7 c ≤ left)) = true → l' = (left : Int) - q7 c) ∧ RT 102 [p0, xc us, xi deep] [xC (g + 1) bs ds w left] = some (xb (nV bs w deep c && decide (q7 c ≤ left)), [xC (g + 1) bs ds w l'])
theorem mR : ∀ a b : List TU, zI (a ++ b) = zI a ++ zI b := jD
mutual
theorem zR7 : ∀ {c : Ir} {us : List TU}, RdI c us → ups us = zI us ∧ yT (zI us) = some us
 | .mk op n ks, us, h => by
  simp only [RdI] at h
  obtain ⟨g, cs, rfl, h⟩ := h
  obtain ⟨h1, h2⟩ := zN8 h
  constructor
  ·simp only [irc, ups, up, zI, retag, h1]
   rw [if_neg (by omega)]
  ·simp only [irc, zI, retag, yT, down, h2, Option.map_some, Option.bind_some]
   rw [if_neg (by omega)]
   rfl
theorem zN8 : ∀ {l : List Ir} {cs : List TU}, kY l cs → ups cs = zI cs ∧ yT (zI cs) = some cs
 | [], cs, h => by simp only [kY] at h; subst h; exact ⟨rfl, rfl⟩
 | c :: l, cs, h => by
  simp only [kY] at h
  obtain ⟨us, vs, rfl, h1, h2⟩ := h
  obtain ⟨a1, a2⟩ := zR7 h1
  obtain ⟨b1, b2⟩ := zN8 h2
  exact ⟨by rw [zA8, mR, a1, b1], by rw [mR]; exact pR a2 b2⟩
end
theorem l8 : ∀ {l : List Blk} {cs : List TU}, RdB l cs → ups cs = zI cs ∧ yT (zI cs) = some cs
 | [], cs, h => by simp only [RdB] at h; subst h; exact ⟨rfl, rfl⟩
 | b :: l, cs, h => by
  simp only [RdB] at h
  obtain ⟨us, vs, rfl, h1, h2⟩ := h
  obtain ⟨a1, a2⟩ := zR7 h1
  obtain ⟨b1, b2⟩ := l8 h2
  constructor
  ·simp only [List.cons_append, ups, up, zI, retag, zA8, mR, a1, b1]
  ·simp only [List.cons_append, zI, retag, mR, yT, down, pR a2 b2, Option.map_some, Option.bind_some]
theorem retK {f g : Nat} {a : List XU} {e : List (List CU)} {b : Bool} {bs : List Blk} {ds ds' : List TU} {w l : Int} (hd : yT ds = some ds') (h : RT f a e = some (xb b, [xC (g + 2) bs ds w l])) : zBd RT f a e (xb b) [xC (g + 1) bs ds' w l] := by
 refine ⟨_, h, rfl, ?_⟩
 simp only [List.mapM_cons, List.mapM_nil, y8, qC, down, hd, Option.map_some, Option.bind_some]
 rfl
theorem zMm {a b left left2 : Nat} (h : (left2 : Int) = (left : Int) - (a : Nat)) : decide (a + b ≤ left) = decide (b ≤ left2) := by
 rw [Bool.eq_iff_iff]; simp only [decide_eq_true_eq]; omega
theorem zMn {a b left : Nat} {x y : Bool} (h : (x && decide (a ≤ left)) = false) : ((x && y) && decide (a + b ≤ left)) = false := by
 refine Bool.eq_false_iff.2 fun hh => ?_
 simp only [Bool.and_eq_true, decide_eq_true_eq] at hh
 have h2 := hh.2
 rw [hh.1.1, decide_eq_true (by omega)] at h
 cases h
set_option maxHeartbeats 4000000 in
theorem ckl {bs : List Blk} {w deep : Nat} {ks : List Ir} {cs ds : List TU} {g g2 : Nat} {op n : Int} {K : Ex → StA → Prop} (H : ∀ c ∈ ks, Sck bs w c) (hr : kY ks cs) (hB : RdB bs ds) (hk : ks.length ≤ 100000000) :
  ∀ (l : List Ir) (i : Nat), ks.drop i = l → i ≤ ks.length → ∀ (left : Nat), left ≤ 4000 → deep + left + 1 ≤ 1000000 →
  (∀ jk j (l' : Int), (gD bs w op deep i l && decide (zX l ≤ left)) = true → l' = (left : Int) - zX l → K (.exit 1) ⟨[(125, xi j), (124, xi ks.length), (123, xl (g + 1) 3 ks.length cs), (0, p0), (2, xi deep), (4, .box () ((irc op n (g + 1) ks.length cs).map .t)), (6, xb false)], jk, [xC (g2 + 1) bs ds w l']⟩) →
  (∀ jk j (l' : Int), (gD bs w op deep i l && decide (zX l ≤ left)) = false → K .ret ⟨[(125, xi j), (124, xi ks.length), (123, xl (g + 1) 3 ks.length cs), (0, p0), (2, xi deep), (4, .box () ((irc op n (g + 1) ks.length cs).map .t)), (6, xb false)], jk, [xC (g2 + 1) bs ds w l']⟩) →
  ∀ jk, sem cx0 102 RT (.loop (lp Try.f102 0)) ⟨[(125, xi i), (124, xi ks.length), (123, xl (g + 1) 3 ks.length cs), (0, p0), (2, xi deep), (4, .box () ((irc op n (g + 1) ks.length cs).map .t)), (6, xb false)], jk, [xC (g2 + 1) bs ds w left]⟩ K := by
 refine xE ?_ ?_
 ·intro left h4 hd k1 k2 jk
  refine zK cx0 _ RT [125, 124, 123, 0, 2, 4, 6] ⟨fun h => (jZ h (by omega)).elim, fun h => ?_⟩
  exact fun jk => k1 jk _ _ (by simp [gD, zX]) (by simp [zX])
 ·intro i c l hi hil ih left h4 hd k1 k2 jk
  have hm := List.mem_of_getElem? hi
  have hc := H c hm
  cases c with
  | mk op' n' kk =>
  obtain ⟨g', cs', e1, e2⟩ := fP hr hi
  refine zK cx0 _ RT [125, 124, 123, 0, 2, 4, 6] ⟨fun h => ?_, fun h => (qL h (by omega)).elim⟩
  refine ⟨⟨by omega, by omega⟩, ?_⟩
  refine ⟨op', n', g' + 1, kk.length, cs', ⟨e1, rfl⟩, ?_⟩
  have eo : gD bs w op deep i (.mk op' n' kk :: l) = (nV bs w (deep + if op == 7 && (i : Int) == 1 then 1 else 0) (.mk op' n' kk) && gD bs w op deep (i + 1) l) := by simp only [gD]
  refine ⟨fun h7 => ?_, fun h7 => ?_⟩
  ·refine ⟨fun h1 => ?_, fun h1 => ?_⟩
   ·have e7 : (if op == 7 && (i : Int) == 1 then 1 else 0) = 1 := by rw [show (op == 7) = true from h7, show ((i : Int) == 1) = true from h1]; rfl
    have ew : IntKind.wrap .i64 ((deep : Int) + 1) = ((deep + 1 : Nat) : Int) := by rw [wrap64 (by omega) (by omega)]; omega
    obtain ⟨l', q1, q2⟩ := hc (irc op' n' (g' + 2) kk.length (zI cs')) (g2 + 1) (zI ds) (deep + 1) left h4 (by omega) hB.retag ⟨_, _, rfl, e2.retag⟩
    refine ⟨_, _, retK (l8 hB).2 (by rw [(l8 hB).1, ew]; exact q2), ?_⟩
    refine ⟨fun h => ?_, fun h => ?_⟩
    ·have h := v6 h
     refine fun jk => k2 jk _ _ ?_
     rw [eo, e7]
     exact zMn h
    ·have h := v1 h
     have q1 := q1 h
     simp only [Bool.and_eq_true, decide_eq_true_eq] at h
     intro jk
     rw [q8 hil (by simp only [maxLen]; omega)]
     obtain ⟨left2, hl2⟩ : ∃ m : Nat, l' = (m : Int) := ⟨l'.toNat, by omega⟩
     subst hl2
     have hz : decide (zX (.mk op' n' kk :: l) ≤ left) = decide (zX l ≤ left2) := zMm q1
     refine ih left2 (by omega) (by omega) (fun jk j l2 ho hl => k1 jk j l2 ?_ ?_) (fun jk j l2 ho => k2 jk j l2 ?_) jk
     ·rw [eo, e7, h.1, Bool.true_and, hz]; exact ho
     ·rw [hl]; simp only [zX]; omega
     ·rw [eo, e7, h.1, Bool.true_and, hz]; exact ho
   ·have e7 : (if op == 7 && (i : Int) == 1 then 1 else 0) = 0 := by rw [show ((i : Int) == 1) = false from h1, Bool.and_false]; rfl
    obtain ⟨l', q1, q2⟩ := hc (irc op' n' (g' + 2) kk.length (zI cs')) (g2 + 1) (zI ds) (deep) left h4 (by omega) hB.retag ⟨_, _, rfl, e2.retag⟩
    refine ⟨_, _, retK (l8 hB).2 (by rw [(l8 hB).1]; exact q2), ?_⟩
    refine ⟨fun h => ?_, fun h => ?_⟩
    ·have h := v6 h
     refine fun jk => k2 jk _ _ ?_
     rw [eo, e7, Nat.add_zero]
     exact zMn h
    ·have h := v1 h
     have q1 := q1 h
     simp only [Bool.and_eq_true, decide_eq_true_eq] at h
     intro jk
     rw [q8 hil (by simp only [maxLen]; omega)]
     obtain ⟨left2, hl2⟩ : ∃ m : Nat, l' = (m : Int) := ⟨l'.toNat, by omega⟩
     subst hl2
     have hz : decide (zX (.mk op' n' kk :: l) ≤ left) = decide (zX l ≤ left2) := zMm q1
     refine ih left2 (by omega) (by omega) (fun jk j l2 ho hl => k1 jk j l2 ?_ ?_) (fun jk j l2 ho => k2 jk j l2 ?_) jk
     ·rw [eo, e7, Nat.add_zero, h.1, Bool.true_and, hz]; exact ho
     ·rw [hl]; simp only [zX]; omega
     ·rw [eo, e7, Nat.add_zero, h.1, Bool.true_and, hz]; exact ho
  ·have e7 : (if op == 7 && (i : Int) == 1 then 1 else 0) = 0 := by rw [show (op == 7) = false from h7, Bool.false_and]; rfl
   obtain ⟨l', q1, q2⟩ := hc (irc op' n' (g' + 2) kk.length (zI cs')) (g2 + 1) (zI ds) (deep) left h4 (by omega) hB.retag ⟨_, _, rfl, e2.retag⟩
   refine ⟨_, _, retK (l8 hB).2 (by rw [(l8 hB).1]; exact q2), ?_⟩
   refine ⟨fun h => ?_, fun h => ?_⟩
   ·have h := v6 h
    refine fun jk => k2 jk _ _ ?_
    rw [eo, e7, Nat.add_zero]
    exact zMn h
   ·have h := v1 h
    have q1 := q1 h
    simp only [Bool.and_eq_true, decide_eq_true_eq] at h
    intro jk
    rw [q8 hil (by simp only [maxLen]; omega)]
    obtain ⟨left2, hl2⟩ : ∃ m : Nat, l' = (m : Int) := ⟨l'.toNat, by omega⟩
    subst hl2
    have hz : decide (zX (.mk op' n' kk :: l) ≤ left) = decide (zX l ≤ left2) := zMm q1
    refine ih left2 (by omega) (by omega) (fun jk j l2 ho hl => k1 jk j l2 ?_ ?_) (fun jk j l2 ho => k2 jk j l2 ?_) jk
    ·rw [eo, e7, Nat.add_zero, h.1, Bool.true_and, hz]; exact ho
    ·rw [hl]; simp only [zX]; omega
    ·rw [eo, e7, Nat.add_zero, h.1, Bool.true_and, hz]; exact ho
end Go.Proofs.Ytlkjnlfddadlmaa.V
namespace Go.Proofs.Ytlkjnlfddadlmaa.V
set_option maxRecDepth 100000
theorem zTc {g : Nat} {fn : Func} {a : List XU} {e : List (List CU)} {x : XU} {E : Int → List (List CU)} {P : Int → Prop} (ho : cx0.orc g = none) (hf : Try.prog.funcs[g]? = some fn) (hb : fn.body = some (fn.body.getD .skip)) (hg : cx0.good g = true)
  (h : fnW cx0 g RT fn a e fun y f => x = y ∧ ∃ l, P l ∧ E l = f) : ∃ l, P l ∧ RT g a e = some (x, E l) := by
 obtain ⟨y, f, h1, h2, l, h3, h4⟩ := zO6 ho hf hb hg h
 exact ⟨l, h3, by rw [RT, h1, h2, h4]⟩
set_option maxHeartbeats 16000000 in
theorem zV4 {bs : List Blk} {w : Nat} (hF : zBa bs) (hw : w < bs.length) : ∀ c : Ir, q7 c ≤ 100000000 → Sck bs w c := by
 refine Ir.ind fun op n ks ih => ?_
 intro hn us g2 ds deep left h4 hd hB hr
 obtain ⟨g, cs, rfl, hr⟩ := hr
 simp only [q7] at hn
 have hkl := lI ks
 have ihs : ∀ c ∈ ks, Sck bs w c := fun c hc => ih c hc (by have := p6 hc; omega)
 have eo : nV bs w deep (.mk op n ks) = (u6 op ks.length && x4 bs w deep op n ks.length && gD bs w op deep 0 ks) := by simp only [nV]
 have ez : q7 (.mk op n ks) = 1 + zX ks := by simp only [q7]
 have hh := zYs (op := op) (k := ks.length)
 rw [eo, ez]
 clear eo ih
 cases left with
 | zero =>
  have e0 : (u6 op ks.length && x4 bs w deep op n ks.length && gD bs w op deep 0 ks && decide (1 + zX ks ≤ 0)) = false := by
   rw [show decide (1 + zX ks ≤ 0) = false by simp, Bool.and_false]
  rw [e0]
  have ewl : IntKind.wrap .i64 (((0 : Nat) : Int) - 1) = -1 := wrap64 (by omega) (by omega)
  refine zTc (E := fun l => [xC (g2 + 1) bs ds w l]) (P := fun l' => false = true → l' = ((0 : Nat) : Int) - ((1 + zX ks : Nat) : Int)) (fn := Try.f102) rfl rfl rfl rfl ?_
  refine ⟨_, gF (zTv op), ?_⟩
  rw [ewl]
  refine ⟨fun _ => ?_, fun h => by simp at h⟩
  exact ⟨rfl, _, (fun h => by cases h), rfl⟩
 | succ m =>
  have ewl : IntKind.wrap .i64 (((m + 1 : Nat) : Int) - 1) = (m : Int) := by rw [wrap64 (by omega) (by omega)]; omega
  have hl := fun K => ckl (K := K) (w := w) (deep := deep) (g := g) (g2 := g2) (op := op) (n := n) ihs hr hB (by omega) ks 0 rfl (by omega) m (by omega) (by omega)
  have ed : decide (1 + zX ks ≤ m + 1) = decide (zX ks ≤ m) := by rw [Bool.eq_iff_iff]; simp only [decide_eq_true_eq]; omega
  rw [ed]
  refine zTc (E := fun l => [xC (g2 + 1) bs ds w l]) (P := fun l' => (u6 op ks.length && x4 bs w deep op n ks.length && gD bs w op deep 0 ks && decide (zX ks ≤ m)) = true → l' = ((m + 1 : Nat) : Int) - ((1 + zX ks : Nat) : Int)) (fn := Try.f102) rfl rfl rfl rfl ?_
  refine ⟨_, gF (zTv op), ?_⟩
  rw [ewl]
  refine ⟨fun h => by simp at h; omega, fun _ => ?_⟩
  refine ⟨fun h3 => ?_, fun h3 => ?_⟩
  ·have h3 : (dX op == -1) = true := h3
   rw [h3, Bool.true_or] at hh
   rw [v6 hh.symm, Bool.false_and, Bool.false_and, Bool.false_and]
   exact ⟨rfl, _, (fun h => by cases h), rfl⟩
  have h3 : (dX op == -1) = false := h3
  rw [h3, Bool.false_or] at hh
  refine ⟨fun h5 => ?_, fun h5 => ?_⟩
  ·rw [show decide (dX op ≥ 0) = true from h5, Bool.true_and] at hh
   refine ⟨fun h6 => ?_, fun h6 => ?_⟩
   ·rw [show (!((ks.length : Int) == dX op)) = true from h6] at hh
    rw [v6 hh.symm, Bool.false_and, Bool.false_and, Bool.false_and]
    exact ⟨rfl, _, (fun h => by cases h), rfl⟩
   ·rw [show (!((ks.length : Int) == dX op)) = false from h6] at hh
    rw [v1 hh.symm, Bool.true_and]
    refine ⟨fun h => ?_, fun n1 => ?_⟩
    ·have h := eq_of_beq h
     subst h
     refine ⟨_, xZ (zEe n), ?_⟩
     rw [show x4 bs w deep 1 n ks.length = (bB n) from rfl]
     refine ⟨fun hq => ?_, fun hq => ?_⟩
     ·rw [v6 hq, Bool.false_and, Bool.false_and]
      exact ⟨rfl, _, (fun h => by cases h), rfl⟩
     ·rw [v1 hq, Bool.true_and]
      refine yE cx0 _ RT [125, 124, 123, 0, 2, 4, 6] fun jk => ?_
      refine hl _ (fun jk j l' ho hl' => ?_) (fun jk j l' ho => ?_) jk
      ·rw [ho]
       exact ⟨rfl, _, (fun _ => by rw [hl']; omega), rfl⟩
      ·rw [ho]
       exact ⟨rfl, _, (fun h => by cases h), rfl⟩
    refine ⟨fun h => ?_, fun n18 => ?_⟩
    ·have h := eq_of_beq h
     subst h
     refine ⟨_, xZ (zEe n), ?_⟩
     rw [show x4 bs w deep 18 n ks.length = (bB n) from rfl]
     refine ⟨fun hq => ?_, fun hq => ?_⟩
     ·rw [v6 hq, Bool.false_and, Bool.false_and]
      exact ⟨rfl, _, (fun h => by cases h), rfl⟩
     ·rw [v1 hq, Bool.true_and]
      refine yE cx0 _ RT [125, 124, 123, 0, 2, 4, 6] fun jk => ?_
      refine hl _ (fun jk j l' ho hl' => ?_) (fun jk j l' ho => ?_) jk
      ·rw [ho]
       exact ⟨rfl, _, (fun _ => by rw [hl']; omega), rfl⟩
      ·rw [ho]
       exact ⟨rfl, _, (fun h => by cases h), rfl⟩
    refine ⟨fun h => ?_, fun n2 => ?_⟩
    ·have h := eq_of_beq h
     subst h
     have ew : IntKind.wrap .i64 ((deep : Int) - 1) = (deep : Int) - 1 := wrap64 (by omega) (by omega)
     refine ⟨_, xZ (aK _ _ _), ?_⟩
     rw [ew]
     rw [show x4 bs w deep 2 n ks.length = (decide (n ≥ 0) && decide (n ≤ (deep : Int) - 1)) from rfl]
     refine ⟨fun hq => ?_, fun hq => ?_⟩
     ·rw [v6 hq, Bool.false_and, Bool.false_and]
      exact ⟨rfl, _, (fun h => by cases h), rfl⟩
     ·rw [v1 hq, Bool.true_and]
      refine yE cx0 _ RT [125, 124, 123, 0, 2, 4, 6] fun jk => ?_
      refine hl _ (fun jk j l' ho hl' => ?_) (fun jk j l' ho => ?_) jk
      ·rw [ho]
       exact ⟨rfl, _, (fun _ => by rw [hl']; omega), rfl⟩
      ·rw [ho]
       exact ⟨rfl, _, (fun h => by cases h), rfl⟩
    refine ⟨fun h => ?_, fun n3 => ?_⟩
    ·have h := eq_of_beq h
     subst h
     obtain ⟨r, hr3⟩ := m6 hB (aF hw)
     have hf := hF.2 _ (List.mem_of_getElem? (aF hw))
     have ew : IntKind.wrap .i64 ((bs.getD w (0, zIr)).1 - 1) = (bs.getD w (0, zIr)).1 - 1 := wrap64 (by omega) (by omega)
     refine ⟨⟨by omega, by omega⟩, ?_⟩
     refine ⟨by show 0 ≤ _; omega, ?_⟩
     refine ⟨(bs.getD w (0, zIr)).1, ⟨?_, rfl⟩, ?_⟩
     ·show ((ds.drop ((w : Int).toNat * 4)).drop 0).take 1 = _
      rw [show (w : Int).toNat = w from rfl, hr3]; rfl
     refine ⟨_, xZ (aK _ _ _), ?_⟩
     rw [ew]
     rw [show x4 bs w deep 3 n ks.length = (decide (n ≥ 0) && decide (n ≤ (bs.getD w (0, zIr)).1 - 1)) from rfl]
     refine ⟨fun hq => ?_, fun hq => ?_⟩
     ·rw [v6 hq, Bool.false_and, Bool.false_and]
      exact ⟨rfl, _, (fun h => by cases h), rfl⟩
     ·rw [v1 hq, Bool.true_and]
      refine yE cx0 _ RT [125, 124, 123, 0, 2, 4, 6] fun jk => ?_
      refine hl _ (fun jk j l' ho hl' => ?_) (fun jk j l' ho => ?_) jk
      ·rw [ho]
       exact ⟨rfl, _, (fun _ => by rw [hl']; omega), rfl⟩
      ·rw [ho]
       exact ⟨rfl, _, (fun h => by cases h), rfl⟩
    refine ⟨fun h => ?_, fun n4 => ?_⟩
    ·have h := eq_of_beq h
     subst h
     refine ⟨fun hg => ?_, fun hg => ?_⟩
     ·have hg : (n == 0) = true := hg
      have e4 : x4 bs w deep 4 n ks.length = decide ((w : Int) > 0) := by
       show ((n == 0) && decide (0 < w)) = _
       rw [hg, Bool.true_and, Bool.eq_iff_iff]; simp only [decide_eq_true_eq]; omega
      rw [show x4 bs w deep 4 n ks.length = (decide ((w : Int) > 0)) from e4]
      refine ⟨fun hq => ?_, fun hq => ?_⟩
      ·rw [v6 hq, Bool.false_and, Bool.false_and]
       exact ⟨rfl, _, (fun h => by cases h), rfl⟩
      ·rw [v1 hq, Bool.true_and]
       refine yE cx0 _ RT [125, 124, 123, 0, 2, 4, 6] fun jk => ?_
       refine hl _ (fun jk j l' ho hl' => ?_) (fun jk j l' ho => ?_) jk
       ·rw [ho]
        exact ⟨rfl, _, (fun _ => by rw [hl']; omega), rfl⟩
       ·rw [ho]
        exact ⟨rfl, _, (fun h => by cases h), rfl⟩
     ·have hg : (n == 0) = false := hg
      rw [show x4 bs w deep 4 n ks.length = false by show ((n == 0) && decide (0 < w)) = false; rw [hg]; rfl, Bool.false_and, Bool.false_and]
      exact ⟨rfl, _, (fun h => by cases h), rfl⟩
    refine ⟨fun h => ?_, fun n5 => ?_⟩
    ·have h := eq_of_beq h
     subst h
     have hF1 := hF.1
     have ew : IntKind.wrap .i64 ((bs.length : Int) - 1) = (bs.length : Int) - 1 := wrap64 (by omega) (by omega)
     refine ⟨_, xZ (aK _ _ _), ?_⟩
     rw [ew]
     have en : x4 bs w deep 5 n ks.length = ((decide (n ≥ 1) && decide (n ≤ (bs.length : Int) - 1)) && (ks.length : Int) == nN bs n.toNat) := rfl
     refine ⟨fun hg => ?_, fun hg => ?_⟩
     ·rw [hg, Bool.true_and] at en
      simp only [Bool.and_eq_true, decide_eq_true_eq] at hg
      have hn : n.toNat < bs.length := by omega
      obtain ⟨r, hr3⟩ := m6 hB (aF hn)
      refine ⟨⟨by omega, by omega⟩, ?_⟩
      refine ⟨by show 0 ≤ _; omega, ?_⟩
      refine ⟨(bs.getD n.toNat (0, zIr)).1, ⟨?_, rfl⟩, ?_⟩
      ·show ((ds.drop (n.toNat * 4)).drop 0).take 1 = _
       rw [hr3]; rfl
      rw [show x4 bs w deep 5 n ks.length = ((ks.length : Int) == (bs.getD n.toNat (0, zIr)).1) from en]
      refine ⟨fun hq => ?_, fun hq => ?_⟩
      ·rw [v6 hq, Bool.false_and, Bool.false_and]
       exact ⟨rfl, _, (fun h => by cases h), rfl⟩
      ·rw [v1 hq, Bool.true_and]
       refine yE cx0 _ RT [125, 124, 123, 0, 2, 4, 6] fun jk => ?_
       refine hl _ (fun jk j l' ho hl' => ?_) (fun jk j l' ho => ?_) jk
       ·rw [ho]
        exact ⟨rfl, _, (fun _ => by rw [hl']; omega), rfl⟩
       ·rw [ho]
        exact ⟨rfl, _, (fun h => by cases h), rfl⟩
     ·rw [hg, Bool.false_and] at en
      rw [en, Bool.false_and, Bool.false_and]
      exact ⟨rfl, _, (fun h => by cases h), rfl⟩
    refine ⟨fun h => ?_, fun n14 => ?_⟩
    ·have h := eq_of_beq h
     subst h
     refine ⟨_, xZ (aK _ _ _), ?_⟩
     rw [show x4 bs w deep 14 n ks.length = (decide (n ≥ 0) && decide (n ≤ 1073741823)) from rfl]
     refine ⟨fun hq => ?_, fun hq => ?_⟩
     ·rw [v6 hq, Bool.false_and, Bool.false_and]
      exact ⟨rfl, _, (fun h => by cases h), rfl⟩
     ·rw [v1 hq, Bool.true_and]
      refine yE cx0 _ RT [125, 124, 123, 0, 2, 4, 6] fun jk => ?_
      refine hl _ (fun jk j l' ho hl' => ?_) (fun jk j l' ho => ?_) jk
      ·rw [ho]
       exact ⟨rfl, _, (fun _ => by rw [hl']; omega), rfl⟩
      ·rw [ho]
       exact ⟨rfl, _, (fun h => by cases h), rfl⟩
    refine ⟨fun h => ?_, fun n16 => ?_⟩
    ·have h := eq_of_beq h
     subst h
     refine ⟨_, xZ (aK _ _ _), ?_⟩
     rw [show x4 bs w deep 16 n ks.length = (decide (n ≥ 0) && decide (n ≤ 1073741823)) from rfl]
     refine ⟨fun hq => ?_, fun hq => ?_⟩
     ·rw [v6 hq, Bool.false_and, Bool.false_and]
      exact ⟨rfl, _, (fun h => by cases h), rfl⟩
     ·rw [v1 hq, Bool.true_and]
      refine yE cx0 _ RT [125, 124, 123, 0, 2, 4, 6] fun jk => ?_
      refine hl _ (fun jk j l' ho hl' => ?_) (fun jk j l' ho => ?_) jk
      ·rw [ho]
       exact ⟨rfl, _, (fun _ => by rw [hl']; omega), rfl⟩
      ·rw [ho]
       exact ⟨rfl, _, (fun h => by cases h), rfl⟩
    refine ⟨fun h => ?_, fun n17 => ?_⟩
    ·have h := eq_of_beq h
     subst h
     refine ⟨_, xZ (aK _ _ _), ?_⟩
     rw [show x4 bs w deep 17 n ks.length = (decide (n ≥ 0) && decide (n ≤ 1073741823)) from rfl]
     refine ⟨fun hq => ?_, fun hq => ?_⟩
     ·rw [v6 hq, Bool.false_and, Bool.false_and]
      exact ⟨rfl, _, (fun h => by cases h), rfl⟩
     ·rw [v1 hq, Bool.true_and]
      refine yE cx0 _ RT [125, 124, 123, 0, 2, 4, 6] fun jk => ?_
      refine hl _ (fun jk j l' ho hl' => ?_) (fun jk j l' ho => ?_) jk
      ·rw [ho]
       exact ⟨rfl, _, (fun _ => by rw [hl']; omega), rfl⟩
      ·rw [ho]
       exact ⟨rfl, _, (fun h => by cases h), rfl⟩
    have en : x4 bs w deep op n ks.length = (n == 0) := by
     unfold x4
     rw [if_neg (by simp_all), if_neg (by simp_all), if_neg (by simp_all), if_neg (by simp_all), if_neg (by simp_all), if_neg (by simp_all)]
    rw [show x4 bs w deep op n ks.length = (n == 0) from en]
    refine ⟨fun hq => ?_, fun hq => ?_⟩
    ·rw [v6 hq, Bool.false_and, Bool.false_and]
     exact ⟨rfl, _, (fun h => by cases h), rfl⟩
    ·rw [v1 hq, Bool.true_and]
     refine yE cx0 _ RT [125, 124, 123, 0, 2, 4, 6] fun jk => ?_
     refine hl _ (fun jk j l' ho hl' => ?_) (fun jk j l' ho => ?_) jk
     ·rw [ho]
      exact ⟨rfl, _, (fun _ => by rw [hl']; omega), rfl⟩
     ·rw [ho]
      exact ⟨rfl, _, (fun h => by cases h), rfl⟩
  ·rw [show decide (dX op ≥ 0) = false from h5, Bool.false_and] at hh
   rw [v1 hh.symm, Bool.true_and]
   refine ⟨fun h => ?_, fun n1 => ?_⟩
   ·have h := eq_of_beq h
    subst h
    refine ⟨_, xZ (zEe n), ?_⟩
    rw [show x4 bs w deep 1 n ks.length = (bB n) from rfl]
    refine ⟨fun hq => ?_, fun hq => ?_⟩
    ·rw [v6 hq, Bool.false_and, Bool.false_and]
     exact ⟨rfl, _, (fun h => by cases h), rfl⟩
    ·rw [v1 hq, Bool.true_and]
     refine yE cx0 _ RT [125, 124, 123, 0, 2, 4, 6] fun jk => ?_
     refine hl _ (fun jk j l' ho hl' => ?_) (fun jk j l' ho => ?_) jk
     ·rw [ho]
      exact ⟨rfl, _, (fun _ => by rw [hl']; omega), rfl⟩
     ·rw [ho]
      exact ⟨rfl, _, (fun h => by cases h), rfl⟩
   refine ⟨fun h => ?_, fun n18 => ?_⟩
   ·have h := eq_of_beq h
    subst h
    refine ⟨_, xZ (zEe n), ?_⟩
    rw [show x4 bs w deep 18 n ks.length = (bB n) from rfl]
    refine ⟨fun hq => ?_, fun hq => ?_⟩
    ·rw [v6 hq, Bool.false_and, Bool.false_and]
     exact ⟨rfl, _, (fun h => by cases h), rfl⟩
    ·rw [v1 hq, Bool.true_and]
     refine yE cx0 _ RT [125, 124, 123, 0, 2, 4, 6] fun jk => ?_
     refine hl _ (fun jk j l' ho hl' => ?_) (fun jk j l' ho => ?_) jk
     ·rw [ho]
      exact ⟨rfl, _, (fun _ => by rw [hl']; omega), rfl⟩
     ·rw [ho]
      exact ⟨rfl, _, (fun h => by cases h), rfl⟩
   refine ⟨fun h => ?_, fun n2 => ?_⟩
   ·have h := eq_of_beq h
    subst h
    have ew : IntKind.wrap .i64 ((deep : Int) - 1) = (deep : Int) - 1 := wrap64 (by omega) (by omega)
    refine ⟨_, xZ (aK _ _ _), ?_⟩
    rw [ew]
    rw [show x4 bs w deep 2 n ks.length = (decide (n ≥ 0) && decide (n ≤ (deep : Int) - 1)) from rfl]
    refine ⟨fun hq => ?_, fun hq => ?_⟩
    ·rw [v6 hq, Bool.false_and, Bool.false_and]
     exact ⟨rfl, _, (fun h => by cases h), rfl⟩
    ·rw [v1 hq, Bool.true_and]
     refine yE cx0 _ RT [125, 124, 123, 0, 2, 4, 6] fun jk => ?_
     refine hl _ (fun jk j l' ho hl' => ?_) (fun jk j l' ho => ?_) jk
     ·rw [ho]
      exact ⟨rfl, _, (fun _ => by rw [hl']; omega), rfl⟩
     ·rw [ho]
      exact ⟨rfl, _, (fun h => by cases h), rfl⟩
   refine ⟨fun h => ?_, fun n3 => ?_⟩
   ·have h := eq_of_beq h
    subst h
    obtain ⟨r, hr3⟩ := m6 hB (aF hw)
    have hf := hF.2 _ (List.mem_of_getElem? (aF hw))
    have ew : IntKind.wrap .i64 ((bs.getD w (0, zIr)).1 - 1) = (bs.getD w (0, zIr)).1 - 1 := wrap64 (by omega) (by omega)
    refine ⟨⟨by omega, by omega⟩, ?_⟩
    refine ⟨by show 0 ≤ _; omega, ?_⟩
    refine ⟨(bs.getD w (0, zIr)).1, ⟨?_, rfl⟩, ?_⟩
    ·show ((ds.drop ((w : Int).toNat * 4)).drop 0).take 1 = _
     rw [show (w : Int).toNat = w from rfl, hr3]; rfl
    refine ⟨_, xZ (aK _ _ _), ?_⟩
    rw [ew]
    rw [show x4 bs w deep 3 n ks.length = (decide (n ≥ 0) && decide (n ≤ (bs.getD w (0, zIr)).1 - 1)) from rfl]
    refine ⟨fun hq => ?_, fun hq => ?_⟩
    ·rw [v6 hq, Bool.false_and, Bool.false_and]
     exact ⟨rfl, _, (fun h => by cases h), rfl⟩
    ·rw [v1 hq, Bool.true_and]
     refine yE cx0 _ RT [125, 124, 123, 0, 2, 4, 6] fun jk => ?_
     refine hl _ (fun jk j l' ho hl' => ?_) (fun jk j l' ho => ?_) jk
     ·rw [ho]
      exact ⟨rfl, _, (fun _ => by rw [hl']; omega), rfl⟩
     ·rw [ho]
      exact ⟨rfl, _, (fun h => by cases h), rfl⟩
   refine ⟨fun h => ?_, fun n4 => ?_⟩
   ·have h := eq_of_beq h
    subst h
    refine ⟨fun hg => ?_, fun hg => ?_⟩
    ·have hg : (n == 0) = true := hg
     have e4 : x4 bs w deep 4 n ks.length = decide ((w : Int) > 0) := by
      show ((n == 0) && decide (0 < w)) = _
      rw [hg, Bool.true_and, Bool.eq_iff_iff]; simp only [decide_eq_true_eq]; omega
     rw [show x4 bs w deep 4 n ks.length = (decide ((w : Int) > 0)) from e4]
     refine ⟨fun hq => ?_, fun hq => ?_⟩
     ·rw [v6 hq, Bool.false_and, Bool.false_and]
      exact ⟨rfl, _, (fun h => by cases h), rfl⟩
     ·rw [v1 hq, Bool.true_and]
      refine yE cx0 _ RT [125, 124, 123, 0, 2, 4, 6] fun jk => ?_
      refine hl _ (fun jk j l' ho hl' => ?_) (fun jk j l' ho => ?_) jk
      ·rw [ho]
       exact ⟨rfl, _, (fun _ => by rw [hl']; omega), rfl⟩
      ·rw [ho]
       exact ⟨rfl, _, (fun h => by cases h), rfl⟩
    ·have hg : (n == 0) = false := hg
     rw [show x4 bs w deep 4 n ks.length = false by show ((n == 0) && decide (0 < w)) = false; rw [hg]; rfl, Bool.false_and, Bool.false_and]
     exact ⟨rfl, _, (fun h => by cases h), rfl⟩
   refine ⟨fun h => ?_, fun n5 => ?_⟩
   ·have h := eq_of_beq h
    subst h
    have hF1 := hF.1
    have ew : IntKind.wrap .i64 ((bs.length : Int) - 1) = (bs.length : Int) - 1 := wrap64 (by omega) (by omega)
    refine ⟨_, xZ (aK _ _ _), ?_⟩
    rw [ew]
    have en : x4 bs w deep 5 n ks.length = ((decide (n ≥ 1) && decide (n ≤ (bs.length : Int) - 1)) && (ks.length : Int) == nN bs n.toNat) := rfl
    refine ⟨fun hg => ?_, fun hg => ?_⟩
    ·rw [hg, Bool.true_and] at en
     simp only [Bool.and_eq_true, decide_eq_true_eq] at hg
     have hn : n.toNat < bs.length := by omega
     obtain ⟨r, hr3⟩ := m6 hB (aF hn)
     refine ⟨⟨by omega, by omega⟩, ?_⟩
     refine ⟨by show 0 ≤ _; omega, ?_⟩
     refine ⟨(bs.getD n.toNat (0, zIr)).1, ⟨?_, rfl⟩, ?_⟩
     ·show ((ds.drop (n.toNat * 4)).drop 0).take 1 = _
      rw [hr3]; rfl
     rw [show x4 bs w deep 5 n ks.length = ((ks.length : Int) == (bs.getD n.toNat (0, zIr)).1) from en]
     refine ⟨fun hq => ?_, fun hq => ?_⟩
     ·rw [v6 hq, Bool.false_and, Bool.false_and]
      exact ⟨rfl, _, (fun h => by cases h), rfl⟩
     ·rw [v1 hq, Bool.true_and]
      refine yE cx0 _ RT [125, 124, 123, 0, 2, 4, 6] fun jk => ?_
      refine hl _ (fun jk j l' ho hl' => ?_) (fun jk j l' ho => ?_) jk
      ·rw [ho]
       exact ⟨rfl, _, (fun _ => by rw [hl']; omega), rfl⟩
      ·rw [ho]
       exact ⟨rfl, _, (fun h => by cases h), rfl⟩
    ·rw [hg, Bool.false_and] at en
     rw [en, Bool.false_and, Bool.false_and]
     exact ⟨rfl, _, (fun h => by cases h), rfl⟩
   refine ⟨fun h => ?_, fun n14 => ?_⟩
   ·have h := eq_of_beq h
    subst h
    refine ⟨_, xZ (aK _ _ _), ?_⟩
    rw [show x4 bs w deep 14 n ks.length = (decide (n ≥ 0) && decide (n ≤ 1073741823)) from rfl]
    refine ⟨fun hq => ?_, fun hq => ?_⟩
    ·rw [v6 hq, Bool.false_and, Bool.false_and]
     exact ⟨rfl, _, (fun h => by cases h), rfl⟩
    ·rw [v1 hq, Bool.true_and]
     refine yE cx0 _ RT [125, 124, 123, 0, 2, 4, 6] fun jk => ?_
     refine hl _ (fun jk j l' ho hl' => ?_) (fun jk j l' ho => ?_) jk
     ·rw [ho]
      exact ⟨rfl, _, (fun _ => by rw [hl']; omega), rfl⟩
     ·rw [ho]
      exact ⟨rfl, _, (fun h => by cases h), rfl⟩
   refine ⟨fun h => ?_, fun n16 => ?_⟩
   ·have h := eq_of_beq h
    subst h
    refine ⟨_, xZ (aK _ _ _), ?_⟩
    rw [show x4 bs w deep 16 n ks.length = (decide (n ≥ 0) && decide (n ≤ 1073741823)) from rfl]
    refine ⟨fun hq => ?_, fun hq => ?_⟩
    ·rw [v6 hq, Bool.false_and, Bool.false_and]
     exact ⟨rfl, _, (fun h => by cases h), rfl⟩
    ·rw [v1 hq, Bool.true_and]
     refine yE cx0 _ RT [125, 124, 123, 0, 2, 4, 6] fun jk => ?_
     refine hl _ (fun jk j l' ho hl' => ?_) (fun jk j l' ho => ?_) jk
     ·rw [ho]
      exact ⟨rfl, _, (fun _ => by rw [hl']; omega), rfl⟩
     ·rw [ho]
      exact ⟨rfl, _, (fun h => by cases h), rfl⟩
   refine ⟨fun h => ?_, fun n17 => ?_⟩
   ·have h := eq_of_beq h
    subst h
    refine ⟨_, xZ (aK _ _ _), ?_⟩
    rw [show x4 bs w deep 17 n ks.length = (decide (n ≥ 0) && decide (n ≤ 1073741823)) from rfl]
    refine ⟨fun hq => ?_, fun hq => ?_⟩
    ·rw [v6 hq, Bool.false_and, Bool.false_and]
     exact ⟨rfl, _, (fun h => by cases h), rfl⟩
    ·rw [v1 hq, Bool.true_and]
     refine yE cx0 _ RT [125, 124, 123, 0, 2, 4, 6] fun jk => ?_
     refine hl _ (fun jk j l' ho hl' => ?_) (fun jk j l' ho => ?_) jk
     ·rw [ho]
      exact ⟨rfl, _, (fun _ => by rw [hl']; omega), rfl⟩
     ·rw [ho]
      exact ⟨rfl, _, (fun h => by cases h), rfl⟩
   have en : x4 bs w deep op n ks.length = (n == 0) := by
    unfold x4
    rw [if_neg (by simp_all), if_neg (by simp_all), if_neg (by simp_all), if_neg (by simp_all), if_neg (by simp_all), if_neg (by simp_all)]
   rw [show x4 bs w deep op n ks.length = (n == 0) from en]
   refine ⟨fun hq => ?_, fun hq => ?_⟩
   ·rw [v6 hq, Bool.false_and, Bool.false_and]
    exact ⟨rfl, _, (fun h => by cases h), rfl⟩
   ·rw [v1 hq, Bool.true_and]
    refine yE cx0 _ RT [125, 124, 123, 0, 2, 4, 6] fun jk => ?_
    refine hl _ (fun jk j l' ho hl' => ?_) (fun jk j l' ho => ?_) jk
    ·rw [ho]
     exact ⟨rfl, _, (fun _ => by rw [hl']; omega), rfl⟩
    ·rw [ho]
     exact ⟨rfl, _, (fun h => by cases h), rfl⟩
end Go.Proofs.Ytlkjnlfddadlmaa.V
