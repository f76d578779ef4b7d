/-
  The law FnExactFoldable holds for every input: the call returns true, and the input reads as it did. No conditions.
-/
import Derived.Test.YtlkjnlfddadlmaaMPFoldableb
import Derived.Test.YtlkjnlfddadlmaaMPFoldabled
import Derived.Test.YtlkjnlfddadlmaaRows
import Derived.WalkKit
import Derived.ProofKit
import Derived.OpenShut
import Derived.ChangeOld
import Derived.Below
set_option linter.unusedVariables false
set_option linter.unusedSimpArgs false
namespace Go.Proofs.Ytlkjnlfddadlmaa.V
set_option maxRecDepth 100000

/-- The last place of a name among the first k; -1: there is none. -/
def plF (l : List Nm) (s : Nm) : Nat → Int
  | 0 => -1
  | k + 1 => if (l[k]? == some s) then k else plF l s k

def varOk (x y : List Nm) (s s' : Nm) : Bool := plF x s x.length == plF y s' y.length && !(decide (plF x s x.length < 0) && !(s == s'))

mutual
def alC : Co → Co → List Nm → List Nm → Bool
  | .mk op n s t ks, b, x, y => match b with
    | .mk op' n' s' t' ks' => (op == op' && n == n' && ks.length == ks'.length) && (!(op == 2) || varOk x y s s') && alL op s t op' s' t' 0 ks ks' x y
def alL (op : Int) (s t : Nm) (op' : Int) (s' t' : Nm) : Nat → List Co → List Co → List Nm → List Nm → Bool
  | _, [], _, _, _ => true
  | _, _ :: _, [], _, _ => true
  | i, c :: l, c' :: l', x, y => alC c c' (x ++ envS op s t i) (y ++ envS op' s' t' i) && alL op s t op' s' t' (i + 1) l l' x y
end

theorem wrapM {k : Nat} (h : k ≤ 8388608) : IntKind.wrap .i64 (((k + 1 : Nat) : Int) - 1) = (k : Int) := by rw [wrap64 (by omega) (by omega)]; omega
theorem wrapM0 : IntKind.wrap .i64 (((0 : Nat) : Int) - 1) = -1 := by rw [wrap64 (by omega) (by omega)]; rfl

theorem lpl_s {l : List Nm} {s : Nm} {g : Nat} {K : Ex → StA → Prop} (hk : l.length ≤ 8388608) : ∀ (k : Nat), k ≤ l.length →
    (∀ jk, K (.exit 0) ⟨[(5, xi (plF l s k)), (0, xl (g + 1) 1 l.length (nm l)), (1, xs s)], jk, []⟩) →
    ∀ jk, sem cx0 124 RT (.loop (lp Try.f124 0)) ⟨[(5, xi (IntKind.wrap .i64 ((k : Int) - 1))), (0, xl (g + 1) 1 l.length (nm l)), (1, xs s)], jk, []⟩ K := by
  intro k
  induction k with
  | zero =>
    intro _ k1 jk
    rw [wrapM0]
    refine loop_step cx0 _ RT [5, 0, 1] ⟨fun h => by simp at h, fun h => ?_⟩
    exact fun jk => k1 jk
  | succ k ih =>
    intro hkl k1 jk
    have hi : l[k]? = some l[k] := List.getElem?_eq_getElem (by omega)
    rw [wrapM (by omega)]
    refine loop_step cx0 _ RT [5, 0, 1] ⟨fun h => ?_, fun h => by simp at h⟩
    refine ⟨⟨by omega, by omega⟩, ?_⟩
    refine ⟨l[k], ⟨nm_at hi, rfl⟩, ?_⟩
    refine ⟨fun h2 => ?_, fun h2 => ?_⟩
    · intro jk
      refine ih (by omega) (fun jk => ?_) jk
      have := k1 jk
      have hne : ¬ l[k] = s := by simpa using h2
      rwa [show plF l s (k + 1) = plF l s k by simp only [plF, hi]; simp [hne]] at this
    · intro jk
      have := k1 jk
      have heq : l[k] = s := by simpa using h2
      rwa [show plF l s (k + 1) = k by simp only [plF, hi]; simp [heq]] at this

theorem pl_s {l : List Nm} {s : Nm} {g : Nat} {cs : List TU} (hc : cs = nm l) (hk : l.length ≤ 8388608) : RT 124 [xl (g + 1) 1 l.length cs, xs s] [] = some (xi (plF l s l.length), []) := by
  subst hc
  refine fn_is (fn := Try.f124) rfl rfl rfl rfl ?_
  refine sem_in cx0 _ RT [5, 0, 1] fun jk => ?_
  refine lpl_s hk l.length (Nat.le_refl _) (fun jk => ?_) jk
  exact ⟨rfl, rfl⟩

theorem lpl_i {l : List Nm} {s : Nm} {g : Nat} {K : Ex → StA → Prop} (hk : l.length ≤ 8388608) : ∀ (k : Nat), k ≤ l.length →
    (∀ jk j, plF l s k = -1 → K (.exit 0) ⟨[(5, xi j), (0, xl (g + 1) 1 l.length (nm l)), (1, xs s), (4, xi 0)], jk, []⟩) →
    (∀ jk j, K .ret ⟨[(5, xi j), (0, xl (g + 1) 1 l.length (nm l)), (1, xs s), (4, xi (plF l s k))], jk, []⟩) →
    ∀ jk, sem cx0 125 RT (.loop (lp Try.f125 0)) ⟨[(5, xi (IntKind.wrap .i64 ((k : Int) - 1))), (0, xl (g + 1) 1 l.length (nm l)), (1, xs s), (4, xi 0)], jk, []⟩ K := by
  intro k
  induction k with
  | zero =>
    intro _ k1 k2 jk
    rw [wrapM0]
    refine loop_step cx0 _ RT [5, 0, 1, 4] ⟨fun h => by simp at h, fun h => ?_⟩
    exact fun jk => k1 jk _ rfl
  | succ k ih =>
    intro hkl k1 k2 jk
    have hi : l[k]? = some l[k] := List.getElem?_eq_getElem (by omega)
    rw [wrapM (by omega)]
    refine loop_step cx0 _ RT [5, 0, 1, 4] ⟨fun h => ?_, fun h => by simp at h⟩
    refine ⟨⟨by omega, by omega⟩, ?_⟩
    refine ⟨l[k], ⟨nm_at hi, rfl⟩, ?_⟩
    refine ⟨fun h2 => ?_, fun h2 => ?_⟩
    · have heq : l[k] = s := by simpa using h2
      have e : plF l s (k + 1) = k := by simp only [plF, hi]; simp [heq]
      rw [e] at k2
      exact fun jk => k2 jk _
    · have hne : ¬ l[k] = s := by simpa using h2
      have e : plF l s (k + 1) = plF l s k := by simp only [plF, hi]; simp [hne]
      rw [e] at k1 k2
      exact fun jk => ih (by omega) k1 k2 jk

theorem pl_i {l : List Nm} {s : Nm} {g : Nat} {cs : List TU} (hc : cs = nm l) (hk : l.length ≤ 8388608) : RT 125 [xl (g + 1) 1 l.length cs, xs s] [] = some (xi (plF l s l.length), []) := by
  subst hc
  refine fn_is (fn := Try.f125) rfl rfl rfl rfl ?_
  refine sem_in cx0 _ RT [5, 0, 1, 4] fun jk => ?_
  refine lpl_i hk l.length (Nat.le_refl _) (fun jk j h => ?_) (fun jk j => ?_) jk
  · rw [h]; exact ⟨rfl, rfl⟩
  · exact ⟨rfl, rfl⟩
end Go.Proofs.Ytlkjnlfddadlmaa.V

namespace Go.Proofs.Ytlkjnlfddadlmaa.V
set_option maxRecDepth 100000

def SalS (a : Co) : Prop := ∀ us b vs x y gx gy cx cy, szC a ≤ 1048576 → szC b ≤ 1048576 → x.length + 2 * szC a ≤ 4194304 → y.length + 2 * szC a ≤ 4194304 → cx = nm x → cy = nm y → Rd a us → Rd b vs →
  RT 89 [xc us, xc vs, xl (gx + 1) 1 x.length cx, xl (gy + 1) 1 y.length cy] [] = some (xb (alC a b x y), [])

theorem lal_s {ks ks' : List Co} {cs cs' : List TU} {g g' gx gy : Nat} {op n op' n' : Int} {s t s' t' : List UInt8} {x y : List Nm} {K : Ex → StA → Prop} (H : ∀ c ∈ ks, SalS c) (hz : szCs ks ≤ 1048576) (hz' : szCs ks' ≤ 1048576) (hx : x.length + 2 * szCs ks ≤ 4194304) (hy : y.length + 2 * szCs ks ≤ 4194304)
    (hl : ks.length = ks'.length) (hr : Rds ks cs) (hr' : Rds ks' cs') :
    ∀ (l : List Co) (i : Nat), ks.drop i = l → i ≤ ks.length →
    (∀ jk j, alL op s t op' s' t' i l (ks'.drop i) x y = true → K (.exit 0) ⟨[(11, xi j), (2, xl (gx + 1) 1 x.length (nm x)), (3, xl (gy + 1) 1 y.length (nm y)), (4, .box () ((core op n s t (g + 1) ks.length cs).map .t)), (5, .box () ((core op' n' s' t' (g' + 1) ks'.length cs').map .t)), (8, xb false)], jk, []⟩) →
    (∀ jk j, alL op s t op' s' t' i l (ks'.drop i) x y = false → K .ret ⟨[(11, xi j), (2, xl (gx + 1) 1 x.length (nm x)), (3, xl (gy + 1) 1 y.length (nm y)), (4, .box () ((core op n s t (g + 1) ks.length cs).map .t)), (5, .box () ((core op' n' s' t' (g' + 1) ks'.length cs').map .t)), (8, xb false)], jk, []⟩) →
    ∀ jk, sem cx0 89 RT (.loop (lp Try.f89 0)) ⟨[(11, xi i), (2, xl (gx + 1) 1 x.length (nm x)), (3, xl (gy + 1) 1 y.length (nm y)), (4, .box () ((core op n s t (g + 1) ks.length cs).map .t)), (5, .box () ((core op' n' s' t' (g' + 1) ks'.length cs').map .t)), (8, xb false)], jk, []⟩ K := by
  have hk := szCs_le hz
  refine drop_ind ?_ ?_
  · intro k1 k2 jk
    refine loop_step cx0 _ RT [11, 2, 3, 4, 5, 8] ⟨fun h => (lt_no h (by omega)).elim, fun h => ?_⟩
    exact fun jk => k1 jk _ (by simp only [alL])
  · intro i c l hi hil ih k1 k2 jk
    have hm := List.mem_of_getElem? hi
    have hc := H c hm
    have hzc := szCs_mem hz hm
    have hz1 := szCs_mem1 hm
    have hil' : i < ks'.length := by omega
    have hi' : ks'[i]? = some ks'[i] := List.getElem?_eq_getElem hil'
    have hd' : ks'.drop i = ks'[i] :: ks'.drop (i + 1) := List.drop_eq_getElem_cons hil'
    have hm' := List.mem_of_getElem? hi'
    have hzc' := szCs_mem hz' hm'
    generalize ks'[i] = c' at hi' hd' hm' hzc'
    rw [hd'] at k1 k2
    have hel := envS_le (op := op) (s := s) (t := t) (i := i)
    have hel' := envS_le (op := op') (s := s') (t := t') (i := i)
    cases c with
    | mk o1 n1 s1 t1 kk =>
    cases c' with
    | mk o2 n2 s2 t2 kk' =>
    obtain ⟨ga, ca, e1, e2⟩ := Rds_get hr hi
    obtain ⟨gb, cb, e3, e4⟩ := Rds_get hr' hi'
    refine loop_step cx0 _ RT [11, 2, 3, 4, 5, 8] ⟨fun h => ?_, fun h => (lt_yes h (by omega)).elim⟩
    refine ⟨⟨by omega, by omega⟩, ?_⟩
    refine ⟨o1, n1, s1, t1, ga + 1, kk.length, ca, ⟨e1, rfl⟩, ?_⟩
    refine ⟨⟨by omega, by omega⟩, ?_⟩
    refine ⟨o2, n2, s2, t2, gb + 1, kk'.length, cb, ⟨e3, rfl⟩, ?_⟩
    obtain ⟨g3, r1⟩ := retEnv (env84 (show Rd (.mk op n s t ks) (core op n s t (g + 2) ks.length (retags cs)) from ⟨_, _, rfl, hr.retag⟩) (nm_retag x) (by omega) (i := i) (g := gx))
    refine ⟨_, r1, ?_⟩
    obtain ⟨g4, r2⟩ := retEnv (env84 (show Rd (.mk op' n' s' t' ks') (core op' n' s' t' (g' + 2) ks'.length (retags cs')) from ⟨_, _, rfl, hr'.retag⟩) (nm_retag y) (by omega) (i := i) (g := gy))
    refine ⟨_, r2, ?_⟩
    have hc2 := hc (core o1 n1 s1 t1 (ga + 2) kk.length (retags ca)) (.mk o2 n2 s2 t2 kk') (core o2 n2 s2 t2 (gb + 2) kk'.length (retags cb)) (x ++ envS op s t i) (y ++ envS op' s' t' i) g3 g4 _ _ hzc hzc' (by rw [List.length_append]; omega) (by rw [List.length_append]; omega) (nm_retag _) (nm_retag _) ⟨_, _, rfl, e2.retag⟩ ⟨_, _, rfl, e4.retag⟩
    refine ⟨_, retB hc2, ?_⟩
    refine ⟨fun h2 => ?_, fun h2 => ?_⟩
    · exact fun jk => k2 jk _ (by simp only [alL, Bool.and_eq_false_iff]; left; simpa using h2)
    · intro jk
      rw [wrapS hil (by simp only [maxLen]; omega)]
      have h2 : alC (.mk o1 n1 s1 t1 kk) (.mk o2 n2 s2 t2 kk') (x ++ envS op s t i) (y ++ envS op' s' t' i) = true := by simpa using h2
      exact ih (fun jk j h3 => k1 jk j (by simp only [alL, h2, h3, Bool.and_self])) (fun jk j h3 => k2 jk j (by simp only [alL, h3, Bool.and_false])) jk

theorem al_s : ∀ a : Co, SalS a := by
  refine Co.ind fun op n s t ks ih => ?_
  intro us b vs x y gx gy cx cy hza hzb hx hy hcx hcy hr hr'
  subst hcx hcy
  cases b with
  | mk op' n' s' t' ks' =>
  obtain ⟨g1, cs, rfl, hr⟩ := hr
  obtain ⟨g2, cs', rfl, hr'⟩ := hr'
  have hz1 : szCs ks ≤ 1048576 := by simp only [szC] at hza; omega
  have hz2 : szCs ks' ≤ 1048576 := by simp only [szC] at hzb; omega
  have hx' : x.length + 2 * szCs ks ≤ 4194304 := by simp only [szC] at hx; omega
  have hy' : y.length + 2 * szCs ks ≤ 4194304 := by simp only [szC] at hy; omega
  have no : (op == op' && n == n' && ks.length == ks'.length) = false → xb (alC (.mk op n s t ks) (.mk op' n' s' t' ks') x y) = xb false := fun h => by simp only [alC, h, Bool.false_and]
  have fin : (op == op' && n == n' && ks.length == ks'.length) = true → (!(op == 2) || varOk x y s s') = true → ∀ jk K, (∀ jk j, alC (.mk op n s t ks) (.mk op' n' s' t' ks') x y = true → K (.exit 0) ⟨[(11, xi j), (2, xl (gx + 1) 1 x.length (nm x)), (3, xl (gy + 1) 1 y.length (nm y)), (4, .box () ((core op n s t (g1 + 1) ks.length cs).map .t)), (5, .box () ((core op' n' s' t' (g2 + 1) ks'.length cs').map .t)), (8, xb false)], jk, []⟩) →
      (∀ jk j, alC (.mk op n s t ks) (.mk op' n' s' t' ks') x y = false → K .ret ⟨[(11, xi j), (2, xl (gx + 1) 1 x.length (nm x)), (3, xl (gy + 1) 1 y.length (nm y)), (4, .box () ((core op n s t (g1 + 1) ks.length cs).map .t)), (5, .box () ((core op' n' s' t' (g2 + 1) ks'.length cs').map .t)), (8, xb false)], jk, []⟩) →
      sem cx0 89 RT (.loop (lp Try.f89 0)) ⟨[(11, xi (0 : Nat)), (2, xl (gx + 1) 1 x.length (nm x)), (3, xl (gy + 1) 1 y.length (nm y)), (4, .box () ((core op n s t (g1 + 1) ks.length cs).map .t)), (5, .box () ((core op' n' s' t' (g2 + 1) ks'.length cs').map .t)), (8, xb false)], jk, []⟩ K := by
    intro h0 h1 jk K k1 k2
    have e : alC (.mk op n s t ks) (.mk op' n' s' t' ks') x y = alL op s t op' s' t' 0 ks ks' x y := by simp only [alC, h0, h1, Bool.true_and]
    rw [e] at k1 k2
    simp only [Bool.and_eq_true, beq_iff_eq] at h0
    exact lal_s (g := g1) (g' := g2) (op := op) (n := n) (s := s) (t := t) (op' := op') (n' := n') (s' := s') (t' := t') ih hz1 hz2 hx' hy' h0.2 hr hr' ks 0 rfl (by omega) k1 k2 jk
  clear ih
  refine fn_is (fn := Try.f89) rfl rfl rfl rfl ?_
  refine ⟨fun h1 => ?_, fun h1 => ?_⟩
  · exact ⟨no (by rw [show (op == op') = false by simpa using h1]; rfl), rfl⟩
  have e1 : (op == op') = true := by simpa using h1
  refine ⟨fun h2 => ?_, fun h2 => ?_⟩
  · exact ⟨no (by rw [show (n == n') = false by simpa using h2]; simp), rfl⟩
  have e2 : (n == n') = true := by simpa using h2
  refine ⟨fun h3 => ?_, fun h3 => ?_⟩
  · exact ⟨no (by rw [show (ks.length == ks'.length) = false by simp at h3 ⊢; omega]; simp), rfl⟩
  have e3 : (ks.length == ks'.length) = true := by simp at h3 ⊢; omega
  have h0 : (op == op' && n == n' && ks.length == ks'.length) = true := by rw [e1, e2, e3]; rfl
  refine ⟨fun h4 => ?_, fun h4 => ?_⟩
  · have nv : varOk x y s s' = false → xb (alC (.mk op n s t ks) (.mk op' n' s' t' ks') x y) = xb false := fun h => by simp only [alC, h, h4]; simp
    refine ⟨_, retI (pl_s (g := gx + 1) (nm_retag x) (by omega)), ?_⟩
    refine ⟨_, retI (pl_s (g := gy + 1) (nm_retag y) (by omega)), ?_⟩
    refine ⟨fun h5 => ?_, fun h5 => ?_⟩
    · exact ⟨nv (by unfold varOk; rw [show (plF x s x.length == plF y s' y.length) = false by simpa using h5]; rfl), rfl⟩
    have e5 : (plF x s x.length == plF y s' y.length) = true := by simpa using h5
    refine ⟨fun h6 => ?_, fun h6 => ?_⟩
    · refine ⟨fun h7 => ?_, fun h7 => ?_⟩
      · exact ⟨nv (by unfold varOk; rw [e5, h6, show (s == s') = false by simpa using h7]; rfl), rfl⟩
      · refine sem_in cx0 _ RT [11, 2, 3, 4, 5, 8] fun jk => ?_
        refine fin h0 (by unfold varOk; rw [e5, show (s == s') = true by simpa using h7]; simp) jk _ (fun jk j h => ?_) (fun jk j h => ?_)
        · rw [h]; exact ⟨rfl, rfl⟩
        · rw [h]; exact ⟨rfl, rfl⟩
    · refine sem_in cx0 _ RT [11, 2, 3, 4, 5, 8] fun jk => ?_
      refine fin h0 (by unfold varOk; rw [e5, h6]; simp) jk _ (fun jk j h => ?_) (fun jk j h => ?_)
      · rw [h]; exact ⟨rfl, rfl⟩
      · rw [h]; exact ⟨rfl, rfl⟩
  · refine sem_in cx0 _ RT [11, 2, 3, 4, 5, 8] fun jk => ?_
    refine fin h0 (by rw [h4]; rfl) jk _ (fun jk j h => ?_) (fun jk j h => ?_)
    · rw [h]; exact ⟨rfl, rfl⟩
    · rw [h]; exact ⟨rfl, rfl⟩
end Go.Proofs.Ytlkjnlfddadlmaa.V

namespace Go.Proofs.Ytlkjnlfddadlmaa.V
set_option maxRecDepth 100000

def SalI (a : Co) : Prop := ∀ us b vs x y gx gy cx cy, szC a ≤ 1048576 → szC b ≤ 1048576 → x.length + 2 * szC a ≤ 4194304 → y.length + 2 * szC a ≤ 4194304 → cx = nm x → cy = nm y → Rd a us → Rd b vs →
  RT 90 [xc us, xc vs, xl (gx + 1) 1 x.length cx, xl (gy + 1) 1 y.length cy] [] = some (xb (alC a b x y), [])

theorem lal_i {ks ks' : List Co} {cs cs' : List TU} {g g' gx gy : Nat} {op n op' n' : Int} {s t s' t' : List UInt8} {x y : List Nm} {K : Ex → StA → Prop} (H : ∀ c ∈ ks, SalI c) (hz : szCs ks ≤ 1048576) (hz' : szCs ks' ≤ 1048576) (hx : x.length + 2 * szCs ks ≤ 4194304) (hy : y.length + 2 * szCs ks ≤ 4194304)
    (hl : ks.length = ks'.length) (hr : Rds ks cs) (hr' : Rds ks' cs') :
    ∀ (l : List Co) (i : Nat), ks.drop i = l → i ≤ ks.length →
    (∀ jk j, alL op s t op' s' t' i l (ks'.drop i) x y = true → K (.exit 0) ⟨[(61, xi j), (60, xi ks.length), (2, xl (gx + 1) 1 x.length (nm x)), (3, xl (gy + 1) 1 y.length (nm y)), (4, .box () ((core op n s t (g + 1) ks.length cs).map .t)), (5, .box () ((core op' n' s' t' (g' + 1) ks'.length cs').map .t)), (8, xb false)], jk, []⟩) →
    (∀ jk j, alL op s t op' s' t' i l (ks'.drop i) x y = false → K .ret ⟨[(61, xi j), (60, xi ks.length), (2, xl (gx + 1) 1 x.length (nm x)), (3, xl (gy + 1) 1 y.length (nm y)), (4, .box () ((core op n s t (g + 1) ks.length cs).map .t)), (5, .box () ((core op' n' s' t' (g' + 1) ks'.length cs').map .t)), (8, xb false)], jk, []⟩) →
    ∀ jk, sem cx0 90 RT (.loop (lp Try.f90 0)) ⟨[(61, xi i), (60, xi ks.length), (2, xl (gx + 1) 1 x.length (nm x)), (3, xl (gy + 1) 1 y.length (nm y)), (4, .box () ((core op n s t (g + 1) ks.length cs).map .t)), (5, .box () ((core op' n' s' t' (g' + 1) ks'.length cs').map .t)), (8, xb false)], jk, []⟩ K := by
  have hk := szCs_le hz
  refine drop_ind ?_ ?_
  · intro k1 k2 jk
    refine loop_step cx0 _ RT [61, 60, 2, 3, 4, 5, 8] ⟨fun h => (lt_no h (by omega)).elim, fun h => ?_⟩
    exact fun jk => k1 jk _ (by simp only [alL])
  · intro i c l hi hil ih k1 k2 jk
    have hm := List.mem_of_getElem? hi
    have hc := H c hm
    have hzc := szCs_mem hz hm
    have hz1 := szCs_mem1 hm
    have hil' : i < ks'.length := by omega
    have hi' : ks'[i]? = some ks'[i] := List.getElem?_eq_getElem hil'
    have hd' : ks'.drop i = ks'[i] :: ks'.drop (i + 1) := List.drop_eq_getElem_cons hil'
    have hm' := List.mem_of_getElem? hi'
    have hzc' := szCs_mem hz' hm'
    generalize ks'[i] = c' at hi' hd' hm' hzc'
    rw [hd'] at k1 k2
    have hel := envS_le (op := op) (s := s) (t := t) (i := i)
    have hel' := envS_le (op := op') (s := s') (t := t') (i := i)
    cases c with
    | mk o1 n1 s1 t1 kk =>
    cases c' with
    | mk o2 n2 s2 t2 kk' =>
    obtain ⟨ga, ca, e1, e2⟩ := Rds_get hr hi
    obtain ⟨gb, cb, e3, e4⟩ := Rds_get hr' hi'
    refine loop_step cx0 _ RT [61, 60, 2, 3, 4, 5, 8] ⟨fun h => ?_, fun h => (lt_yes h (by omega)).elim⟩
    refine ⟨⟨by omega, by omega⟩, ?_⟩
    refine ⟨o1, n1, s1, t1, ga + 1, kk.length, ca, ⟨e1, rfl⟩, ?_⟩
    refine ⟨⟨by omega, by omega⟩, ?_⟩
    refine ⟨o2, n2, s2, t2, gb + 1, kk'.length, cb, ⟨e3, rfl⟩, ?_⟩
    refine ⟨_, retN (binds74 (show Rd (.mk op n s t ks) (core op n s t (g + 2) ks.length (retags cs)) from ⟨_, _, rfl, hr.retag⟩)), ?_⟩
    refine ⟨_, retN (cat85 (g := gx + 1) (h := 0) (nm_retag x) (nm_retag (envS op s t i)) (by omega) (by omega)), ?_⟩
    refine ⟨_, retN (binds74 (show Rd (.mk op' n' s' t' ks') (core op' n' s' t' (g' + 2) ks'.length (retags cs')) from ⟨_, _, rfl, hr'.retag⟩)), ?_⟩
    refine ⟨_, retN (cat85 (g := gy + 1) (h := 0) (nm_retag y) (nm_retag (envS op' s' t' i)) (by omega) (by omega)), ?_⟩
    have hc2 := hc (core o1 n1 s1 t1 (ga + 2) kk.length (retags ca)) (.mk o2 n2 s2 t2 kk') (core o2 n2 s2 t2 (gb + 2) kk'.length (retags cb)) (x ++ envS op s t i) (y ++ envS op' s' t' i) 0 0 _ _ hzc hzc' (by rw [List.length_append]; omega) (by rw [List.length_append]; omega) (nm_retag _) (nm_retag _) ⟨_, _, rfl, e2.retag⟩ ⟨_, _, rfl, e4.retag⟩
    refine ⟨_, retB hc2, ?_⟩
    refine ⟨fun h2 => ?_, fun h2 => ?_⟩
    · exact fun jk => k2 jk _ (by simp only [alL, Bool.and_eq_false_iff]; left; simpa using h2)
    · intro jk
      rw [wrapS hil (by simp only [maxLen]; omega)]
      have h2 : alC (.mk o1 n1 s1 t1 kk) (.mk o2 n2 s2 t2 kk') (x ++ envS op s t i) (y ++ envS op' s' t' i) = true := by simpa using h2
      exact ih (fun jk j h3 => k1 jk j (by simp only [alL, h2, h3, Bool.and_self])) (fun jk j h3 => k2 jk j (by simp only [alL, h3, Bool.and_false])) jk

theorem al_i : ∀ a : Co, SalI a := by
  refine Co.ind fun op n s t ks ih => ?_
  intro us b vs x y gx gy cx cy hza hzb hx hy hcx hcy hr hr'
  subst hcx hcy
  cases b with
  | mk op' n' s' t' ks' =>
  obtain ⟨g1, cs, rfl, hr⟩ := hr
  obtain ⟨g2, cs', rfl, hr'⟩ := hr'
  have hz1 : szCs ks ≤ 1048576 := by simp only [szC] at hza; omega
  have hz2 : szCs ks' ≤ 1048576 := by simp only [szC] at hzb; omega
  have hx' : x.length + 2 * szCs ks ≤ 4194304 := by simp only [szC] at hx; omega
  have hy' : y.length + 2 * szCs ks ≤ 4194304 := by simp only [szC] at hy; omega
  have no : (op == op' && n == n' && ks.length == ks'.length) = false → xb (alC (.mk op n s t ks) (.mk op' n' s' t' ks') x y) = xb false := fun h => by simp only [alC, h, Bool.false_and]
  have fin : (op == op' && n == n' && ks.length == ks'.length) = true → (!(op == 2) || varOk x y s s') = true → ∀ jk K, (∀ jk j, alC (.mk op n s t ks) (.mk op' n' s' t' ks') x y = true → K (.exit 0) ⟨[(61, xi j), (60, xi ks.length), (2, xl (gx + 1) 1 x.length (nm x)), (3, xl (gy + 1) 1 y.length (nm y)), (4, .box () ((core op n s t (g1 + 1) ks.length cs).map .t)), (5, .box () ((core op' n' s' t' (g2 + 1) ks'.length cs').map .t)), (8, xb false)], jk, []⟩) →
      (∀ jk j, alC (.mk op n s t ks) (.mk op' n' s' t' ks') x y = false → K .ret ⟨[(61, xi j), (60, xi ks.length), (2, xl (gx + 1) 1 x.length (nm x)), (3, xl (gy + 1) 1 y.length (nm y)), (4, .box () ((core op n s t (g1 + 1) ks.length cs).map .t)), (5, .box () ((core op' n' s' t' (g2 + 1) ks'.length cs').map .t)), (8, xb false)], jk, []⟩) →
      sem cx0 90 RT (.loop (lp Try.f90 0)) ⟨[(61, xi (0 : Nat)), (60, xi ks.length), (2, xl (gx + 1) 1 x.length (nm x)), (3, xl (gy + 1) 1 y.length (nm y)), (4, .box () ((core op n s t (g1 + 1) ks.length cs).map .t)), (5, .box () ((core op' n' s' t' (g2 + 1) ks'.length cs').map .t)), (8, xb false)], jk, []⟩ K := by
    intro h0 h1 jk K k1 k2
    have e : alC (.mk op n s t ks) (.mk op' n' s' t' ks') x y = alL op s t op' s' t' 0 ks ks' x y := by simp only [alC, h0, h1, Bool.true_and]
    rw [e] at k1 k2
    simp only [Bool.and_eq_true, beq_iff_eq] at h0
    exact lal_i (g := g1) (g' := g2) (op := op) (n := n) (s := s) (t := t) (op' := op') (n' := n') (s' := s') (t' := t') ih hz1 hz2 hx' hy' h0.2 hr hr' ks 0 rfl (by omega) k1 k2 jk
  clear ih
  refine fn_is (fn := Try.f90) rfl rfl rfl rfl ?_
  refine ⟨fun h1 => ?_, fun h1 => ?_⟩
  · exact ⟨no (by rw [show (op == op') = false by simpa using h1]; rfl), rfl⟩
  have e1 : (op == op') = true := by simpa using h1
  refine ⟨fun h2 => ?_, fun h2 => ?_⟩
  · exact ⟨no (by rw [show (n == n') = false by simpa using h2]; simp), rfl⟩
  have e2 : (n == n') = true := by simpa using h2
  refine ⟨fun h3 => ?_, fun h3 => ?_⟩
  · exact ⟨no (by rw [show (ks.length == ks'.length) = false by simp at h3 ⊢; omega]; simp), rfl⟩
  have e3 : (ks.length == ks'.length) = true := by simp at h3 ⊢; omega
  have h0 : (op == op' && n == n' && ks.length == ks'.length) = true := by rw [e1, e2, e3]; rfl
  refine ⟨fun h4 => ?_, fun h4 => ?_⟩
  · have nv : varOk x y s s' = false → xb (alC (.mk op n s t ks) (.mk op' n' s' t' ks') x y) = xb false := fun h => by simp only [alC, h, h4]; simp
    refine ⟨_, retI (pl_i (g := gx + 1) (nm_retag x) (by omega)), ?_⟩
    refine ⟨_, retI (pl_i (g := gy + 1) (nm_retag y) (by omega)), ?_⟩
    refine ⟨fun h5 => ?_, fun h5 => ?_⟩
    · exact ⟨nv (by unfold varOk; rw [show (plF x s x.length == plF y s' y.length) = false by simpa using h5]; rfl), rfl⟩
    have e5 : (plF x s x.length == plF y s' y.length) = true := by simpa using h5
    refine ⟨fun h6 => ?_, fun h6 => ?_⟩
    · refine ⟨fun h7 => ?_, fun h7 => ?_⟩
      · exact ⟨nv (by unfold varOk; rw [e5, h6, show (s == s') = false by simpa using h7]; rfl), rfl⟩
      · refine sem_in cx0 _ RT [61, 60, 2, 3, 4, 5, 8] fun jk => ?_
        refine fin h0 (by unfold varOk; rw [e5, show (s == s') = true by simpa using h7]; simp) jk _ (fun jk j h => ?_) (fun jk j h => ?_)
        · rw [h]; exact ⟨rfl, rfl⟩
        · rw [h]; exact ⟨rfl, rfl⟩
    · refine sem_in cx0 _ RT [61, 60, 2, 3, 4, 5, 8] fun jk => ?_
      refine fin h0 (by unfold varOk; rw [e5, h6]; simp) jk _ (fun jk j h => ?_) (fun jk j h => ?_)
      · rw [h]; exact ⟨rfl, rfl⟩
      · rw [h]; exact ⟨rfl, rfl⟩
  · refine sem_in cx0 _ RT [61, 60, 2, 3, 4, 5, 8] fun jk => ?_
    refine fin h0 (by rw [h4]; rfl) jk _ (fun jk j h => ?_) (fun jk j h => ?_)
    · rw [h]; exact ⟨rfl, rfl⟩
    · rw [h]; exact ⟨rfl, rfl⟩
end Go.Proofs.Ytlkjnlfddadlmaa.V

namespace Go.Proofs.Ytlkjnlfddadlmaa.V
set_option maxRecDepth 100000

def fobF (c : Co) : Bool := !alC (foldF c) c [] [] || ndC (foldF c) != ndC c

theorem foldF_sz {c : Co} (hz : szC c ≤ 1048576) : szC (foldF c) ≤ 1048576 := by
  unfold foldF; split
  · have := fold_sz c; omega
  · exact hz

theorem alike_s {a b : Co} {us vs : List TU} (ha : szC a ≤ 1048576) (hb : szC b ≤ 1048576) (hr : Rd a us) (hr' : Rd b vs) : RT 59 [xc us, xc vs] [] = some (xb (alC a b [] []), []) := by
  cases a with
  | mk op n s t ks =>
  cases b with
  | mk op' n' s' t' ks' =>
  obtain ⟨g, cs, rfl, hr⟩ := hr
  obtain ⟨g', cs', rfl, hr'⟩ := hr'
  refine fn_is (fn := Try.f59) rfl rfl rfl rfl ?_
  refine ⟨_, retB (al_s (.mk op n s t ks) _ (.mk op' n' s' t' ks') _ [] [] 0 0 [] [] ha hb (by simp; omega) (by simp; omega) rfl rfl ⟨_, _, rfl, hr.retag⟩ ⟨_, _, rfl, hr'.retag⟩), ?_⟩
  exact ⟨rfl, rfl⟩
theorem alike_i {a b : Co} {us vs : List TU} (ha : szC a ≤ 1048576) (hb : szC b ≤ 1048576) (hr : Rd a us) (hr' : Rd b vs) : RT 61 [xc us, xc vs] [] = some (xb (alC a b [] []), []) := by
  cases a with
  | mk op n s t ks =>
  cases b with
  | mk op' n' s' t' ks' =>
  obtain ⟨g, cs, rfl, hr⟩ := hr
  obtain ⟨g', cs', rfl, hr'⟩ := hr'
  refine fn_is (fn := Try.f61) rfl rfl rfl rfl ?_
  refine ⟨_, retB (al_i (.mk op n s t ks) _ (.mk op' n' s' t' ks') _ [] [] 0 0 [] [] ha hb (by simp; omega) (by simp; omega) rfl rfl ⟨_, _, rfl, hr.retag⟩ ⟨_, _, rfl, hr'.retag⟩), ?_⟩
  exact ⟨rfl, rfl⟩

theorem fo_s {c : Co} {us : List TU} (hw : Wf c) (hz : szC c ≤ 1048576) (hr : Rd c us) : RT 24 [xc us] [] = some (xb (fobF c), []) := by
  cases c with
  | mk op n s t ks =>
  obtain ⟨g, cs, rfl, hr⟩ := hr
  have rd : ∀ g, Rd (.mk op n s t ks) (core op n s t (g + 2) ks.length (retags cs)) := fun g => ⟨_, _, rfl, hr.retag⟩
  have hf := fc_s hw hz (rd g)
  have hfz := foldF_sz hz
  refine fn_is (fn := Try.f24) rfl rfl rfl rfl ?_
  have e : fobF (.mk op n s t ks) = (!alC (foldF (.mk op n s t ks)) (.mk op n s t ks) [] [] || ndC (foldF (.mk op n s t ks)) != ndC (.mk op n s t ks)) := rfl
  rw [e]
  generalize foldF (.mk op n s t ks) = P at hf hfz
  cases P with
  | mk po pn ps pt pk =>
  refine ⟨_, retC hf, ?_⟩
  refine ⟨inV pk, ?_⟩
  refine ⟨_, retB (alike_s hfz hz (rdV po pn ps pt pk) (rd g)), ?_⟩
  refine ⟨fun h => ?_, fun h => ?_⟩
  · exact ⟨xb_eq (by rw [h]; rfl), rfl⟩
  · refine ⟨inV pk, ?_⟩
    refine ⟨_, retI (size_s _ _ hfz (rdV po pn ps pt pk)), ?_⟩
    refine ⟨_, retI (size_s _ _ hz (rd g)), ?_⟩
    refine ⟨xb_eq ?_, rfl⟩
    rw [h, Bool.false_or]
    exact Bool.eq_iff_iff.2 (by simp; omega)

theorem fo_i {c : Co} {us : List TU} (hw : Wf c) (hz : szC c ≤ 1048576) (hr : Rd c us) : RT 25 [xc us] [] = some (xb (fobF c), []) := by
  cases c with
  | mk op n s t ks =>
  obtain ⟨g, cs, rfl, hr⟩ := hr
  have rd : ∀ g, Rd (.mk op n s t ks) (core op n s t (g + 2) ks.length (retags cs)) := fun g => ⟨_, _, rfl, hr.retag⟩
  have hf := fc_i hw hz (rd g)
  have hfz := foldF_sz hz
  refine fn_is (fn := Try.f25) rfl rfl rfl rfl ?_
  have e : fobF (.mk op n s t ks) = (!alC (foldF (.mk op n s t ks)) (.mk op n s t ks) [] [] || ndC (foldF (.mk op n s t ks)) != ndC (.mk op n s t ks)) := rfl
  rw [e]
  generalize foldF (.mk op n s t ks) = P at hf hfz
  cases P with
  | mk po pn ps pt pk =>
  refine ⟨_, retC hf, ?_⟩
  refine ⟨inV pk, ?_⟩
  refine ⟨_, retB (alike_i hfz hz (rdV po pn ps pt pk) (rd g)), ?_⟩
  refine ⟨fun h => ?_, fun h => ?_⟩
  · exact ⟨xb_eq (by rw [h]; rfl), rfl⟩
  · refine ⟨inV pk, ?_⟩
    refine ⟨_, retI (size_i _ _ hfz (rdV po pn ps pt pk)), ?_⟩
    refine ⟨_, retI (size_i _ _ hz (rd g)), ?_⟩
    refine ⟨xb_eq ?_, rfl⟩
    rw [h, Bool.false_or]
    exact Bool.eq_iff_iff.2 (by simp; omega)
end Go.Proofs.Ytlkjnlfddadlmaa.V

namespace Go.Proofs.Ytlkjnlfddadlmaa.V
set_option maxRecDepth 100000

theorem lawFoldable {c : Co} {us : List TU} (hr : Rd c us) (hw : Wf c) : RT 6 [xc us] [] = some (xb true, []) := by
  cases c with
  | mk op n s t ks =>
  obtain ⟨g, cs, rfl, hr⟩ := hr
  have rd : ∀ g, Rd (.mk op n s t ks) (core op n s t (g + 2) ks.length (retags cs)) := fun g => ⟨_, _, rfl, hr.retag⟩
  refine fn_is (fn := Try.f6) rfl rfl rfl rfl ?_
  refine ⟨_, retI (sz19 _ _ 1048576 hw (rd g) (by omega) (by omega)), ?_⟩
  refine ⟨fun h => ⟨rfl, rfl⟩, fun h => ?_⟩
  obtain ⟨h1, _⟩ := szR_yes h
  have hz : szC (.mk op n s t ks) ≤ 1048576 := by omega
  refine ⟨_, retC (to21 _ _ hz (rd g)), ?_⟩
  refine ⟨_, retB (fo_s hw hz (rdO op n s t ks)), ?_⟩
  refine ⟨_, retC (to21 _ _ hz (rd g)), ?_⟩
  refine ⟨inV ks, ?_⟩
  refine ⟨_, retB (fo_i hw hz (rdV op n s t ks)), ?_⟩
  refine ⟨fun h => by simp at h, fun _ => ?_⟩
  refine ⟨_, retC (to21 _ _ hz (rd g)), ?_⟩
  refine ⟨inV ks, ?_⟩
  refine ⟨_, retB (eq23 _ _ _ hw (rdV op n s t ks) (rdO op n s t ks)), ?_⟩
  refine ⟨(fun h => by cases h), fun _ => ?_⟩
  exact ⟨rfl, rfl⟩

end Go.Proofs.Ytlkjnlfddadlmaa.V

namespace Go.Proofs.Ytlkjnlfddadlmaa.fnExactFoldable
open Go.ChangeShapes Go.WideShapes Go.ChangeAt Go.RowKit
set_option linter.unusedVariables false
set_option maxRecDepth 100000

theorem own : ownKnob Try.prog.godebug = none := by kernel_rfl
theorem laidOut : laidOutB Try.prog = true := by kernel_rfl

def G : List Nat := [3, 9, 33, 31]
theorem hG : V.plainTys Try.prog G = true := by kernel_rfl
theorem st : ∃ fs, Try.prog.underlying 33 = some (.struct fs) := by
  obtain ⟨fs, h, _⟩ := V.fieldTys_ok (P := Try.prog) (t := 33) (l := [3, 3, 9, 9, 31]) (by kernel_rfl)
  exact ⟨fs, h⟩

theorem lifted (os : Os) (started : os.Started) (H : Type) (enc : TypeId × Value → H) :
    ReturnsInHanded {} Try.checked os 6 .any (Rows.fnExactFoldableSpec.pre6 enc Try.prog Try.f6 Rows.fnExactFoldableRow.domain false) (Rows.fnExactFoldableSpec.post enc Try.prog Try.f6 false true false false) := by
  refine returnsInHanded_of_change (C := Try.checked) own started (by kernel_rfl) Try.func6
    (ChangeSpec.witness6 (enc := enc) (C := Try.checked) false ⟨#[], #[.agg #[.int .i64 0, .int .i64 0, .string "".toUTF8, .string "".toUTF8, .slice none 0 0]], []⟩ 8 (by kernel_rfl) (by kernel_rfl) (by kernel_rfl) (by kernel_rfl)) ?_
  intro W base args ds gs before hval0 hW hcnd _
  have hval : ∀ (j : Nat) t v, Try.f6.params[j]? = some t → args[j]? = some v → Value.okWide Try.prog W .any base t v := hval0
  have hW' := hW
  obtain ⟨p, q, hA0, hV, rfl, hfz, hnd⟩ := hW
  have hA : DataW.TrodAll enc Try.prog W 0 (fun _ => true) true Try.f6.params.toList args.toList ds p := hA0
  rw [Try.params6] at hA hval
  obtain ⟨v0, vs0, d0, ds0, p0, q0, hargs, rfl, rfl, h0, r0⟩ := trodAll_cons hA
  obtain ⟨rfl, rfl, rfl⟩ := trodAll_nil r0
  obtain rfl : args = #[v0] := by cases args; simp_all
  obtain ⟨rfl, rfl⟩ := trodVars_none hV
  have k0 := h0
  have lt0 : ∀ x ∈ p0, x.block < W.heap.size := by obtain ⟨m, hm⟩ := k0; exact DataW.trod_lt m _ _ _ hm
  obtain ⟨fs, hu⟩ := st
  obtain ⟨k, us, hsh, hx⟩ := V.arg_struct hG (t := 33) (by decide) hu (hval 0 33 v0 rfl rfl) h0
  obtain ⟨c, hr, hw⟩ := V.sh_core k us hsh
  obtain ⟨n, hrun⟩ := V.run_of (V.lawFoldable hr hw)
  clear hA0 hval0
  refine (V.law_calls V.cxOk (fun _ _ => trivial) (vs := [v0]) (xs := [V.xc us]) ⟨rfl, fun i v x hv hx' => ?_⟩ hrun).mono fun e W' ⟨he, bel⟩ => ?_
  · cases i with
    | zero => simp only [List.getElem?_cons_zero, Option.some.injEq] at hv hx'; subst hv hx'; exact hx
    | succ i => simp at hv
  subst he
  exact ⟨_, rfl, _, _, _, [], _, [], hW', trodAll_mk1 (shut_bool Try.underlying4 _), (trodAll_cons_mk (Below.trod laidOut (by kernel_rfl) (of_decide_eq_true (by kernel_rfl)) k0 bel lt0) trodAll_mk0), rfl, bel.frame _, fun h => by cases h⟩

theorem over : Rows.fnExactFoldableRow.holds Try.pinned (OpenSpec.ofChange Rows.fnExactFoldableSpec) :=
  OpenClaim.holds_of_wide 6 Try.f6 rfl rfl rfl rfl rfl rfl rfl ⟨rfl, rfl, rfl, rfl, rfl⟩ rfl rfl rfl rfl rfl (by kernel_rfl) Try.func6 (by kernel_rfl)
    (of_decide_eq_true (by kernel_rfl)) (by unfold Func.isWrapper; first | (rw [if_pos (by decide +kernel)]; kernel_rfl) | (rw [if_neg (by decide +kernel)]; exact ⟨rfl, rfl⟩))
    (fun os started H enc _ => lifted os started H enc)

theorem proved : Rows.FnExactFoldableSaid := over
#print axioms proved
end Go.Proofs.Ytlkjnlfddadlmaa.fnExactFoldable
