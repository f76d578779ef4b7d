/-
  The law FnExactClose holds for every input: the call returns true, and the input reads as it did. No conditions.
-/
import Derived.Test.YtlkjnlfddadlmaaMPClosee
import Derived.Test.YtlkjnlfddadlmaaMPCloseb
import Derived.Test.YtlkjnlfddadlmaaMPClosea
import Derived.Test.YtlkjnlfddadlmaaRows
import Derived.WalkKit
import Derived.ProofKit
import Derived.OpenShut
import Derived.ChangeOld
import Derived.Below
set_option linter.unusedVariables false
set_option linter.unusedSimpArgs false
namespace Go.Proofs.Ytlkjnlfddadlmaa.V
set_option maxRecDepth 100000
theorem zR5 {l : List Blk} {cs : List TU} {i : Nat} {f op n : Int} {ks : List Ir} (h : RdB l cs) (hi : l[i]? = some (f, .mk op n ks)) :
  ∃ g cs', (cs.drop (i * 4)).take 4 = blc f op n (g + 1) ks.length cs' ∧ ((cs.drop (i * 4)).drop 1).take 3 = irc op n (g + 1) ks.length cs' ∧ (∃ r, cs.drop (i * 4) = .int .i64 f :: r) ∧ 1 ≤ (cs.drop (i * 4)).length ∧ kY ks cs' := by
 obtain ⟨g, cs', h1, h2⟩ := zAk h hi
 obtain ⟨r, hr⟩ := m6 h hi
 refine ⟨g, cs', h1, ?_, ⟨r, hr⟩, by rw [hr]; simp, h2⟩
 rw [hr] at h1 ⊢
 simp only [List.take_succ_cons, List.cons.injEq, true_and] at h1
 exact h1
def zIj (bs : List Blk) : Prop := ∀ b ∈ bs, q7 b.2 ≤ 100000000
theorem zF4 {bs : List Blk} {i : Nat} {f op n : Int} {ks : List Ir} {l : List Blk} : zAj bs i ((f, .mk op n ks) :: l) = (decide (0 ≤ f) && decide (q7 (.mk op n ks) ≤ 4000) && nV bs i 1 (.mk op n ks) && zAj bs (i + 1) l) := by
 simp only [zAj, okB1]
theorem bsl {bs : List Blk} {ds : List TU} {g : Nat} {K : Ex → StA → Prop} (hF : zBa bs) (hS : zIj bs) (hB : RdB bs ds) :
  ∀ (l : List Blk) (i : Nat), bs.drop i = l → i ≤ bs.length →
  (∀ jk j, zAj bs i l = true → K (.exit 0) ⟨[(3, xi j), (0, xl (g + 1) 4 bs.length ds), (2, xb false)], jk, []⟩) →
  (∀ jk j, zAj bs i l = false → K .ret ⟨[(3, xi j), (0, xl (g + 1) 4 bs.length ds), (2, xb false)], jk, []⟩) →
  ∀ jk, sem cx0 64 RT (.loop (lp Try.f64 0)) ⟨[(3, xi i), (0, xl (g + 1) 4 bs.length ds), (2, xb false)], jk, []⟩ K := by
 have hb := hF.1
 refine xE ?_ ?_
 ·intro k1 k2 jk
  refine zK cx0 _ RT [3, 0, 2] ⟨fun h => (jZ h (by omega)).elim, fun h => ?_⟩
  exact fun jk => k1 jk _ rfl
 ·intro i b l hi hil ih k1 k2 jk
  have hm := List.mem_of_getElem? hi
  have hf := hF.2 b hm
  have hz := hS b hm
  obtain ⟨f, op, n, ks⟩ := b
  dsimp only at hf hz
  obtain ⟨g', cs', e1, e2, ⟨r, e3⟩, e4, e5⟩ := zR5 hB hi
  have eo := zF4 (bs := bs) (i := i) (f := f) (op := op) (n := n) (ks := ks) (l := l)
  refine zK cx0 _ RT [3, 0, 2] ⟨fun h => ?_, fun h => (qL h (by omega)).elim⟩
  refine ⟨⟨by omega, by omega⟩, ?_⟩
  refine ⟨by show 0 ≤ _; omega, ?_⟩
  refine ⟨f, ⟨?_, rfl⟩, ?_⟩
  ·show ((ds.drop ((i : Int).toNat * 4)).drop 0).take 1 = _
   rw [show (i : Int).toNat = i from rfl, e3]; rfl
  refine ⟨fun h => by simp at h; omega, fun _ => ?_⟩
  refine ⟨⟨by omega, by omega⟩, ?_⟩
  refine ⟨e4, ?_⟩
  refine ⟨op, n, g' + 1, ks.length, cs', ⟨e2, rfl⟩, ?_⟩
  refine ⟨_, gF (zZl (.mk op n ks) _ (by omega) (show RdI (.mk op n ks) (irc op n (g' + 2) ks.length (zI cs')) from ⟨_, _, rfl, e5.retag⟩)), ?_⟩
  have ef : decide (0 ≤ f) = true := decide_eq_true hf.1
  rw [ef, Bool.true_and] at eo
  refine ⟨fun h => ?_, fun h => ?_⟩
  ·have h : ¬ q7 (.mk op n ks) ≤ 4000 := by simp at h; omega
   rw [decide_eq_false h, Bool.false_and, Bool.false_and] at eo
   exact fun jk => k2 jk _ eo
  ·have h : q7 (.mk op n ks) ≤ 4000 := by simp at h; omega
   rw [decide_eq_true h, Bool.true_and] at eo
   refine ⟨⟨by omega, by omega⟩, ?_⟩
   refine ⟨e4, ?_⟩
   refine ⟨op, n, g' + 1, ks.length, cs', ⟨e2, rfl⟩, ?_⟩
   refine ⟨_, xZ (zXb hF (w := i) (by omega) (.mk op n ks) (irc op n (g' + 2) ks.length (zI cs')) (g + 1) (zI ds) 1 (by omega) hB.retag ⟨_, _, rfl, e5.retag⟩), ?_⟩
   refine ⟨fun h => ?_, fun h => ?_⟩
   ·rw [v6 h, Bool.false_and] at eo
    exact fun jk => k2 jk _ eo
   ·rw [v1 h, Bool.true_and] at eo
    intro jk
    rw [q8 hil (by simp only [maxLen]; omega)]
    exact ih (fun jk j ho => k1 jk j (by rw [eo]; exact ho)) (fun jk j ho => k2 jk j (by rw [eo]; exact ho)) jk
theorem okb_s {bs : List Blk} {ds : List TU} {g : Nat} (hF : zBa bs) (hS : zIj bs) (hB : RdB bs ds) : RT 64 [xl (g + 1) 4 bs.length ds] [] = some (xb (okB bs), []) := by
 have hb := hF.1
 have hl := fun K => bsl (K := K) (g := g) hF hS hB bs 0 rfl (by omega)
 refine xL (fn := Try.f64) rfl rfl rfl rfl ?_
 refine yE cx0 _ RT [3, 0, 2] fun jk => ?_
 refine hl _ (fun jk j ho => ?_) (fun jk j ho => ?_) jk
 ·refine ⟨_, xZ (sO _ _ _), ?_⟩
  have eo : okB bs = ((decide ((bs.length : Int) ≥ 1) && decide ((bs.length : Int) ≤ 60)) && (nN bs 0 == 0)) := by
   unfold okB
   rw [ho, Bool.and_true]
   congr 2
   ·rw [Bool.eq_iff_iff]; simp only [decide_eq_true_eq]; omega
   ·rw [Bool.eq_iff_iff]; simp only [decide_eq_true_eq]; omega
  rw [eo]
  refine ⟨fun h => ?_, fun h => ?_⟩
  ·rw [h, Bool.true_and]
   simp only [Bool.and_eq_true, decide_eq_true_eq] at h
   obtain ⟨r, hr⟩ := m6 hB (aF (i := 0) (by omega))
   refine ⟨⟨by omega, by omega⟩, ?_⟩
   refine ⟨by show 0 ≤ _; omega, ?_⟩
   refine ⟨(bs.getD 0 (0, zIr)).1, ⟨?_, rfl⟩, ?_⟩
   ·show ((ds.drop (0 * 4)).drop 0).take 1 = _
    rw [hr]; rfl
   exact ⟨rfl, rfl⟩
  ·rw [h, Bool.false_and]
   exact ⟨rfl, rfl⟩
 ·have eo : okB bs = false := by unfold okB; rw [ho, Bool.and_false]
  rw [eo]
  exact ⟨rfl, rfl⟩
theorem bil {bs : List Blk} {ds : List TU} {g : Nat} {K : Ex → StA → Prop} (hF : zBa bs) (hS : zIj bs) (hB : RdB bs ds) :
  ∀ (l : List Blk) (i : Nat), bs.drop i = l → i ≤ bs.length →
  (∀ jk j, zAj bs i l = true → K (.exit 0) ⟨[(19, xi j), (18, xi bs.length), (17, xl (g + 1) 4 bs.length ds), (0, xl (g + 1) 4 bs.length ds), (2, xb false)], jk, []⟩) →
  (∀ jk j, zAj bs i l = false → K .ret ⟨[(19, xi j), (18, xi bs.length), (17, xl (g + 1) 4 bs.length ds), (0, xl (g + 1) 4 bs.length ds), (2, xb false)], jk, []⟩) →
  ∀ jk, sem cx0 66 RT (.loop (lp Try.f66 0)) ⟨[(19, xi i), (18, xi bs.length), (17, xl (g + 1) 4 bs.length ds), (0, xl (g + 1) 4 bs.length ds), (2, xb false)], jk, []⟩ K := by
 have hb := hF.1
 refine xE ?_ ?_
 ·intro k1 k2 jk
  refine zK cx0 _ RT [19, 18, 17, 0, 2] ⟨fun h => (jZ h (by omega)).elim, fun h => ?_⟩
  exact fun jk => k1 jk _ rfl
 ·intro i b l hi hil ih k1 k2 jk
  have hm := List.mem_of_getElem? hi
  have hf := hF.2 b hm
  have hz := hS b hm
  obtain ⟨f, op, n, ks⟩ := b
  dsimp only at hf hz
  obtain ⟨g', cs', e1, e2, ⟨r, e3⟩, e4, e5⟩ := zR5 hB hi
  have eo := zF4 (bs := bs) (i := i) (f := f) (op := op) (n := n) (ks := ks) (l := l)
  have ef : decide (0 ≤ f) = true := decide_eq_true hf.1
  rw [ef, Bool.true_and] at eo
  refine zK cx0 _ RT [19, 18, 17, 0, 2] ⟨fun h => ?_, fun h => (qL h (by omega)).elim⟩
  refine ⟨⟨by omega, by omega⟩, ?_⟩
  refine ⟨f, op, n, g' + 1, ks.length, cs', ⟨e1, rfl⟩, ?_⟩
  refine ⟨fun h => by simp at h; omega, fun _ => ?_⟩
  obtain ⟨l', q1, q2⟩ := zV4 hF (w := i) hil (.mk op n ks) hz (irc op n (g' + 2) ks.length (zI cs')) (g + 1) (zI ds) 1 4000 (by omega) (by omega) hB.retag ⟨_, _, rfl, e5.retag⟩
  clear q1
  have eq : zAj bs i ((f, .mk op n ks) :: l) = ((nV bs i 1 (.mk op n ks) && decide (q7 (.mk op n ks) ≤ 4000)) && zAj bs (i + 1) l) := by rw [eo]; ac_rfl
  refine ⟨_, _, retK (l8 hB).2 (by rw [(l8 hB).1]; exact q2), ?_⟩
  refine ⟨fun h => ?_, fun h => ?_⟩
  ·rw [v6 h, Bool.false_and] at eq
   exact fun jk => k2 jk _ eq
  ·rw [v1 h, Bool.true_and] at eq
   intro jk
   rw [q8 hil (by simp only [maxLen]; omega)]
   exact ih (fun jk j ho => k1 jk j (by rw [eq]; exact ho)) (fun jk j ho => k2 jk j (by rw [eq]; exact ho)) jk
theorem okb_i {bs : List Blk} {ds : List TU} {g : Nat} (hF : zBa bs) (hS : zIj bs) (hB : RdB bs ds) : RT 66 [xl (g + 1) 4 bs.length ds] [] = some (xb (okB bs), []) := by
 have hb := hF.1
 have hl := fun K => bil (K := K) (g := g) hF hS hB bs 0 rfl (by omega)
 have eo : okB bs = ((decide ((bs.length : Int) ≥ 1) && decide ((bs.length : Int) ≤ 60)) && (nN bs 0 == 0) && zAj bs 0 bs) := by
  unfold okB
  congr 3
  ·rw [Bool.eq_iff_iff]; simp only [decide_eq_true_eq]; omega
  ·rw [Bool.eq_iff_iff]; simp only [decide_eq_true_eq]; omega
 rw [eo]
 refine xL (fn := Try.f66) rfl rfl rfl rfl ?_
 refine ⟨_, xZ (aK _ _ _), ?_⟩
 refine ⟨fun h => ?_, fun h => ?_⟩
 ·rw [v6 h, Bool.false_and, Bool.false_and]
  exact ⟨rfl, rfl⟩
 ·have h := v1 h
  rw [h, Bool.true_and]
  simp only [Bool.and_eq_true, decide_eq_true_eq] at h
  obtain ⟨r, hr⟩ := m6 hB (aF (i := 0) (by omega))
  refine ⟨⟨by omega, by omega⟩, ?_⟩
  refine ⟨by show 0 ≤ _; omega, ?_⟩
  refine ⟨(bs.getD 0 (0, zIr)).1, ⟨?_, rfl⟩, ?_⟩
  ·show ((ds.drop (0 * 4)).drop 0).take 1 = _
   rw [hr]; rfl
  refine ⟨fun h => ?_, fun h => ?_⟩
  ·have h : (nN bs 0 == 0) = false := v6 h
   rw [h, Bool.false_and]
   exact ⟨rfl, rfl⟩
  ·have h : (nN bs 0 == 0) = true := v1 h
   rw [h, Bool.true_and]
   refine yE cx0 _ RT [19, 18, 17, 0, 2] fun jk => ?_
   refine hl _ (fun jk j ho => ?_) (fun jk j ho => ?_) jk
   ·rw [ho]; exact ⟨rfl, rfl⟩
   ·rw [ho]; exact ⟨rfl, rfl⟩
end Go.Proofs.Ytlkjnlfddadlmaa.V
namespace Go.Proofs.Ytlkjnlfddadlmaa.V
set_option maxRecDepth 100000
def Fb (a : c9) : Prop := ∀ l bs, (∀ b ∈ bs, 0 ≤ b.1 ∧ b.1 ≤ 1000000) → ∀ b ∈ (a l bs).2, 0 ≤ b.1 ∧ b.1 ≤ 1000000
theorem zP6 {l : List Blk} {i : Nat} {x : Ir} (h : ∀ b ∈ l, 0 ≤ b.1 ∧ b.1 ≤ 1000000) : ∀ b ∈ rK l i x, 0 ≤ b.1 ∧ b.1 ≤ 1000000 := by
 intro b hb
 unfold rK at hb
 rcases List.mem_or_eq_of_mem_set hb with hb | rfl
 ·exact h b hb
 ·show 0 ≤ (l.getD i (0, zIr)).1 ∧ (l.getD i (0, zIr)).1 ≤ 1000000
  rw [List.getD_eq_getElem?_getD]
  cases hi : l[i]? with
  | none => simp
  | some y => exact h y (List.mem_of_getElem? hi)
theorem zOr {arg self : Nm} {body : Co} {a : c9} (ha : wR body = true) (hn : ndC body ≤ 40000) (h : Fb a) : Fb (f4 arg self body a) := by
 intro l bs hb
 have hk := oM (arg := arg) (self := self) ha
 unfold f4
 refine zP6 ?_
 refine h _ _ fun b hm => ?_
 rcases List.mem_append.1 hm with hm | hm
 ·exact hb b hm
 ·simp only [List.mem_singleton] at hm
  subst hm
  simp only; omega
theorem zLt {l : List Pl} : ∀ (ks : List Co), (∀ c ∈ ks, Fb (iE c)) → ∀ bs, (∀ b ∈ bs, 0 ≤ b.1 ∧ b.1 ≤ 1000000) → ∀ b ∈ (kF l (iEs ks) bs).2, 0 ≤ b.1 ∧ b.1 ≤ 1000000
 | [], _, bs, hb => hb
 | c :: ks, H, bs, hb => zLt ks (fun c hc => H c (by simp [hc])) _ (H c (by simp) l bs hb)
theorem iE_fb : ∀ c : Co, wR c = true → ndC c ≤ 40000 → Fb (iE c) := by
 refine Co.ind fun op n s t ks H => ?_
 intro ha hn
 simp only [wR, Bool.and_eq_true] at ha
 obtain ⟨ha1, ha2⟩ := ha
 have ha1 : arC op = (ks.length : Int) := eq_of_beq ha1
 simp only [ndC] at hn
 have A : ∀ i, i < ks.length → wR (kid ks i) = true ∧ ndC (kid ks i) ≤ 40000 ∧ Fb (iE (kid ks i)) ∧ fD (iEs ks) i = iE (kid ks i) := by
  intro i hi
  have h0 : ks[i]? = some (kid ks i) := by
   unfold kid
   rw [List.getD_eq_getElem?_getD, List.getElem?_eq_getElem hi]; rfl
  have hm := List.mem_of_getElem? h0
  have := uR hm
  exact ⟨xO ha2 _ hm, by omega, H _ hm (xO ha2 _ hm) (by omega), sN hi⟩
 intro l bs hb
 show ∀ b ∈ (iH op n s t ks (iEs ks) l bs).2, _
 unfold iH
 split
 ·exact hb
 split
 ·exact hb
 split
 ·next h3 =>
  have h3 := eq_of_beq h3
  subst h3
  have hk := qI ha1 (k := 1) (by decide)
  obtain ⟨a1, a2, a3, a4⟩ := A 0 (by omega)
  rw [a4]
  exact zOr a1 a2 a3 l bs hb
 split
 ·next h3 =>
  have h3 := eq_of_beq h3
  subst h3
  have hk := qI ha1 (k := 2) (by decide)
  obtain ⟨a1, a2, a3, a4⟩ := A 0 (by omega)
  obtain ⟨c1, c2, c3, c4⟩ := A 1 (by omega)
  rw [a4, c4]
  exact c3 _ _ (a3 l bs hb)
 split
 ·next h3 =>
  have h3 := eq_of_beq h3
  subst h3
  have hk := qI ha1 (k := 2) (by decide)
  obtain ⟨a1, a2, a3, a4⟩ := A 0 (by omega)
  obtain ⟨c1, c2, c3, c4⟩ := A 1 (by omega)
  rw [a4, c4]
  exact c3 _ _ (zOr a1 a2 a3 l bs hb)
 ·exact zLt ks (fun c hc => H c hc (xO ha2 _ hc) (by have := uR hc; omega)) bs hb
mutual
theorem zK6 : ∀ (env : List Nm) (c : Co), jH env c = true → frC env c = []
 | env, .mk op n s t ks, h => by
  simp only [jH, Bool.and_eq_true] at h
  simp only [frC, zGq op s t env 0 ks h.2, List.append_nil]
  have h1 := h.1
  simp only [kS, Bool.and_eq_true] at h1
  have h2 := h1.2
  unfold wS
  cases ho : (op == 2) with
  | false => rfl
  | true =>
   rw [ho] at h2
   have h2 : env.contains s = true := by simpa using h2
   rw [h2]; rfl
theorem zGq : ∀ (op : Int) (s t : Nm) (env : List Nm) (i : Nat) (l : List Co), wP op s t env i l = true → frL op s t env i l = []
 | op, s, t, env, i, [], _ => rfl
 | op, s, t, env, i, c :: l, h => by
  simp only [wP, Bool.and_eq_true] at h
  simp only [frL, zK6 _ c h.1, zGq op s t env (i + 1) l h.2, List.append_nil]
end
mutual
theorem zK7 : ∀ (env : List Nm) (c : Co), jH env c = true → oU c = true
 | env, .mk op n s t ks, h => by
  simp only [jH, Bool.and_eq_true] at h
  have h1 := h.1
  simp only [kS, Bool.and_eq_true] at h1
  have h2 := h1.1.1.1.1.2
  simp only [oU, Bool.and_eq_true]
  refine ⟨?_, zGr op s t env 0 ks h.2⟩
  cases ho : (op == 2) with
  | false => rfl
  | true =>
   have hn : aV op = true := nam2 ho
   rw [hn] at h2
   have h2 := eq_of_beq h2
   rw [← h2]; rfl
theorem zGr : ∀ (op : Int) (s t : Nm) (env : List Nm) (i : Nat) (l : List Co), wP op s t env i l = true → rR l = true
 | op, s, t, env, i, [], _ => rfl
 | op, s, t, env, i, c :: l, h => by
  simp only [wP, Bool.and_eq_true] at h
  simp only [rR, Bool.and_eq_true]
  exact ⟨zK7 _ c h.1, zGr op s t env (i + 1) l h.2⟩
end
def q9 (c : Co) : List Blk := rK (iE c [] [(0, zIr)]).2 0 (iE c [] [(0, zIr)]).1
def clF (c : Co) : List Blk × Bool := if lK c && okB (q9 c) then (q9 c, true) else ([], false)
theorem aX {c : Co} (h : lK c = true) : ndC c ≤ 3000 := by
 simp only [lK, Bool.and_eq_true, decide_eq_true_eq] at h
 exact h.1.1
theorem nB {c : Co} (h : lK c = true) : (q9 c).length = 1 + nf c := by
 have := (zCb (M := ndC c + 2) c (mK h) (Nat.le_refl _) [] [(0, zIr)]).1
 unfold q9
 rw [pE, this]; rfl
theorem tS {c : Co} (h : lK c = true) : zBa (q9 c) := by
 have hn := aX h
 have hl := nB h
 have hf := zF2 c
 refine ⟨by omega, ?_⟩
 refine zP6 (iE_fb c (mK h) (by omega) [] [(0, zIr)] ?_)
 intro b hb
 simp only [List.mem_singleton] at hb
 subst hb
 simp
theorem iR {c : Co} (h : lK c = true) : kL (q9 c) ≤ 20000000 := by
 have hn := aX h
 have h2 := (zCb (M := ndC c + 2) c (mK h) (Nat.le_refl _) [] [(0, zIr)]).2
 have hf := zF2 c
 have h3 : nf c * (ndC c + 2) ≤ 3000 * 3002 := Nat.mul_le_mul (by omega) (by omega)
 have hs := zEc (iE c [] [(0, zIr)]).2 0 (((iE c [] [(0, zIr)]).2.getD 0 (0, zIr)).1, (iE c [] [(0, zIr)]).1)
 have h1 : kL [((0 : Int), zIr)] = 1 := rfl
 unfold q9 rK
 simp only at hs
 omega
theorem tT {c : Co} (h : lK c = true) : zIj (q9 c) := fun b hb => by
 have := zEb hb
 have := iR h
 omega
theorem both {c : Co} (h : lK c = true) : ((sE c true [] [] 1 ⟨[(0, zIr)], true, []⟩).2.ok = true ∧ rK (sE c true [] [] 1 ⟨[(0, zIr)], true, []⟩).2.bs 0 (sE c true [] [] 1 ⟨[(0, zIr)], true, []⟩).1 = q9 c ∧ 0 < (sE c true [] [] 1 ⟨[(0, zIr)], true, []⟩).2.bs.length) ∨
  ((sE c true [] [] 1 ⟨[(0, zIr)], true, []⟩).2.ok = false ∧ okB (q9 c) = false) := by
 by_cases hc : nf c + 1 ≤ 60
 ·left
  have hz := zK7 [] c (s4 h)
  have hfr := zK6 [] c (s4 h)
  obtain ⟨ext, h1, h2, h3⟩ := agree c true [] [] 1 [] ⟨[(0, zIr)], true, []⟩ [(0, zIr)] (mK h) hz List.nodup_nil (fun _ => rfl) rfl rfl rfl hc (by
   show dd [] ((frC [] c).filter (nS [])) <+: []
   rw [hfr]
   exact List.prefix_refl _)
  have h2 : iE c [] [(0, zIr)] = ((sE c true [] [] 1 ⟨[(0, zIr)], true, []⟩).1, [(0, zIr)] ++ ext) := h2
  refine ⟨by rw [h3], ?_, by rw [h3]; simp⟩
  unfold q9
  rw [h2, h3]
 ·right
  have hb := (zDx c (mK h)).2 true [] [] 1 ⟨[(0, zIr)], true, []⟩
  constructor
  ·cases hk : (sE c true [] [] 1 ⟨[(0, zIr)], true, []⟩).2.ok with
   | false => rfl
   | true =>
    obtain ⟨_, b2, b3⟩ := hb hk
    have b3 := b3 (by simp)
    simp only [List.length_cons, List.length_nil] at b2
    omega
  ·have hl := nB h
   unfold okB
   rw [decide_eq_false (p := (q9 c).length ≤ 60) (by omega), Bool.and_false, Bool.false_and, Bool.false_and]
end Go.Proofs.Ytlkjnlfddadlmaa.V
namespace Go.Proofs.Ytlkjnlfddadlmaa.V
set_option maxRecDepth 100000
theorem zBi {l : List Blk} {n : Nat} (h : l.length = n) : ((blE l).drop 0).take (n * 4) = blE l := by subst h; exact gP l
set_option maxHeartbeats 8000000 in
theorem cl_s {c : Co} {us : List TU} (hz : szC c ≤ 1048576) (hr : Rd c us) : RT 26 [xc us] [] = some (.tup [xl 0 4 (clF c).1.length (blE (clF c).1), xb (clF c).2], []) := by
 have hS := sE_s c
 have hboth := both (c := c)
 have hfr := tS (c := c)
 have hsz := tT (c := c)
 have hbd := fun h => (zDx c h).1
 cases c with
 | mk op n s t ks =>
 obtain ⟨g, cs, rfl, hr⟩ := hr
 have rd : ∀ g, Rd (.mk op n s t ks) (xJ op n s t (g + 2) ks.length (zI cs)) := fun g => ⟨_, _, rfl, hr.retag⟩
 refine xL (fn := Try.f26) rfl rfl rfl rfl ?_
 refine ⟨_, xZ (ok_s hz (rd g)), ?_⟩
 cases hok : lK (.mk op n s t ks) with
 | false =>
  have e : clF (.mk op n s t ks) = ([], false) := by unfold clF; rw [hok]; rfl
  rw [e]
  refine ⟨fun _ => ?_, (fun h => by cases h)⟩
  first
   | exact ⟨rfl, rfl⟩
   | (refine ⟨rJ [], ?_⟩; exact ⟨rfl, rfl⟩)
 | true =>
  have hn := aX hok
  have hboth := hboth hok
  have hfr := hfr hok
  have hsz := hsz hok
  have ec : clF (.mk op n s t ks) = if okB (q9 (.mk op n s t ks)) then (q9 (.mk op n s t ks), true) else ([], false) := by unfold clF; rw [hok, Bool.true_and]
  rw [ec]
  generalize q9 (.mk op n s t ks) = B at hboth hfr hsz ⊢
  have hc := hS _ true [] [] 1 [(0, zIr)] true [] .nilp (.inl rfl) (mK hok) hz (by simp; omega) (by simp; omega) (by simp; omega) (by omega) (rd g)
  generalize sE (.mk op n s t ks) true [] [] 1 ⟨[(0, zIr)], true, []⟩ = R at hc hboth
  obtain ⟨⟨ro, rn, rk⟩, rb, rok, rkept⟩ := R
  dsimp only at hc hboth
  refine ⟨(fun h => by cases h), fun _ => ?_⟩
  refine ⟨_, _, cI (.inl rfl) hc, ?_⟩
  rcases hboth with ⟨h1, h2, h3⟩ | ⟨h1, h2⟩
  ·subst h1
   have hb0 := tQ (l := rb) (i := 0) (o := ro) (n := rn) (ks := rk) h3
   rw [h2] at hb0
   have hlen : B.length = rb.length := by rw [← h2, pE]
   refine ⟨(fun h => by cases h), fun _ => ?_⟩
   refine ⟨⟨by omega, by omega⟩, ?_⟩
   refine ⟨inI rk, ?_⟩
   refine ⟨by rw [kM]; show 0 + 0 * 4 + 1 + 3 ≤ _; omega, ?_⟩
   intro jk
   have hX : (((blE rb).take (0 + 0 * 4 + 1) ++ ([.int .i64 ro, .int .i64 rn, .sl () 0 3 rk.length (((yP rk).drop 0).take (rk.length * 3))] : List TU) ++ (blE rb).drop (0 + 0 * 4 + 1 + 3)).drop 0).take (rb.length * 4) = blE B := by rw [hb0]; exact zBi hlen
   have hle : 0 + rb.length * 4 ≤ ((blE rb).take (0 + 0 * 4 + 1) ++ ([.int .i64 ro, .int .i64 rn, .sl () 0 3 rk.length (((yP rk).drop 0).take (rk.length * 3))] : List TU) ++ (blE rb).drop (0 + 0 * 4 + 1 + 3)).length := by rw [hb0, kM]; omega
   have hbk := okb_s (g := 0) hfr hsz (pO B)
   rw [← hX, hlen] at hbk
   refine ⟨hle, ?_⟩
   refine ⟨_, xZ hbk, ?_⟩
   cases hoB : okB B with
   | true =>
    refine ⟨(fun h => by cases h), fun _ => ?_⟩
    refine ⟨hle, ?_⟩
    refine ⟨?_, rfl⟩
    show X.tup [xl 0 4 B.length (blE B), xb true] = _
    rw [← hX, hlen]
    rfl
   | false =>
    refine ⟨fun _ => ?_, (fun h => by cases h)⟩
    first
     | exact ⟨rfl, rfl⟩
     | (refine ⟨rJ [], ?_⟩; exact ⟨rfl, rfl⟩)
  ·subst h1
   rw [h2]
   refine ⟨fun _ => ?_, (fun h => by cases h)⟩
   first
    | exact ⟨rfl, rfl⟩
    | (refine ⟨rJ [], ?_⟩; exact ⟨rfl, rfl⟩)
set_option maxHeartbeats 8000000 in
theorem cl_i {c : Co} {us : List TU} (hz : szC c ≤ 1048576) (hr : Rd c us) : RT 27 [xc us] [] = some (.tup [xl 0 4 (clF c).1.length (blE (clF c).1), xb (clF c).2], []) := by
 have hI := iE_i c
 have hfr := tS (c := c)
 have hsz := tT (c := c)
 have hln := nB (c := c)
 have eB : q9 c = rK (iE c [] [(0, zIr)]).2 0 (iE c [] [(0, zIr)]).1 := rfl
 cases c with
 | mk op n s t ks =>
 obtain ⟨g, cs, rfl, hr⟩ := hr
 have rd : ∀ g, Rd (.mk op n s t ks) (xJ op n s t (g + 2) ks.length (zI cs)) := fun g => ⟨_, _, rfl, hr.retag⟩
 refine xL (fn := Try.f27) rfl rfl rfl rfl ?_
 refine ⟨_, xZ (ok_i hz (rd g)), ?_⟩
 cases hok : lK (.mk op n s t ks) with
 | false =>
  have e : clF (.mk op n s t ks) = ([], false) := by unfold clF; rw [hok]; rfl
  rw [e]
  refine ⟨fun _ => ?_, (fun h => by cases h)⟩
  first
   | exact ⟨rfl, rfl⟩
   | (refine ⟨rJ [], ?_⟩; exact ⟨rfl, rfl⟩)
 | true =>
  have hn := aX hok
  have hfr := hfr hok
  have hsz := hsz hok
  have hln := hln hok
  have ec : clF (.mk op n s t ks) = if okB (q9 (.mk op n s t ks)) then (q9 (.mk op n s t ks), true) else ([], false) := by unfold clF; rw [hok, Bool.true_and]
  rw [ec]
  generalize q9 (.mk op n s t ks) = B at eB hfr hsz hln ⊢
  have hc := hI _ [] 0 _ [(0, zIr)] (mK hok) hz (by omega) (by simp; omega) (by simp; omega) (fun p hp => by cases hp) rfl (rd g)
  generalize iE (.mk op n s t ks) [] [(0, zIr)] = R at hc eB
  obtain ⟨⟨ro, rn, rk⟩, rb⟩ := R
  dsimp only at hc eB
  have hlen : B.length = rb.length := by rw [eB, pE]
  have h3 : 0 < rb.length := by omega
  have hb0 := tQ (l := rb) (i := 0) (o := ro) (n := rn) (ks := rk) h3
  rw [← eB] at hb0
  refine ⟨(fun h => by cases h), fun _ => ?_⟩
  refine ⟨_, _, cH hc, ?_⟩
  refine ⟨⟨by omega, by omega⟩, ?_⟩
  refine ⟨inI rk, ?_⟩
  refine ⟨by rw [kM]; show 0 + 0 * 4 + 1 + 3 ≤ _; omega, ?_⟩
  intro jk
  have hX : (((blE rb).take (0 + 0 * 4 + 1) ++ ([.int .i64 ro, .int .i64 rn, .sl () 0 3 rk.length (((yP rk).drop 0).take (rk.length * 3))] : List TU) ++ (blE rb).drop (0 + 0 * 4 + 1 + 3)).drop 0).take (rb.length * 4) = blE B := by rw [hb0]; exact zBi hlen
  have hle : 0 + rb.length * 4 ≤ ((blE rb).take (0 + 0 * 4 + 1) ++ ([.int .i64 ro, .int .i64 rn, .sl () 0 3 rk.length (((yP rk).drop 0).take (rk.length * 3))] : List TU) ++ (blE rb).drop (0 + 0 * 4 + 1 + 3)).length := by rw [hb0, kM]; omega
  have hbk := okb_i (g := 0) hfr hsz (pO B)
  rw [← hX, hlen] at hbk
  refine ⟨hle, ?_⟩
  refine ⟨_, xZ hbk, ?_⟩
  cases hoB : okB B with
  | true =>
   refine ⟨(fun h => by cases h), fun _ => ?_⟩
   refine ⟨hle, ?_⟩
   refine ⟨?_, rfl⟩
   show X.tup [xl 0 4 B.length (blE B), xb true] = _
   rw [← hX, hlen]
   rfl
  | false =>
   refine ⟨fun _ => ?_, (fun h => by cases h)⟩
   first
    | exact ⟨rfl, rfl⟩
    | (refine ⟨rJ [], ?_⟩; exact ⟨rfl, rfl⟩)
end Go.Proofs.Ytlkjnlfddadlmaa.V
namespace Go.Proofs.Ytlkjnlfddadlmaa.V
set_option maxRecDepth 100000
def Seq (c : Ir) : Prop := ∀ us vs, q7 c ≤ 100000000 → RdI c us → RdI c vs → RT 103 [xc us, xc vs] [] = some (xb true, [])
theorem zF1 : ∀ {l : List Ir} {c : Ir}, c ∈ l → q7 c ≤ zX l
 | x :: l, c, h => by
  simp only [zX]
  rcases List.mem_cons.1 h with rfl | h
  ·omega
  ·have := zF1 h; omega
theorem zC1 : ∀ c : Ir, 1 ≤ q7 c
 | .mk op n ks => by simp only [q7]; omega
theorem p5 : ∀ l : List Ir, l.length ≤ zX l
 | [] => by simp
 | c :: l => by have := zC1 c; have := p5 l; simp only [zX, List.length_cons]; omega
theorem leq {ks : List Ir} {cs ds : List TU} {g h : Nat} {K : Ex → StA → Prop} (H : ∀ c ∈ ks, Seq c) (hz : zX ks ≤ 100000000) (hr : kY ks cs) (hs : kY ks ds) : ∀ (l : List Ir) (i : Nat), ks.drop i = l → i ≤ ks.length →
  (∀ jk i, K (.exit 0) ⟨[(5, xi i), (0, xl (g + 1) 3 ks.length cs), (1, xl (h + 1) 3 ks.length ds), (4, xb false)], jk, []⟩) →
  ∀ jk, sem cx0 130 RT (.loop (lp Try.f130 0)) ⟨[(5, xi i), (0, xl (g + 1) 3 ks.length cs), (1, xl (h + 1) 3 ks.length ds), (4, xb false)], jk, []⟩ K := by
 have hk := p5 ks
 refine xE ?_ ?_
 ·intro k1 jk
  refine zK cx0 _ RT [5, 0, 1, 4] ⟨fun h => (jZ h (by omega)).elim, fun h => ?_⟩
  exact fun jk => k1 jk _
 ·intro i c l hi hil ih k1 jk
  refine zK cx0 _ RT [5, 0, 1, 4] ⟨fun h => ?_, fun h => (qL h (by omega)).elim⟩
  refine ⟨⟨by omega, by omega⟩, ?_⟩
  have hm := List.mem_of_getElem? hi
  have hc := H c hm
  have hzc := zF1 hm
  cases c with
  | mk op n kk =>
  obtain ⟨g', cs', e1, e2⟩ := fP hr hi
  refine ⟨op, n, g' + 1, kk.length, cs', ⟨e1, rfl⟩, ?_⟩
  refine ⟨⟨by omega, by omega⟩, ?_⟩
  obtain ⟨h', ds', f1, f2⟩ := fP hs hi
  refine ⟨op, n, h' + 1, kk.length, ds', ⟨f1, rfl⟩, ?_⟩
  refine ⟨_, xZ (hc (irc op n (g' + 2) kk.length (zI cs')) (irc op n (h' + 2) kk.length (zI ds')) (by omega) ⟨_, _, rfl, e2.retag⟩ ⟨_, _, rfl, f2.retag⟩), ?_⟩
  refine ⟨(fun h => by cases h), fun h => ?_⟩
  intro jk
  rw [q8 hil (by simp only [maxLen]; omega)]
  exact ih k1 jk
theorem zYl {ks : List Ir} {cs ds : List TU} {g h : Nat} (H : ∀ c ∈ ks, Seq c) (hz : zX ks ≤ 100000000) (hr : kY ks cs) (hs : kY ks ds) :
  RT 130 [xl (g + 1) 3 ks.length cs, xl (h + 1) 3 ks.length ds] [] = some (xb true, []) := by
 refine xL (fn := Try.f130) rfl rfl rfl rfl ?_
 refine ⟨fun h => by simp at h, fun _ => ?_⟩
 refine yE cx0 _ RT [5, 0, 1, 4] fun jk => ?_
 refine leq H hz hr hs ks 0 rfl (by omega) (fun jk i => ?_) jk
 exact ⟨rfl, rfl⟩
theorem eq_ir : ∀ c : Ir, Seq c := by
 refine Ir.ind fun op n ks ih => ?_
 intro us vs hz hr hs
 obtain ⟨g, cs, rfl, hr⟩ := hr
 obtain ⟨h, ds, rfl, hs⟩ := hs
 simp only [q7] at hz
 refine xL (fn := Try.f103) rfl rfl rfl rfl ?_
 refine ⟨fun h => by simp at h, fun _ => ?_⟩
 refine ⟨fun h => by simp at h, fun _ => ?_⟩
 refine ⟨_, xZ (zYl (g := g + 1) (h := h + 1) (cs := zI cs) (ds := zI ds) ih (by omega) hr.retag hs.retag), ?_⟩
 refine ⟨(fun h => by cases h), fun _ => ?_⟩
 exact ⟨rfl, rfl⟩
mutual
def mkR : Ir → Int → Ir
 | .mk _ _ ks, k => .mk k (k + 1) (m3 ks (k + 2))
def m3 : List Ir → Int → List Ir
 | [], _ => []
 | c :: l, k => mkR c k :: m3 l (k + (2 * q7 c : Nat))
end
theorem lH : ∀ (l : List Ir) (k : Int), (m3 l k).length = l.length
 | [], _ => rfl
 | c :: l, k => by simp only [m3, List.length_cons, lH l]
theorem putz {z p : Nat} {A B ts B' : List TU} {j : Nat} (hp : A.length = p * z) (h : B.take j ++ ts ++ B.drop (j + ts.length) = B') :
  List.take (0 + (p : Int).toNat * z + j) (A ++ B) ++ ts ++ List.drop (0 + (p : Int).toNat * z + j + ts.length) (A ++ B) = A ++ B' := by
 rw [← h, Nat.zero_add]
 exact putL hp
theorem lenz {z p : Nat} {A B : List TU} {j m : Nat} (hp : A.length = p * z) (h : j + m ≤ B.length) : 0 + (p : Int).toNat * z + j + m ≤ (A ++ B).length := by
 rw [List.length_append, hp]
 show 0 + p * z + j + m ≤ _
 omega
theorem atz {z p : Nat} {A B : List TU} {j : Nat} (hp : A.length = p * z) : List.drop (0 + (p : Int).toNat * z + j) (A ++ B) = B.drop j := by
 rw [Nat.zero_add]
 show List.drop (p * z + j) (A ++ B) = _
 rw [← hp, List.drop_length_add_append]
theorem gez {z p : Nat} {A B : List TU} {j : Nat} (hp : A.length = p * z) : (A ++ B)[0 + (p : Int).toNat * z + j]? = B[j]? := by
 rw [Nat.zero_add]
 show (A ++ B)[p * z + j]? = _
 rw [← hp, List.getElem?_append_right (by omega), Nat.add_sub_cancel_left]
theorem setz {z p : Nat} {A B : List TU} {j : Nat} {x : TU} (hp : A.length = p * z) : (A ++ B).set (0 + (p : Int).toNat * z + j) x = A ++ B.set j x := by
 rw [Nat.zero_add]
 show (A ++ B).set (p * z + j) x = _
 rw [← hp, List.set_append_right _ _ (by omega), Nat.add_sub_cancel_left]
def Smk (ks : List Ir) : Prop := ∀ k : Int, 0 ≤ k → k + (2 * zX ks : Nat) < 1152921504606846976 → zX ks ≤ 100000000 →
 RT 68 [.c (.bor () (.ex 0) [] 0 0 3 ks.length), xi k] [[.t (.sl () 0 3 ks.length (yP ks))]] = some (xi (k + (2 * zX ks : Nat)), [[.t (.sl () 0 3 ks.length (yP (m3 ks k)))]])
abbrev stmk (n i : Nat) (k : Int) (jk : Nat → XU) (cs : List TU) : StA := ⟨[(5, xi i), (1, xi k), (0, .c (.bor () (.ex 0) [] 0 0 3 n)), (4, xi 0)], jk, [[.t (.sl () 0 3 n cs)]]⟩
theorem zX2 {g : Nat} {xs : List XU} {n : Int} {m : Nat} {l : List Ir} {es : List TU} {q : Nat} (h : RT g xs [[.t (.sl () 0 3 q es)]] = some (xi n, [[.t (.sl () 0 3 m (yP l))]])) : zBd RT g xs [[.t (.sl () 0 3 q es)]] (xi n) [[.t (.sl () 0 3 m (yP l))]] := by
 refine ⟨_, h, rfl, ?_⟩
 simp only [List.mapM_cons, List.mapM_nil, y8, qC, down, pZ, Option.map_some, Option.bind_some]
 rfl
set_option maxHeartbeats 4000000 in
theorem lmk {n : Nat} {K : Ex → StA → Prop} (hn : n ≤ 100000000) : ∀ (l pre : List Ir) (k : Int), (∀ op n ks, Ir.mk op n ks ∈ l → Smk ks) → pre.length + l.length = n → 0 ≤ k → k + (2 * zX l : Nat) < 1152921504606846976 → zX l ≤ 100000000 →
  (∀ jk, K (.exit 0) (stmk n n (k + (2 * zX l : Nat)) jk (yP (pre ++ m3 l k)))) →
  ∀ jk, sem cx0 68 RT (.loop (lp Try.f68 0)) (stmk n pre.length k jk (yP pre ++ yP l)) K := by
 intro l
 induction l with
 | nil =>
  intro pre k _ hl h0 hk hz k1 jk
  simp only [List.length_nil, Nat.add_zero] at hl
  refine zK cx0 _ RT [5, 1, 0, 4] ⟨fun h => (jZ h (by omega)).elim, fun h => ?_⟩
  intro jk
  have := k1 jk
  simp only [zX, m3, Nat.mul_zero, Int.natCast_zero, Int.add_zero, List.append_nil] at this
  show K _ (stmk n pre.length k jk (yP pre ++ yP []))
  rw [← hl] at this ⊢
  simp only [yP, List.append_nil]
  exact this
 | cons c l ih =>
  intro pre k H hl h0 hk hz k1 jk
  cases c with
  | mk op n' ks =>
  have hs := H _ _ _ List.mem_cons_self
  have e0 : zX (.mk op n' ks :: l) = 1 + zX ks + zX l := rfl
  rw [e0] at hk hz
  simp only [List.length_cons] at hl
  have hp := qO pre
  refine zK cx0 _ RT [5, 1, 0, 4] ⟨fun h => ?_, fun h => (qL h (by omega)).elim⟩
  refine ⟨⟨by omega, by omega⟩, ?_⟩
  refine ⟨lenz hp (by simp [yP, irE]), ?_⟩
  rw [putz (B := yP (.mk op n' ks :: l)) (ts := [.int .i64 k]) (j := 0) (B' := .int .i64 k :: .int .i64 n' :: .sl () 0 3 ks.length (yP ks) :: yP l) hp rfl]
  intro jk
  refine ⟨⟨by omega, by omega⟩, ?_⟩
  refine ⟨lenz hp (by simp), ?_⟩
  rw [wrap64 (n := k + 1) (by omega) (by omega)]
  rw [putz (B := .int .i64 k :: .int .i64 n' :: .sl () 0 3 ks.length (yP ks) :: yP l) (ts := [.int .i64 (k + 1)]) (j := 1) (B' := .int .i64 k :: .int .i64 (k + 1) :: .sl () 0 3 ks.length (yP ks) :: yP l) hp rfl]
  intro jk
  have w2 : IntKind.wrap .i64 (k + 1 + 1) = k + 2 := by rw [wrap64 (by omega) (by omega)]; omega
  refine ⟨⟨by omega, by omega⟩, ?_⟩
  refine ⟨0, ks.length, yP ks, ?_⟩
  refine ⟨⟨by rw [atz hp]; rfl, rfl⟩, ?_⟩
  refine ⟨3, ks.length, yP ks, ?_⟩
  refine ⟨by rw [gez hp]; rfl, ?_⟩
  rw [setz hp]
  intro jk
  refine ⟨_, _, zX2 (by rw [w2, aP]; exact hs (k + 2) (by omega) (by omega) (by omega)), ?_⟩
  refine ⟨by rw [gez hp]; rfl, ?_⟩
  rw [setz hp]
  intro jk
  have ih := ih (pre ++ [.mk k (k + 1) (m3 ks (k + 2))]) (k + 2 + (2 * zX ks : Nat)) (fun op n ks h => H op n ks (List.mem_cons_of_mem _ h)) (by simp; omega) (by omega) (by omega) (by omega) (fun jk => by
   have := k1 jk
   rw [e0] at this
   simp only [m3, mkR, q7] at this
   rw [List.append_assoc, show k + 2 + ((2 * zX ks : Nat) : Int) + ((2 * zX l : Nat) : Int) = k + ((2 * (1 + zX ks + zX l) : Nat) : Int) by omega, show k + 2 + ((2 * zX ks : Nat) : Int) = k + ((2 * (1 + zX ks) : Nat) : Int) by omega]
   exact this) jk
  rw [kT, List.length_append] at ih
  simp only [yP, irE, lH, List.append_nil, List.append_assoc] at ih
  rw [q8 (show pre.length < n by omega) (by simp only [maxLen]; omega)]
  exact ih
theorem zWx : ∀ c : Ir, (match c with | .mk _ _ ks => Smk ks) := by
 refine Ir.ind fun op n ks ih => ?_
 intro k h0 hk hz
 have hl := p5 ks
 refine x8 (fn := Try.f68) rfl rfl rfl rfl ?_
 refine yE cx0 _ RT [5, 1, 0, 4] fun jk => ?_
 refine lmk (n := ks.length) (by omega) ks [] k (fun op n kk h => ih _ h) (by simp) h0 hk hz (fun jk => ?_) jk
 exact ⟨rfl, rfl⟩
theorem zQo {l : List Ir} {cs : List TU} {i : Nat} {op n : Int} {ks : List Ir} (h : kY l cs) (hi : l[i]? = some (.mk op n ks)) :
  ∃ g cs' r, cs.drop (i * 3) = .int .i64 op :: .int .i64 n :: .sl () (g + 1) 3 ks.length cs' :: r ∧ kY ks cs' := by
 obtain ⟨g, cs', h1, h2⟩ := fP h hi
 refine ⟨g, cs', (cs.drop (i * 3)).drop 3, ?_, h2⟩
 have := List.take_append_drop 3 (cs.drop (i * 3))
 rw [h1] at this
 exact this.symm
def Shd (ks : List Ir) : Prop := ∀ (k : Int) g cs, 0 ≤ k → k + (2 * zX ks : Nat) < 1152921504606846976 → zX ks ≤ 100000000 → kY (m3 ks k) cs →
 RT 69 [xl (g + 1) 3 ks.length cs, xi k] [] = some (xi (k + (2 * zX ks : Nat)), [])
set_option maxHeartbeats 4000000 in
theorem lhd {n g : Nat} {M : List Ir} {cs : List TU} {K : Ex → StA → Prop} (hn : n ≤ 100000000) (hr : kY M cs) (hM : M.length = n) : ∀ (l : List Ir) (i : Nat) (k : Int), (∀ op n ks, Ir.mk op n ks ∈ l → Shd ks) → M.drop i = m3 l k → i + l.length = n → 0 ≤ k → k + (2 * zX l : Nat) < 1152921504606846976 → zX l ≤ 100000000 →
  (∀ jk, K (.exit 0) ⟨[(5, xi n), (1, xi (k + (2 * zX l : Nat))), (0, xl (g + 1) 3 n cs), (4, xi 0)], jk, []⟩) →
  ∀ jk, sem cx0 69 RT (.loop (lp Try.f69 0)) ⟨[(5, xi i), (1, xi k), (0, xl (g + 1) 3 n cs), (4, xi 0)], jk, []⟩ K := by
 intro l
 induction l with
 | nil =>
  intro i k _ _ hl h0 hk hz k1 jk
  simp only [List.length_nil, Nat.add_zero] at hl
  subst hl
  refine zK cx0 _ RT [5, 1, 0, 4] ⟨fun h => (jZ h (by omega)).elim, fun h => ?_⟩
  intro jk
  have := k1 jk
  simp only [zX, Nat.mul_zero, Int.natCast_zero, Int.add_zero] at this
  exact this
 | cons c l ih =>
  intro i k H hd hl h0 hk hz k1 jk
  cases c with
  | mk op n' ks =>
  have hs := H _ _ _ List.mem_cons_self
  have e0 : zX (.mk op n' ks :: l) = 1 + zX ks + zX l := rfl
  rw [e0] at hk hz
  simp only [List.length_cons] at hl
  have hi : M[i]? = some (.mk k (k + 1) (m3 ks (k + 2))) := by
   have := congrArg (·[0]?) hd
   simpa [m3, mkR] using this
  have hd2 : M.drop (i + 1) = m3 l (k + ((2 * (1 + zX ks) : Nat) : Int)) := by
   rw [← List.drop_drop, hd]; rfl
  obtain ⟨g', cs', r, e1, e2⟩ := zQo hr hi
  have w1 : IntKind.wrap .i64 (k + 1) = k + 1 := wrap64 (by omega) (by omega)
  have w2 : IntKind.wrap .i64 (k + 1 + 1) = k + 2 := by rw [wrap64 (by omega) (by omega)]; omega
  refine zK cx0 _ RT [5, 1, 0, 4] ⟨fun h => ?_, fun h => (qL h (by omega)).elim⟩
  refine ⟨⟨by omega, by omega⟩, ?_⟩
  refine ⟨Nat.zero_le _, ?_⟩
  refine ⟨k, ⟨by show ((cs.drop (i * 3)).drop 0).take 1 = _; rw [e1]; rfl, rfl⟩, ?_⟩
  refine ⟨fun h => by simp at h, fun _ => ?_⟩
  refine ⟨⟨by omega, by omega⟩, ?_⟩
  refine ⟨by show 1 ≤ (cs.drop (i * 3)).length; rw [e1]; simp, ?_⟩
  refine ⟨k + 1, ⟨by show ((cs.drop (i * 3)).drop 1).take 1 = _; rw [e1]; rfl, rfl⟩, ?_⟩
  rw [w1]
  refine ⟨fun h => by simp at h, fun _ => ?_⟩
  refine ⟨⟨by omega, by omega⟩, ?_⟩
  refine ⟨by show 2 ≤ (cs.drop (i * 3)).length; rw [e1]; simp, ?_⟩
  refine ⟨g' + 1, (m3 ks (k + 2)).length, cs', ⟨by show ((cs.drop (i * 3)).drop 2).take 1 = _; rw [e1]; rfl, rfl⟩, ?_⟩
  rw [lH, w2]
  have hs := hs (k + 2) (g' + 1) (zI cs') (by omega) (by omega) (by omega) e2.retag
  refine ⟨_, gF hs, ?_⟩
  refine ⟨fun h => by simp at h; omega, fun _ => ?_⟩
  intro jk
  have ih := ih (i + 1) (k + ((2 * (1 + zX ks) : Nat) : Int)) (fun op n ks h => H op n ks (List.mem_cons_of_mem _ h)) hd2 (by omega) (by omega) (by omega) (by omega) (fun jk => by
   have := k1 jk
   rw [e0] at this
   rw [show k + ((2 * (1 + zX ks) : Nat) : Int) + ((2 * zX l : Nat) : Int) = k + ((2 * (1 + zX ks + zX l) : Nat) : Int) by omega]
   exact this) jk
  rw [q8 (show i < n by omega) (by simp only [maxLen]; omega)]
  rw [show k + ((2 * (1 + zX ks) : Nat) : Int) = k + 2 + ((2 * zX ks : Nat) : Int) by omega] at ih
  exact ih
theorem zWn : ∀ c : Ir, (match c with | .mk _ _ ks => Shd ks) := by
 refine Ir.ind fun op n ks ih => ?_
 intro k g cs h0 hk hz hr
 have hl := p5 ks
 refine xL (fn := Try.f69) rfl rfl rfl rfl ?_
 refine yE cx0 _ RT [5, 1, 0, 4] fun jk => ?_
 refine lhd (g := g) (n := ks.length) (by omega) hr (lH _ _) ks 0 k (fun op n kk h => ih _ h) rfl (by simp) h0 hk hz (fun jk => ?_) jk
 exact ⟨rfl, rfl⟩
end Go.Proofs.Ytlkjnlfddadlmaa.V
namespace Go.Proofs.Ytlkjnlfddadlmaa.V
set_option maxRecDepth 100000
theorem zYk {f op n : Int} {ks : List Ir} {cs ds : List TU} {g h : Nat} (hz : q7 (.mk op n ks) ≤ 100000000) (hr : kY ks cs) (hs : kY ks ds) : RT 67 [xc (blc f op n (g + 1) ks.length cs), xc (blc f op n (h + 1) ks.length ds)] [] = some (xb true, []) := by
 refine xL (fn := Try.f67) rfl rfl rfl rfl ?_
 refine ⟨fun h => by simp at h, fun _ => ?_⟩
 refine ⟨_, xZ (eq_ir (.mk op n ks) (irc op n (g + 2) ks.length (zI cs)) (irc op n (h + 2) ks.length (zI ds)) hz ⟨_, _, rfl, hr.retag⟩ ⟨_, _, rfl, hs.retag⟩), ?_⟩
 refine ⟨(fun h => by cases h), fun _ => ?_⟩
 exact ⟨rfl, rfl⟩
theorem cW : ∀ l : List Blk, l.length ≤ kL l
 | [] => by simp
 | b :: l => by have := zC1 b.2; have := cW l; simp only [kL, List.length_cons]; omega
theorem leb {ks : List Blk} {cs ds : List TU} {g h : Nat} {K : Ex → StA → Prop} (hz : kL ks ≤ 100000000) (hr : RdB ks cs) (hs : RdB ks ds) : ∀ (l : List Blk) (i : Nat), ks.drop i = l → i ≤ ks.length →
  (∀ jk i, K (.exit 0) ⟨[(5, xi i), (0, xl (g + 1) 4 ks.length cs), (1, xl (h + 1) 4 ks.length ds), (4, xb false)], jk, []⟩) →
  ∀ jk, sem cx0 28 RT (.loop (lp Try.f28 0)) ⟨[(5, xi i), (0, xl (g + 1) 4 ks.length cs), (1, xl (h + 1) 4 ks.length ds), (4, xb false)], jk, []⟩ K := by
 have hk := cW ks
 refine xE ?_ ?_
 ·intro k1 jk
  refine zK cx0 _ RT [5, 0, 1, 4] ⟨fun h => (jZ h (by omega)).elim, fun h => ?_⟩
  exact fun jk => k1 jk _
 ·intro i c l hi hil ih k1 jk
  refine zK cx0 _ RT [5, 0, 1, 4] ⟨fun h => ?_, fun h => (qL h (by omega)).elim⟩
  refine ⟨⟨by omega, by omega⟩, ?_⟩
  have hm := List.mem_of_getElem? hi
  have hzc := zEb hm
  obtain ⟨f, op, n, kk⟩ := c
  dsimp only at hzc
  obtain ⟨g', cs', e1, e2⟩ := zAk hr hi
  refine ⟨f, op, n, g' + 1, kk.length, cs', ⟨e1, rfl⟩, ?_⟩
  refine ⟨⟨by omega, by omega⟩, ?_⟩
  obtain ⟨h', ds', f1, f2⟩ := zAk hs hi
  refine ⟨f, op, n, h' + 1, kk.length, ds', ⟨f1, rfl⟩, ?_⟩
  refine ⟨_, xZ (zYk (f := f) (op := op) (n := n) (g := g' + 1) (h := h' + 1) (by omega) e2.retag f2.retag), ?_⟩
  refine ⟨(fun h => by cases h), fun h => ?_⟩
  intro jk
  rw [q8 hil (by simp only [maxLen]; omega)]
  exact ih k1 jk
theorem zHc {ks : List Blk} {cs ds : List TU} {g h : Nat} (hz : kL ks ≤ 100000000) (hr : RdB ks cs) (hs : RdB ks ds) :
  RT 28 [xl (g + 1) 4 ks.length cs, xl (h + 1) 4 ks.length ds] [] = some (xb true, []) := by
 refine xL (fn := Try.f28) rfl rfl rfl rfl ?_
 refine ⟨fun h => by simp at h, fun _ => ?_⟩
 refine yE cx0 _ RT [5, 0, 1, 4] fun jk => ?_
 refine leb hz hr hs ks 0 rfl (by omega) (fun jk i => ?_) jk
 exact ⟨rfl, rfl⟩
def szB : List Blk → Nat
 | [] => 0
 | b :: l => 1 + 2 * q7 b.2 + szB l
def mkB : List Blk → Int → List Blk
 | [], _ => []
 | b :: l, k => (k, mkR b.2 (k + 1)) :: mkB l (k + (1 + 2 * q7 b.2 : Nat))
theorem zA1 : ∀ (l : List Blk) (k : Int), (mkB l k).length = l.length
 | [], _ => rfl
 | b :: l, k => by simp only [mkB, List.length_cons, zA1 l]
theorem zQg : ∀ l : List Blk, szB l ≤ 3 * kL l
 | [] => by simp [szB]
 | b :: l => by have := zC1 b.2; have := zQg l; simp only [szB, kL]; omega
theorem zUp {p e : Nat} {A B ts B' : List TU} {j : Nat} (hp : A.length = p * 4) (he : e = p * 4 + j) (h : B.take j ++ ts ++ B.drop (j + ts.length) = B') :
  List.take e (A ++ B) ++ ts ++ List.drop (e + ts.length) (A ++ B) = A ++ B' := by
 subst he
 rw [← h]
 exact putL hp
theorem zT2 {p e : Nat} {A B : List TU} {j m : Nat} (hp : A.length = p * 4) (he : e = p * 4 + j) (h : j + m ≤ B.length) : e + m ≤ (A ++ B).length := by
 rw [List.length_append, hp]; omega
theorem atze {p e : Nat} {A B : List TU} {j : Nat} (hp : A.length = p * 4) (he : e = p * 4 + j) : List.drop e (A ++ B) = B.drop j := by
 subst he
 rw [← hp, List.drop_length_add_append]
theorem geze {p e : Nat} {A B : List TU} {j : Nat} (hp : A.length = p * 4) (he : e = p * 4 + j) : (A ++ B)[e]? = B[j]? := by
 subst he
 rw [← hp, List.getElem?_append_right (by omega), Nat.add_sub_cancel_left]
theorem zX4 {p e : Nat} {A B : List TU} {j : Nat} {x : TU} (hp : A.length = p * 4) (he : e = p * 4 + j) : (A ++ B).set e x = A ++ B.set j x := by
 subst he
 rw [← hp, List.set_append_right _ _ (by omega), Nat.add_sub_cancel_left]
abbrev stmb (n i : Nat) (k : Int) (jk : Nat → XU) (cs : List TU) : StA := ⟨[(5, xi i), (1, xi k), (0, .c (.bor () (.ex 0) [] 0 0 4 n)), (4, xi 0)], jk, [[.t (.sl () 0 4 n cs)]]⟩
theorem retMB {g : Nat} {xs : List XU} {n : Int} {m : Nat} {l : List Blk} {es : List TU} {q : Nat} (h : RT g xs [[.t (.sl () 0 4 q es)]] = some (xi n, [[.t (.sl () 0 4 m (blE l))]])) : zBd RT g xs [[.t (.sl () 0 4 q es)]] (xi n) [[.t (.sl () 0 4 m (blE l))]] := by
 refine ⟨_, h, rfl, ?_⟩
 simp only [List.mapM_cons, List.mapM_nil, y8, qC, down, dH, Option.map_some, Option.bind_some]
 rfl
set_option maxHeartbeats 4000000 in
theorem lmb {n : Nat} {K : Ex → StA → Prop} (hn : n ≤ 100000000) : ∀ (l pre : List Blk) (k : Int), pre.length + l.length = n → 0 ≤ k → k + (szB l : Nat) < 1152921504606846976 → kL l ≤ 100000000 →
  (∀ jk, K (.exit 0) (stmb n n (k + (szB l : Nat)) jk (blE (pre ++ mkB l k)))) →
  ∀ jk, sem cx0 29 RT (.loop (lp Try.f29 0)) (stmb n pre.length k jk (blE pre ++ blE l)) K := by
 intro l
 induction l with
 | nil =>
  intro pre k hl h0 hk hz k1 jk
  simp only [List.length_nil, Nat.add_zero] at hl
  refine zK cx0 _ RT [5, 1, 0, 4] ⟨fun h => (jZ h (by omega)).elim, fun h => ?_⟩
  intro jk
  have := k1 jk
  simp only [szB, mkB, Int.natCast_zero, Int.add_zero, List.append_nil] at this
  show K _ (stmb n pre.length k jk (blE pre ++ blE []))
  rw [← hl] at this ⊢
  simp only [blE, List.append_nil]
  exact this
 | cons c l ih =>
  intro pre k hl h0 hk hz k1 jk
  obtain ⟨f, op, n', ks⟩ := c
  have hs := zWx (.mk op n' ks)
  have e0 : szB ((f, .mk op n' ks) :: l) = 1 + 2 * (1 + zX ks) + szB l := rfl
  have e1 : kL ((f, .mk op n' ks) :: l) = 1 + zX ks + kL l := rfl
  rw [e0] at hk
  rw [e1] at hz
  simp only [List.length_cons] at hl
  have hp := kM pre
  have w1 : IntKind.wrap .i64 (k + 1) = k + 1 := wrap64 (by omega) (by omega)
  have w2 : IntKind.wrap .i64 (k + 1 + 1) = k + 2 := by rw [wrap64 (by omega) (by omega)]; omega
  have w3 : IntKind.wrap .i64 (k + 2 + 1) = k + 3 := by rw [wrap64 (by omega) (by omega)]; omega
  have q : ((pre.length : Nat) : Int).toNat = pre.length := rfl
  refine zK cx0 _ RT [5, 1, 0, 4] ⟨fun h => ?_, fun h => (qL h (by omega)).elim⟩
  refine ⟨⟨by omega, by omega⟩, ?_⟩
  refine ⟨zT2 (j := 0) hp (by omega) (by simp [blE, irE]), ?_⟩
  rw [zUp (e := 0 + ((pre.length : Nat) : Int).toNat * 4 + 0) (B := blE ((f, .mk op n' ks) :: l)) (ts := [.int .i64 k]) (j := 0) (B' := .int .i64 k :: .int .i64 op :: .int .i64 n' :: .sl () 0 3 ks.length (yP ks) :: blE l) hp (by omega) rfl]
  intro jk
  refine ⟨⟨by omega, by omega⟩, ?_⟩
  refine ⟨zT2 (j := 1) hp (by omega) (by simp), ?_⟩
  rw [w1]
  rw [zUp (e := 0 + ((pre.length : Nat) : Int).toNat * 4 + 1 + 0) (B := .int .i64 k :: .int .i64 op :: .int .i64 n' :: .sl () 0 3 ks.length (yP ks) :: blE l) (ts := [.int .i64 (k + 1)]) (j := 1) (B' := .int .i64 k :: .int .i64 (k + 1) :: .int .i64 n' :: .sl () 0 3 ks.length (yP ks) :: blE l) hp (by omega) rfl]
  intro jk
  refine ⟨⟨by omega, by omega⟩, ?_⟩
  refine ⟨zT2 (j := 2) hp (by omega) (by simp), ?_⟩
  rw [w2]
  rw [zUp (e := 0 + ((pre.length : Nat) : Int).toNat * 4 + 1 + 1) (B := .int .i64 k :: .int .i64 (k + 1) :: .int .i64 n' :: .sl () 0 3 ks.length (yP ks) :: blE l) (ts := [.int .i64 (k + 2)]) (j := 2) (B' := .int .i64 k :: .int .i64 (k + 1) :: .int .i64 (k + 2) :: .sl () 0 3 ks.length (yP ks) :: blE l) hp (by omega) rfl]
  intro jk
  refine ⟨⟨by omega, by omega⟩, ?_⟩
  refine ⟨0, ks.length, yP ks, ?_⟩
  refine ⟨⟨by rw [atze (j := 3) hp (by omega)]; rfl, rfl⟩, ?_⟩
  refine ⟨3, ks.length, yP ks, ?_⟩
  refine ⟨by rw [geze (j := 3) hp (by omega)]; rfl, ?_⟩
  rw [zX4 (j := 3) hp (by omega)]
  intro jk
  refine ⟨_, _, zX2 (by rw [w3, aP]; exact hs (k + 3) (by omega) (by omega) (by omega)), ?_⟩
  refine ⟨by rw [geze (e := 0 + ((pre.length : Nat) : Int).toNat * 4 + 1 + 2) (j := 3) hp (by omega)]; rfl, ?_⟩
  rw [zX4 (e := 0 + ((pre.length : Nat) : Int).toNat * 4 + 1 + 2) (j := 3) hp (by omega)]
  intro jk
  have ih := ih (pre ++ [(k, .mk (k + 1) (k + 2) (m3 ks (k + 3)))]) (k + 3 + (2 * zX ks : Nat)) (by simp; omega) (by omega) (by omega) (by omega) (fun jk => by
   have := k1 jk
   rw [e0] at this
   simp only [mkB, mkR, q7] at this
   rw [show k + 1 + 1 = k + 2 by omega, show k + 1 + 2 = k + 3 by omega] at this
   rw [List.append_assoc, show k + 3 + ((2 * zX ks : Nat) : Int) + (szB l : Int) = k + ((1 + 2 * (1 + zX ks) + szB l : Nat) : Int) by omega, show k + 3 + ((2 * zX ks : Nat) : Int) = k + ((1 + 2 * (1 + zX ks) : Nat) : Int) by omega]
   exact this) jk
  rw [mC, List.length_append] at ih
  simp only [blE, irE, lH, List.append_nil, List.append_assoc] at ih
  rw [q8 (show pre.length < n by omega) (by simp only [maxLen]; omega)]
  exact ih
theorem zY4 {ks : List Blk} {k : Int} (h0 : 0 ≤ k) (hk : k + (szB ks : Nat) < 1152921504606846976) (hz : kL ks ≤ 100000000) :
  RT 29 [.c (.bor () (.ex 0) [] 0 0 4 ks.length), xi k] [[.t (.sl () 0 4 ks.length (blE ks))]] = some (xi (k + (szB ks : Nat)), [[.t (.sl () 0 4 ks.length (blE (mkB ks k)))]]) := by
 have hl := cW ks
 refine x8 (fn := Try.f29) rfl rfl rfl rfl ?_
 refine yE cx0 _ RT [5, 1, 0, 4] fun jk => ?_
 refine lmb (n := ks.length) (by omega) ks [] k (by simp) h0 hk hz (fun jk => ?_) jk
 exact ⟨rfl, rfl⟩
theorem zR6 {l : List Blk} {cs : List TU} {i : Nat} {f op n : Int} {ks : List Ir} (h : RdB l cs) (hi : l[i]? = some (f, .mk op n ks)) :
  ∃ g cs' r, cs.drop (i * 4) = .int .i64 f :: .int .i64 op :: .int .i64 n :: .sl () (g + 1) 3 ks.length cs' :: r ∧ kY ks cs' := by
 obtain ⟨g, cs', h1, h2⟩ := zAk h hi
 refine ⟨g, cs', (cs.drop (i * 4)).drop 4, ?_, h2⟩
 have := List.take_append_drop 4 (cs.drop (i * 4))
 rw [h1] at this
 exact this.symm
set_option maxHeartbeats 4000000 in
theorem lhb {n g : Nat} {M : List Blk} {cs : List TU} {K : Ex → StA → Prop} (hn : n ≤ 100000000) (hr : RdB M cs) (hM : M.length = n) : ∀ (l : List Blk) (i : Nat) (k : Int), M.drop i = mkB l k → i + l.length = n → 0 ≤ k → k + (szB l : Nat) < 1152921504606846976 → kL l ≤ 100000000 →
  (∀ jk, K (.exit 0) ⟨[(5, xi n), (1, xi (k + (szB l : Nat))), (0, xl (g + 1) 4 n cs), (4, xi 0)], jk, []⟩) →
  ∀ jk, sem cx0 30 RT (.loop (lp Try.f30 0)) ⟨[(5, xi i), (1, xi k), (0, xl (g + 1) 4 n cs), (4, xi 0)], jk, []⟩ K := by
 intro l
 induction l with
 | nil =>
  intro i k _ hl h0 hk hz k1 jk
  simp only [List.length_nil, Nat.add_zero] at hl
  subst hl
  refine zK cx0 _ RT [5, 1, 0, 4] ⟨fun h => (jZ h (by omega)).elim, fun h => ?_⟩
  intro jk
  have := k1 jk
  simp only [szB, Int.natCast_zero, Int.add_zero] at this
  exact this
 | cons c l ih =>
  intro i k hd hl h0 hk hz k1 jk
  obtain ⟨f, op, n', ks⟩ := c
  have hs := zWn (.mk op n' ks)
  have e0 : szB ((f, .mk op n' ks) :: l) = 1 + 2 * (1 + zX ks) + szB l := rfl
  have e1 : kL ((f, .mk op n' ks) :: l) = 1 + zX ks + kL l := rfl
  rw [e0] at hk
  rw [e1] at hz
  simp only [List.length_cons] at hl
  have hi : M[i]? = some (k, .mk (k + 1) (k + 1 + 1) (m3 ks (k + 1 + 2))) := by
   have := congrArg (·[0]?) hd
   simpa [mkB, mkR] using this
  have hd2 : M.drop (i + 1) = mkB l (k + ((1 + 2 * (1 + zX ks) : Nat) : Int)) := by
   rw [← List.drop_drop, hd]; rfl
  rw [show k + 1 + 1 = k + 2 by omega, show k + 1 + 2 = k + 3 by omega] at hi
  obtain ⟨g', cs', r, e3, e2⟩ := zR6 hr hi
  have w1 : IntKind.wrap .i64 (k + 1) = k + 1 := wrap64 (by omega) (by omega)
  have w2 : IntKind.wrap .i64 (k + 1 + 1) = k + 2 := by rw [wrap64 (by omega) (by omega)]; omega
  have w3 : IntKind.wrap .i64 (k + 2 + 1) = k + 3 := by rw [wrap64 (by omega) (by omega)]; omega
  refine zK cx0 _ RT [5, 1, 0, 4] ⟨fun h => ?_, fun h => (qL h (by omega)).elim⟩
  refine ⟨⟨by omega, by omega⟩, ?_⟩
  refine ⟨Nat.zero_le _, ?_⟩
  refine ⟨k, ⟨by show ((cs.drop (i * 4)).drop 0).take 1 = _; rw [e3]; rfl, rfl⟩, ?_⟩
  refine ⟨fun h => by simp at h, fun _ => ?_⟩
  refine ⟨⟨by omega, by omega⟩, ?_⟩
  refine ⟨by show 1 ≤ (cs.drop (i * 4)).length; rw [e3]; simp, ?_⟩
  refine ⟨Nat.zero_le _, ?_⟩
  refine ⟨k + 1, ⟨by show ((((cs.drop (i * 4)).drop 1).drop 0).take 1) = _; rw [e3]; rfl, rfl⟩, ?_⟩
  rw [w1]
  refine ⟨fun h => by simp at h, fun _ => ?_⟩
  refine ⟨⟨by omega, by omega⟩, ?_⟩
  refine ⟨by show 1 ≤ (cs.drop (i * 4)).length; rw [e3]; simp, ?_⟩
  refine ⟨by show 1 ≤ ((cs.drop (i * 4)).drop 1).length; rw [e3]; simp, ?_⟩
  refine ⟨k + 2, ⟨by show ((((cs.drop (i * 4)).drop 1).drop 1).take 1) = _; rw [e3]; rfl, rfl⟩, ?_⟩
  rw [w2]
  refine ⟨fun h => by simp at h, fun _ => ?_⟩
  refine ⟨⟨by omega, by omega⟩, ?_⟩
  refine ⟨by show 1 ≤ (cs.drop (i * 4)).length; rw [e3]; simp, ?_⟩
  refine ⟨by show 2 ≤ ((cs.drop (i * 4)).drop 1).length; rw [e3]; simp, ?_⟩
  refine ⟨g' + 1, (m3 ks (k + 3)).length, cs', ⟨by show ((((cs.drop (i * 4)).drop 1).drop 2).take 1) = _; rw [e3]; rfl, rfl⟩, ?_⟩
  rw [lH, w3]
  have hs := hs (k + 3) (g' + 1) (zI cs') (by omega) (by omega) (by omega) e2.retag
  refine ⟨_, gF hs, ?_⟩
  refine ⟨fun h => by simp at h; omega, fun _ => ?_⟩
  intro jk
  have ih := ih (i + 1) (k + ((1 + 2 * (1 + zX ks) : Nat) : Int)) hd2 (by omega) (by omega) (by omega) (by omega) (fun jk => by
   have := k1 jk
   rw [e0] at this
   rw [show k + ((1 + 2 * (1 + zX ks) : Nat) : Int) + (szB l : Int) = k + ((1 + 2 * (1 + zX ks) + szB l : Nat) : Int) by omega]
   exact this) jk
  rw [q8 (show i < n by omega) (by simp only [maxLen]; omega)]
  rw [show k + ((1 + 2 * (1 + zX ks) : Nat) : Int) = k + 3 + ((2 * zX ks : Nat) : Int) by omega] at ih
  exact ih
theorem zTn {ks : List Blk} {k : Int} {g : Nat} {cs : List TU} (h0 : 0 ≤ k) (hk : k + (szB ks : Nat) < 1152921504606846976) (hz : kL ks ≤ 100000000) (hr : RdB (mkB ks k) cs) :
  RT 30 [xl (g + 1) 4 ks.length cs, xi k] [] = some (xi (k + (szB ks : Nat)), []) := by
 have hl := cW ks
 refine xL (fn := Try.f30) rfl rfl rfl rfl ?_
 refine yE cx0 _ RT [5, 1, 0, 4] fun jk => ?_
 refine lhb (g := g) (n := ks.length) (by omega) hr (zA1 _ _) ks 0 k rfl (by simp) h0 hk hz (fun jk => ?_) jk
 exact ⟨rfl, rfl⟩
end Go.Proofs.Ytlkjnlfddadlmaa.V
namespace Go.Proofs.Ytlkjnlfddadlmaa.V
set_option maxRecDepth 100000
theorem zUw {g : Nat} {xs : List XU} {n : Nat} {l : List Blk} {b : Bool} (h : RT g xs [] = some (.tup [xl 0 4 n (blE l), xb b], [])) : Ret RT g xs (.tup [xl 0 4 n (blE l), xb b]) := ⟨_, h, by
 simp only [j7, nI, qC, down, dH, Option.map_some, Option.bind_some]; rfl⟩
theorem zV5 (c : Co) : kL (clF c).1 ≤ 20000000 := by
 unfold clF
 split
 ·next h =>
  simp only [Bool.and_eq_true] at h
  exact iR h.1
 ·simp [kL]
theorem zNh (l : List Blk) : RdB l (zI (((blE l).drop 0).take (l.length * 4))) := by rw [gP]; exact pO l
theorem rdBM (l : List Blk) (k : Int) : RdB (mkB l k) (zI (((blE (mkB l k)).drop 0).take (l.length * 4))) := by
 have := zNh (mkB l k)
 rwa [zA1] at this
theorem inBM (l : List Blk) (k : Int) : 0 + l.length * 4 ≤ (blE (mkB l k)).length := by rw [kM, zA1]; omega
set_option maxHeartbeats 8000000 in
theorem lawClose {c : Co} {us : List TU} (hr : Rd c us) (hw : Wf c) : RT 7 [xc us] [] = some (xb true, []) := by
 cases c with
 | mk op n s t ks =>
 obtain ⟨g, cs, rfl, hr⟩ := hr
 have rd : ∀ g, Rd (.mk op n s t ks) (xJ op n s t (g + 2) ks.length (zI cs)) := fun g => ⟨_, _, rfl, hr.retag⟩
 refine xL (fn := Try.f7) rfl rfl rfl rfl ?_
 refine ⟨_, gF (sz19 _ _ 1048576 hw (rd g) (by omega) (by omega)), ?_⟩
 refine ⟨fun h => ⟨rfl, rfl⟩, fun h => ?_⟩
 obtain ⟨h1, _⟩ := zH9 h
 have hz : szC (.mk op n s t ks) ≤ 1048576 := by omega
 have hkl : ks.length ≤ 1048576 := uM (by simp only [szC] at hz; omega)
 have hsm := zH8 ks
 have hzk : x0 ks ≤ 1048576 := by simp only [szC] at hz; omega
 have hwk : Wfs ks := by simp only [Wf] at hw; exact hw.2.2.2.2.2
 have ps := cl_s hz (rdO op n s t ks)
 have pi := cl_i hz (rdV op n s t ks)
 have pi2 := cl_i hz (rdO op n s t ks)
 have htot := zV5 (.mk op n s t ks)
 generalize clF (.mk op n s t ks) = P at ps pi pi2 htot
 obtain ⟨B, b⟩ := P
 dsimp only at ps pi pi2 htot
 have hsz := zQg B
 refine ⟨_, zUv (to21 _ _ hz (rd g)), ?_⟩
 refine ⟨_, zUw ps, ?_⟩
 refine ⟨rJ B, ?_⟩
 rw [gP B]
 refine ⟨_, zUv (to21 _ _ hz (rd g)), ?_⟩
 refine ⟨inV ks, ?_⟩
 refine ⟨_, zUw pi, ?_⟩
 refine ⟨rJ B, ?_⟩
 rw [gP B]
 refine ⟨rJ B, ?_⟩
 refine ⟨rJ B, ?_⟩
 refine ⟨_, xZ (zHc (by omega) (zNh B) (zNh B)), ?_⟩
 refine ⟨(fun h => by cases h), fun _ => ?_⟩
 refine ⟨fun h => by simp at h, fun _ => ?_⟩
 refine ⟨_, zUv (to21 _ _ hz (rd g)), ?_⟩
 refine ⟨inV ks, ?_⟩
 refine ⟨_, xZ (eq23 _ _ _ hw (rdV op n s t ks) (rdO op n s t ks)), ?_⟩
 refine ⟨(fun h => by cases h), fun _ => ?_⟩
 refine ⟨_, _, retM (by rw [nK]; exact zY2 hwk (by omega) (by omega) (by simp only [maxLen]; omega)), ?_⟩
 refine ⟨fun h => (by simp at h; omega), fun _ => ?_⟩
 refine ⟨rJ B, ?_⟩
 refine ⟨rJ B, ?_⟩
 refine ⟨_, xZ (zHc (by omega) (zNh B) (zNh B)), ?_⟩
 refine ⟨(fun h => by cases h), fun _ => ?_⟩
 refine ⟨fun h => by simp at h, fun _ => ?_⟩
 refine ⟨_, _, retMB (by rw [j1]; exact zY4 (by omega) (by omega) (by omega)), ?_⟩
 refine ⟨inBM B 1, ?_⟩
 refine ⟨_, gF (zTn (by omega) (by omega) (by omega) (rdBM B 1)), ?_⟩
 refine ⟨fun h => (by simp at h; omega), fun _ => ?_⟩
 refine ⟨fun h => by simp at h, fun _ => ?_⟩
 refine ⟨_, zUv (to21 _ _ hz (rd g)), ?_⟩
 refine ⟨_, zUw pi2, ?_⟩
 refine ⟨rJ B, ?_⟩
 rw [gP B]
 refine ⟨rJ B, ?_⟩
 refine ⟨rJ B, ?_⟩
 refine ⟨_, xZ (zHc (by omega) (zNh B) (zNh B)), ?_⟩
 refine ⟨(fun h => by cases h), fun _ => ?_⟩
 refine ⟨fun h => by simp at h, fun _ => ?_⟩
 refine ⟨inBM B 1, ?_⟩
 refine ⟨_, gF (zTn (by omega) (by omega) (by omega) (rdBM B 1)), ?_⟩
 refine ⟨fun h => (by simp at h; omega), fun _ => ?_⟩
 refine ⟨fun h => by simp at h, fun _ => ?_⟩
 exact ⟨rfl, rfl⟩
end Go.Proofs.Ytlkjnlfddadlmaa.V
namespace Go.Proofs.Ytlkjnlfddadlmaa.fnExactClose
open Go.ChangeShapes Go.WideShapes Go.ChangeAt Go.RowKit
set_option linter.unusedVariables false
set_option maxRecDepth 100000
theorem own : ownKnob Try.prog.godebug = none := by kernel_rfl
theorem zWs : laidOutB Try.prog = true := by kernel_rfl
def G : List Nat := [3, 9, 33, 31]
theorem hG : V.plainTys Try.prog G = true := by kernel_rfl
theorem st : ∃ fs, Try.prog.underlying 33 = some (.struct fs) := by
 obtain ⟨fs, h, _⟩ := V.fieldTys_ok (P := Try.prog) (t := 33) (l := [3, 3, 9, 9, 31]) (by kernel_rfl)
 exact ⟨fs, h⟩
theorem zY1 (os : Os) (started : os.Started) (H : Type) (enc : TypeId × Value → H) :
  ReturnsInHanded {} Try.checked os 7 .any (Rows.fnExactCloseSpec.pre6 enc Try.prog Try.f7 Rows.fnExactCloseRow.domain false) (Rows.fnExactCloseSpec.post enc Try.prog Try.f7 false true false false) := by
 refine returnsInHanded_of_change (C := Try.checked) own started (by kernel_rfl) Try.func7
  (ChangeSpec.witness6 (enc := enc) (C := Try.checked) false ⟨#[], #[.agg #[.int .i64 0, .int .i64 0, .string "".toUTF8, .string "".toUTF8, .slice none 0 0]], []⟩ 8 (by kernel_rfl) (by kernel_rfl) (by kernel_rfl) (by kernel_rfl)) ?_
 intro W base args ds gs before hval0 hW hcnd _
 have hval : ∀ (j : Nat) t v, Try.f7.params[j]? = some t → args[j]? = some v → Value.okWide Try.prog W .any base t v := hval0
 have hW' := hW
 obtain ⟨p, q, hA0, hV, rfl, hfz, hnd⟩ := hW
 have hA : DataW.TrodAll enc Try.prog W 0 (fun _ => true) true Try.f7.params.toList args.toList ds p := hA0
 rw [Try.params7] at hA hval
 obtain ⟨v0, vs0, d0, ds0, p0, q0, hargs, rfl, rfl, h0, r0⟩ := trodAll_cons hA
 obtain ⟨rfl, rfl, rfl⟩ := trodAll_nil r0
 obtain rfl : args = #[v0] := by cases args; simp_all
 obtain ⟨rfl, rfl⟩ := trodVars_none hV
 have k0 := h0
 have lt0 : ∀ x ∈ p0, x.block < W.heap.size := by obtain ⟨m, hm⟩ := k0; exact DataW.trod_lt m _ _ _ hm
 obtain ⟨fs, hu⟩ := st
 obtain ⟨k, us, hsh, hx⟩ := V.arg_struct hG (t := 33) (by decide) hu (hval 0 33 v0 rfl rfl) h0
 obtain ⟨c, hr, hw⟩ := V.sh_core k us hsh
 obtain ⟨n, hrun⟩ := V.run_of (V.lawClose hr hw)
 clear hA0 hval0
 refine (V.law_calls V.cxOk (fun _ _ => trivial) (vs := [v0]) (xs := [V.xc us]) ⟨rfl, fun i v x hv hx' => ?_⟩ hrun).mono fun e W' ⟨he, bel⟩ => ?_
 ·cases i with
  | zero => simp only [List.getElem?_cons_zero, Option.some.injEq] at hv hx'; subst hv hx'; exact hx
  | succ i => simp at hv
 subst he
 exact ⟨_, rfl, _, _, _, [], _, [], hW', trodAll_mk1 (shut_bool Try.underlying4 _), (trodAll_cons_mk (Below.trod zWs (by kernel_rfl) (of_decide_eq_true (by kernel_rfl)) k0 bel lt0) trodAll_mk0), rfl, bel.frame _, fun h => by cases h⟩
theorem over : Rows.fnExactCloseRow.holds Try.pinned (OpenSpec.ofChange Rows.fnExactCloseSpec) :=
 OpenClaim.holds_of_wide 7 Try.f7 rfl rfl rfl rfl rfl rfl rfl ⟨rfl, rfl, rfl, rfl, rfl⟩ rfl rfl rfl rfl rfl (by kernel_rfl) Try.func7 (by kernel_rfl)
  (of_decide_eq_true (by kernel_rfl)) (by unfold Func.isWrapper; first | (rw [if_pos (by decide +kernel)]; kernel_rfl) | (rw [if_neg (by decide +kernel)]; exact ⟨rfl, rfl⟩))
  (fun os started H enc _ => zY1 os started H enc)
theorem proved : Rows.FnExactCloseSaid := over
#print axioms proved
end Go.Proofs.Ytlkjnlfddadlmaa.fnExactClose
