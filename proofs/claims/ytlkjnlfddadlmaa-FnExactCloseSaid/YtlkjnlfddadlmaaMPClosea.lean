/-
  Cores are counted, turned over and compared. No conditions.
-/
import Derived.Test.YtlkjnlfddadlmaaMK
import Derived.Test.YtlkjnlfddadlmaaM6
import Derived.Test.YtlkjnlfddadlmaaM5
set_option linter.unusedVariables false
set_option linter.unusedSimpArgs false
namespace Go.Proofs.Ytlkjnlfddadlmaa.V
set_option maxRecDepth 100000
noncomputable abbrev RT := RR Try.prog cx0
theorem xL {g : Nat} {fn : Func} {a : List XU} {x : XU} (ho : cx0.orc g = none) (hf : Try.prog.funcs[g]? = some fn) (hb : fn.body = some (fn.body.getD .skip)) (hg : cx0.good g = true)
  (h : fnW cx0 g RT fn a [] fun y e => x = y ∧ e = []) : RT g a [] = some (x, []) := by
 obtain ⟨y, e, h1, h2, h3⟩ := zO6 ho hf hb hg h
 rw [RT, h1, h2, h3]
theorem gF {g : Nat} {xs : List XU} {n : Int} (h : RT g xs [] = some (xi n, [])) : Ret RT g xs (xi n) := ⟨_, h, rfl⟩
theorem xZ {g : Nat} {xs : List XU} {b : Bool} (h : RT g xs [] = some (xb b, [])) : Ret RT g xs (xb b) := ⟨_, h, rfl⟩
theorem retL {g : Nat} {xs : List XU} {n : Nat} {l : List Co} (h : RT g xs [] = some (xl 0 5 n (xV l), [])) : Ret RT g xs (xl 0 5 n (xV l)) := ⟨_, h, by simp only [j7, qC, down, pT, Option.map_some]; rfl⟩
theorem zUv {g : Nat} {xs : List XU} {c : Co} (h : RT g xs [] = some (xc (enc c), [])) : Ret RT g xs (xc (enc c)) := ⟨_, h, by
 have : ∀ {a b : List TU}, yT a = some b → y8 (a.map .t) = some (b.map .t) := by
  intro a
  induction a with
  | nil => intro b h; simp only [yT, Option.some.injEq] at h; subst h; rfl
  | cons x a ih =>
   intro b h
   simp only [yT] at h
   cases hx : down x with
   | none => simp [hx] at h
   | some y =>
    cases ha : yT a with
    | none => simp [hx, ha] at h
    | some b' =>
     simp only [hx, ha, Option.bind_some, Option.map_some, Option.some.injEq] at h
     subst h
     simp only [List.map_cons, y8, qC, hx, Option.map_some, Option.bind_some, ih ha]
 simp only [j7, this (zI8 c), Option.map_some]⟩
def szR (z : Nat) (left : Int) : Int := if (z : Int) ≤ left then left - z else -1
theorem zVn {z : Nat} {v : Int} (h : decide (szR z v < 0) = true) (h0 : 0 ≤ v) : v < z := by
 have h := of_decide_eq_true h
 unfold szR at h; split at h <;> omega
theorem zH9 {z : Nat} {v : Int} (h : decide (szR z v < 0) = false) : (z : Int) ≤ v ∧ szR z v = v - z := by
 have h := of_decide_eq_false h
 unfold szR at h ⊢
 split at h
 ·next h1 => exact ⟨h1, by rw [if_pos h1]⟩
 ·omega
def S19 (c : Co) : Prop := ∀ us left, Wf c → Rd c us → 0 ≤ left → left ≤ 1048576 → RT 17 [xc us, xi left] [] = some (xi (szR (szC c) left), [])
def lsz : List Co → Nat
 | [] => 0
 | c :: l => szC c + lsz l
theorem zA7 : ∀ l : List Co, x0 l = l.length + lsz l
 | [] => rfl
 | c :: l => by simp only [x0, lsz, zA7 l, List.length_cons]; omega
theorem l54 {ks : List Co} {cs : List TU} {g : Nat} {K : Ex → StA → Prop} (H : ∀ c ∈ ks, S19 c) (hw : Wfs ks) (hr : Rds ks cs) (hk : ks.length ≤ maxLen) : ∀ (l : List Co) (i : Nat), ks.drop i = l → i ≤ ks.length → ∀ v : Int, 0 ≤ v → v ≤ 1048576 →
  (∀ jk i v', lsz l ≤ v → v' = v - lsz l → K (.exit 0) ⟨[(5, xi i), (1, xi v'), (0, xl (g + 1) 5 ks.length cs), (4, xi 0)], jk, []⟩) →
  (∀ jk i v', v < lsz l → K .ret ⟨[(5, xi i), (1, xi v'), (0, xl (g + 1) 5 ks.length cs), (4, xi (-1))], jk, []⟩) →
  ∀ jk, sem cx0 48 RT (.loop (lp Try.f48 0)) ⟨[(5, xi i), (1, xi v), (0, xl (g + 1) 5 ks.length cs), (4, xi 0)], jk, []⟩ K := by
 refine xE ?_ ?_
 ·intro v h0 h1 k1 k2 jk
  refine zK cx0 _ RT [5, 1, 0, 4] ⟨fun h => (jZ h (by omega)).elim, fun h => ?_⟩
  exact fun jk => k1 jk _ _ (by simpa [lsz] using h0) (by simp [lsz])
 ·intro i c l hi hil ih v h0 h1 k1 k2 jk
  refine zK cx0 _ RT [5, 1, 0, 4] ⟨fun h => ?_, fun h => (qL h (by omega)).elim⟩
  refine ⟨⟨by omega, by omega⟩, ?_⟩
  have hc := H c (List.mem_of_getElem? hi)
  have hwc := tL.1 hw c (List.mem_of_getElem? hi)
  cases c with
  | mk op n s t kk =>
  obtain ⟨g', cs', e1, e2⟩ := qV hr hi
  refine ⟨op, n, s, t, g' + 1, kk.length, cs', ⟨e1, rfl⟩, ?_⟩
  refine ⟨_, ⟨_, hc _ v hwc (show Rd _ (xJ op n s t (g' + 2) kk.length (zI cs')) from ⟨_, _, rfl, e2.retag⟩) h0 h1, rfl⟩, ?_⟩
  refine ⟨fun h2 => ?_, fun h2 => ?_⟩
  ·have := zVn h2 h0
   exact fun jk => k2 jk _ _ (by simp only [lsz]; omega)
  ·obtain ⟨h3, h4⟩ := zH9 h2
   refine fun jk => ?_
   rw [q8 hil hk, h4]
   exact ih _ (by omega) (by omega) (fun jk i v' a1 a2 => k1 jk i v' (by simp only [lsz]; omega) (by simp only [lsz]; omega)) (fun jk i v' a1 => k2 jk i v' (by simp only [lsz]; omega)) jk
theorem sz54 {ks : List Co} {cs : List TU} {g : Nat} {left : Int} (H : ∀ c ∈ ks, S19 c) (hw : Wfs ks) (hr : Rds ks cs) (hk : ks.length ≤ maxLen) (h0 : 0 ≤ left) (h1 : left ≤ 1048576) :
  RT 48 [xl (g + 1) 5 ks.length cs, xi left] [] = some (xi (szR (x0 ks) left), []) := by
 have hk' := hk
 simp only [maxLen] at hk'
 refine xL (fn := Try.f48) rfl rfl rfl rfl ?_
 refine ⟨fun h => ?_, fun h => ?_⟩
 ·rw [wrap64 (by omega) (by omega)] at h
  refine ⟨?_, rfl⟩
  simp at h
  have : ¬ ((x0 ks : Nat) : Int) ≤ left := by rw [zA7]; omega
  simp only [szR, if_neg this]; rfl
 ·rw [wrap64 (by omega) (by omega)] at h
  simp at h
  have e : x0 ks = ks.length + lsz ks := zA7 ks
  refine yE cx0 _ RT [5, 1, 0, 4] fun jk => ?_
  rw [wrap64 (n := left - ks.length) (by omega) (by omega)]
  refine l54 H hw hr hk ks 0 rfl (by omega) _ (by omega) (by omega) ?_ ?_ _
  ·intro jk i v' a1 a2
   refine ⟨?_, rfl⟩
   have : ((x0 ks : Nat) : Int) ≤ left := by omega
   simp only [szR, if_pos this]
   rw [a2, show left - ((x0 ks : Nat) : Int) = left - ks.length - lsz ks by omega]; rfl
  ·intro jk i v' a1
   refine ⟨?_, rfl⟩
   have : ¬ ((x0 ks : Nat) : Int) ≤ left := by omega
   simp only [szR, if_neg this]; rfl
end Go.Proofs.Ytlkjnlfddadlmaa.V
namespace Go.Proofs.Ytlkjnlfddadlmaa.V
set_option maxRecDepth 100000
theorem sz19 : ∀ c : Co, S19 c := by
 refine Co.ind fun op n s t ks ih => ?_
 intro us left hw hr h0 h1
 simp only [Rd] at hr
 obtain ⟨g, cs, rfl, hr⟩ := hr
 simp only [Wf] at hw
 obtain ⟨w1, w2, w3, w4, w5, w6⟩ := hw
 have hs := w3
 have ht := w4
 simp only [maxLen] at hs ht
 refine xL (fn := Try.f17) rfl rfl rfl rfl ?_
 have e0 : szC (.mk op n s t ks) = s.length + t.length + x0 ks := rfl
 refine ⟨fun h => ?_, fun h => ?_⟩
 ·rw [wrap64 (by omega) (by omega)] at h
  have h := of_decide_eq_true h
  have : ¬ ((szC (.mk op n s t ks) : Nat) : Int) ≤ left := by omega
  refine ⟨?_, rfl⟩
  simp only [szR, if_neg this]; rfl
 rw [wrap64 (by omega) (by omega)] at h
 have h := of_decide_eq_false h
 refine ⟨fun h' => ?_, fun h' => ?_⟩
 ·rw [wrap64 (n := left - s.length) (by omega) (by omega), wrap64 (by omega) (by omega)] at h'
  have h' := of_decide_eq_true h'
  have : ¬ ((szC (.mk op n s t ks) : Nat) : Int) ≤ left := by omega
  refine ⟨?_, rfl⟩
  simp only [szR, if_neg this]; rfl
 rw [wrap64 (n := left - s.length) (by omega) (by omega), wrap64 (by omega) (by omega)] at h'
 have h' := of_decide_eq_false h'
 have e1 : IntKind.wrap .i64 (IntKind.wrap .i64 (left - (s.length : Int)) - (t.length : Int)) = left - s.length - t.length := by
  rw [wrap64 (n := left - s.length) (by omega) (by omega), wrap64 (by omega) (by omega)]
 have hc := sz54 (g := g + 1) (left := left - s.length - t.length) ih w6 hr.retag w5 (by omega) (by omega)
 refine ⟨_, ⟨_, by rw [e1]; exact hc, rfl⟩, ?_⟩
 refine ⟨fun h2 => ?_, fun h2 => ?_⟩
 ·have := zVn h2 (by omega)
  have : ¬ ((szC (.mk op n s t ks) : Nat) : Int) ≤ left := by omega
  refine ⟨?_, rfl⟩
  simp only [szR, if_neg this]; rfl
 ·obtain ⟨h3, h4⟩ := zH9 h2
  have : ((szC (.mk op n s t ks) : Nat) : Int) ≤ left := by omega
  refine ⟨?_, rfl⟩
  rw [h4]
  simp only [szR, if_pos this]
  rw [show left - ((szC (.mk op n s t ks) : Nat) : Int) = left - s.length - t.length - x0 ks by omega]; rfl
def S21 (c : Co) : Prop := ∀ us, szC c ≤ 1048576 → Rd c us → RT 19 [xc us] [] = some (xc (enc c), [])
abbrev zC : List TU := [.int .i64 0, .int .i64 0, .str [], .str [], .sl () 0 5 0 []]
theorem uM {ks : List Co} {n : Nat} (h : x0 ks ≤ n) : ks.length ≤ n := by rw [zA7] at h; omega
theorem w7 : ∀ {ks : List Co} {n : Nat} {c : Co}, x0 ks ≤ n → c ∈ ks → szC c ≤ n
 | x :: ks, n, c, h, hc => by
  simp only [x0] at h
  rcases List.mem_cons.1 hc with rfl | hc
  ·omega
  ·exact w7 (ks := ks) (by omega) hc
theorem zUu {n : Nat} {xs : List TU} : (wG n xs).length = n * xs.length := by
 simp [wG]
theorem zRj {n : Nat} {xs : List TU} : wG (n + 1) xs = xs ++ wG n xs := by
 simp [wG, List.replicate_succ]
theorem zUo {l : List Co} {c : Co} {m : Nat} : (((xV l ++ wG (m + 1) zC).take (l.length * 5)) ++ enc c) ++ (xV l ++ wG (m + 1) zC).drop (l.length * 5 + 5) = xV (l ++ [c]) ++ wG m zC := by
 rw [← uQ l, List.take_left, List.drop_length_add_append, zRj, nJ]
 simp only [xV, List.append_nil]
 rw [show (zC ++ wG m zC).drop 5 = wG m zC from rfl]
theorem l55 {ks : List Co} {cs : List TU} {g : Nat} {K : Ex → StA → Prop} (H : ∀ c ∈ ks, S21 c) (hz : x0 ks ≤ 1048576) (hr : Rds ks cs) : ∀ (l : List Co) (i : Nat), ks.drop i = l → i ≤ ks.length →
  (∀ jk i, K (.exit 0) ⟨[(4, xi i), (3, xl 0 5 ks.length (xV ks)), (0, xl (g + 1) 5 ks.length cs), (2, xl 0 5 0 [])], jk, []⟩) →
  ∀ jk, sem cx0 52 RT (.loop (lp Try.f52 0)) ⟨[(4, xi i), (3, xl 0 5 ks.length (xV (ks.take i) ++ wG (ks.length - i) zC)), (0, xl (g + 1) 5 ks.length cs), (2, xl 0 5 0 [])], jk, []⟩ K := by
 have hk := uM hz
 refine xE ?_ ?_
 ·intro k1 jk
  refine zK cx0 _ RT [4, 3, 0, 2] ⟨fun h => (jZ h (by omega)).elim, fun h => ?_⟩
  intro jk
  have := k1 jk ks.length
  show K _ _
  simpa [wG] using this
 ·intro i c l hi hil ih k1 jk
  refine zK cx0 _ RT [4, 3, 0, 2] ⟨fun h => ?_, fun h => (qL h (by omega)).elim⟩
  refine ⟨⟨by omega, by omega⟩, ?_⟩
  have hm := List.mem_of_getElem? hi
  have hc := H c hm
  have hzc := w7 hz hm
  cases c with
  | mk op n s t kk =>
  obtain ⟨g', cs', e1, e2⟩ := qV hr hi
  refine ⟨op, n, s, t, g' + 1, kk.length, cs', ⟨e1, rfl⟩, ?_⟩
  refine ⟨_, zUv (hc _ hzc (show Rd _ (xJ op n s t (g' + 2) kk.length (zI cs')) from ⟨_, _, rfl, e2.retag⟩)), ?_⟩
  refine ⟨⟨by omega, by omega⟩, ?_⟩
  refine ⟨?_, ?_⟩
  ·rw [List.length_append, uQ, zUu, List.length_take, Nat.min_eq_left (by omega)]
   show 0 + i * 5 + 5 ≤ i * 5 + (ks.length - i) * 5
   omega
  intro jk jk
  have hl : (ks.take i).length = i := by rw [List.length_take]; omega
  have e := zUo (l := ks.take i) (c := .mk op n s t kk) (m := ks.length - (i + 1))
  rw [hl, show ks.length - (i + 1) + 1 = ks.length - i by omega, show ks.take i ++ [Co.mk op n s t kk] = ks.take (i + 1) by rw [List.take_add_one, hi]; rfl] at e
  have := ih k1 jk
  rw [← e] at this
  simp only [Nat.zero_add, Int.toNat_natCast, q8 hil (show ks.length ≤ maxLen by simp only [maxLen]; omega)]
  exact this
theorem to55 {ks : List Co} {cs : List TU} {g : Nat} (H : ∀ c ∈ ks, S21 c) (hz : x0 ks ≤ 1048576) (hr : Rds ks cs) :
  RT 52 [xl (g + 1) 5 ks.length cs] [] = some (xl 0 5 ks.length (xV ks), []) := by
 have hk := uM hz
 refine xL (fn := Try.f52) rfl rfl rfl rfl ?_
 refine ⟨⟨by omega, by omega, ?_, by simp only [maxLen]; omega⟩, ?_⟩
 ·show (ks.length : Int) * (72 : Nat) ≤ 140737488355328
  omega
 refine yE cx0 _ RT [4, 3, 0, 2] fun jk => ?_
 refine l55 (g := g) H hz hr ks 0 rfl (by omega) (fun jk i => ?_) jk
 refine ⟨by rw [uQ]; omega, ?_⟩
 refine ⟨?_, rfl⟩
 exact congrArg (xl 0 5 ks.length) (sG ks).symm
theorem to21 : ∀ c : Co, S21 c := by
 refine Co.ind fun op n s t ks ih => ?_
 intro us hz hr
 simp only [Rd] at hr
 obtain ⟨g, cs, rfl, hr⟩ := hr
 refine xL (fn := Try.f19) rfl rfl rfl rfl ?_
 refine ⟨_, retL (to55 (g := g + 1) (cs := zI cs) ih (by simp only [szC] at hz; omega) hr.retag), ?_⟩
 refine ⟨by rw [uQ]; omega, ?_⟩
 refine ⟨?_, rfl⟩
 exact congrArg (fun x => xc (xJ op n s t 0 ks.length x)) (sG ks).symm
def S23 (c : Co) : Prop := ∀ us vs, Wf c → Rd c us → Rd c vs → RT 21 [xc us, xc vs] [] = some (xb true, [])
theorem l56 {ks : List Co} {cs ds : List TU} {g h : Nat} {K : Ex → StA → Prop} (H : ∀ c ∈ ks, S23 c) (hw : Wfs ks) (hr : Rds ks cs) (hs : Rds ks ds) (hk : ks.length ≤ maxLen) : ∀ (l : List Co) (i : Nat), ks.drop i = l → i ≤ ks.length →
  (∀ jk i, K (.exit 0) ⟨[(5, xi i), (0, xl (g + 1) 5 ks.length cs), (1, xl (h + 1) 5 ks.length ds), (4, xb false)], jk, []⟩) →
  ∀ jk, sem cx0 56 RT (.loop (lp Try.f56 0)) ⟨[(5, xi i), (0, xl (g + 1) 5 ks.length cs), (1, xl (h + 1) 5 ks.length ds), (4, xb false)], jk, []⟩ K := by
 refine xE ?_ ?_
 ·intro k1 jk
  refine zK cx0 _ RT [5, 0, 1, 4] ⟨fun h => (jZ h (by omega)).elim, fun h => ?_⟩
  exact fun jk => k1 jk _
 ·intro i c l hi hil ih k1 jk
  refine zK cx0 _ RT [5, 0, 1, 4] ⟨fun h => ?_, fun h => (qL h (by omega)).elim⟩
  refine ⟨⟨by omega, by omega⟩, ?_⟩
  have hm := List.mem_of_getElem? hi
  have hc := H c hm
  have hwc := tL.1 hw c hm
  cases c with
  | mk op n s t kk =>
  obtain ⟨g', cs', e1, e2⟩ := qV hr hi
  refine ⟨op, n, s, t, g' + 1, kk.length, cs', ⟨e1, rfl⟩, ?_⟩
  refine ⟨⟨by omega, by omega⟩, ?_⟩
  obtain ⟨h', ds', f1, f2⟩ := qV hs hi
  refine ⟨op, n, s, t, h' + 1, kk.length, ds', ⟨f1, rfl⟩, ?_⟩
  refine ⟨_, xZ (hc _ _ hwc (show Rd _ (xJ op n s t (g' + 2) kk.length (zI cs')) from ⟨_, _, rfl, e2.retag⟩) (show Rd _ (xJ op n s t (h' + 2) kk.length (zI ds')) from ⟨_, _, rfl, f2.retag⟩)), ?_⟩
  refine ⟨(fun h => by cases h), fun h => ?_⟩
  intro jk
  rw [q8 hil hk]
  exact ih k1 jk
theorem eq56 {ks : List Co} {cs ds : List TU} {g h : Nat} (H : ∀ c ∈ ks, S23 c) (hw : Wfs ks) (hr : Rds ks cs) (hs : Rds ks ds) (hk : ks.length ≤ maxLen) :
  RT 56 [xl (g + 1) 5 ks.length cs, xl (h + 1) 5 ks.length ds] [] = some (xb true, []) := by
 refine xL (fn := Try.f56) rfl rfl rfl rfl ?_
 refine ⟨fun h => by simp at h, fun _ => ?_⟩
 refine yE cx0 _ RT [5, 0, 1, 4] fun jk => ?_
 refine l56 H hw hr hs hk ks 0 rfl (by omega) (fun jk i => ?_) jk
 exact ⟨rfl, rfl⟩
theorem eq23 : ∀ c : Co, S23 c := by
 refine Co.ind fun op n s t ks ih => ?_
 intro us vs hw hr hs
 simp only [Rd] at hr hs
 obtain ⟨g, cs, rfl, hr⟩ := hr
 obtain ⟨h, ds, rfl, hs⟩ := hs
 simp only [Wf] at hw
 refine xL (fn := Try.f21) rfl rfl rfl rfl ?_
 refine ⟨fun h => by simp at h, fun _ => ?_⟩
 refine ⟨fun h => by simp at h, fun _ => ?_⟩
 refine ⟨fun h => by simp at h, fun _ => ?_⟩
 refine ⟨fun h => by simp at h, fun _ => ?_⟩
 refine ⟨_, xZ (eq56 (g := g + 1) (h := h + 1) (cs := zI cs) (ds := zI ds) ih hw.2.2.2.2.2 hr.retag hs.retag hw.2.2.2.2.1), ?_⟩
 refine ⟨(fun h => by cases h), fun _ => ?_⟩
 exact ⟨rfl, rfl⟩
end Go.Proofs.Ytlkjnlfddadlmaa.V
namespace Go.Proofs.Ytlkjnlfddadlmaa.V
set_option maxRecDepth 100000
theorem zYu {n : Int} (h : (Lit.int .i64 n).wf = true) : -9223372036854775808 ≤ n ∧ n < 9223372036854775808 := by
 simp only [Lit.wf, Bool.and_eq_true, decide_eq_true_eq] at h
 obtain ⟨h1, h2⟩ := h
 have e1 : IntKind.min .i64 = -9223372036854775808 := by decide
 have e2 : IntKind.max .i64 = 9223372036854775807 := by decide
 omega
def ShL (sh : Nat → List TU → Prop) : List Nat → List TU → Prop
 | [], us => us = []
 | t :: ts, us => ∃ vs ws, us = vs ++ ws ∧ sh t vs ∧ ShL sh ts ws
theorem zXk {sh : Nat → List TU → Prop} : ∀ {fs : List Field} {us : List TU}, ShF sh fs us → ShL sh (fs.map (·.type)) us
 | [], us, h => h
 | f :: fs, us, h => by
  obtain ⟨vs, ws, h1, h2, h3⟩ := h
  exact ⟨vs, ws, h1, h2, zXk h3⟩
theorem zU7 {k : Nat} {us : List TU} (h : Sh Try.prog k 3 us) : ∃ n, us = [.int .i64 n] ∧ -9223372036854775808 ≤ n ∧ n < 9223372036854775808 := by
 cases k with
 | zero => exact h.elim
 | succ k =>
  have hu : Try.prog.underlying 3 = some (.int .i64) := by kernel_rfl
  simp only [Sh, hu] at h
  obtain ⟨n, h1, h2⟩ := h
  exact ⟨n, h1, zYu h2⟩
theorem zU8 {k : Nat} {us : List TU} (h : Sh Try.prog k 9 us) : ∃ s, us = [.str s] ∧ s.length ≤ maxLen := by
 cases k with
 | zero => exact h.elim
 | succ k =>
  have hu : Try.prog.underlying 9 = some .string := by kernel_rfl
  simp only [Sh, hu] at h
  exact h
def zJd (P : Program) (t : Nat) : Option (List Nat) :=
 match P.underlying t with
 | some (.struct fs) => some (fs.toList.map (·.type))
 | _ => none
theorem fieldTys_ok {P : Program} {t : Nat} {l : List Nat} (h : zJd P t = some l) : ∃ fs, P.underlying t = some (.struct fs) ∧ fs.toList.map (·.type) = l := by
 unfold zJd at h
 split at h
 ·next fs hf => exact ⟨fs, hf, Option.some.inj h⟩
 ·cases h
theorem sh_core : ∀ (k : Nat) (us : List TU), Sh Try.prog k 33 us → ∃ c, Rd c us ∧ Wf c := by
 intro k
 induction k using Nat.strongRecOn with
 | _ k ih =>
 intro us h
 cases k with
 | zero => exact h.elim
 | succ k =>
  obtain ⟨fs, hu, hf⟩ := fieldTys_ok (P := Try.prog) (t := 33) (l := [3, 3, 9, 9, 31]) (by kernel_rfl)
  simp only [Sh, hu] at h
  have h := zXk h
  rw [hf] at h
  obtain ⟨a1, b1, rfl, c1, a2, b2, rfl, c2, a3, b3, rfl, c3, a4, b4, rfl, c4, a5, b5, rfl, c5, rfl⟩ := h
  obtain ⟨op, rfl, o1, o2⟩ := zU7 c1
  obtain ⟨n, rfl, n1, n2⟩ := zU7 c2
  obtain ⟨s, rfl, s1⟩ := zU8 c3
  obtain ⟨t, rfl, t1⟩ := zU8 c4
  cases k with
  | zero => exact c5.elim
  | succ k =>
   have hu : Try.prog.underlying 31 = some (.slice 33) := by kernel_rfl
   simp only [Sh, hu] at c5
   obtain ⟨cs, rfl, l1, l2, l3⟩ := c5
   have key : ∀ cs : List (List TU), (∀ c ∈ cs, Sh Try.prog k 33 c) → ∃ ks : List Co, ks.length = cs.length ∧ Rds ks cs.flatten ∧ Wfs ks := by
    intro cs
    induction cs with
    | nil => intro _; exact ⟨[], rfl, rfl, trivial⟩
    | cons c cs ihc =>
     intro h
     obtain ⟨x, x1, x2⟩ := ih k (by omega) c (h c List.mem_cons_self)
     obtain ⟨ks, k1, k2, k3⟩ := ihc fun y hy => h y (List.mem_cons_of_mem _ hy)
     exact ⟨x :: ks, by simp [k1], ⟨_, _, rfl, x1, k2⟩, ⟨x2, k3⟩⟩
   obtain ⟨ks, k1, k2, k3⟩ := key cs l3
   refine ⟨.mk op n s t ks, ⟨0, cs.flatten, ?_, k2⟩, ⟨o1, o2⟩, ⟨n1, n2⟩, s1, t1, by omega, k3⟩
   have e : Try.prog.cellsOf 33 = 5 := by kernel_rfl
   rw [e, k1]; rfl
theorem rdO (op n : Int) (s t : List UInt8) (ks : List Co) : Rd (.mk op n s t ks) (xJ op n s t 1 ks.length (zI (xV ks))) := zFb (.mk op n s t ks)
theorem rdV (op n : Int) (s t : List UInt8) (ks : List Co) : Rd (.mk op n s t ks) (xJ op n s t 1 ks.length (zI (((xV ks).drop 0).take (ks.length * 5)))) := by rw [sG]; exact rdO op n s t ks
theorem inV (ks : List Co) : 0 + ks.length * 5 ≤ (xV ks).length := by rw [uQ]; omega
theorem run_of {f : Nat} {xs : List XU} {r : XU × List (List CU)} (h : RT f xs [] = some r) : ∃ k, run Try.prog cx0 k f xs [] = some r := (zL9 Try.prog cx0).1 h
end Go.Proofs.Ytlkjnlfddadlmaa.V
namespace Go.Proofs.Ytlkjnlfddadlmaa.V
set_option maxRecDepth 100000
def bit (b : Bool) : Nat := if b then 1 else 0
theorem zXl (b : Bool) : RT 45 [xb b] [] = some (xi (bit b), []) := by
 refine xL (fn := Try.f45) rfl rfl rfl rfl ?_
 refine ⟨fun h => ?_, fun h => ?_⟩
 ·exact ⟨by rw [h]; rfl, rfl⟩
 ·exact ⟨by rw [h]; rfl, rfl⟩
theorem max59 (a b : Int) : RT 111 [xi a, xi b] [] = some (xi (max a b), []) := by
 refine xL (fn := Try.f111) rfl rfl rfl rfl ?_
 refine ⟨fun h => ?_, fun h => ?_⟩
 ·have h := of_decide_eq_true h
  exact ⟨by rw [show max a b = a by omega]; rfl, rfl⟩
 ·have h := of_decide_eq_false h
  exact ⟨by rw [show max a b = b by omega]; rfl, rfl⟩
theorem sO (a lo hi : Int) : RT 71 [xi a, xi lo, xi hi] [] = some (xb (decide (a ≥ lo) && decide (a ≤ hi)), []) := by
 refine xL (fn := Try.f71) rfl rfl rfl rfl ?_
 refine ⟨fun h => ?_, fun h => ?_⟩
 ·exact ⟨by rw [h]; rfl, rfl⟩
 ·exact ⟨by rw [h]; rfl, rfl⟩
theorem aK (a lo hi : Int) : RT 74 [xi a, xi lo, xi hi] [] = some (xb (decide (a ≥ lo) && decide (a ≤ hi)), []) := by
 refine xL (fn := Try.f74) rfl rfl rfl rfl ?_
 refine ⟨fun h => ?_, fun h => ?_⟩
 ·exact ⟨by rw [h]; rfl, rfl⟩
 ·exact ⟨by rw [h]; rfl, rfl⟩
end Go.Proofs.Ytlkjnlfddadlmaa.V
namespace Go.Proofs.Ytlkjnlfddadlmaa.V
set_option maxRecDepth 100000
abbrev Nm := List UInt8
def nm : List Nm → List TU
 | [] => []
 | s :: l => .str s :: nm l
theorem qG : ∀ l, zI (nm l) = nm l
 | [] => rfl
 | s :: l => by simp only [nm, zI, retag, qG l]
theorem zA2 : ∀ l, yT (nm l) = some (nm l)
 | [] => rfl
 | s :: l => by simp only [nm, yT, down, zA2 l, Option.bind_some, Option.map_some]
theorem gY : ∀ l, (nm l).length = l.length
 | [] => rfl
 | s :: l => by simp only [nm, List.length_cons, gY l]
theorem oS : ∀ l m, nm (l ++ m) = nm l ++ nm m
 | [], m => rfl
 | s :: l, m => by simp only [List.cons_append, nm, oS l m]
theorem dM (l : List Nm) : ((nm l).drop 0).take (l.length * 1) = nm l := by rw [List.drop_zero, Nat.mul_one, ← gY, List.take_length]
theorem zPn : ∀ {l : List Nm} {i : Nat} {s : Nm}, l[i]? = some s → ((nm l).drop (i * 1)).take 1 = [.str s]
 | [], i, s, h => by simp at h
 | x :: l, 0, s, h => by
  simp only [List.getElem?_cons_zero, Option.some.injEq] at h
  subst h; rfl
 | x :: l, i + 1, s, h => by
  simp only [List.getElem?_cons_succ] at h
  have := zPn h
  rw [show (i + 1) * 1 = i * 1 + 1 by omega]; exact this
theorem zDo {g : Nat} {xs : List XU} {n : Nat} {l : List Nm} (h : RT g xs [] = some (xl 0 1 n (nm l), [])) : Ret RT g xs (xl 0 1 n (nm l)) := ⟨_, h, by simp only [j7, qC, down, zA2, Option.map_some]; rfl⟩
theorem l83 {l : List Nm} {s : Nm} {g : Nat} {K : Ex → StA → Prop} (hk : l.length ≤ maxLen) : ∀ (r : List Nm) (i : Nat), l.drop i = r → i ≤ l.length →
  (∀ jk j, (r.contains s) = false → K (.exit 0) ⟨[(5, xi j), (0, xl (g + 1) 1 l.length (nm l)), (1, xs s), (4, xb false)], jk, []⟩) →
  (∀ jk j, (r.contains s) = true → K .ret ⟨[(5, xi j), (0, xl (g + 1) 1 l.length (nm l)), (1, xs s), (4, xb true)], jk, []⟩) →
  ∀ jk, sem cx0 114 RT (.loop (lp Try.f114 0)) ⟨[(5, xi i), (0, xl (g + 1) 1 l.length (nm l)), (1, xs s), (4, xb false)], jk, []⟩ K := by
 refine xE ?_ ?_
 ·intro k1 k2 jk
  refine zK cx0 _ RT [5, 0, 1, 4] ⟨fun h => (jZ h (by omega)).elim, fun h => ?_⟩
  exact fun jk => k1 jk _ rfl
 ·intro i o r hi hil ih k1 k2 jk
  refine zK cx0 _ RT [5, 0, 1, 4] ⟨fun h => ?_, fun h => (qL h (by omega)).elim⟩
  refine ⟨⟨by omega, by omega⟩, ?_⟩
  refine ⟨o, ⟨zPn hi, rfl⟩, ?_⟩
  refine ⟨fun h => ?_, fun h => ?_⟩
  ·have h := eq_of_beq h
   exact fun jk => k2 jk _ (by subst h; simp)
  ·have h1 : ∀ b, (o :: r).contains s = b → r.contains s = b := by
    intro b hb; rw [List.contains_cons] at hb
    have : (s == o) = false := by rw [← h]; exact BEq.comm
    rwa [this, Bool.false_or] at hb
   have h2 : ∀ b, r.contains s = b → (o :: r).contains s = b := by
    intro b hb; rw [List.contains_cons]
    have : (s == o) = false := by rw [← h]; exact BEq.comm
    rw [this, Bool.false_or]; exact hb
   intro jk
   rw [q8 hil hk]
   exact ih (fun jk j h => k1 jk j (h2 _ h)) (fun jk j h => k2 jk j (h2 _ h)) jk
theorem in83 {l : List Nm} {s : Nm} {g : Nat} {cs : List TU} (hc : cs = nm l) (hk : l.length ≤ maxLen) : RT 114 [xl (g + 1) 1 l.length cs, xs s] [] = some (xb (l.contains s), []) := by
 subst hc
 refine xL (fn := Try.f114) rfl rfl rfl rfl ?_
 refine yE cx0 _ RT [5, 0, 1, 4] fun jk => ?_
 refine l83 (g := g) (s := s) hk l 0 rfl (by omega) (fun jk i h => ?_) (fun jk i h => ?_) jk
 ·exact ⟨by rw [h]; rfl, rfl⟩
 ·exact ⟨by rw [h]; rfl, rfl⟩
theorem x8 {g : Nat} {fn : Func} {a : List XU} {e e' : List (List CU)} {x : XU} (ho : cx0.orc g = none) (hf : Try.prog.funcs[g]? = some fn) (hb : fn.body = some (fn.body.getD .skip)) (hg : cx0.good g = true)
  (h : fnW cx0 g RT fn a e fun y f => x = y ∧ e' = f) : RT g a e = some (x, e') := by
 obtain ⟨y, f, h1, h2, h3⟩ := zO6 ho hf hb hg h
 rw [RT, h1, h2, h3]
theorem zVt {g sz n n' : Nat} {cs cs' : List TU} (h1 : n = n') (h2 : cs = cs') : xl g sz n cs = xl g sz n' cs' := by rw [h1, h2]
theorem uZ {α : Type} {n : Nat} {l : List α} (h : l.length ≤ n) : (l.drop 0).take n = l := by rw [List.drop_zero, List.take_of_length_le h]
theorem zUd {l m : List Nm} : ((([] ++ nm l).drop 0).take ((0 + l.length) * 1)) ++ nm m = nm (l ++ m) := by
 rw [List.nil_append, uZ (by rw [gY]; omega), oS]
theorem zIm {l : List Nm} {s : Nm} {g : Nat} {cs : List TU} (hc : cs = nm l) (hk : l.length ≤ 8388608) : RT 131 [xl (g + 1) 1 l.length cs, xs s] [] = some (xl 0 1 (l ++ [s]).length (nm (l ++ [s])), []) := by
 subst hc
 refine xL (fn := Try.f131) rfl rfl rfl rfl ?_
 refine ⟨⟨by simp only [maxLen]; omega, by show (0 + l.length) * 16 ≤ _; omega⟩, ?_⟩
 refine ⟨by show 0 + (0 + l.length) * 1 ≤ (nm l).length; rw [gY]; omega, ?_⟩
 refine ⟨⟨by simp only [maxLen]; omega, by show (_ + 1) * 16 ≤ _; omega⟩, ?_⟩
 have e := zUd (l := l) (m := [s])
 refine ⟨?_, ?_⟩
 ·refine Nat.le_trans ?_ (Nat.le_of_eq (congrArg List.length e.symm))
  rw [gY, List.length_append]; show 0 + (0 + l.length + 1) * 1 ≤ l.length + 1; omega
 refine ⟨zVt (by simp) ?_, rfl⟩
 refine Eq.trans ?_ (congrArg (fun x => (List.drop 0 x).take ((0 + l.length + 1) * 1)) e.symm)
 exact (uZ (by rw [gY, List.length_append]; show l.length + 1 ≤ _; omega)).symm
def qY (op : Int) (s t : Nm) (i : Nat) : List Nm :=
 if op == 3 || (op == 5 && (i : Int) == 1) || (op == 6 && (i : Int) == 1) then [s] else if op == 6 then [s, t] else []
theorem zXw {g : Nat} {fn : Func} {a : List XU} {P : XU → Prop} (ho : cx0.orc g = none) (hf : Try.prog.funcs[g]? = some fn) (hb : fn.body = some (fn.body.getD .skip)) (hg : cx0.good g = true)
  (h : fnW cx0 g RT fn a [] fun y e => P y ∧ e = []) : ∃ y, P y ∧ RT g a [] = some (y, []) := by
 obtain ⟨y, e, h1, h2, h3⟩ := zO6 ho hf hb hg h
 exact ⟨y, h2, by rw [RT, h1, h3]⟩
theorem env84 {op n : Int} {s t : Nm} {ks : List Co} {us : List TU} {i : Nat} {l : List Nm} {g : Nat} {cs : List TU} (h : Rd (.mk op n s t ks) us) (hc : cs = nm l) (hk : l.length ≤ 4194304) :
  ∃ y, (∃ g', (g' = 0 ∨ g' = g + 2) ∧ y = xl g' 1 (l ++ qY op s t i).length (nm (l ++ qY op s t i))) ∧ RT 115 [xc us, xi i, xl (g + 2) 1 l.length cs] [] = some (y, []) := by
 subst hc
 obtain ⟨g', cs, rfl, h⟩ := h
 refine zXw (fn := Try.f115) rfl rfl rfl rfl ?_
 have W : ∀ L : List Nm, 0 + L.length * 1 ≤ (nm L).length := fun L => by rw [gY]; omega
 refine ⟨fun h3 => ?_, fun h3 => ?_⟩
 ·refine ⟨_, zDo (zIm (g := g + 2) (qG l) (by omega)), ?_⟩
  refine ⟨W _, ?_⟩
  exact ⟨⟨0, .inl rfl, by rw [← dM (l ++ qY op s t i)]; simp only [qY, h3]; rfl⟩, rfl⟩
 refine ⟨fun h5 => ?_, fun h5 => ?_⟩
 ·refine ⟨fun hi => ?_, fun hi => ?_⟩
  ·refine ⟨_, zDo (zIm (g := g + 2) (qG l) (by omega)), ?_⟩
   refine ⟨W _, ?_⟩
   exact ⟨⟨0, .inl rfl, by rw [← dM (l ++ qY op s t i)]; simp only [qY, h3, h5, hi]; rfl⟩, rfl⟩
  ·have := eq_of_beq h5
   subst this
   refine ⟨fun h6 => by simp_all, fun h6 => ?_⟩
   refine ⟨fun h6' => by simp_all, fun h6' => ?_⟩
   exact ⟨⟨g + 2, .inr rfl, by simp only [qY, hi]; simp; rfl⟩, rfl⟩
 refine ⟨fun h6 => ?_, fun h6 => ?_⟩
 ·refine ⟨fun hi => ?_, fun hi => ?_⟩
  ·refine ⟨_, zDo (zIm (g := g + 2) (qG l) (by omega)), ?_⟩
   refine ⟨W _, ?_⟩
   exact ⟨⟨0, .inl rfl, by rw [← dM (l ++ qY op s t i)]; simp only [qY, h3, h5, h6, hi]; rfl⟩, rfl⟩
  ·refine ⟨fun _ => ?_, fun h6' => by simp_all⟩
   refine ⟨_, zDo (zIm (g := g + 2) (qG l) (by omega)), ?_⟩
   refine ⟨_, zDo (zIm (g := 0) (qG _) (by simp; omega)), ?_⟩
   refine ⟨W _, ?_⟩
   exact ⟨⟨0, .inl rfl, by rw [← dM (l ++ qY op s t i)]; simp only [qY, h3, h5, h6, hi]; simp; rfl⟩, rfl⟩
 ·refine ⟨fun h6' => by simp_all, fun h6' => ?_⟩
  exact ⟨⟨g + 2, .inr rfl, by simp only [qY, h3, h5, h6]; simp; rfl⟩, rfl⟩
theorem zOm {op n : Int} {s t : Nm} {ks : List Co} {us : List TU} {i : Nat} (h : Rd (.mk op n s t ks) us) :
  RT 120 [xc us, xi i] [] = some (xl 0 1 (qY op s t i).length (nm (qY op s t i)), []) := by
 obtain ⟨g, cs, rfl, h⟩ := h
 refine xL (fn := Try.f120) rfl rfl rfl rfl ?_
 refine ⟨fun h3 => ?_, fun h3 => ?_⟩
 ·refine ⟨Nat.le_refl _, ?_⟩
  exact ⟨by simp only [qY, h3, Bool.true_or, if_true]; rfl, rfl⟩
 refine ⟨fun h5 => ?_, fun h5 => ?_⟩
 ·refine ⟨fun hi => ?_, fun hi => ?_⟩
  ·refine ⟨Nat.le_refl _, ?_⟩
   exact ⟨by simp only [qY, h3, h5, hi]; rfl, rfl⟩
  ·have := eq_of_beq h5
   subst this
   refine ⟨fun h6 => by simp_all, fun h6 => ?_⟩
   refine ⟨fun h6' => by simp_all, fun h6' => ?_⟩
   refine ⟨Nat.le_refl _, ?_⟩
   exact ⟨by simp only [qY, hi]; rfl, rfl⟩
 refine ⟨fun h6 => ?_, fun h6 => ?_⟩
 ·refine ⟨fun hi => ?_, fun hi => ?_⟩
  ·refine ⟨Nat.le_refl _, ?_⟩
   exact ⟨by simp only [qY, h3, h5, h6, hi]; rfl, rfl⟩
  ·refine ⟨fun _ => ?_, fun h6' => by simp_all⟩
   refine ⟨Nat.le_refl _, ?_⟩
   exact ⟨by simp only [qY, h3, h5, h6, hi]; rfl, rfl⟩
 ·refine ⟨fun h6' => by simp_all, fun h6' => ?_⟩
  refine ⟨Nat.le_refl _, ?_⟩
  exact ⟨by simp only [qY, h3, h5, h6]; rfl, rfl⟩
end Go.Proofs.Ytlkjnlfddadlmaa.V
namespace Go.Proofs.Ytlkjnlfddadlmaa.V
set_option maxRecDepth 100000
def wS (b : Bool) (s : Nm) : List Nm := if b then [s] else []
mutual
def frC : List Nm → Co → List Nm
 | env, .mk op _ s t ks => wS (op == 2 && !env.contains s) s ++ frL op s t env 0 ks
def frL (op : Int) (s t : Nm) (env : List Nm) : Nat → List Co → List Nm
 | _, [] => []
 | i, c :: l => frC (env ++ qY op s t i) c ++ frL op s t env (i + 1) l
end
theorem retD {g : Nat} {xs : List XU} {n : Nat} {k : Nat} {l : List Nm} (h : RT g xs [] = some (xl (k + 2) 1 n (nm l), [])) : Ret RT g xs (xl (k + 1) 1 n (nm l)) := ⟨_, h, by simp only [j7, qC, down, zA2, Option.map_some]; rfl⟩
theorem zZe {g k : Nat} {xs : List XU} {n : Nat} {l : List Nm} (h : ∃ y, (∃ g', (g' = 0 ∨ g' = k + 2) ∧ y = xl g' 1 n (nm l)) ∧ RT g xs [] = some (y, [])) : ∃ g', Ret RT g xs (xl g' 1 n (nm l)) := by
 obtain ⟨y, ⟨g', h1, rfl⟩, h2⟩ := h
 rcases h1 with rfl | rfl
 ·exact ⟨0, zDo h2⟩
 ·exact ⟨k + 1, retD h2⟩
theorem zHb {op : Int} {s t : Nm} {i : Nat} : (qY op s t i).length ≤ 2 := by
 unfold qY; split
 ·simp
 ·split <;> simp
theorem dB : ∀ {ks : List Co} {c : Co}, c ∈ ks → x0 ks ≥ 1 + szC c
 | x :: ks, c, h => by
  simp only [x0]
  rcases List.mem_cons.1 h with rfl | h
  ·omega
  ·have := dB h; omega
theorem zSm (b : Bool) : bit b ≤ 1 := by unfold bit; split <;> omega
mutual
theorem zTe : ∀ (env : List Nm) (c : Co), (frC env c).length ≤ szC c + 1
 | env, .mk op n s t ks => by
  have h := zTf op s t env 0 ks
  have : (wS (op == 2 && !env.contains s) s).length ≤ 1 := by unfold wS; split <;> simp
  simp only [frC, List.length_append, szC]; omega
theorem zTf : ∀ (op : Int) (s t : Nm) (env : List Nm) (i : Nat) (l : List Co), (frL op s t env i l).length ≤ x0 l
 | op, s, t, env, i, [] => by simp [frL, x0]
 | op, s, t, env, i, c :: l => by
  have h1 := zTe (env ++ qY op s t i) c
  have h2 := zTf op s t env (i + 1) l
  simp only [frL, List.length_append, x0]; omega
end
theorem l87 {l : List Nm} {s : Nm} {g : Nat} {K : Ex → StA → Prop} (hk : l.length ≤ maxLen) : ∀ (r : List Nm) (i : Nat), l.drop i = r → i ≤ l.length →
  (∀ jk j, (r.contains s) = false → K (.exit 0) ⟨[(8, xi j), (7, xi l.length), (0, xl (g + 1) 1 l.length (nm l)), (1, xs s), (4, xi 0)], jk, []⟩) →
  (∀ jk j v, (r.contains s) = true → 0 ≤ v → K .ret ⟨[(8, xi j), (7, xi l.length), (0, xl (g + 1) 1 l.length (nm l)), (1, xs s), (4, xi v)], jk, []⟩) →
  ∀ jk, sem cx0 132 RT (.loop (lp Try.f132 0)) ⟨[(8, xi i), (7, xi l.length), (0, xl (g + 1) 1 l.length (nm l)), (1, xs s), (4, xi 0)], jk, []⟩ K := by
 refine xE ?_ ?_
 ·intro k1 k2 jk
  refine zK cx0 _ RT [8, 7, 0, 1, 4] ⟨fun h => (jZ h (by omega)).elim, fun h => ?_⟩
  exact fun jk => k1 jk _ rfl
 ·intro i o r hi hil ih k1 k2 jk
  refine zK cx0 _ RT [8, 7, 0, 1, 4] ⟨fun h => ?_, fun h => (qL h (by omega)).elim⟩
  refine ⟨⟨by omega, by omega⟩, ?_⟩
  refine ⟨o, ⟨zPn hi, rfl⟩, ?_⟩
  have e1 : (o :: r).contains s = ((s == o) || r.contains s) := List.contains_cons
  refine ⟨fun h => ?_, fun h => ?_⟩
  ·exact fun jk => k2 jk _ _ (by rw [e1, h, Bool.true_or]) (by omega)
  ·rw [e1, h, Bool.false_or] at k1 k2
   intro jk
   rw [q8 hil hk]
   exact ih k1 k2 jk
theorem idx87 {l : List Nm} {s : Nm} {g : Nat} {cs : List TU} (hc : cs = nm l) (hk : l.length ≤ maxLen) : ∃ v : Int, decide (v ≥ 0) = l.contains s ∧ RT 132 [xl (g + 1) 1 l.length cs, xs s] [] = some (xi v, []) := by
 subst hc
 have : ∃ y, (∃ v : Int, decide (v ≥ 0) = l.contains s ∧ y = xi v) ∧ RT 132 [xl (g + 1) 1 l.length (nm l), xs s] [] = some (y, []) := by
  refine zXw (fn := Try.f132) rfl rfl rfl rfl ?_
  refine yE cx0 _ RT [8, 7, 0, 1, 4] fun jk => ?_
  refine l87 (g := g) (s := s) hk l 0 rfl (by omega) (fun jk i h => ?_) (fun jk i v h h0 => ?_) jk
  ·exact ⟨⟨-1, by rw [h]; rfl, rfl⟩, rfl⟩
  ·exact ⟨⟨v, by rw [h]; simpa using h0, rfl⟩, rfl⟩
 obtain ⟨y, ⟨v, h1, rfl⟩, h2⟩ := this
 exact ⟨v, h1, h2⟩
theorem zSu {l : List Nm} {s : Nm} {g : Nat} {cs : List TU} (hc : cs = nm l) (hk : l.length ≤ maxLen) : RT 118 [xl (g + 1) 1 l.length cs, xs s] [] = some (xb (l.contains s), []) := by
 subst hc
 refine xL (fn := Try.f118) rfl rfl rfl rfl ?_
 obtain ⟨v, h1, h2⟩ := idx87 (g := g + 1) (s := s) (qG l) hk
 refine ⟨_, gF h2, ?_⟩
 exact ⟨by rw [← h1]; rfl, rfl⟩
theorem zXm {l m : List Nm} {g h : Nat} {cs ds : List TU} (hc : cs = nm l) (hd : ds = nm m) (hk : l.length ≤ 4194304) (hk2 : m.length ≤ 4194304) : RT 119 [xl 1 1 2 [.sl () (g + 1) 1 l.length cs, .sl () (h + 1) 1 m.length ds]] [] = some (xl 0 1 (l ++ m).length (nm (l ++ m)), []) := by
 subst hc hd
 refine xL (fn := Try.f119) rfl rfl rfl rfl ?_
 have lt0 : ∀ {n : Int}, decide (n < 0) = true → 0 ≤ n → False := fun h h2 => by simp at h; omega
 have e1 : IntKind.wrap .i64 (0 + (l.length : Int)) = l.length := by rw [wrap64 (by omega) (by omega)]; omega
 have e2 : IntKind.wrap .i64 ((l.length : Int) + m.length) = ((l.length + m.length : Nat) : Int) := by rw [wrap64 (by omega) (by omega)]; omega
 refine yE cx0 _ RT [11, 10, 9, 3, 0, 2] fun jk => ?_
 refine zK cx0 _ RT [11, 10, 9, 3, 0, 2] ⟨fun h => ?_, fun h => by simp at h⟩
 refine ⟨⟨by omega, by omega⟩, ?_⟩
 refine ⟨_, _, _, ⟨rfl, rfl⟩, ?_⟩
 refine ⟨fun h => (lt0 h (by omega)).elim, fun h => ?_⟩
 intro jk
 rw [e1]
 refine zK cx0 _ RT [11, 10, 9, 3, 0, 2] ⟨fun h => ?_, fun h => absurd h (by decide)⟩
 refine ⟨⟨by decide, by decide⟩, ?_⟩
 refine ⟨_, _, _, ⟨rfl, rfl⟩, ?_⟩
 refine ⟨fun h => (lt0 h (by omega)).elim, fun h => ?_⟩
 intro jk
 rw [e2]
 refine zK cx0 _ RT [11, 10, 9, 3, 0, 2] ⟨fun h => absurd h (by decide), fun h => ?_⟩
 intro jk
 refine ⟨⟨by omega, by show ((l.length + m.length : Nat) : Int) * ((16 : Nat) : Int) ≤ _; omega, by simp only [maxLen]; omega⟩, ?_⟩
 refine yE cx0 _ RT [27, 26, 25, 6, 2] fun jk => ?_
 refine zK cx0 _ RT [27, 26, 25, 6, 2] ⟨fun h => ?_, fun h => absurd h (by decide)⟩
 refine ⟨⟨by decide, by decide⟩, ?_⟩
 refine ⟨_, _, _, ⟨rfl, rfl⟩, ?_⟩
 refine ⟨Nat.le_refl _, ?_⟩
 refine ⟨⟨by simp only [maxLen]; omega, by show (0 + l.length) * 16 ≤ _; omega⟩, ?_⟩
 intro jk
 refine zK cx0 _ RT [27, 26, 25, 6, 2] ⟨fun h => ?_, fun h => absurd h (by decide)⟩
 refine ⟨⟨by decide, by decide⟩, ?_⟩
 refine ⟨_, _, _, ⟨rfl, rfl⟩, ?_⟩
 refine ⟨by show 0 + (0 + l.length) * 1 ≤ (nm l).length; rw [gY]; omega, ?_⟩
 refine ⟨⟨by simp only [maxLen]; omega, by show (0 + l.length + m.length) * 16 ≤ _; omega⟩, ?_⟩
 intro jk
 refine zK cx0 _ RT [27, 26, 25, 6, 2] ⟨fun h => absurd h (by decide), fun h => ?_⟩
 intro jk
 have e := zUd (l := l) (m := m)
 refine ⟨?_, ?_⟩
 ·refine Nat.le_trans ?_ (Nat.le_of_eq (congrArg List.length e.symm))
  rw [gY, List.length_append]; show 0 + (0 + l.length + m.length) * 1 ≤ l.length + m.length; omega
 refine ⟨zVt (by simp) ?_, rfl⟩
 refine Eq.trans ?_ (congrArg (fun x => (List.drop 0 x).take ((0 + l.length + m.length) * 1)) e.symm)
 exact (uZ (by rw [gY, List.length_append]; omega)).symm
end Go.Proofs.Ytlkjnlfddadlmaa.V
namespace Go.Proofs.Ytlkjnlfddadlmaa.V
set_option maxRecDepth 100000
def dgs : Nat → Nat → List UInt8 → List UInt8
 | 0, _, out => out
 | m + 1, k, out => if k = 0 then out else dgs m (k / 10) ((48 + k % 10).toUInt8 :: out)
def mtx (k : Int) : List UInt8 := if k ≤ 0 then [109, 48] else 109 :: dgs 20 k.toNat []
theorem zOv : ∀ (m k : Nat) (out : List UInt8), (dgs m k out).length ≤ out.length + m
 | 0, _, out => by simp [dgs]
 | m + 1, k, out => by
  simp only [dgs]
  split
  ·omega
  ·have := zOv m (k / 10) ((48 + k % 10).toUInt8 :: out)
   simp only [List.length_cons] at this
   omega
theorem zS3 {m k : Nat} {out : List UInt8} (h : 0 < k) : dgs (m + 1) k out = dgs m (k / 10) ((48 + k % 10).toUInt8 :: out) := by
 simp only [dgs, if_neg (show ¬ k = 0 by omega)]
theorem wrap8 {n : Nat} (h : n < 256) : IntKind.wrap .u8 (n : Int) = n := by
 have e1 : IntKind.wrap .u8 (n : Int) = (n : Int) % 256 := by unfold IntKind.wrap; rfl
 omega
theorem l78 {K : Ex → StA → Prop} : ∀ (m k : Nat) (out : List UInt8), k < 10 ^ m → k < 9223372036854775808 → out.length + m ≤ 40 →
  (∀ jk, K (.exit 0) ⟨[(0, xi 0), (3, xs (dgs m k out)), (2, xs [])], jk, []⟩) →
  ∀ jk, sem cx0 88 RT (.loop (lp Try.f88 0)) ⟨[(0, xi k), (3, xs out), (2, xs [])], jk, []⟩ K
 | m, k, out, hk, h63, hl, k1, jk => by
  refine zK cx0 _ RT [0, 3, 2] ⟨fun h => ?_, fun h => ?_⟩
  ·refine ⟨by decide, ?_⟩
   refine ⟨_, rfl, ?_⟩
   refine ⟨by simp only [List.length_cons, List.length_nil, maxLen]; omega, ?_⟩
   refine ⟨by decide, ?_⟩
   have h0 : 0 < k := by simp at h; omega
   cases m with
   | zero => simp at hk; omega
   | succ m =>
   intro jk
   rw [zS3 h0] at k1
   have e1 : IntKind.wrap .i64 ((k : Int).tdiv 10) = ((k / 10 : Nat) : Int) := by
    rw [show (k : Int).tdiv 10 = ((k / 10 : Nat) : Int) by rw [Int.tdiv_eq_ediv_of_nonneg (by omega)]; omega]
    exact wrap64 (by omega) (by omega)
   have e2 : (IntKind.wrap .u8 (IntKind.wrap .i64 (48 + (k : Int).tmod 10))).toNat.toUInt8 = (48 + k % 10).toUInt8 := by
    rw [show (48 + (k : Int).tmod 10) = ((48 + k % 10 : Nat) : Int) by rw [Int.tmod_eq_emod_of_nonneg (by omega)]; omega, wrap64 (by omega) (by omega), wrap8 (by omega)]
    rfl
   have ih := l78 m (k / 10) ((48 + k % 10).toUInt8 :: out) (by rw [Nat.pow_succ] at hk; omega) (by omega) (by simp only [List.length_cons]; omega) k1 jk
   rw [← e1, ← e2] at ih
   exact ih
  ·have h : k = 0 := by simp at h; omega
   subst h
   intro jk
   have := k1 jk
   cases m <;> exact this
theorem mt78 {k : Int} (h63 : k < 9223372036854775808) : RT 88 [xi k] [] = some (xs (mtx k), []) := by
 refine xL (fn := Try.f88) rfl rfl rfl rfl ?_
 refine ⟨fun h => ?_, fun h => ?_⟩
 ·have h := of_decide_eq_true h
  exact ⟨by simp only [mtx, if_pos h]; rfl, rfl⟩
 ·have h := of_decide_eq_false h
  refine yE cx0 _ RT [0, 3, 2] fun jk => ?_
  rw [show k = ((k.toNat : Nat) : Int) by omega]
  refine l78 20 k.toNat [] (by have : (10 : Nat) ^ 20 = 100000000000000000000 := rfl; omega) (by omega) (by simp) (fun jk => ?_) jk
  have := zOv 20 k.toNat []
  refine ⟨by simp only [List.length_cons, List.length_nil] at this ⊢; simp only [maxLen]; omega, ?_⟩
  refine ⟨?_, rfl⟩
  simp only [mtx, if_neg (show ¬ ((k.toNat : Nat) : Int) ≤ 0 by omega), Int.toNat_natCast]
  rfl
end Go.Proofs.Ytlkjnlfddadlmaa.V
namespace Go.Proofs.Ytlkjnlfddadlmaa.V
set_option maxRecDepth 100000
mutual
def szM : Co → Nat
 | .mk _ _ _ _ ks => 4 + bS ks
def bS : List Co → Nat
 | [] => 0
 | c :: l => szM c + bS l
end
mutual
def mkC : Co → Int → Co
 | .mk _ _ _ _ ks, k => .mk k (k + 1) (mtx (k + 2)) (mtx (k + 3)) (zEr ks (k + 4))
def zEr : List Co → Int → List Co
 | [], _ => []
 | c :: l, k => mkC c k :: zEr l (k + szM c)
end
theorem zKc : ∀ (l : List Co) (k : Int), (zEr l k).length = l.length
 | [], _ => rfl
 | c :: l, k => by simp only [zEr, List.length_cons, zKc l]
mutual
theorem zZt : ∀ c : Co, szM c ≤ 4 + 4 * szC c
 | .mk op n s t ks => by
  have := zH8 ks
  simp only [szM, szC]; omega
theorem zH8 : ∀ l : List Co, bS l ≤ 4 * x0 l
 | [] => by simp [bS]
 | c :: l => by
  have h1 := zZt c
  have h2 := zH8 l
  simp only [bS, x0]; omega
end
theorem putL {α : Type} {A B ts : List α} {a j m : Nat} (h : A.length = a) : (A ++ B).take (a + j) ++ ts ++ (A ++ B).drop (a + j + m) = A ++ (B.take j ++ ts ++ B.drop (j + m)) := by
 subst h
 rw [List.take_length_add_append, Nat.add_assoc, List.drop_length_add_append, List.append_assoc, List.append_assoc, List.append_assoc]
def S67 (ks : List Co) : Prop := ∀ k : Int, 0 ≤ k → k + bS ks < 1152921504606846976 → ks.length ≤ maxLen →
 RT 57 [.c (.bor () (.ex 0) [] 0 0 5 ks.length), xi k] [[.t (.sl () 0 5 ks.length (xV ks))]] = some (xi (k + bS ks), [[.t (.sl () 0 5 ks.length (xV (zEr ks k)))]])
abbrev st67 (n i : Nat) (k : Int) (jk : Nat → XU) (cs : List TU) : StA := ⟨[(5, xi i), (1, xi k), (0, .c (.bor () (.ex 0) [] 0 0 5 n)), (4, xi 0)], jk, [[.t (.sl () 0 5 n cs)]]⟩
theorem zP0 {p : Nat} {A B ts B' : List TU} {j : Nat} (hp : A.length = p * 5) (h : B.take j ++ ts ++ B.drop (j + ts.length) = B') :
  List.take (0 + (p : Int).toNat * 5 + j) (A ++ B) ++ ts ++ List.drop (0 + (p : Int).toNat * 5 + j + ts.length) (A ++ B) = A ++ B' := by
 rw [← h, Nat.zero_add]
 exact putL hp
theorem zPg {p : Nat} {A B : List TU} {j m : Nat} (hp : A.length = p * 5) (h : j + m ≤ B.length) : 0 + (p : Int).toNat * 5 + j + m ≤ (A ++ B).length := by
 rw [List.length_append, hp]
 show 0 + p * 5 + j + m ≤ _
 omega
theorem at67 {p : Nat} {A B : List TU} {j : Nat} (hp : A.length = p * 5) : List.drop (0 + (p : Int).toNat * 5 + j) (A ++ B) = B.drop j := by
 rw [Nat.zero_add]
 show List.drop (p * 5 + j) (A ++ B) = _
 rw [← hp, List.drop_length_add_append]
theorem ge67 {p : Nat} {A B : List TU} {j : Nat} (hp : A.length = p * 5) : (A ++ B)[0 + (p : Int).toNat * 5 + j]? = B[j]? := by
 rw [Nat.zero_add]
 show (A ++ B)[p * 5 + j]? = _
 rw [← hp, List.getElem?_append_right (by omega), Nat.add_sub_cancel_left]
theorem zX3 {p : Nat} {A B : List TU} {j : Nat} {x : TU} (hp : A.length = p * 5) : (A ++ B).set (0 + (p : Int).toNat * 5 + j) x = A ++ B.set j x := by
 rw [Nat.zero_add]
 show (A ++ B).set (p * 5 + j) x = _
 rw [← hp, List.set_append_right _ _ (by omega), Nat.add_sub_cancel_left]
mutual
theorem zWe : ∀ (c : Co), ups (enc c) = enc c
 | .mk op n s t ks => by simp only [enc, ups, up, nK ks]; rfl
theorem nK : ∀ (l : List Co), ups (xV l) = xV l
 | [] => by simp only [xV, ups]
 | c :: l => by
  have : ∀ (a b : List TU), ups (a ++ b) = ups a ++ ups b := by
   intro a b
   induction a with
   | nil => rfl
   | cons x a ih => simp only [List.cons_append, ups, ih]
  simp only [xV, this, zWe c, nK l]
end
theorem retM {g : Nat} {xs : List XU} {n : Int} {m : Nat} {l : List Co} {es : List TU} {q : Nat} (h : RT g xs [[.t (.sl () 0 5 q es)]] = some (xi n, [[.t (.sl () 0 5 m (xV l))]])) : zBd RT g xs [[.t (.sl () 0 5 q es)]] (xi n) [[.t (.sl () 0 5 m (xV l))]] := by
 refine ⟨_, h, rfl, ?_⟩
 simp only [List.mapM_cons, List.mapM_nil, y8, qC, down, pT, Option.map_some, Option.bind_some]
 rfl
set_option maxHeartbeats 4000000 in
theorem l67 {n : Nat} {K : Ex → StA → Prop} (hn : n ≤ maxLen) : ∀ (l pre : List Co) (k : Int), (∀ op n s t ks, Co.mk op n s t ks ∈ l → S67 ks) → Wfs l → pre.length + l.length = n → 0 ≤ k → k + bS l < 1152921504606846976 →
  (∀ jk, K (.exit 0) (st67 n n (k + bS l) jk (xV (pre ++ zEr l k)))) →
  ∀ jk, sem cx0 57 RT (.loop (lp Try.f57 0)) (st67 n pre.length k jk (xV pre ++ xV l)) K := by
 intro l
 induction l with
 | nil =>
  intro pre k _ _ hl h0 hk k1 jk
  simp only [List.length_nil, Nat.add_zero] at hl
  refine zK cx0 _ RT [5, 1, 0, 4] ⟨fun h => (jZ h (by omega)).elim, fun h => ?_⟩
  intro jk
  have := k1 jk
  simp only [bS, zEr, Int.natCast_zero, Int.add_zero, List.append_nil] at this
  show K _ (st67 n pre.length k jk (xV pre ++ xV []))
  rw [← hl] at this ⊢
  simp only [xV, List.append_nil]
  exact this
 | cons c l ih =>
  intro pre k H hw hl h0 hk k1 jk
  cases c with
  | mk op n' s t ks =>
  have hs := H _ _ _ _ _ List.mem_cons_self
  have e0 : bS (.mk op n' s t ks :: l) = 4 + bS ks + bS l := rfl
  rw [e0] at hk
  simp only [List.length_cons] at hl
  have hp := uQ pre
  refine zK cx0 _ RT [5, 1, 0, 4] ⟨fun h => ?_, fun h => (qL h (by omega)).elim⟩
  refine ⟨⟨by omega, by omega⟩, ?_⟩
  refine ⟨zPg hp (by simp [xV, enc]), ?_⟩
  rw [zP0 (B := xV (.mk op n' s t ks :: l)) (ts := [.int .i64 k]) (j := 0) (B' := .int .i64 k :: .int .i64 n' :: .str s :: .str t :: .sl () 0 5 ks.length (xV ks) :: xV l) hp rfl]
  intro jk
  refine ⟨⟨by omega, by omega⟩, ?_⟩
  refine ⟨zPg hp (by simp), ?_⟩
  rw [wrap64 (n := k + 1) (by omega) (by omega)]
  rw [zP0 (B := .int .i64 k :: .int .i64 n' :: .str s :: .str t :: .sl () 0 5 ks.length (xV ks) :: xV l) (ts := [.int .i64 (k + 1)]) (j := 1) (B' := .int .i64 k :: .int .i64 (k + 1) :: .str s :: .str t :: .sl () 0 5 ks.length (xV ks) :: xV l) hp rfl]
  intro jk
  have a2 := mt78 (k := k + 2) (by omega)
  have a3 := mt78 (k := k + 3) (by omega)
  obtain ⟨x2, hx2⟩ : ∃ x, mtx (k + 2) = x := ⟨_, rfl⟩
  obtain ⟨x3, hx3⟩ : ∃ x, mtx (k + 3) = x := ⟨_, rfl⟩
  rw [hx2] at a2
  rw [hx3] at a3
  have w2 : IntKind.wrap .i64 (k + 1 + 1) = k + 2 := by rw [wrap64 (by omega) (by omega)]; omega
  have w3 : IntKind.wrap .i64 (k + 2 + 1) = k + 3 := by rw [wrap64 (by omega) (by omega)]; omega
  have w4 : IntKind.wrap .i64 (k + 3 + 1) = k + 4 := by rw [wrap64 (by omega) (by omega)]; omega
  refine ⟨_, ⟨_, by rw [w2]; exact a2, rfl⟩, ?_⟩
  refine ⟨⟨by omega, by omega⟩, ?_⟩
  refine ⟨zPg hp (by simp), ?_⟩
  rw [w2, zP0 (B := .int .i64 k :: .int .i64 (k + 1) :: .str s :: .str t :: .sl () 0 5 ks.length (xV ks) :: xV l) (ts := [.str x2]) (j := 2) (B' := .int .i64 k :: .int .i64 (k + 1) :: .str x2 :: .str t :: .sl () 0 5 ks.length (xV ks) :: xV l) hp rfl]
  intro jk
  refine ⟨_, ⟨_, by rw [w3]; exact a3, rfl⟩, ?_⟩
  refine ⟨⟨by omega, by omega⟩, ?_⟩
  refine ⟨zPg hp (by simp), ?_⟩
  rw [w3, zP0 (B := .int .i64 k :: .int .i64 (k + 1) :: .str x2 :: .str t :: .sl () 0 5 ks.length (xV ks) :: xV l) (ts := [.str x3]) (j := 3) (B' := .int .i64 k :: .int .i64 (k + 1) :: .str x2 :: .str x3 :: .sl () 0 5 ks.length (xV ks) :: xV l) hp rfl]
  intro jk
  refine ⟨⟨by omega, by omega⟩, ?_⟩
  refine ⟨0, ks.length, xV ks, ?_⟩
  refine ⟨⟨by rw [at67 hp]; rfl, rfl⟩, ?_⟩
  refine ⟨5, ks.length, xV ks, ?_⟩
  refine ⟨by rw [ge67 hp]; rfl, ?_⟩
  rw [zX3 hp]
  intro jk
  refine ⟨_, _, retM (by rw [w4, nK]; exact hs (k + 4) (by omega) (by omega) (by simp only [Wfs, Wf] at hw; exact hw.1.2.2.2.2.1)), ?_⟩
  refine ⟨by rw [ge67 hp]; rfl, ?_⟩
  rw [zX3 hp]
  intro jk
  have ih := ih (pre ++ [.mk k (k + 1) (mtx (k + 2)) (mtx (k + 3)) (zEr ks (k + 4))]) (k + 4 + bS ks) (fun op n s t ks h => H op n s t ks (List.mem_cons_of_mem _ h)) (by simp only [Wfs] at hw; exact hw.2) (by simp; omega) (by omega) (by omega) (fun jk => by
   have := k1 jk
   rw [e0] at this
   simp only [zEr, mkC, szM] at this
   rw [List.append_assoc, show k + 4 + (bS ks : Int) + bS l = k + ((4 + bS ks + bS l : Nat) : Int) by omega, show k + 4 + (bS ks : Int) = k + ((4 + bS ks : Nat) : Int) by omega]
   exact this) jk
  rw [nJ, List.length_append, hx2, hx3] at ih
  simp only [xV, enc, zKc, List.append_nil, List.append_assoc] at ih
  rw [q8 (show pre.length < n by omega) hn]
  exact ih
theorem zY3 : ∀ c : Co, (match c with | .mk _ _ _ _ ks => Wfs ks → S67 ks) := by
 refine Co.ind fun op n s t ks ih => ?_
 intro hw k h0 hk hl
 refine x8 (fn := Try.f57) rfl rfl rfl rfl ?_
 refine yE cx0 _ RT [5, 1, 0, 4] fun jk => ?_
 refine l67 hl ks [] k (fun op n s t kk h => ih _ h ?_) hw (by simp) h0 hk (fun jk => ?_) jk
 ·have := tL.1 hw _ h
  simp only [Wf] at this
  exact this.2.2.2.2.2
 ·exact ⟨rfl, rfl⟩
theorem zY2 {op n : Int} {s t : Nm} {ks : List Co} {k : Int} (hw : Wfs ks) (h0 : 0 ≤ k) (hk : k + bS ks < 1152921504606846976) (hl : ks.length ≤ maxLen) :
  RT 22 [.agg [.t (.int .i64 op), .t (.int .i64 n), .t (.str s), .t (.str t), .bor () (.ex 0) [] 0 0 5 ks.length], xi k] [[.t (.sl () 0 5 ks.length (xV ks))]] = some (xi (k + bS ks), [[.t (.sl () 0 5 ks.length (xV (zEr ks k)))]]) := by
 refine x8 (fn := Try.f22) rfl rfl rfl rfl ?_
 have hs := zY3 (.mk op n s t ks) hw k h0 hk hl
 refine ⟨_, _, retM (by rw [nK]; exact hs), ?_⟩
 exact ⟨rfl, rfl⟩
end Go.Proofs.Ytlkjnlfddadlmaa.V
namespace Go.Proofs.Ytlkjnlfddadlmaa.V
set_option maxRecDepth 100000
def dd (out l : List Nm) : List Nm := l.foldl (fun out s => if out.contains s then out else out ++ [s]) out
theorem v9 {s : Nm} {l out : List Nm} : dd out (s :: l) = dd (if out.contains s then out else out ++ [s]) l := rfl
theorem zSy : ∀ (l out : List Nm), (dd out l).length ≤ out.length + l.length
 | [], out => by simp [dd]
 | s :: l, out => by
  rw [v9]
  have ih := zSy l (if out.contains s then out else out ++ [s])
  have : (if out.contains s then out else out ++ [s]).length ≤ out.length + 1 := by split <;> simp
  simp only [List.length_cons]; omega
theorem nF {out l m : List Nm} : dd out (l ++ m) = dd (dd out l) m := by simp only [dd, List.foldl_append]
theorem zM9 : ∀ l, ups (nm l) = nm l
 | [] => rfl
 | s :: l => by simp only [nm, ups, up, zM9 l]
abbrev zVr : XU := .c (.fn 135 [.ptr () (.ex 0) [] 0])
theorem o77 {s : Nm} {v : List Nm} (hv : v.length ≤ 4194304) : RT 135 [xs s, .c (.ptr () (.ex 0) [] 0)] [[.t (.sl () 0 1 v.length (nm v))]] = some (.tup [], [[.t (.sl () 0 1 (dd v [s]).length (nm (dd v [s])))]]) := by
 refine x8 (fn := Try.f135) rfl rfl rfl rfl ?_
 refine ⟨by rw [gY]; omega, ?_⟩
 refine ⟨_, xZ (zSu (g := 0) (by rw [dM, qG]) (by simp only [maxLen]; omega)), ?_⟩
 have hq : (((nm v).drop 0).take (v.length * 1)) ++ [.str s] = nm (v ++ [s]) := by rw [dM, oS]; rfl
 have e1 : dd v [s] = if v.contains s then v else v ++ [s] := rfl
 refine ⟨fun h => ?_, fun h => ?_⟩
 ·have h : v.contains s = false := by simpa using h
  refine ⟨by rw [gY]; omega, ?_⟩
  refine ⟨⟨by simp only [maxLen]; omega, by show (v.length + 1) * 16 ≤ _; omega⟩, ?_⟩
  refine ⟨rfl, ?_⟩
  rw [e1, h, show (if false = true then v else v ++ [s]) = v ++ [s] from rfl, ← hq, List.length_append]
  rfl
 ·have h : v.contains s = true := by simpa using h
  refine ⟨rfl, ?_⟩
  rw [e1, h]; rfl
theorem retF {g : Nat} {xs : List XU} {n : Nat} {l : List Nm} {es : List (List CU)} (h : RT g xs es = some (.tup [], [[.t (.sl () 0 1 n (nm l))]])) : zBd RT g xs es (.tup []) [[.t (.sl () 0 1 n (nm l))]] := by
 refine ⟨_, h, rfl, ?_⟩
 simp only [List.mapM_cons, List.mapM_nil, y8, qC, down, zA2, Option.map_some, Option.bind_some]
 rfl
def T69 (c : Co) : Prop := ∀ us env g cs v, szC c ≤ 1048576 → env.length + 2 * szC c ≤ 4194304 → v.length + szC c + 1 ≤ 4194304 → cs = nm env → Rd c us →
 RT 134 [xc us, xl (g + 1) 1 env.length cs, zVr] [[.t (.sl () 0 1 v.length (nm v))]] = some (.tup [], [[.t (.sl () 0 1 (dd v (frC env c)).length (nm (dd v (frC env c))))]])
theorem m69 {ks : List Co} {cs : List TU} {g g2 : Nat} {op n : Int} {s t : List UInt8} {env : List Nm} {K : Ex → StA → Prop} (H : ∀ c ∈ ks, T69 c) (hz : x0 ks ≤ 1048576) (he : env.length + 2 * x0 ks ≤ 4194304) (hr : Rds ks cs) :
  ∀ (l : List Co) (i : Nat), ks.drop i = l → i ≤ ks.length → ∀ v : List Nm, v.length + x0 l ≤ 4194304 →
  (∀ jk j, K (.exit 0) ⟨[(25, xi j), (24, xi ks.length), (23, xl (g + 1) 5 ks.length cs), (1, xl (g2 + 1) 1 env.length (nm env)), (2, zVr), (3, .box () ((xJ op n s t (g + 1) ks.length cs).map .t))], jk, [[.t (.sl () 0 1 (dd v (frL op s t env i l)).length (nm (dd v (frL op s t env i l))))]]⟩) →
  ∀ jk, sem cx0 134 RT (.loop (lp Try.f134 0)) ⟨[(25, xi i), (24, xi ks.length), (23, xl (g + 1) 5 ks.length cs), (1, xl (g2 + 1) 1 env.length (nm env)), (2, zVr), (3, .box () ((xJ op n s t (g + 1) ks.length cs).map .t))], jk, [[.t (.sl () 0 1 v.length (nm v))]]⟩ K := by
 have hk := uM hz
 refine xE ?_ ?_
 ·intro v hv k1 jk
  refine zK cx0 _ RT [25, 24, 23, 1, 2, 3] ⟨fun h => (jZ h (by omega)).elim, fun h => ?_⟩
  exact fun jk => k1 jk _
 ·intro i c l hi hil ih v hv k1 jk
  have hm := List.mem_of_getElem? hi
  have hc := H c hm
  have hzc := w7 hz hm
  have hel := zHb (op := op) (s := s) (t := t) (i := i)
  have hz1 := dB hm
  cases c with
  | mk op' n' s' t' kk =>
  simp only [x0] at hv
  obtain ⟨g', cs', e1, e2⟩ := qV hr hi
  refine zK cx0 _ RT [25, 24, 23, 1, 2, 3] ⟨fun h => ?_, fun h => (qL h (by omega)).elim⟩
  refine ⟨⟨by omega, by omega⟩, ?_⟩
  refine ⟨op', n', s', t', g' + 1, kk.length, cs', ⟨e1, rfl⟩, ?_⟩
  refine ⟨_, zDo (zOm (show Rd (.mk op n s t ks) (xJ op n s t (g + 2) ks.length (zI cs)) from ⟨_, _, rfl, hr.retag⟩)), ?_⟩
  refine ⟨_, zDo (zXm (g := g2 + 1) (h := 0) (qG env) (qG (qY op s t i)) (by omega) (by omega)), ?_⟩
  have hc2 := hc (xJ op' n' s' t' (g' + 2) kk.length (zI cs')) (env ++ qY op s t i) 0 _ v hzc (by rw [List.length_append]; omega) (by omega) (qG _) ⟨_, _, rfl, e2.retag⟩
  refine ⟨_, _, retF (by rw [zM9]; exact hc2), ?_⟩
  intro jk
  rw [q8 hil (by simp only [maxLen]; omega)]
  have d1 := zSy (frC (env ++ qY op s t i) (.mk op' n' s' t' kk)) v
  have d2 := zTe (env ++ qY op s t i) (.mk op' n' s' t' kk)
  refine ih _ (by omega) (fun jk j => ?_) jk
  have := k1 jk j
  rwa [show dd v (frL op s t env i (.mk op' n' s' t' kk :: l)) = dd (dd v (frC (env ++ qY op s t i) (.mk op' n' s' t' kk))) (frL op s t env (i + 1) l) by rw [show frL op s t env i (.mk op' n' s' t' kk :: l) = frC (env ++ qY op s t i) (.mk op' n' s' t' kk) ++ frL op s t env (i + 1) l from rfl, nF]] at this
theorem zV9 : ∀ c : Co, T69 c := by
 refine Co.ind fun op n s t ks ih => ?_
 intro us env g cs v hz he hv hcs hr
 subst hcs
 obtain ⟨g1, cs, rfl, hr⟩ := hr
 have hz' : x0 ks ≤ 1048576 := by simp only [szC] at hz; omega
 have he' : env.length + 2 * x0 ks ≤ 4194304 := by simp only [szC] at he; omega
 have fin : ∀ (b : Bool), b = (op == 2 && !env.contains s) → ∀ jk K, (∀ jk j, K (.exit 0) ⟨[(25, xi j), (24, xi ks.length), (23, xl (g1 + 1) 5 ks.length cs), (1, xl (g + 1) 1 env.length (nm env)), (2, zVr), (3, .box () ((xJ op n s t (g1 + 1) ks.length cs).map .t))], jk, [[.t (.sl () 0 1 (dd v (frC env (.mk op n s t ks))).length (nm (dd v (frC env (.mk op n s t ks)))))]]⟩) →
   sem cx0 134 RT (.loop (lp Try.f134 0)) ⟨[(25, xi (0 : Nat)), (24, xi ks.length), (23, xl (g1 + 1) 5 ks.length cs), (1, xl (g + 1) 1 env.length (nm env)), (2, zVr), (3, .box () ((xJ op n s t (g1 + 1) ks.length cs).map .t))], jk, [[.t (.sl () 0 1 (dd v (wS b s)).length (nm (dd v (wS b s))))]]⟩ K := by
  intro b hb jk K k1
  subst hb
  have d1 := zSy (wS (op == 2 && !env.contains s) s) v
  have d2 : (wS (op == 2 && !env.contains s) s).length ≤ 1 := by unfold wS; split <;> simp
  simp only [szC] at hv
  refine m69 (g := g1) (op := op) (n := n) (s := s) (t := t) ih hz' he' hr ks 0 rfl (by omega) _ (by omega) (fun jk j => ?_) jk
  have := k1 jk j
  rwa [show dd v (frC env (.mk op n s t ks)) = dd (dd v (wS (op == 2 && !env.contains s) s)) (frL op s t env 0 ks) by rw [show frC env (.mk op n s t ks) = wS (op == 2 && !env.contains s) s ++ frL op s t env 0 ks from rfl, nF]] at this
 refine x8 (fn := Try.f134) rfl rfl rfl rfl ?_
 refine ⟨fun h2 => ?_, fun h2 => ?_⟩
 ·refine ⟨_, xZ (zSu (g := g + 1) (qG env) (by simp only [maxLen]; omega)), ?_⟩
  refine ⟨fun hb => ?_, fun hb => ?_⟩
  ·refine ⟨_, _, retF (by rw [zM9]; exact o77 (by omega)), ?_⟩
   refine yE cx0 _ RT [25, 24, 23, 1, 2, 3] fun jk => ?_
   refine fin true (by rw [h2, hb]; rfl) _ _ (fun jk j => ?_)
   exact ⟨rfl, rfl⟩
  ·refine yE cx0 _ RT [25, 24, 23, 1, 2, 3] fun jk => ?_
   refine fin false (by rw [h2, hb]; rfl) _ _ (fun jk j => ?_)
   exact ⟨rfl, rfl⟩
 ·refine yE cx0 _ RT [25, 24, 23, 1, 2, 3] fun jk => ?_
  refine fin false (by rw [h2]; rfl) _ _ (fun jk j => ?_)
  exact ⟨rfl, rfl⟩
theorem zYp {c : Co} {us : List TU} (hz : szC c ≤ 1048576) (hr : Rd c us) : RT 128 [xc us] [] = some (xl 0 1 (dd [] (frC [] c)).length (nm (dd [] (frC [] c))), []) := by
 cases c with
 | mk op n s t ks =>
 obtain ⟨g, cs, rfl, hr⟩ := hr
 refine xL (fn := Try.f128) rfl rfl rfl rfl ?_
 have h := zV9 (.mk op n s t ks) (xJ op n s t (g + 2) ks.length (zI cs)) [] 0 [] [] hz (by simp; omega) (by simp; omega) rfl ⟨_, _, rfl, hr.retag⟩
 refine ⟨_, _, retF (l := dd [] (frC [] (.mk op n s t ks))) h, ?_⟩
 refine ⟨by show 0 + _ * 1 ≤ _; rw [gY]; omega, ?_⟩
 exact ⟨zVt rfl (dM _).symm, rfl⟩
end Go.Proofs.Ytlkjnlfddadlmaa.V
namespace Go.Proofs.Ytlkjnlfddadlmaa.V
set_option maxRecDepth 100000
end Go.Proofs.Ytlkjnlfddadlmaa.V
namespace Go.Proofs.Ytlkjnlfddadlmaa.V
set_option maxRecDepth 100000
theorem zHl {α : Type} {p q : Prop} [Decidable p] [Decidable q] {a b c d : α} (h : p ↔ q) (h1 : a = b) (h2 : c = d) : (if p then a else c) = if q then b else d := by
 subst h1 h2
 by_cases hp : p
 ·rw [if_pos hp, if_pos (h.1 hp)]
 ·rw [if_neg hp, if_neg (fun hq => hp (h.2 hq))]
def arC (op : Int) : Int :=
 if op == 1 || op == 2 || op == 13 then 0 else if op == 3 || op == 15 || op == 16 || op == 17 || op == 18 then 1
 else if op == 4 || op == 5 || op == 6 || op == 8 || op == 9 || op == 10 || op == 11 || op == 12 || op == 14 then 2 else if op == 7 then 3 else -1
def aV (op : Int) : Bool := op == 2 || op == 3 || op == 5 || op == 6
def bB (n : Int) : Bool := decide (n ≥ -1073741824) && decide (n ≤ 1073741823)
mutual
def ndC : Co → Nat
 | .mk _ _ _ _ ks => 1 + y7 ks
def y7 : List Co → Nat
 | [] => 0
 | c :: l => ndC c + y7 l
end
mutual
def nH : Co → Nat
 | .mk _ _ _ _ ks => dU ks + 1
def dU : List Co → Nat
 | [] => 0
 | c :: l => max (nH c) (dU l)
end
def kS (env : List Nm) (op n : Int) (s t : Nm) (k : Nat) : Bool :=
 arC op == (k : Int) && (aV op == !(s == [])) && ((op == 6) == !(t == [])) && (op == 1 || n == 0) && bB n && (!(op == 2) || env.contains s)
mutual
def jH : List Nm → Co → Bool
 | env, .mk op n s t ks => kS env op n s t ks.length && wP op s t env 0 ks
def wP (op : Int) (s t : Nm) (env : List Nm) : Nat → List Co → Bool
 | _, [] => true
 | i, c :: l => jH (env ++ qY op s t i) c && wP op s t env (i + 1) l
end
def lK (c : Co) : Bool := decide (ndC c ≤ 3000) && decide (nH c ≤ 150) && jH [] c
mutual
def prC : Nat → List Nm → Co → Nat
 | deep, env, .mk op n s t ks => if deep ≤ 150 ∧ kS env op n s t ks.length = true then prL op s t env deep 0 1 ks else 3001
def prL (op : Int) (s t : Nm) (env : List Nm) (deep : Nat) : Nat → Nat → List Co → Nat
 | _, v, [] => v
 | i, v, c :: l => if v + prC (deep + 1) (env ++ qY op s t i) c ≥ 3001 then 3001 else prL op s t env deep (i + 1) (v + prC (deep + 1) (env ++ qY op s t i) c) l
end
theorem bL : ∀ c : Co, 1 ≤ ndC c
 | .mk op n s t ks => by simp only [ndC]; omega
theorem zS2 : ∀ c : Co, 1 ≤ nH c
 | .mk op n s t ks => by simp only [nH]; omega
mutual
theorem zNc : ∀ (deep : Nat) (env : List Nm) (c : Co), prC deep env c = if deep + nH c ≤ 151 ∧ jH env c = true ∧ ndC c ≤ 3000 then ndC c else 3001
 | deep, env, .mk op n s t ks => by
  simp only [prC, jH, Bool.and_eq_true]
  by_cases h : deep ≤ 150 ∧ kS env op n s t ks.length = true
  ·rw [if_pos h, zUj deep op s t env 0 1 ks (by omega)]
   simp only [nH, ndC]
   exact zHl ⟨fun h2 => ⟨by rcases h2.1 with h3 | h3 <;> omega, ⟨h.2, h2.2.1⟩, h2.2.2⟩, fun h3 => ⟨by omega, h3.2.1.2, h3.2.2⟩⟩ rfl rfl
  ·rw [if_neg h]
   refine (if_neg ?_).symm
   rintro ⟨h3, ⟨h4, _⟩, _⟩
   simp only [nH] at h3
   exact h ⟨by omega, h4⟩
theorem zUj : ∀ (deep : Nat) (op : Int) (s t : Nm) (env : List Nm) (i v : Nat) (l : List Co), v ≤ 3000 → prL op s t env deep i v l = if (dU l = 0 ∨ deep + 1 + dU l ≤ 151) ∧ wP op s t env i l = true ∧ v + y7 l ≤ 3000 then v + y7 l else 3001
 | deep, op, s, t, env, i, v, [], hv => by
  simp only [prL, dU, wP, y7, true_or, true_and, Nat.add_zero]
  exact (if_pos hv).symm
 | deep, op, s, t, env, i, v, c :: l, hv => by
  have ih := zNc (deep + 1) (env ++ qY op s t i) c
  have hp := zS2 c
  have hn := bL c
  simp only [prL, dU, wP, y7, Bool.and_eq_true]
  by_cases h : deep + 1 + nH c ≤ 151 ∧ jH (env ++ qY op s t i) c = true ∧ ndC c ≤ 3000
  ·rw [if_pos h] at ih
   rw [ih]
   by_cases h2 : v + ndC c ≥ 3001
   ·rw [if_pos h2]
    refine (if_neg ?_).symm
    rintro ⟨_, _, h3⟩; omega
   ·rw [if_neg h2, zUj deep op s t env (i + 1) (v + ndC c) l (by omega)]
    exact zHl ⟨fun h3 => ⟨by omega, ⟨h.2.1, h3.2.1⟩, by omega⟩, fun h3 => ⟨by omega, h3.2.1.2, by omega⟩⟩ (by omega) rfl
  ·rw [if_neg h] at ih
   rw [ih, if_pos (by omega)]
   refine (if_neg ?_).symm
   rintro ⟨h4, ⟨h5, _⟩, h6⟩
   exact h ⟨by omega, h5, by omega⟩
end
theorem zZb (c : Co) : decide (prC 1 [] c ≤ 3000) = lK c := by
 rw [zNc, lK]
 by_cases h : 1 + nH c ≤ 151 ∧ jH [] c = true ∧ ndC c ≤ 3000
 ·rw [if_pos h, h.2.1, decide_eq_true h.2.2, decide_eq_true (by omega)]; rfl
 ·rw [if_neg h]
  by_cases h1 : ndC c ≤ 3000
  ·by_cases h2 : nH c ≤ 150
   ·have : jH [] c = false := by
     cases hr : jH [] c with
     | false => rfl
     | true => exact absurd ⟨by omega, hr, h1⟩ h
    rw [this]; simp
   ·simp [h2]
  ·simp [h1]
theorem zY9 (deep : Nat) (env : List Nm) (c : Co) : prC deep env c ≤ 3001 := by
 rw [zNc]; split <;> omega
mutual
theorem zY6 : ∀ c : Co, ndC c ≤ szC c + 1
 | .mk op n s t ks => by
  have := zHq ks
  simp only [ndC, szC]; omega
theorem zHq : ∀ l : List Co, y7 l ≤ x0 l
 | [] => by simp [y7]
 | c :: l => by
  have h1 := zY6 c
  have h2 := zHq l
  simp only [y7, x0]; omega
end
mutual
theorem zV7 : ∀ c : Co, nH c ≤ szC c + 1
 | .mk op n s t ks => by
  have := zBr ks
  simp only [nH, szC]; omega
theorem zBr : ∀ l : List Co, dU l ≤ x0 l
 | [] => by simp [dU]
 | c :: l => by
  have h1 := zV7 c
  have h2 := zBr l
  simp only [dU, x0]; omega
end
end Go.Proofs.Ytlkjnlfddadlmaa.V
namespace Go.Proofs.Ytlkjnlfddadlmaa.V
set_option maxRecDepth 100000
abbrev zco : Co := .mk 0 0 [] [] []
def kid (ks : List Co) (i : Nat) : Co := ks.getD i zco
def zSt : Co → Int
 | .mk op _ _ _ _ => op
def coN : Co → Int
 | .mk _ n _ _ _ => n
def zSe (x : Int) : Int := IntKind.wrap .i64 (BitVec.ofInt IntKind.i64.bits x &&& BitVec.ofInt IntKind.i64.bits 2147483647).toNat
def rnd (x : Int) : Int := if zSe x ≥ 1073741824 then IntKind.wrap .i64 (zSe x - 2147483648) else zSe x
def zPl (op a b : Int) : Int :=
 if op = 8 then rnd (IntKind.wrap .i64 (a + b)) else if op = 9 then rnd (IntKind.wrap .i64 (a - b)) else if op = 10 then rnd (IntKind.wrap .i64 (a * b))
 else if op = 11 then (bit (decide (a < b)) : Int) else (bit (a == b) : Int)
def zTd (op n : Int) (s t : Nm) (ks : List Co) : Co :=
 if (decide (op ≥ 8) && decide (op ≤ 12)) && zSt (kid ks 0) == 1 && zSt (kid ks 1) == 1 then .mk 1 (zPl op (coN (kid ks 0)) (coN (kid ks 1))) [] [] []
 else if op == 7 && zSt (kid ks 0) == 1 then (if coN (kid ks 0) == 0 then kid ks 2 else kid ks 1)
 else if op == 17 && (zSt (kid ks 0) == 1 || zSt (kid ks 0) == 13) then .mk 1 0 [] [] []
 else .mk op n s t ks
mutual
def fold : Co → Co
 | .mk op n s t ks => zTd op n s t (rO ks)
def rO : List Co → List Co
 | [] => []
 | c :: l => fold c :: rO l
end
theorem zFj : ∀ l : List Co, (rO l).length = l.length
 | [] => rfl
 | c :: l => by simp only [rO, List.length_cons, zFj l]
mutual
def wR : Co → Bool
 | .mk op _ _ _ ks => arC op == (ks.length : Int) && fW ks
def fW : List Co → Bool
 | [] => true
 | c :: l => wR c && fW l
end
mutual
theorem zK5 : ∀ (env : List Nm) (c : Co), jH env c = true → wR c = true
 | env, .mk op n s t ks, h => by
  simp only [jH, kS, Bool.and_eq_true] at h
  simp only [wR, Bool.and_eq_true]
  exact ⟨h.1.1.1.1.1.1, zGs op s t env 0 ks h.2⟩
theorem zGs : ∀ (op : Int) (s t : Nm) (env : List Nm) (i : Nat) (l : List Co), wP op s t env i l = true → fW l = true
 | op, s, t, env, i, [], h => rfl
 | op, s, t, env, i, c :: l, h => by
  simp only [wP, Bool.and_eq_true] at h
  simp only [fW, Bool.and_eq_true]
  exact ⟨zK5 _ c h.1, zGs op s t env (i + 1) l h.2⟩
end
theorem xO : ∀ {l : List Co}, fW l = true → ∀ c ∈ l, wR c = true
 | c :: l, h, x, hx => by
  simp only [fW, Bool.and_eq_true] at h
  rcases List.mem_cons.1 hx with rfl | hx
  ·exact h.1
  ·exact xO h.2 x hx
theorem s4 {c : Co} (h : lK c = true) : jH [] c = true := by
 simp only [lK, Bool.and_eq_true] at h; exact h.2
theorem mK {c : Co} (h : lK c = true) : wR c = true := zK5 _ _ (s4 h)
theorem zEh (n : Int) : -9223372036854775808 ≤ IntKind.wrap .i64 n ∧ IntKind.wrap .i64 n < 9223372036854775808 := by
 have : IntKind.wrap .i64 n = if n % 18446744073709551616 ≥ 9223372036854775808 then n % 18446744073709551616 - 18446744073709551616 else n % 18446744073709551616 := by
  unfold IntKind.wrap
  exact zHl (by simp [IntKind.bits, IntKind.signed]) rfl rfl
 rw [this]
 split <;> omega
theorem o6 (x : Int) : -9223372036854775808 ≤ rnd x ∧ rnd x < 9223372036854775808 := by
 unfold rnd
 split
 ·exact zEh _
 ·exact zEh _
theorem eF (op a b : Int) : -9223372036854775808 ≤ zPl op a b ∧ zPl op a b < 9223372036854775808 := by
 have h : ∀ c : Bool, -9223372036854775808 ≤ ((bit c : Nat) : Int) ∧ ((bit c : Nat) : Int) < 9223372036854775808 := by intro c; cases c <;> simp [bit]
 unfold zPl
 split
 ·exact o6 _
 ·split
  ·exact o6 _
  ·split
   ·exact o6 _
   ·split
    ·exact h _
    ·exact h _
theorem uR : ∀ {l : List Co} {c : Co}, c ∈ l → ndC c ≤ y7 l
 | x :: l, c, h => by
  simp only [y7]
  rcases List.mem_cons.1 h with rfl | h
  ·omega
  ·have := uR h; omega
theorem zWr {ks : List Co} {i : Nat} : kid ks i ∈ ks ∨ kid ks i = zco := by
 unfold kid
 rw [List.getD_eq_getElem?_getD]
 cases h : ks[i]? with
 | none => right; rfl
 | some c => left; exact List.mem_of_getElem? h
theorem zB5 {P : Co → Prop} {op n : Int} {s t : Nm} {ks : List Co} (h0 : P zco) (h1 : ∀ n, -9223372036854775808 ≤ n → n < 9223372036854775808 → P (.mk 1 n [] [] [])) (hk : ∀ c ∈ ks, P c) (hs : P (.mk op n s t ks)) : P (zTd op n s t ks) := by
 have hkid : ∀ i, P (kid ks i) := fun i => by
  rcases zWr (ks := ks) (i := i) with h | h
  ·exact hk _ h
  ·rw [h]; exact h0
 unfold zTd
 split
 ·exact h1 _ (eF _ _ _).1 (eF _ _ _).2
 ·split
  ·split
   ·exact hkid _
   ·exact hkid _
  ·split
   ·exact h1 0 (by omega) (by omega)
   ·exact hs
theorem zZw : Wf zco := by simp [Wf, Wfs, maxLen]
mutual
theorem zWk : ∀ c : Co, Wf c → Wf (fold c)
 | .mk op n s t ks, h => by
  simp only [Wf] at h
  have hk := zJo ks h.2.2.2.2.2
  simp only [fold]
  refine zB5 zZw (fun n h1 h2 => by simp [Wf, Wfs, maxLen, h1, h2]) (tL.1 hk) ?_
  simp only [Wf]
  exact ⟨h.1, h.2.1, h.2.2.1, h.2.2.2.1, by rw [zFj]; exact h.2.2.2.2.1, hk⟩
theorem zJo : ∀ l : List Co, Wfs l → Wfs (rO l)
 | [], h => trivial
 | c :: l, h => by
  simp only [Wfs] at h
  simp only [rO, Wfs]
  exact ⟨zWk c h.1, zJo l h.2⟩
end
mutual
theorem zWi : ∀ c : Co, ndC (fold c) ≤ ndC c
 | .mk op n s t ks => by
  have hk := zJm ks
  simp only [fold]
  refine zB5 (P := fun x => ndC x ≤ ndC (.mk op n s t ks)) ?_ (fun n _ _ => ?_) (fun c hc => ?_) ?_
  ·simp only [ndC, y7]; omega
  ·simp only [ndC, y7]; omega
  ·have := uR hc; simp only [ndC]; omega
  ·simp only [ndC]; omega
theorem zJm : ∀ l : List Co, y7 (rO l) ≤ y7 l
 | [] => Nat.le_refl _
 | c :: l => by
  have h1 := zWi c
  have h2 := zJm l
  simp only [rO, y7]; omega
end
theorem zXi {l : List Co} {c : Co} (h : c ∈ l) : szC c ≤ x0 l := by have := dB h; omega
mutual
theorem zWj : ∀ c : Co, szC (fold c) ≤ szC c
 | .mk op n s t ks => by
  have hk := zJn ks
  simp only [fold]
  refine zB5 (P := fun x => szC x ≤ szC (.mk op n s t ks)) ?_ (fun n _ _ => ?_) (fun c hc => ?_) ?_
  ·simp only [szC, x0, List.length_nil]; omega
  ·simp only [szC, x0, List.length_nil]; omega
  ·have := zXi hc; simp only [szC]; omega
  ·simp only [szC]; omega
theorem zJn : ∀ l : List Co, x0 (rO l) ≤ x0 l
 | [] => Nat.le_refl _
 | c :: l => by
  have h1 := zWj c
  have h2 := zJn l
  simp only [rO, x0]; omega
end
mutual
theorem zZu : ∀ c : Co, szM c = 4 * ndC c
 | .mk op n s t ks => by simp only [szM, ndC, zQh ks]; omega
theorem zQh : ∀ l : List Co, bS l = 4 * y7 l
 | [] => rfl
 | c :: l => by simp only [bS, y7, zZu c, zQh l]; omega
end
end Go.Proofs.Ytlkjnlfddadlmaa.V
