/-
  How cores are read from their text: the program's steps. No conditions.
-/
import Derived.Test.YtlkjnlfddadlmaaGreatDoorMPCoreReadc
set_option linter.unusedVariables false
set_option linter.unusedSimpArgs false
namespace Go.Proofs.YtlkjnlfddadlmaaGreatDoor.V
set_option maxRecDepth 100000
abbrev rdR (s : Nm) (bad : Bool) : List CU := [.t (.str s), .t (.bool bad)]
theorem cut_o (s t : Nm) : RT 54 [xs s, xs t] [] = some (.tup [xs (Lib.trimPrefix s t), xb (Lib.hasPrefix s t)], []) := rB rfl rfl
theorem has_o (s t : Nm) : RT 36 [xs s, xs t] [] = some (xb (Lib.hasPrefix s t), []) := rB rfl rfl
theorem any_o {s : Nm} (h : s.length < 4294967281) : RT 50 [xs s, xs [32, 41]] [] = some (xi (Lib.indexAny s [32, 41]), []) := rB rfl (by simp [zF0, h])
theorem zV9 {s : Nm} (h : s.length ≤ 140737488355328) : RT 33 [xs s] [] = some (mR s, []) := rB rfl (by simp [eF, h])
theorem zXg {g : Nat} {xs' : List XU} {a : Nm} {b : Bool} (h : RT g xs' [] = some (.tup [xs a, xb b], [])) : Ret RT g xs' (.tup [xs a, xb b]) := ⟨_, h, rfl⟩
theorem bY {s t : Nm} {bad : Bool} : RT 35 [p0, xs t] [rdR s bad] = some (.tup [], [rdR (tkI t (s, bad)).1 (tkI t (s, bad)).2]) := by
 refine lR (fn := Tryz.f35) rfl rfl rfl rfl ?_
 refine ⟨_, zXg (cut_o s t), ?_⟩
 simp only [tkI]
 generalize Lib.trimPrefix s t = r
 generalize Lib.hasPrefix s t = b
 cases bad with
 | true =>
  refine ⟨fun h => ?_, fun h => by cases h⟩
  exact ⟨rfl, rfl⟩
 | false =>
  refine ⟨fun h => (by cases h), fun h => ?_⟩
  exact ⟨rfl, rfl⟩
theorem zMh : ∀ (s : Nm), (Lib.indexAny s [32, 41] < 0 ∧ s.takeWhile (fun b => !tW b) = s ∧ s.dropWhile (fun b => !tW b) = []) ∨
  ∃ n : Nat, Lib.indexAny s [32, 41] = n ∧ n ≤ s.length ∧ s.takeWhile (fun b => !tW b) = s.take n ∧ s.dropWhile (fun b => !tW b) = s.drop n
 | [] => .inl ⟨by decide, rfl, rfl⟩
 | b :: l => by
  have hc : ([32, 41] : List UInt8).contains b = tW b := by
   simp only [List.contains_cons, List.contains_nil, Bool.or_false, tW]
  simp only [Lib.indexAny, hc]
  cases hb : tW b with
  | true =>
   refine .inr ⟨0, by simp, by simp, ?_, ?_⟩ <;> simp [hb]
  | false =>
   rcases zMh l with ⟨h1, h2, h3⟩ | ⟨n, h1, h2, h3, h4⟩
   ·have e : Lib.indexAny l [32, 41] = -1 := by have := Lib.indexAny_ge [32, 41] l; omega
    refine .inl ⟨by simp [e], ?_, ?_⟩ <;> simp [hb, h2, h3]
   ·refine .inr ⟨n + 1, ?_, by simp; omega, ?_, ?_⟩
    ·rw [h1, if_neg (by simp), if_neg (by simp)]; push_cast; rfl
    ·simp [hb, h3]
    ·simp [hb, h4]
theorem zE3 {s : Nm} {bad : Bool} (hk : s.length ≤ 1048576) : RT 32 [p0] [rdR s bad] = some (xs (wdI (s, bad)).1, [rdR (wdI (s, bad)).2.1 (wdI (s, bad)).2.2]) := by
 refine lR (fn := Tryz.f32) rfl rfl rfl rfl ?_
 refine ⟨_, uH (any_o (by omega)), ?_⟩
 simp only [wdI]
 rcases zMh s with ⟨h1, h2, h3⟩ | ⟨n, h1, h2, h3, h4⟩
 ·refine ⟨fun h => ?_, fun h => by simp at h; omega⟩
  rw [h2, h3]
  refine ⟨⟨by omega, by omega, by omega⟩, ?_⟩
  refine ⟨⟨by omega, by omega, by omega⟩, ?_⟩
  have e1 : ((s.drop (0 : Int).toNat).take ((s.length : Int) - 0).toNat) = s := by simp
  have e2 : ((s.drop (s.length : Int).toNat).take ((s.length : Int) - (s.length : Int)).toNat) = [] := by simp
  exact ⟨by rw [e1]; rfl, by rw [e2]⟩
 ·refine ⟨fun h => by simp at h; omega, fun h => ?_⟩
  rw [h3, h4, h1]
  refine ⟨⟨by omega, by omega, by omega⟩, ?_⟩
  refine ⟨⟨by omega, by omega, by omega⟩, ?_⟩
  have e1 : ((s.drop (0 : Int).toNat).take ((n : Int) - 0).toNat) = s.take n := by simp
  have e2 : ((s.drop (n : Int).toNat).take ((s.length : Int) - (n : Int)).toNat) = s.drop n := by
   rw [Int.toNat_natCast]; apply List.take_of_length_le; rw [List.length_drop]; omega
  exact ⟨by rw [e1]; rfl, by rw [e2]⟩
end Go.Proofs.YtlkjnlfddadlmaaGreatDoor.V
namespace Go.Proofs.YtlkjnlfddadlmaaGreatDoor.V
set_option maxRecDepth 100000
theorem cw_i (op : Int) : RT 37 [xi op] [] = some (xs (cwd op), []) := by
 refine xM (fn := Tryz.f37) rfl rfl rfl rfl ?_
 refine ⟨_, j6 (in52 _ _ _), ?_⟩
 refine ⟨fun h => ?_, fun h => ?_⟩
 ·have h : ¬ (3 ≤ op ∧ op ≤ 18) := by simp at h; omega
  unfold cwd
  rw [if_neg (by omega)]
  exact ⟨rfl, rfl⟩
 ·have h : 3 ≤ op ∧ op ≤ 18 := by simp at h; omega
  refine ⟨fun h2 => ?_, fun h2 => ?_⟩
  ·have h2 : op = 13 := by simpa using h2
   unfold cwd
   rw [if_neg (by omega)]
   exact ⟨rfl, rfl⟩
  ·have h2 : op ≠ 13 := by simpa using h2
   unfold cwd
   rw [if_pos (by omega)]
   have e : IntKind.wrap .i64 (op - 3) = ((op - 3).toNat : Int) := by rw [wrap64 (by omega) (by omega)]; omega
   have hl : (op - 3).toNat < cwL.length := by show _ < 16; omega
   have hw : cwL[(op - 3).toNat]? = some (cwL.getD (op - 3).toNat []) := by
    rw [List.getD_eq_getElem?_getD, List.getElem?_eq_getElem hl]; rfl
   refine ⟨by rw [e]; exact ⟨by omega, by omega⟩, ?_⟩
   refine ⟨_, ⟨by rw [e]; exact zK6 hw, rfl⟩, ?_⟩
   exact ⟨rfl, rfl⟩
theorem nM {g : Nat} {a : List XU} {e : List (List CU)} {s : Nm} {b : Bool} (h : RT g a e = some (.tup [], [rdR s b])) : zJ8 RT g a e (.tup []) [rdR s b] := ⟨_, h, rfl, rfl⟩
theorem zEq {g : Nat} {a : List XU} {e : List (List CU)} {w s : Nm} {b : Bool} (h : RT g a e = some (xs w, [rdR s b])) : zJ8 RT g a e (xs w) [rdR s b] := ⟨_, h, rfl, rfl⟩
theorem zVx {g : Nat} {a : List XU} {e : List (List CU)} {c : Co} {s : Nm} {b : Bool} (h : RT g a e = some (xc (enc c), [rdR s b])) : zJ8 RT g a e (xc (enc c)) [rdR s b] :=
 ⟨_, h, by simp only [kZ, zHg (zAi c), Option.map_some], rfl⟩
theorem wT (st : StI) : (wdI st).1.length + (wdI st).2.1.length = st.1.length := by
 simp only [wdI]
 rw [← List.length_append, List.takeWhile_append_dropWhile]
theorem jX (t : Nm) (st : StI) : (tkI t st).1.length ≤ st.1.length := by
 simp only [tkI, Lib.trimPrefix]
 split
 ·rw [List.length_drop]; omega
 ·omega
theorem zNp (b : Bool) (st : StI) : (nmI b st).2.1.length ≤ st.1.length := by
 unfold nmI
 split
 ·have h1 := wT (tkI [32] st)
  have h2 := jX [32] st
  omega
 ·exact Nat.le_refl _
theorem aP : ∀ (d : Nat) (st : StI), (xE d st).2.1.length ≤ st.1.length
 | 0, st => Nat.le_refl _
 | d + 1, st => by
  have hk : ∀ (k : Nat) (st : StI), (jD (xE d) k st).2.1.length ≤ st.1.length := by
   intro k
   induction k with
   | zero => intro st; exact Nat.le_refl _
   | succ k ih =>
    intro st
    simp only [jD]
    exact Nat.le_trans (ih _) (Nat.le_trans (aP d _) (jX _ _))
  simp only [xE]
  split
  ·exact Nat.le_refl _
  ·split
   ·have := wT st; simp only; omega
   ·have h0 := jX [40] st
    unfold zDa
    split
    ·exact Nat.le_trans (jX _ _) h0
    ·have h1 := wT (tkI [40] st)
     split
     ·show (wdI (tkI [40] st)).2.1.length ≤ _; omega
     ·refine Nat.le_trans (jX _ _) (Nat.le_trans (hk _ _) (Nat.le_trans (zNp _ _) (Nat.le_trans (zNp _ _) ?_)))
      omega
def CI (d : Nat) : Prop := ∀ (s : Nm) (bad : Bool) (deep : Int), deep = 151 - d → s.length ≤ 1048576 →
 RT 14 [p0, xi deep] [rdR s bad] = some (xc (enc (xE d (s, bad)).1), [rdR (xE d (s, bad)).2.1 (xE d (s, bad)).2.2])
theorem lO {w s : Nm} {b : Bool} {deep : Int} {K : Ex → StA → Prop} : ∀ (k : Nat) (o : Int), o + k = 19 → 3 ≤ o →
  (∀ jk, K (.exit 0) ⟨[(9, .box () ((qA (bS k o w) 0 [] [] 0 0 []).map .t)), (8, xs w), (0, p0), (1, xi deep), (4, .box () (zC.map .t))], jk, [rdR s b]⟩) →
  ∀ jk, sem cx0 14 RT (.loop (lp Tryz.f14 0)) ⟨[(9, .box () ((qA o 0 [] [] 0 0 []).map .t)), (8, xs w), (0, p0), (1, xi deep), (4, .box () (zC.map .t))], jk, [rdR s b]⟩ K := by
 intro k
 induction k with
 | zero =>
  intro o ho h3 k1 jk
  refine zO cx0 _ RT [9, 8, 0, 1, 4] ⟨fun h => by simp at h; omega, fun h => ?_⟩
  exact fun jk => k1 jk
 | succ k ih =>
  intro o ho h3 k1 jk
  refine zO cx0 _ RT [9, 8, 0, 1, 4] ⟨fun h => ?_, fun h => by simp at h; omega⟩
  refine ⟨_, zC3 (cw_i o), ?_⟩
  refine ⟨fun h2 => ?_, fun h2 => ?_⟩
  ·have h2 : cwd o ≠ w := by simpa using h2
   have e : bS (k + 1) o w = bS k (o + 1) w := by simp only [bS]; rw [if_pos ⟨by omega, h2⟩]
   rw [e] at k1
   intro jk
   rw [wrap64 (by omega) (by omega)]
   exact ih (o + 1) (by omega) (by omega) k1 jk
  ·have h2 : cwd o = w := by simpa using h2
   have e : bS (k + 1) o w = o := by simp only [bS]; rw [if_neg (fun h => h.2 h2)]
   rw [e] at k1
   exact fun jk => k1 jk
theorem zFx : ∀ (k : Nat) (o : Int) (w : Nm), 3 ≤ o → o + k = 19 → 3 ≤ bS k o w ∧ bS k o w ≤ 19
 | 0, o, w, h, h1 => by simp only [bS]; omega
 | k + 1, o, w, h, h1 => by
  simp only [bS]
  split
  ·exact zFx k (o + 1) w (by omega) (by omega)
  ·omega
theorem zQp {op : Int} (h3 : 3 ≤ op) (h18 : op ≤ 18) : ∃ a : Nat, arC op = (a : Int) ∧ a ≤ 3 := by
 have : op = 3 ∨ op = 4 ∨ op = 5 ∨ op = 6 ∨ op = 7 ∨ op = 8 ∨ op = 9 ∨ op = 10 ∨ op = 11 ∨ op = 12 ∨ op = 13 ∨ op = 14 ∨ op = 15 ∨ op = 16 ∨ op = 17 ∨ op = 18 := by omega
 rcases this with rfl | rfl | rfl | rfl | rfl | rfl | rfl | rfl | rfl | rfl | rfl | rfl | rfl | rfl | rfl | rfl
 all_goals first | exact ⟨0, by decide, by omega⟩ | exact ⟨1, by decide, by omega⟩ | exact ⟨2, by decide, by omega⟩ | exact ⟨3, by decide, by omega⟩
theorem lKI {d a : Nat} (ih : CI d) (hd : d + 1 ≤ 150) {op : Int} {S T : Nm} {deep : Int} {K : Ex → StA → Prop} (hde : deep = 151 - ((d + 1 : Nat) : Int)) (ha : arC op = (a : Int)) (ha3 : a ≤ 3) : ∀ (m i : Nat), i + m = a → ∀ (done : List Co) (s : Nm) (b : Bool), done.length = i → s.length ≤ 1048576 →
  (∀ jk j, K (.exit 2) ⟨[(10, xi j), (9, .box () ((qA op 0 S T 0 (done ++ (jD (xE d) m (s, b)).1).length (xO (done ++ (jD (xE d) m (s, b)).1))).map .t)), (0, p0), (1, xi deep), (4, .box () (zC.map .t))], jk, [rdR (jD (xE d) m (s, b)).2.1 (jD (xE d) m (s, b)).2.2]⟩) →
  ∀ jk, sem cx0 14 RT (.loop (lp Tryz.f14 1)) ⟨[(10, xi i), (9, .box () ((qA op 0 S T 0 i (xO done)).map .t)), (0, p0), (1, xi deep), (4, .box () (zC.map .t))], jk, [rdR s b]⟩ K := by
 intro m
 induction m with
 | zero =>
  intro i him done s b hdn hk k1 jk
  refine zO cx0 _ RT [10, 9, 0, 1, 4] ?_
  refine ⟨_, uH (zK1 op), ?_⟩
  refine ⟨fun h => by rw [ha] at h; simp at h; omega, fun h => ?_⟩
  have := fun jk j => k1 jk j
  simp only [jD, List.append_nil, hdn] at this
  exact fun jk => this jk _
 | succ m ihm =>
  intro i him done s b hdn hk k1 jk
  refine zO cx0 _ RT [10, 9, 0, 1, 4] ?_
  refine ⟨_, uH (zK1 op), ?_⟩
  refine ⟨fun h => ?_, fun h => by rw [ha] at h; simp at h; omega⟩
  refine ⟨_, _, nM bY, ?_⟩
  have ht := jX [32] (s, b)
  have e0 : jD (xE d) (m + 1) (s, b) = ((xE d (tkI [32] (s, b))).1 :: (jD (xE d) m (xE d (tkI [32] (s, b))).2).1, (jD (xE d) m (xE d (tkI [32] (s, b))).2).2) := rfl
  rw [e0] at k1
  generalize tkI [32] (s, b) = st at ht k1 ⊢
  obtain ⟨s1, b1⟩ := st
  dsimp only at ht
  have hc := ih s1 b1 (deep + 1) (by omega) (by omega)
  have hs' := aP d (s1, b1)
  generalize xE d (s1, b1) = R at hc hs' k1
  obtain ⟨⟨po, pn, ps, pt, pk⟩, r1, ok1⟩ := R
  dsimp only at hc hs' k1
  have hdl : (done ++ [Co.mk po pn ps pt pk]).length = i + 1 := by simp [hdn]
  have e1 : done ++ (Co.mk po pn ps pt pk :: (jD (xE d) m (r1, ok1)).1) = (done ++ [Co.mk po pn ps pt pk]) ++ (jD (xE d) m (r1, ok1)).1 := by simp
  rw [e1] at k1
  have hih := ihm (i + 1) (by omega) _ r1 ok1 hdl (by omega) k1
  rw [← zVv hdn] at hih
  have hw : IntKind.wrap .i64 (deep + 1) = deep + 1 := by rw [wrap64 (by omega) (by omega)]
  refine ⟨_, _, zVx (c := .mk po pn ps pt pk) (by rw [hw]; exact hc), ?_⟩
  refine ⟨⟨rfl, rfl⟩, ?_⟩
  refine ⟨⟨rfl, rfl⟩, ?_⟩
  refine ⟨by rw [bL, hdn]; omega, ?_⟩
  refine ⟨⟨by simp only [maxLen]; omega, by show (i + 1) * 72 ≤ _; omega⟩, ?_⟩
  intro jk
  rw [wrap64 (by omega) (by omega)]
  exact hih jk
set_option maxHeartbeats 16000000 in
theorem zWe : ∀ d, d ≤ 150 → CI d := by
 intro d
 induction d with
 | zero =>
  intro _ s bad deep he hk
  subst he
  refine lR (fn := Tryz.f14) rfl rfl rfl rfl ?_
  simp only [xE]
  refine ⟨fun h => ?_, fun h => ?_⟩
  ·refine ⟨inV [], ?_⟩
   exact ⟨rfl, rfl⟩
  ·refine ⟨fun h => ?_, fun h => by simp at h⟩
   refine ⟨inV [], ?_⟩
   exact ⟨rfl, rfl⟩
 | succ d ih =>
  intro hd s bad deep he hk
  have ih := ih (by omega)
  refine lR (fn := Tryz.f14) rfl rfl rfl rfl ?_
  simp only [xE]
  have h40 : (s.getD (0 : Int).toNat 0).toNat = 40 ↔ s.getD 0 0 = 40 := by
   constructor
   ·intro h
    have h' := congrArg UInt8.ofNat h
    simpa using h'
   ·intro h
    have h' := congrArg UInt8.toNat h
    exact h'
  cases bad with
  | true =>
   refine ⟨fun h => ?_, fun h => (by cases h)⟩
   rw [if_pos (.inl rfl)]
   refine ⟨inV [], ?_⟩
   exact ⟨rfl, rfl⟩
  | false =>
   refine ⟨fun h => (by cases h), fun h => ?_⟩
   refine ⟨fun h2 => by simp at h2; omega, fun h2 => ?_⟩
   refine ⟨fun h3 => ?_, fun h3 => ?_⟩
   ·have h3 : s = [] := by simpa using h3
    rw [if_pos (.inr h3)]
    refine ⟨inV [], ?_⟩
    exact ⟨rfl, rfl⟩
   have h3 : s ≠ [] := by simpa using h3
   rw [if_neg (by simp [h3])]
   have hl : 0 < s.length := List.length_pos_iff.2 h3
   refine ⟨⟨by omega, by omega⟩, ?_⟩
   refine ⟨fun h4 => ?_, fun h4 => ?_⟩
   ·have h4 : s.getD 0 0 ≠ 40 := by
     intro e
     have e' := h40.2 e
     have e2 : ((s.getD (0 : Int).toNat 0).toNat : Int) = 40 := by rw [e']; rfl
     have h4 : (((s.getD (0 : Int).toNat 0).toNat : Int) != 40) = true := h4
     rw [e2] at h4; cases h4
    rw [if_pos h4]
    refine ⟨_, _, zEq (zE3 hk), ?_⟩
    have hw := wT (s, false)
    generalize wdI (s, false) = a at hw ⊢
    obtain ⟨w, r1, b1⟩ := a
    dsimp only at hw ⊢
    have ha := zV9 (s := w) (by omega)
    rcases hr : Lib.atoiAll w with n | _ | _
    ·have e1 : mR w = .tup [xi n, .c (.t .nili)] := by unfold mR; rw [hr]
     obtain ⟨b0, b1⟩ := Lib.atoiAll_bounds hr
     rw [e1] at ha
     refine ⟨_, (⟨_, ha, rfl⟩ : Ret RT _ _ (.tup [xi n, .c (.t .nili)])), ?_⟩
     refine ⟨fun _ => ?_, fun h => (by cases h)⟩
     refine ⟨_, zC3 (zVm (n := n) (by omega) (by omega)), ?_⟩
     refine ⟨fun h5 => ?_, fun h5 => ?_⟩
     ·have h5 : Lib.itoa n = w := by simpa using h5
      have e2 : nB w = .mk 1 n [] [] [] := by unfold nB; rw [hr]; simp only; rw [if_pos h5]
      rw [e2]
      refine ⟨inV [], ?_⟩
      exact ⟨rfl, rfl⟩
     ·have h5 : Lib.itoa n ≠ w := by simpa using h5
      have e2 : nB w = .mk 2 0 w [] [] := by unfold nB; rw [hr]; simp only; rw [if_neg h5]
      rw [e2]
      refine ⟨inV [], ?_⟩
      exact ⟨rfl, rfl⟩
    ·have e1 : mR w = .tup [xi 0, .c (.t (.ifc ()))] := by unfold mR; rw [hr]
     rw [e1] at ha
     refine ⟨_, (⟨_, ha, rfl⟩ : Ret RT _ _ (.tup [xi 0, .c (.t (.ifc ()))])), ?_⟩
     refine ⟨fun h => (by cases h), fun _ => ?_⟩
     have e2 : nB w = .mk 2 0 w [] [] := by unfold nB; rw [hr]
     rw [e2]
     refine ⟨inV [], ?_⟩
     exact ⟨rfl, rfl⟩
    ·have e1 : mR w = .tup [xi (Lib.atoiSat w), .c (.t (.ifc ()))] := by unfold mR; rw [hr]
     rw [e1] at ha
     refine ⟨_, (⟨_, ha, rfl⟩ : Ret RT _ _ (.tup [xi (Lib.atoiSat w), .c (.t (.ifc ()))])), ?_⟩
     refine ⟨fun h => (by cases h), fun _ => ?_⟩
     have e2 : nB w = .mk 2 0 w [] [] := by unfold nB; rw [hr]
     rw [e2]
     refine ⟨inV [], ?_⟩
     exact ⟨rfl, rfl⟩
   ·have h4 : s.getD 0 0 = 40 := by
     apply h40.1
     have h4 : (((s.getD (0 : Int).toNat 0).toNat : Int) != 40) = false := h4
     have h4 : ((s.getD (0 : Int).toNat 0).toNat : Int) = 40 := eq_of_beq (by simpa only [bne, Bool.not_eq_false'] using h4)
     omega
    rw [if_neg (by simpa using h4)]
    refine ⟨_, _, nM bY, ?_⟩
    have ht1 := jX [40] (s, false)
    generalize tkI [40] (s, false) = st at ht1 ⊢
    obtain ⟨s1, b1⟩ := st
    dsimp only at ht1
    unfold zDa
    refine ⟨_, j6 (has_o _ _), ?_⟩
    refine ⟨fun h5 => ?_, fun h5 => ?_⟩
    ·have h5 : Lib.hasPrefix s1 [41] = true := h5
     rw [if_pos h5]
     refine ⟨_, _, nM bY, ?_⟩
     refine ⟨inV [], ?_⟩
     exact ⟨rfl, rfl⟩
    have h5 : Lib.hasPrefix s1 [41] = false := h5
    rw [if_neg (by rw [h5]; exact Bool.false_ne_true)]
    refine ⟨_, _, zEq (zE3 (by dsimp only; omega)), ?_⟩
    have hw1 := wT (s1, b1)
    generalize wdI (s1, b1) = a at hw1 ⊢
    obtain ⟨w, s2, b2⟩ := a
    dsimp only at hw1 ⊢
    refine yU cx0 _ RT [9, 8, 0, 1, 4] fun jk => ?_
    refine lO 16 3 (by omega) (by omega) (fun jk => ?_) jk
    have ho := zFx 16 3 w (by omega) (by omega)
    have e16 : opI w = bS 16 3 w := rfl
    rw [e16]
    generalize bS 16 3 w = op at ho ⊢
    refine ⟨fun h6 => ?_, fun h6 => ?_⟩
    ·have h6 := of_decide_eq_true h6
     rw [if_pos (by omega)]
     refine ⟨inV [], ?_⟩
     exact ⟨rfl, rfl⟩
    have h6 := of_decide_eq_false h6
    rw [if_neg (by omega)]
    obtain ⟨a, ha, ha3⟩ := zQp ho.1 (by omega)
    have hat : (arC op).toNat = a := by rw [ha]; rfl
    rw [hat]
    refine ⟨fun h7 => ?_, fun h7 => ?_⟩
    ·have h7 : (op == 3) = true := h7
     have e36 : (op == 6) = false := by simp at h7 ⊢; omega
     have e7 : (op == 3 || op == 5 || op == 6) = true := by rw [h7]; rfl
     simp only [nmI, e7, if_true]
     refine ⟨_, _, nM bY, ?_⟩
     have hts3 := jX [32] (s2, b2)
     generalize tkI [32] (s2, b2) = st at hts3 ⊢
     obtain ⟨qs3, cs3⟩ := st
     dsimp only at hts3
     refine ⟨_, _, zEq (zE3 (by dsimp only; omega)), ?_⟩
     have hws3 := wT (qs3, cs3)
     generalize wdI (qs3, cs3) = a at hws3 ⊢
     obtain ⟨w3, s3, b3⟩ := a
     dsimp only at hws3 ⊢
     refine ⟨fun h8 => (by rw [e36] at h8; cases h8), fun _ => ?_⟩
     simp only [e36, Bool.false_eq_true, if_false]
     refine yU cx0 _ RT [10, 9, 0, 1, 4] fun jk => ?_
     refine lKI ih hd he ha ha3 a 0 (by omega) [] s3 b3 rfl (by omega) (fun jk j => ?_) jk
     simp only [List.nil_append]
     generalize jD (xE d) a (s3, b3) = R
     obtain ⟨kk, r9, b9⟩ := R
     dsimp only
     refine ⟨_, _, nM bY, ?_⟩
     refine ⟨inV kk, ?_⟩
     exact ⟨by rw [xK]; rfl, rfl⟩
    ·have h7 : (op == 3) = false := h7
     refine ⟨fun h8 => ?_, fun h8 => ?_⟩
     ·have h8 : (op == 5) = true := h8
      have e36 : (op == 6) = false := by simp at h8 ⊢; omega
      have e7 : (op == 3 || op == 5 || op == 6) = true := by rw [h7, h8]; rfl
      simp only [nmI, e7, if_true]
      refine ⟨_, _, nM bY, ?_⟩
      have hts3 := jX [32] (s2, b2)
      generalize tkI [32] (s2, b2) = st at hts3 ⊢
      obtain ⟨qs3, cs3⟩ := st
      dsimp only at hts3
      refine ⟨_, _, zEq (zE3 (by dsimp only; omega)), ?_⟩
      have hws3 := wT (qs3, cs3)
      generalize wdI (qs3, cs3) = a at hws3 ⊢
      obtain ⟨w3, s3, b3⟩ := a
      dsimp only at hws3 ⊢
      refine ⟨fun h8 => (by rw [e36] at h8; cases h8), fun _ => ?_⟩
      simp only [e36, Bool.false_eq_true, if_false]
      refine yU cx0 _ RT [10, 9, 0, 1, 4] fun jk => ?_
      refine lKI ih hd he ha ha3 a 0 (by omega) [] s3 b3 rfl (by omega) (fun jk j => ?_) jk
      simp only [List.nil_append]
      generalize jD (xE d) a (s3, b3) = R
      obtain ⟨kk, r9, b9⟩ := R
      dsimp only
      refine ⟨_, _, nM bY, ?_⟩
      refine ⟨inV kk, ?_⟩
      exact ⟨by rw [xK]; rfl, rfl⟩
     ·have h8 : (op == 5) = false := h8
      refine ⟨fun h9 => ?_, fun h9 => ?_⟩
      ·have h9 : (op == 6) = true := h9
       have e7 : (op == 3 || op == 5 || op == 6) = true := by rw [h7, h8, h9]; rfl
       simp only [nmI, e7, if_true]
       refine ⟨_, _, nM bY, ?_⟩
       have hts3 := jX [32] (s2, b2)
       generalize tkI [32] (s2, b2) = st at hts3 ⊢
       obtain ⟨qs3, cs3⟩ := st
       dsimp only at hts3
       refine ⟨_, _, zEq (zE3 (by dsimp only; omega)), ?_⟩
       have hws3 := wT (qs3, cs3)
       generalize wdI (qs3, cs3) = a at hws3 ⊢
       obtain ⟨w3, s3, b3⟩ := a
       dsimp only at hws3 ⊢
       refine ⟨fun _ => ?_, fun h => (by rw [h9] at h; cases h)⟩
       simp only [h9, if_true]
       refine ⟨_, _, nM bY, ?_⟩
       have hts4 := jX [32] (s3, b3)
       generalize tkI [32] (s3, b3) = st at hts4 ⊢
       obtain ⟨qs4, cs4⟩ := st
       dsimp only at hts4
       refine ⟨_, _, zEq (zE3 (by dsimp only; omega)), ?_⟩
       have hws4 := wT (qs4, cs4)
       generalize wdI (qs4, cs4) = a at hws4 ⊢
       obtain ⟨w4, s4, b4⟩ := a
       dsimp only at hws4 ⊢
       refine yU cx0 _ RT [10, 9, 0, 1, 4] fun jk => ?_
       refine lKI ih hd he ha ha3 a 0 (by omega) [] s4 b4 rfl (by omega) (fun jk j => ?_) jk
       simp only [List.nil_append]
       generalize jD (xE d) a (s4, b4) = R
       obtain ⟨kk, r9, b9⟩ := R
       dsimp only
       refine ⟨_, _, nM bY, ?_⟩
       refine ⟨inV kk, ?_⟩
       exact ⟨by rw [xK]; rfl, rfl⟩
      ·have h9 : (op == 6) = false := h9
       have e7 : (op == 3 || op == 5 || op == 6) = false := by rw [h7, h8, h9]; rfl
       simp only [nmI, e7, Bool.false_eq_true, if_false]
       refine ⟨fun h => (by rw [h9] at h; cases h), fun _ => ?_⟩
       simp only [h9, Bool.false_eq_true, if_false]
       refine yU cx0 _ RT [10, 9, 0, 1, 4] fun jk => ?_
       refine lKI ih hd he ha ha3 a 0 (by omega) [] s2 b2 rfl (by omega) (fun jk j => ?_) jk
       simp only [List.nil_append]
       generalize jD (xE d) a (s2, b2) = R
       obtain ⟨kk, r9, b9⟩ := R
       dsimp only
       refine ⟨_, _, nM bY, ?_⟩
       refine ⟨inV kk, ?_⟩
       exact ⟨by rw [xK]; rfl, rfl⟩
end Go.Proofs.YtlkjnlfddadlmaaGreatDoor.V
namespace Go.Proofs.YtlkjnlfddadlmaaGreatDoor.V
set_option maxRecDepth 100000
theorem zNq {s : Nm} (h : gE s = true) : s.length ≤ 12 := by
 simp only [gE, Bool.or_eq_true, Bool.and_eq_true] at h
 rcases h with h | h
 ·have : s = [] := by simpa using h
  subst this; simp
 ·have h := h.1.1
  simp only [vJ, Bool.and_eq_true, decide_eq_true_eq] at h
  omega
theorem zQ5 (op : Int) : (cwd op).length ≤ 5 := by
 unfold cwd
 split
 ·next h =>
  have : op = 3 ∨ op = 4 ∨ op = 5 ∨ op = 6 ∨ op = 7 ∨ op = 8 ∨ op = 9 ∨ op = 10 ∨ op = 11 ∨ op = 12 ∨ op = 14 ∨ op = 15 ∨ op = 16 ∨ op = 17 ∨ op = 18 := by omega
  rcases this with rfl | rfl | rfl | rfl | rfl | rfl | rfl | rfl | rfl | rfl | rfl | rfl | rfl | rfl | rfl
  all_goals decide
 ·simp
theorem zS9 {s : Nm} (h : s.length ≤ 12) : (spd s).length ≤ 13 := by
 unfold spd
 split <;> simp; omega
mutual
theorem zL4 : ∀ c : Co, Gd c → (txt c).length + 1 ≤ 40 * ndC c
 | .mk op n s t ks, h => by
  obtain ⟨h1, h2, h3, h4, h5, h6, h7, h8⟩ := h
  have l1 := zNq h6
  have l2 := zNq h7
  have l3 := zQ5 op
  have l4 := zS9 l1
  have l5 := zS9 l2
  have l6 := zGk ks h8
  have l7 : (Lib.itoa n).length ≤ 21 := by obtain ⟨b1, b2⟩ := mF.1 h5; exact zRx n (by omega) (by omega)
  simp only [txt, ndC]
  split
  ·omega
  ·split
   ·omega
   ·split
    ·simp; omega
    ·simp only [List.length_cons, List.length_append, List.length_nil]; omega
theorem zGk : ∀ l : List Co, Gds l → (wC l).length ≤ 40 * vQ l
 | [], _ => by simp [wC]
 | c :: l, h => by
  have h1 := zL4 c h.1
  have h2 := zGk l h.2
  simp only [wC, vQ, List.length_cons, List.length_append]; omega
end
theorem zFi : ∀ {l : List Co}, Gds l → ∀ c ∈ l, Gd c
 | [], _, c, h => by cases h
 | x :: l, h, c, hc => by
  rcases List.mem_cons.1 hc with rfl | hc
  ·exact h.1
  ·exact zFi h.2 c hc
theorem zBk : ∀ {l : List Co} {c : Co}, c ∈ l → ndC c ≤ vQ l
 | [], c, h => by cases h
 | x :: l, c, hc => by
  rcases List.mem_cons.1 hc with rfl | hc
  ·simp only [vQ]; omega
  ·have := zBk hc; simp only [vQ]; omega
theorem tI : ∀ l : List Co, l.length ≤ vQ l
 | [] => by simp [vQ]
 | c :: l => by have := tI l; have := zNo c; simp only [vQ, List.length_cons]; omega
def TS (c : Co) : Prop := ∀ us, Gd c → ndC c ≤ 3000 → Rd c us → RT 13 [xc us] [] = some (xs (txt c), [])
theorem lTS {ks : List Co} {cs : List TU} {g : Nat} {op n : Int} {s t : Nm} {K : Ex → StA → Prop} (H : ∀ c ∈ ks, TS c) (hg : Gds ks) (hn : vQ ks ≤ 3000) (hr : Rds ks cs) :
  ∀ (l : List Co) (i : Nat), ks.drop i = l → i ≤ ks.length → ∀ out : Nm, out.length + 40 * vQ l ≤ 200000 →
  (∀ jk j, K (.exit 1) ⟨[(5, xi j), (4, xs (out ++ wC l)), (1, .box () ((qA op n s t (g + 1) ks.length cs).map .t)), (2, xs [])], jk, []⟩) →
  ∀ jk, sem cx0 13 RT (.loop (lp Tryz.f13 0)) ⟨[(5, xi i), (4, xs out), (1, .box () ((qA op n s t (g + 1) ks.length cs).map .t)), (2, xs [])], jk, []⟩ K := by
 have hk := tI ks
 refine qE ?_ ?_
 ·intro out hv k1 jk
  refine zO cx0 _ RT [5, 4, 1, 2] ⟨fun h => (g7 h (by omega)).elim, fun h => ?_⟩
  have := fun jk j => k1 jk j
  simp only [wC, List.append_nil] at this
  exact fun jk => this jk _
 ·intro i c l hi hil ih out hv k1 jk
  have hm := List.mem_of_getElem? hi
  have hc := H c hm
  have hgc := zFi hg c hm
  have hnc := zBk hm
  have htl := zL4 c hgc
  simp only [vQ] at hv
  refine zO cx0 _ RT [5, 4, 1, 2] ⟨fun h => ?_, fun h => (jO h (by omega)).elim⟩
  refine ⟨by simp only [List.length_cons, List.length_nil, maxLen]; omega, ?_⟩
  refine ⟨⟨by omega, by omega⟩, ?_⟩
  have e1 : out ++ wC (c :: l) = (out ++ [32] ++ txt c) ++ wC l := by simp only [wC]; simp
  rw [e1] at k1
  cases c with
  | mk op' n' s' t' kk =>
  obtain ⟨g', cs', e1, e2⟩ := vK hr hi
  refine ⟨op', n', s', t', g' + 1, kk.length, cs', ⟨e1, rfl⟩, ?_⟩
  refine ⟨_, zC3 (hc (qA op' n' s' t' (g' + 2) kk.length (yD cs')) hgc (by omega) ⟨_, _, rfl, e2.retag⟩), ?_⟩
  refine ⟨by simp only [List.length_append, List.length_cons, List.length_nil, maxLen]; omega, ?_⟩
  intro jk
  rw [kK hil (by simp only [maxLen]; omega)]
  exact ih (out ++ [32] ++ txt (.mk op' n' s' t' kk)) (by simp only [List.length_append, List.length_cons, List.length_nil]; omega) k1 jk
set_option maxHeartbeats 8000000 in
theorem zXq : ∀ c : Co, TS c := by
 refine Co.ind fun op n s t ks ih => ?_
 intro us hg hn hr
 obtain ⟨g1, cs, rfl, hr⟩ := hr
 have hg0 := hg
 obtain ⟨h1, h2, h3, h4, h5, h6, h7, h8⟩ := hg
 obtain ⟨hr1, hr2⟩ := nX h1
 obtain ⟨b1, b2⟩ := mF.1 h5
 have l1 := zNq h6
 have l2 := zNq h7
 have l3 := zQ5 op
 have hnk : vQ ks ≤ 3000 := by simp only [ndC] at hn; omega
 have l6 := zGk ks h8
 refine xM (fn := Tryz.f13) rfl rfl rfl rfl ?_
 simp only [txt]
 refine ⟨fun e1 => ?_, fun e1 => ?_⟩
 ·have e1 : op = 1 := by simpa using e1
  rw [if_pos e1]
  refine ⟨_, zC3 (dig_s (n := n) (by omega) (by omega)), ?_⟩
  exact ⟨rfl, rfl⟩
 have e1 : op ≠ 1 := by simpa using e1
 rw [if_neg e1]
 refine ⟨fun e2 => ?_, fun e2 => ?_⟩
 ·have e2 : op = 2 := by simpa using e2
  rw [if_pos e2]
  exact ⟨rfl, rfl⟩
 have e2 : op ≠ 2 := by simpa using e2
 rw [if_neg e2]
 refine ⟨fun e3 => ?_, fun e3 => ?_⟩
 ·have e3 : op = 13 := by simpa using e3
  rw [if_pos e3]
  exact ⟨rfl, rfl⟩
 have e3 : op ≠ 13 := by simpa using e3
 rw [if_neg e3]
 refine ⟨_, j6 (in50 _ _ _), ?_⟩
 refine ⟨fun e4 => ?_, fun e4 => ?_⟩
 ·have e18 : IntKind.wrap .i64 (((19 : Nat) : Int) - 1) = 18 := by decide
  have hop : op = 3 ∨ op = 4 ∨ op = 5 ∨ op = 6 ∨ op = 7 ∨ op = 8 ∨ op = 9 ∨ op = 10 ∨ op = 11 ∨ op = 12 ∨ op = 14 ∨ op = 15 ∨ op = 16 ∨ op = 17 ∨ op = 18 := by omega
  refine ⟨⟨by omega, by show op < 19; omega⟩, ?_⟩
  refine ⟨cwd op, ⟨by rcases hop with rfl | rfl | rfl | rfl | rfl | rfl | rfl | rfl | rfl | rfl | rfl | rfl | rfl | rfl | rfl <;> rfl, rfl⟩, ?_⟩
  refine ⟨by simp only [List.length_cons, List.length_nil, maxLen]; omega, ?_⟩
  refine ⟨fun e5 => ?_, fun e5 => ?_⟩
  ·have e5 : s ≠ [] := by simpa using e5
   refine ⟨by simp only [List.length_append, List.length_cons, List.length_nil, maxLen]; omega, ?_⟩
   refine ⟨by simp only [List.length_append, List.length_cons, List.length_nil, maxLen]; omega, ?_⟩
   refine ⟨fun e6 => ?_, fun e6 => ?_⟩
   ·have e6 : t ≠ [] := by simpa using e6
    refine ⟨by simp only [List.length_append, List.length_cons, List.length_nil, maxLen]; omega, ?_⟩
    refine ⟨by simp only [List.length_append, List.length_cons, List.length_nil, maxLen]; omega, ?_⟩
    refine yU cx0 _ RT [5, 4, 1, 2] fun jk => ?_
    refine lTS (g := g1) (op := op) (n := n) (s := s) (t := t) ih h8 hnk hr ks 0 rfl (by omega) ([40] ++ cwd op ++ [32] ++ s ++ [32] ++ t) (by simp only [List.length_append, List.length_cons, List.length_nil]; omega) (fun jk j => ?_) jk
    refine ⟨by simp only [List.length_append, List.length_cons, List.length_nil, maxLen]; omega, ?_⟩
    refine ⟨congrArg xs ?_, rfl⟩
    simp [spd, e5, e6]
   ·have e6 : t = [] := by simpa using e6
    refine yU cx0 _ RT [5, 4, 1, 2] fun jk => ?_
    refine lTS (g := g1) (op := op) (n := n) (s := s) (t := t) ih h8 hnk hr ks 0 rfl (by omega) ([40] ++ cwd op ++ [32] ++ s) (by simp only [List.length_append, List.length_cons, List.length_nil]; omega) (fun jk j => ?_) jk
    refine ⟨by simp only [List.length_append, List.length_cons, List.length_nil, maxLen]; omega, ?_⟩
    refine ⟨congrArg xs ?_, rfl⟩
    simp [spd, e5, e6]
  ·have e5 : s = [] := by simpa using e5
   refine ⟨fun e6 => ?_, fun e6 => ?_⟩
   ·have e6 : t ≠ [] := by simpa using e6
    refine ⟨by simp only [List.length_append, List.length_cons, List.length_nil, maxLen]; omega, ?_⟩
    refine ⟨by simp only [List.length_append, List.length_cons, List.length_nil, maxLen]; omega, ?_⟩
    refine yU cx0 _ RT [5, 4, 1, 2] fun jk => ?_
    refine lTS (g := g1) (op := op) (n := n) (s := s) (t := t) ih h8 hnk hr ks 0 rfl (by omega) ([40] ++ cwd op ++ [32] ++ t) (by simp only [List.length_append, List.length_cons, List.length_nil]; omega) (fun jk j => ?_) jk
    refine ⟨by simp only [List.length_append, List.length_cons, List.length_nil, maxLen]; omega, ?_⟩
    refine ⟨congrArg xs ?_, rfl⟩
    simp [spd, e5, e6]
   ·have e6 : t = [] := by simpa using e6
    refine yU cx0 _ RT [5, 4, 1, 2] fun jk => ?_
    refine lTS (g := g1) (op := op) (n := n) (s := s) (t := t) ih h8 hnk hr ks 0 rfl (by omega) ([40] ++ cwd op) (by simp only [List.length_append, List.length_cons, List.length_nil]; omega) (fun jk j => ?_) jk
    refine ⟨by simp only [List.length_append, List.length_cons, List.length_nil, maxLen]; omega, ?_⟩
    refine ⟨congrArg xs ?_, rfl⟩
    simp [spd, e5, e6]
 ·exfalso
  have e18 : IntKind.wrap .i64 (((19 : Nat) : Int) - 1) = 18 := by decide
  have e4 : (decide (op ≥ 0) && decide (op ≤ IntKind.wrap .i64 (((19 : Nat) : Int) - 1))) = false := e4
  rw [e18] at e4
  simp at e4; omega
end Go.Proofs.YtlkjnlfddadlmaaGreatDoor.V
namespace Go.Proofs.YtlkjnlfddadlmaaGreatDoor.V
set_option maxRecDepth 100000
def lJ (l : List Nm) (s : Nm) : List Nm := if s = [] then l else l ++ [s]
theorem zGv (l : List Nm) (s : Nm) : lJ l s = l ++ one s := by unfold lJ one; split <;> simp
theorem lTa {s : Nm} {i : Nat} {names done : List Nm} {K : Ex → StA → Prop} (hi : names[i]? = some s) (hl : names.length = 2) (hd : done.length ≤ 10) {op n : Int} {s0 t0 : Nm} {ks : List Co} {cs : List TU} {g : Nat}
  (k1 : ∀ jk, sem cx0 17 RT (.loop (lp Tryz.f17 0)) ⟨[(31, xi ((i + 1 : Nat) : Int)), (30, xi 2), (29, xl 0 1 2 (nm names)), (3, xl 0 1 (lJ done s).length (nm (lJ done s))), (1, .box () ((qA op n s0 t0 (g + 1) ks.length cs).map .t)), (2, xs [])], jk, []⟩ K) :
  ∀ jk, sem cx0 17 RT (.loop (lp Tryz.f17 0)) ⟨[(31, xi i), (30, xi 2), (29, xl 0 1 2 (nm names)), (3, xl 0 1 done.length (nm done)), (1, .box () ((qA op n s0 t0 (g + 1) ks.length cs).map .t)), (2, xs [])], jk, []⟩ K := by
 intro jk
 have hil : i < 2 := by have := (List.getElem?_eq_some_iff.1 hi).1; omega
 refine zO cx0 _ RT [31, 30, 29, 3, 1, 2] ⟨fun h => ?_, fun h => (jO h (by omega)).elim⟩
 refine ⟨⟨by omega, by omega⟩, ?_⟩
 refine ⟨s, ?_⟩
 refine ⟨⟨by show (List.drop (0 + i * 1) (nm names)).take 1 = _; rw [Nat.zero_add]; exact zD5 hi, rfl⟩, ?_⟩
 refine ⟨fun h1 => ?_, fun h1 => ?_⟩
 ·have h1 : s ≠ [] := by simpa using h1
  refine ⟨by rw [qV]; omega, ?_⟩
  refine ⟨⟨by simp only [maxLen]; omega, by show (done.length + 1) * 16 ≤ _; omega⟩, ?_⟩
  have e : lJ done s = done ++ [s] := by unfold lJ; rw [if_neg h1]
  rw [e, ← wP, List.length_append] at k1
  intro jk
  rw [kK hil (by decide)]
  exact k1 jk
 ·have h1 : s = [] := by simpa using h1
  have e : lJ done s = done := by unfold lJ; rw [if_pos h1]
  rw [e] at k1
  intro jk
  rw [kK hil (by decide)]
  exact k1 jk
def TI (c : Co) : Prop := ∀ us, Gd c → ndC c ≤ 3000 → Rd c us → RT 17 [xc us] [] = some (xs (txt c), [])
theorem lTI {ks : List Co} {cs : List TU} {g : Nat} {K : Ex → StA → Prop} (H : ∀ c ∈ ks, TI c) (hg : Gds ks) (hn : vQ ks ≤ 3000) (hr : Rds ks cs) :
  ∀ (l : List Co) (i : Nat), ks.drop i = l → i ≤ ks.length → ∀ done : List Nm, done.length ≤ i + 10 →
  (∀ jk j, K (.exit 3) ⟨[(45, xi j), (44, xi ks.length), (43, xl (g + 1) 5 ks.length cs), (3, xl 0 1 (done ++ l.map txt).length (nm (done ++ l.map txt))), (2, xs [])], jk, []⟩) →
  ∀ jk, sem cx0 17 RT (.loop (lp Tryz.f17 1)) ⟨[(45, xi i), (44, xi ks.length), (43, xl (g + 1) 5 ks.length cs), (3, xl 0 1 done.length (nm done)), (2, xs [])], jk, []⟩ K := by
 have hk := tI ks
 refine qE ?_ ?_
 ·intro done hd k1 jk
  refine zO cx0 _ RT [45, 44, 43, 3, 2] ⟨fun h => (g7 h (by omega)).elim, fun h => ?_⟩
  have := fun jk j => k1 jk j
  simp only [List.map_nil, List.append_nil] at this
  exact fun jk => this jk _
 ·intro i c l hi hil ih done hd k1 jk
  have hm := List.mem_of_getElem? hi
  have hc := H c hm
  have hgc := zFi hg c hm
  have hnc := zBk hm
  refine zO cx0 _ RT [45, 44, 43, 3, 2] ⟨fun h => ?_, fun h => (jO h (by omega)).elim⟩
  refine ⟨⟨by omega, by omega⟩, ?_⟩
  have e1 : done ++ (c :: l).map txt = (done ++ [txt c]) ++ l.map txt := by simp
  rw [e1] at k1
  cases c with
  | mk op' n' s' t' kk =>
  obtain ⟨g', cs', e1, e2⟩ := vK hr hi
  refine ⟨op', n', s', t', g' + 1, kk.length, cs', ⟨e1, rfl⟩, ?_⟩
  refine ⟨_, zC3 (hc (qA op' n' s' t' (g' + 2) kk.length (yD cs')) hgc (by omega) ⟨_, _, rfl, e2.retag⟩), ?_⟩
  refine ⟨by rw [qV]; omega, ?_⟩
  refine ⟨⟨by simp only [maxLen]; omega, by show (done.length + 1) * 16 ≤ _; omega⟩, ?_⟩
  have h := ih (done ++ [txt (.mk op' n' s' t' kk)]) (by simp; omega) k1
  rw [← wP, List.length_append] at h
  intro jk
  rw [kK hil (by simp only [maxLen]; omega)]
  exact h jk
theorem join_cons (w : Nm) : ∀ l : List Nm, Lib.join (w :: l) [32] = w ++ l.flatMap (fun s => 32 :: s) := by
 intro l
 rw [Lib.join_cons, List.flatMap_def]
 rfl
theorem zE1 : ∀ ks : List Co, wC ks = (ks.map txt).flatMap (fun s => 32 :: s)
 | [] => rfl
 | c :: l => by simp only [wC, List.map_cons, List.flatMap_cons, zE1 l]; rfl
theorem zIj (s : Nm) : (one s).flatMap (fun s => 32 :: s) = spd s := by
 unfold one spd; split <;> simp
theorem zOe : ∀ l : List Nm, sH (nm l) = some l
 | [] => rfl
 | s :: l => by simp only [nm, sH, zTe, zOe l]
set_option maxHeartbeats 8000000 in
theorem zXp : ∀ c : Co, TI c := by
 refine Co.ind fun op n s t ks ih => ?_
 intro us hg hn hr
 obtain ⟨g1, cs, rfl, hr⟩ := hr
 have hle := zL4 _ hg
 obtain ⟨h1, h2, h3, h4, h5, h6, h7, h8⟩ := hg
 obtain ⟨b1, b2⟩ := mF.1 h5
 have hnk : vQ ks ≤ 3000 := by simp only [ndC] at hn; omega
 have hkl := tI ks
 refine xM (fn := Tryz.f17) rfl rfl rfl rfl ?_
 simp only [txt] at hle ⊢
 refine ⟨fun e1 => ?_, fun e1 => ?_⟩
 ·have e1 : op = 1 := by simpa using e1
  rw [if_pos e1]
  refine ⟨_, zC3 (zVm (n := n) (by omega) (by omega)), ?_⟩
  exact ⟨rfl, rfl⟩
 have e1 : op ≠ 1 := by simpa using e1
 rw [if_neg e1] at hle ⊢
 refine ⟨fun e2 => ?_, fun e2 => ?_⟩
 ·have e2 : op = 2 := by simpa using e2
  rw [if_pos e2]
  exact ⟨rfl, rfl⟩
 have e2 : op ≠ 2 := by simpa using e2
 rw [if_neg e2] at hle ⊢
 refine ⟨fun e3 => ?_, fun e3 => ?_⟩
 ·have e3 : op = 13 := by simpa using e3
  rw [if_pos e3]
  exact ⟨rfl, rfl⟩
 have e3 : op ≠ 13 := by simpa using e3
 rw [if_neg e3] at hle ⊢
 refine ⟨_, zC3 (cw_i op), ?_⟩
 refine yU cx0 _ RT [31, 30, 29, 3, 1, 2] fun jk => ?_
 have hl2 : ∀ (l : List Nm) (x : Nm), (lJ l x).length ≤ l.length + 1 := fun l x => by unfold lJ; split <;> simp
 have ha := hl2 [cwd op] s
 have hb := hl2 (lJ [cwd op] s) t
 simp only [List.length_cons, List.length_nil] at ha
 refine lTa (i := 0) (names := [s, t]) (s := s) (done := [cwd op]) (op := op) (n := n) (s0 := s) (t0 := t) (g := g1) (ks := ks) (cs := cs) rfl rfl (by simp) (fun jk => ?_) jk
 refine lTa (i := 1) (names := [s, t]) (s := t) (op := op) (n := n) (s0 := s) (t0 := t) (g := g1) (ks := ks) (cs := cs) rfl rfl (by omega) (fun jk => ?_) jk
 refine zO cx0 _ RT [31, 30, 29, 3, 1, 2] ⟨fun h => absurd h (by decide), fun h => ?_⟩
 intro jk
 refine yU cx0 _ RT [45, 44, 43, 3, 2] fun jk => ?_
 refine lTI (g := g1) ih h8 hnk hr ks 0 rfl (by omega) (lJ (lJ [cwd op] s) t) (by omega) (fun jk j => ?_) jk
 have eW : Lib.join (lJ (lJ [cwd op] s) t ++ ks.map txt) [32] = cwd op ++ (spd s ++ (spd t ++ wC ks)) := by
  rw [zGv, zGv, List.append_assoc, List.append_assoc, List.cons_append, List.nil_append, join_cons, List.flatMap_append, List.flatMap_append, zIj, zIj, ← zE1]
 have eL : (lJ (lJ [cwd op] s) t ++ ks.map txt).length ≤ 3020 := by rw [List.length_append, List.length_map]; omega
 generalize lJ (lJ [cwd op] s) t ++ ks.map txt = W at eW eL ⊢
 simp only [List.length_cons, List.length_append, List.length_nil] at hle
 have e2 : RT 43 [xl 1 1 W.length (nm W), xs [32]] [] = some (xs (Lib.join W [32]), []) := rB (h := tM) rfl (by
  simp only [tM, xl, xs]
  rw [if_neg (by rw [qV]; omega), zOe]
  simp only
  rw [if_pos (by rw [eW]; simp only [List.length_append]; omega)])
 have hw : yD (((nm W).drop 0).take (W.length * 1)) = nm W := by rw [bQ, qX]
 rw [← hw, eW] at e2
 refine ⟨by rw [qV]; omega, ?_⟩
 refine ⟨_, zC3 e2, ?_⟩
 refine ⟨by simp only [List.length_append, List.length_cons, List.length_nil, maxLen]; omega, ?_⟩
 refine ⟨by simp only [List.length_append, List.length_cons, List.length_nil, maxLen]; omega, ?_⟩
 refine ⟨congrArg xs ?_, rfl⟩
 simp
end Go.Proofs.YtlkjnlfddadlmaaGreatDoor.V
