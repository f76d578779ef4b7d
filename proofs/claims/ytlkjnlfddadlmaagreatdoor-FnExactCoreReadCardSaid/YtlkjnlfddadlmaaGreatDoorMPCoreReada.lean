/-
  Cores are counted, turned over and compared. No conditions.
-/
import Derived.Test.YtlkjnlfddadlmaaGreatDoorMK
import Derived.Test.YtlkjnlfddadlmaaGreatDoorM6
import Derived.Test.YtlkjnlfddadlmaaGreatDoorM5
set_option linter.unusedVariables false
set_option linter.unusedSimpArgs false
namespace Go.Proofs.YtlkjnlfddadlmaaGreatDoor.V
set_option maxRecDepth 100000
noncomputable abbrev RT := RR Tryz.prog cx0
theorem xM {g : Nat} {fn : Func} {a : List XU} {x : XU} (ho : cx0.orc g = none) (hf : Tryz.prog.funcs[g]? = some fn) (hb : fn.body = some (fn.body.getD .skip)) (hg : cx0.good g = true)
  (h : fnW cx0 g RT fn a [] fun y e => x = y ∧ e = []) : RT g a [] = some (x, []) := by
 obtain ⟨y, e, h1, h2, h3⟩ := zRl ho hf hb hg h
 rw [RT, h1, h2, h3]
theorem uH {g : Nat} {xs : List XU} {n : Int} (h : RT g xs [] = some (xi n, [])) : Ret RT g xs (xi n) := ⟨_, h, rfl⟩
theorem j6 {g : Nat} {xs : List XU} {b : Bool} (h : RT g xs [] = some (xb b, [])) : Ret RT g xs (xb b) := ⟨_, h, rfl⟩
def lsz : List Co → Nat
 | [] => 0
 | c :: l => szC c + lsz l
theorem zOk : ∀ l : List Co, x8 l = l.length + lsz l
 | [] => rfl
 | c :: l => by simp only [x8, lsz, zOk l, List.length_cons]; omega
end Go.Proofs.YtlkjnlfddadlmaaGreatDoor.V
namespace Go.Proofs.YtlkjnlfddadlmaaGreatDoor.V
set_option maxRecDepth 100000
abbrev zC : List TU := [.int .i64 0, .int .i64 0, .str [], .str [], .sl () 0 5 0 []]
theorem pR {ks : List Co} {n : Nat} (h : x8 ks ≤ n) : ks.length ≤ n := by rw [zOk] at h; omega
theorem bX : ∀ {ks : List Co} {n : Nat} {c : Co}, x8 ks ≤ n → c ∈ ks → szC c ≤ n
 | x :: ks, n, c, h, hc => by
  simp only [x8] at h
  rcases List.mem_cons.1 hc with rfl | hc
  ·omega
  ·exact bX (ks := ks) (by omega) hc
def S23 (c : Co) : Prop := ∀ us vs, Wf c → Rd c us → Rd c vs → RT 6 [xc us, xc vs] [] = some (xb true, [])
theorem l56 {ks : List Co} {cs ds : List TU} {g h : Nat} {K : Ex → StA → Prop} (H : ∀ c ∈ ks, S23 c) (hw : Wfs ks) (hr : Rds ks cs) (hs : Rds ks ds) (hk : ks.length ≤ maxLen) : ∀ (l : List Co) (i : Nat), ks.drop i = l → i ≤ ks.length →
  (∀ jk i, K (.exit 0) ⟨[(5, xi i), (0, xl (g + 1) 5 ks.length cs), (1, xl (h + 1) 5 ks.length ds), (4, xb false)], jk, []⟩) →
  ∀ jk, sem cx0 18 RT (.loop (lp Tryz.f18 0)) ⟨[(5, xi i), (0, xl (g + 1) 5 ks.length cs), (1, xl (h + 1) 5 ks.length ds), (4, xb false)], jk, []⟩ K := by
 refine qE ?_ ?_
 ·intro k1 jk
  refine zO cx0 _ RT [5, 0, 1, 4] ⟨fun h => (g7 h (by omega)).elim, fun h => ?_⟩
  exact fun jk => k1 jk _
 ·intro i c l hi hil ih k1 jk
  refine zO cx0 _ RT [5, 0, 1, 4] ⟨fun h => ?_, fun h => (jO h (by omega)).elim⟩
  refine ⟨⟨by omega, by omega⟩, ?_⟩
  have hm := List.mem_of_getElem? hi
  have hc := H c hm
  have hwc := nV.1 hw c hm
  cases c with
  | mk op n s t kk =>
  obtain ⟨g', cs', e1, e2⟩ := vK hr hi
  refine ⟨op, n, s, t, g' + 1, kk.length, cs', ⟨e1, rfl⟩, ?_⟩
  refine ⟨⟨by omega, by omega⟩, ?_⟩
  obtain ⟨h', ds', f1, f2⟩ := vK hs hi
  refine ⟨op, n, s, t, h' + 1, kk.length, ds', ⟨f1, rfl⟩, ?_⟩
  refine ⟨_, j6 (hc _ _ hwc (show Rd _ (qA op n s t (g' + 2) kk.length (yD cs')) from ⟨_, _, rfl, e2.retag⟩) (show Rd _ (qA op n s t (h' + 2) kk.length (yD ds')) from ⟨_, _, rfl, f2.retag⟩)), ?_⟩
  refine ⟨(fun h => by cases h), fun h => ?_⟩
  intro jk
  rw [kK hil hk]
  exact ih k1 jk
theorem eq56 {ks : List Co} {cs ds : List TU} {g h : Nat} (H : ∀ c ∈ ks, S23 c) (hw : Wfs ks) (hr : Rds ks cs) (hs : Rds ks ds) (hk : ks.length ≤ maxLen) :
  RT 18 [xl (g + 1) 5 ks.length cs, xl (h + 1) 5 ks.length ds] [] = some (xb true, []) := by
 refine xM (fn := Tryz.f18) rfl rfl rfl rfl ?_
 refine ⟨fun h => by simp at h, fun _ => ?_⟩
 refine yU cx0 _ RT [5, 0, 1, 4] fun jk => ?_
 refine l56 H hw hr hs hk ks 0 rfl (by omega) (fun jk i => ?_) jk
 exact ⟨rfl, rfl⟩
theorem eq23 : ∀ c : Co, S23 c := by
 refine Co.ind fun op n s t ks ih => ?_
 intro us vs hw hr hs
 simp only [Rd] at hr hs
 obtain ⟨g, cs, rfl, hr⟩ := hr
 obtain ⟨h, ds, rfl, hs⟩ := hs
 simp only [Wf] at hw
 refine xM (fn := Tryz.f6) rfl rfl rfl rfl ?_
 refine ⟨fun h => by simp at h, fun _ => ?_⟩
 refine ⟨fun h => by simp at h, fun _ => ?_⟩
 refine ⟨fun h => by simp at h, fun _ => ?_⟩
 refine ⟨fun h => by simp at h, fun _ => ?_⟩
 refine ⟨_, j6 (eq56 (g := g + 1) (h := h + 1) (cs := yD cs) (ds := yD ds) ih hw.2.2.2.2.2 hr.retag hs.retag hw.2.2.2.2.1), ?_⟩
 refine ⟨(fun h => by cases h), fun _ => ?_⟩
 exact ⟨rfl, rfl⟩
end Go.Proofs.YtlkjnlfddadlmaaGreatDoor.V
namespace Go.Proofs.YtlkjnlfddadlmaaGreatDoor.V
set_option maxRecDepth 100000
theorem sh_str {k : Nat} {us : List TU} (h : Sh Tryz.prog k 9 us) : ∃ s, us = [.str s] ∧ s.length ≤ maxLen := by
 cases k with
 | zero => exact h.elim
 | succ k =>
  have hu : Tryz.prog.underlying 9 = some .string := by kernel_rfl
  simp only [Sh, hu] at h
  exact h
theorem rdO (op n : Int) (s t : List UInt8) (ks : List Co) : Rd (.mk op n s t ks) (qA op n s t 1 ks.length (yD (xO ks))) := zDm (.mk op n s t ks)
theorem rdV (op n : Int) (s t : List UInt8) (ks : List Co) : Rd (.mk op n s t ks) (qA op n s t 1 ks.length (yD (((xO ks).drop 0).take (ks.length * 5)))) := by rw [xK]; exact rdO op n s t ks
theorem inV (ks : List Co) : 0 + ks.length * 5 ≤ (xO ks).length := by rw [bL]; omega
theorem run_of {f : Nat} {xs : List XU} {r : XU × List (List CU)} (h : RT f xs [] = some r) : ∃ k, run Tryz.prog cx0 k f xs [] = some r := (zE4 Tryz.prog cx0).1 h
end Go.Proofs.YtlkjnlfddadlmaaGreatDoor.V
namespace Go.Proofs.YtlkjnlfddadlmaaGreatDoor.V
set_option maxRecDepth 100000
theorem max59 (a b : Int) : RT 45 [xi a, xi b] [] = some (xi (max a b), []) := by
 refine xM (fn := Tryz.f45) rfl rfl rfl rfl ?_
 refine ⟨fun h => ?_, fun h => ?_⟩
 ·have h := of_decide_eq_true h
  exact ⟨by rw [show max a b = a by omega]; rfl, rfl⟩
 ·have h := of_decide_eq_false h
  exact ⟨by rw [show max a b = b by omega]; rfl, rfl⟩
theorem in50 (a lo hi : Int) : RT 22 [xi a, xi lo, xi hi] [] = some (xb (decide (a ≥ lo) && decide (a ≤ hi)), []) := by
 refine xM (fn := Tryz.f22) rfl rfl rfl rfl ?_
 refine ⟨fun h => ?_, fun h => ?_⟩
 ·exact ⟨by rw [h]; rfl, rfl⟩
 ·exact ⟨by rw [h]; rfl, rfl⟩
theorem in52 (a lo hi : Int) : RT 56 [xi a, xi lo, xi hi] [] = some (xb (decide (a ≥ lo) && decide (a ≤ hi)), []) := by
 refine xM (fn := Tryz.f56) rfl rfl rfl rfl ?_
 refine ⟨fun h => ?_, fun h => ?_⟩
 ·exact ⟨by rw [h]; rfl, rfl⟩
 ·exact ⟨by rw [h]; rfl, rfl⟩
end Go.Proofs.YtlkjnlfddadlmaaGreatDoor.V
namespace Go.Proofs.YtlkjnlfddadlmaaGreatDoor.V
set_option maxRecDepth 100000
abbrev Nm := List UInt8
def nm : List Nm → List TU
 | [] => []
 | s :: l => .str s :: nm l
theorem qX : ∀ l, yD (nm l) = nm l
 | [] => rfl
 | s :: l => by simp only [nm, yD, retag, qX l]
theorem pE : ∀ l, qL (nm l) = some (nm l)
 | [] => rfl
 | s :: l => by simp only [nm, qL, down, pE l, Option.bind_some, Option.map_some]
theorem qV : ∀ l, (nm l).length = l.length
 | [] => rfl
 | s :: l => by simp only [nm, List.length_cons, qV l]
theorem cE : ∀ l m, nm (l ++ m) = nm l ++ nm m
 | [], m => rfl
 | s :: l, m => by simp only [List.cons_append, nm, cE l m]
theorem bQ (l : List Nm) : ((nm l).drop 0).take (l.length * 1) = nm l := by rw [List.drop_zero, Nat.mul_one, ← qV, List.take_length]
theorem zD5 : ∀ {l : List Nm} {i : Nat} {s : Nm}, l[i]? = some s → ((nm l).drop (i * 1)).take 1 = [.str s]
 | [], i, s, h => by simp at h
 | x :: l, 0, s, h => by
  simp only [List.getElem?_cons_zero, Option.some.injEq] at h
  subst h; rfl
 | x :: l, i + 1, s, h => by
  simp only [List.getElem?_cons_succ] at h
  have := zD5 h
  rw [show (i + 1) * 1 = i * 1 + 1 by omega]; exact this
theorem zI5 {g : Nat} {xs : List XU} {n : Nat} {l : List Nm} (h : RT g xs [] = some (xl 0 1 n (nm l), [])) : Ret RT g xs (xl 0 1 n (nm l)) := ⟨_, h, by simp only [kZ, qU, down, pE, Option.map_some]; rfl⟩
theorem l83 {l : List Nm} {s : Nm} {g : Nat} {K : Ex → StA → Prop} (hk : l.length ≤ maxLen) : ∀ (r : List Nm) (i : Nat), l.drop i = r → i ≤ l.length →
  (∀ jk j, (r.contains s) = false → K (.exit 0) ⟨[(5, xi j), (0, xl (g + 1) 1 l.length (nm l)), (1, xs s), (4, xb false)], jk, []⟩) →
  (∀ jk j, (r.contains s) = true → K .ret ⟨[(5, xi j), (0, xl (g + 1) 1 l.length (nm l)), (1, xs s), (4, xb true)], jk, []⟩) →
  ∀ jk, sem cx0 47 RT (.loop (lp Tryz.f47 0)) ⟨[(5, xi i), (0, xl (g + 1) 1 l.length (nm l)), (1, xs s), (4, xb false)], jk, []⟩ K := by
 refine qE ?_ ?_
 ·intro k1 k2 jk
  refine zO cx0 _ RT [5, 0, 1, 4] ⟨fun h => (g7 h (by omega)).elim, fun h => ?_⟩
  exact fun jk => k1 jk _ rfl
 ·intro i o r hi hil ih k1 k2 jk
  refine zO cx0 _ RT [5, 0, 1, 4] ⟨fun h => ?_, fun h => (jO h (by omega)).elim⟩
  refine ⟨⟨by omega, by omega⟩, ?_⟩
  refine ⟨o, ⟨zD5 hi, rfl⟩, ?_⟩
  refine ⟨fun h => ?_, fun h => ?_⟩
  ·have h := eq_of_beq h
   exact fun jk => k2 jk _ (by subst h; simp)
  ·have h1 : ∀ b, (o :: r).contains s = b → r.contains s = b := by
    intro b hb; rw [List.contains_cons] at hb
    have : (s == o) = false := by rw [← h]; exact BEq.comm
    rwa [this, Bool.false_or] at hb
   have h2 : ∀ b, r.contains s = b → (o :: r).contains s = b := by
    intro b hb; rw [List.contains_cons]
    have : (s == o) = false := by rw [← h]; exact BEq.comm
    rw [this, Bool.false_or]; exact hb
   intro jk
   rw [kK hil hk]
   exact ih (fun jk j h => k1 jk j (h2 _ h)) (fun jk j h => k2 jk j (h2 _ h)) jk
theorem in83 {l : List Nm} {s : Nm} {g : Nat} {cs : List TU} (hc : cs = nm l) (hk : l.length ≤ maxLen) : RT 47 [xl (g + 1) 1 l.length cs, xs s] [] = some (xb (l.contains s), []) := by
 subst hc
 refine xM (fn := Tryz.f47) rfl rfl rfl rfl ?_
 refine yU cx0 _ RT [5, 0, 1, 4] fun jk => ?_
 refine l83 (g := g) (s := s) hk l 0 rfl (by omega) (fun jk i h => ?_) (fun jk i h => ?_) jk
 ·exact ⟨by rw [h]; rfl, rfl⟩
 ·exact ⟨by rw [h]; rfl, rfl⟩
theorem lR {g : Nat} {fn : Func} {a : List XU} {e e' : List (List CU)} {x : XU} (ho : cx0.orc g = none) (hf : Tryz.prog.funcs[g]? = some fn) (hb : fn.body = some (fn.body.getD .skip)) (hg : cx0.good g = true)
  (h : fnW cx0 g RT fn a e fun y f => x = y ∧ e' = f) : RT g a e = some (x, e') := by
 obtain ⟨y, f, h1, h2, h3⟩ := zRl ho hf hb hg h
 rw [RT, h1, h2, h3]
theorem zV4 {g sz n n' : Nat} {cs cs' : List TU} (h1 : n = n') (h2 : cs = cs') : xl g sz n cs = xl g sz n' cs' := by rw [h1, h2]
theorem zCr {α : Type} {n : Nat} {l : List α} (h : l.length ≤ n) : (l.drop 0).take n = l := by rw [List.drop_zero, List.take_of_length_le h]
theorem zSa {l m : List Nm} : ((([] ++ nm l).drop 0).take ((0 + l.length) * 1)) ++ nm m = nm (l ++ m) := by
 rw [List.nil_append, zCr (by rw [qV]; omega), cE]
theorem zGy {l : List Nm} {s : Nm} {g : Nat} {cs : List TU} (hc : cs = nm l) (hk : l.length ≤ 8388608) : RT 67 [xl (g + 1) 1 l.length cs, xs s] [] = some (xl 0 1 (l ++ [s]).length (nm (l ++ [s])), []) := by
 subst hc
 refine xM (fn := Tryz.f67) rfl rfl rfl rfl ?_
 refine ⟨⟨by simp only [maxLen]; omega, by show (0 + l.length) * 16 ≤ _; omega⟩, ?_⟩
 refine ⟨by show 0 + (0 + l.length) * 1 ≤ (nm l).length; rw [qV]; omega, ?_⟩
 refine ⟨⟨by simp only [maxLen]; omega, by show (_ + 1) * 16 ≤ _; omega⟩, ?_⟩
 have e := zSa (l := l) (m := [s])
 refine ⟨?_, ?_⟩
 ·refine Nat.le_trans ?_ (Nat.le_of_eq (congrArg List.length e.symm))
  rw [qV, List.length_append]; show 0 + (0 + l.length + 1) * 1 ≤ l.length + 1; omega
 refine ⟨zV4 (by simp) ?_, rfl⟩
 refine Eq.trans ?_ (congrArg (fun x => (List.drop 0 x).take ((0 + l.length + 1) * 1)) e.symm)
 exact (zCr (by rw [qV, List.length_append]; show l.length + 1 ≤ _; omega)).symm
def j3 (op : Int) (s t : Nm) (i : Nat) : List Nm :=
 if op == 3 || (op == 5 && (i : Int) == 1) || (op == 6 && (i : Int) == 1) then [s] else if op == 6 then [s, t] else []
theorem zRk {g : Nat} {fn : Func} {a : List XU} {P : XU → Prop} (ho : cx0.orc g = none) (hf : Tryz.prog.funcs[g]? = some fn) (hb : fn.body = some (fn.body.getD .skip)) (hg : cx0.good g = true)
  (h : fnW cx0 g RT fn a [] fun y e => P y ∧ e = []) : ∃ y, P y ∧ RT g a [] = some (y, []) := by
 obtain ⟨y, e, h1, h2, h3⟩ := zRl ho hf hb hg h
 exact ⟨y, h2, by rw [RT, h1, h3]⟩
theorem env84 {op n : Int} {s t : Nm} {ks : List Co} {us : List TU} {i : Nat} {l : List Nm} {g : Nat} {cs : List TU} (h : Rd (.mk op n s t ks) us) (hc : cs = nm l) (hk : l.length ≤ 4194304) :
  ∃ y, (∃ g', (g' = 0 ∨ g' = g + 2) ∧ y = xl g' 1 (l ++ j3 op s t i).length (nm (l ++ j3 op s t i))) ∧ RT 48 [xc us, xi i, xl (g + 2) 1 l.length cs] [] = some (y, []) := by
 subst hc
 obtain ⟨g', cs, rfl, h⟩ := h
 refine zRk (fn := Tryz.f48) rfl rfl rfl rfl ?_
 have W : ∀ L : List Nm, 0 + L.length * 1 ≤ (nm L).length := fun L => by rw [qV]; omega
 refine ⟨fun h3 => ?_, fun h3 => ?_⟩
 ·refine ⟨_, zI5 (zGy (g := g + 2) (qX l) (by omega)), ?_⟩
  refine ⟨W _, ?_⟩
  exact ⟨⟨0, .inl rfl, by rw [← bQ (l ++ j3 op s t i)]; simp only [j3, h3]; rfl⟩, rfl⟩
 refine ⟨fun h5 => ?_, fun h5 => ?_⟩
 ·refine ⟨fun hi => ?_, fun hi => ?_⟩
  ·refine ⟨_, zI5 (zGy (g := g + 2) (qX l) (by omega)), ?_⟩
   refine ⟨W _, ?_⟩
   exact ⟨⟨0, .inl rfl, by rw [← bQ (l ++ j3 op s t i)]; simp only [j3, h3, h5, hi]; rfl⟩, rfl⟩
  ·have := eq_of_beq h5
   subst this
   refine ⟨fun h6 => by simp_all, fun h6 => ?_⟩
   refine ⟨fun h6' => by simp_all, fun h6' => ?_⟩
   exact ⟨⟨g + 2, .inr rfl, by simp only [j3, hi]; simp; rfl⟩, rfl⟩
 refine ⟨fun h6 => ?_, fun h6 => ?_⟩
 ·refine ⟨fun hi => ?_, fun hi => ?_⟩
  ·refine ⟨_, zI5 (zGy (g := g + 2) (qX l) (by omega)), ?_⟩
   refine ⟨W _, ?_⟩
   exact ⟨⟨0, .inl rfl, by rw [← bQ (l ++ j3 op s t i)]; simp only [j3, h3, h5, h6, hi]; rfl⟩, rfl⟩
  ·refine ⟨fun _ => ?_, fun h6' => by simp_all⟩
   refine ⟨_, zI5 (zGy (g := g + 2) (qX l) (by omega)), ?_⟩
   refine ⟨_, zI5 (zGy (g := 0) (qX _) (by simp; omega)), ?_⟩
   refine ⟨W _, ?_⟩
   exact ⟨⟨0, .inl rfl, by rw [← bQ (l ++ j3 op s t i)]; simp only [j3, h3, h5, h6, hi]; simp; rfl⟩, rfl⟩
 ·refine ⟨fun h6' => by simp_all, fun h6' => ?_⟩
  exact ⟨⟨g + 2, .inr rfl, by simp only [j3, h3, h5, h6]; simp; rfl⟩, rfl⟩
theorem zT3 {op n : Int} {s t : Nm} {ks : List Co} {us : List TU} {i : Nat} (h : Rd (.mk op n s t ks) us) :
  RT 60 [xc us, xi i] [] = some (xl 0 1 (j3 op s t i).length (nm (j3 op s t i)), []) := by
 obtain ⟨g, cs, rfl, h⟩ := h
 refine xM (fn := Tryz.f60) rfl rfl rfl rfl ?_
 refine ⟨fun h3 => ?_, fun h3 => ?_⟩
 ·refine ⟨Nat.le_refl _, ?_⟩
  exact ⟨by simp only [j3, h3, Bool.true_or, if_true]; rfl, rfl⟩
 refine ⟨fun h5 => ?_, fun h5 => ?_⟩
 ·refine ⟨fun hi => ?_, fun hi => ?_⟩
  ·refine ⟨Nat.le_refl _, ?_⟩
   exact ⟨by simp only [j3, h3, h5, hi]; rfl, rfl⟩
  ·have := eq_of_beq h5
   subst this
   refine ⟨fun h6 => by simp_all, fun h6 => ?_⟩
   refine ⟨fun h6' => by simp_all, fun h6' => ?_⟩
   refine ⟨Nat.le_refl _, ?_⟩
   exact ⟨by simp only [j3, hi]; rfl, rfl⟩
 refine ⟨fun h6 => ?_, fun h6 => ?_⟩
 ·refine ⟨fun hi => ?_, fun hi => ?_⟩
  ·refine ⟨Nat.le_refl _, ?_⟩
   exact ⟨by simp only [j3, h3, h5, h6, hi]; rfl, rfl⟩
  ·refine ⟨fun _ => ?_, fun h6' => by simp_all⟩
   refine ⟨Nat.le_refl _, ?_⟩
   exact ⟨by simp only [j3, h3, h5, h6, hi]; rfl, rfl⟩
 ·refine ⟨fun h6' => by simp_all, fun h6' => ?_⟩
  refine ⟨Nat.le_refl _, ?_⟩
  exact ⟨by simp only [j3, h3, h5, h6]; rfl, rfl⟩
end Go.Proofs.YtlkjnlfddadlmaaGreatDoor.V
namespace Go.Proofs.YtlkjnlfddadlmaaGreatDoor.V
set_option maxRecDepth 100000
def zQ0 (b : Bool) (s : Nm) : List Nm := if b then [s] else []
mutual
def frC : List Nm → Co → List Nm
 | env, .mk op _ s t ks => zQ0 (op == 2 && !env.contains s) s ++ frL op s t env 0 ks
def frL (op : Int) (s t : Nm) (env : List Nm) : Nat → List Co → List Nm
 | _, [] => []
 | i, c :: l => frC (env ++ j3 op s t i) c ++ frL op s t env (i + 1) l
end
theorem retD {g : Nat} {xs : List XU} {n : Nat} {k : Nat} {l : List Nm} (h : RT g xs [] = some (xl (k + 2) 1 n (nm l), [])) : Ret RT g xs (xl (k + 1) 1 n (nm l)) := ⟨_, h, by simp only [kZ, qU, down, pE, Option.map_some]; rfl⟩
theorem zXe {g k : Nat} {xs : List XU} {n : Nat} {l : List Nm} (h : ∃ y, (∃ g', (g' = 0 ∨ g' = k + 2) ∧ y = xl g' 1 n (nm l)) ∧ RT g xs [] = some (y, [])) : ∃ g', Ret RT g xs (xl g' 1 n (nm l)) := by
 obtain ⟨y, ⟨g', h1, rfl⟩, h2⟩ := h
 rcases h1 with rfl | rfl
 ·exact ⟨0, zI5 h2⟩
 ·exact ⟨k + 1, retD h2⟩
theorem zM3 {op : Int} {s t : Nm} {i : Nat} : (j3 op s t i).length ≤ 2 := by
 unfold j3; split
 ·simp
 ·split <;> simp
theorem oC : ∀ {ks : List Co} {c : Co}, c ∈ ks → x8 ks ≥ 1 + szC c
 | x :: ks, c, h => by
  simp only [x8]
  rcases List.mem_cons.1 h with rfl | h
  ·omega
  ·have := oC h; omega
mutual
theorem zWp : ∀ (env : List Nm) (c : Co), (frC env c).length ≤ szC c + 1
 | env, .mk op n s t ks => by
  have h := zRm op s t env 0 ks
  have : (zQ0 (op == 2 && !env.contains s) s).length ≤ 1 := by unfold zQ0; split <;> simp
  simp only [frC, List.length_append, szC]; omega
theorem zRm : ∀ (op : Int) (s t : Nm) (env : List Nm) (i : Nat) (l : List Co), (frL op s t env i l).length ≤ x8 l
 | op, s, t, env, i, [] => by simp [frL, x8]
 | op, s, t, env, i, c :: l => by
  have h1 := zWp (env ++ j3 op s t i) c
  have h2 := zRm op s t env (i + 1) l
  simp only [frL, List.length_append, x8]; omega
end
theorem l87 {l : List Nm} {s : Nm} {g : Nat} {K : Ex → StA → Prop} (hk : l.length ≤ maxLen) : ∀ (r : List Nm) (i : Nat), l.drop i = r → i ≤ l.length →
  (∀ jk j, (r.contains s) = false → K (.exit 0) ⟨[(8, xi j), (7, xi l.length), (0, xl (g + 1) 1 l.length (nm l)), (1, xs s), (4, xi 0)], jk, []⟩) →
  (∀ jk j v, (r.contains s) = true → 0 ≤ v → K .ret ⟨[(8, xi j), (7, xi l.length), (0, xl (g + 1) 1 l.length (nm l)), (1, xs s), (4, xi v)], jk, []⟩) →
  ∀ jk, sem cx0 81 RT (.loop (lp Tryz.f81 0)) ⟨[(8, xi i), (7, xi l.length), (0, xl (g + 1) 1 l.length (nm l)), (1, xs s), (4, xi 0)], jk, []⟩ K := by
 refine qE ?_ ?_
 ·intro k1 k2 jk
  refine zO cx0 _ RT [8, 7, 0, 1, 4] ⟨fun h => (g7 h (by omega)).elim, fun h => ?_⟩
  exact fun jk => k1 jk _ rfl
 ·intro i o r hi hil ih k1 k2 jk
  refine zO cx0 _ RT [8, 7, 0, 1, 4] ⟨fun h => ?_, fun h => (jO h (by omega)).elim⟩
  refine ⟨⟨by omega, by omega⟩, ?_⟩
  refine ⟨o, ⟨zD5 hi, rfl⟩, ?_⟩
  have e1 : (o :: r).contains s = ((s == o) || r.contains s) := List.contains_cons
  refine ⟨fun h => ?_, fun h => ?_⟩
  ·exact fun jk => k2 jk _ _ (by rw [e1, h, Bool.true_or]) (by omega)
  ·rw [e1, h, Bool.false_or] at k1 k2
   intro jk
   rw [kK hil hk]
   exact ih k1 k2 jk
theorem idx87 {l : List Nm} {s : Nm} {g : Nat} {cs : List TU} (hc : cs = nm l) (hk : l.length ≤ maxLen) : ∃ v : Int, decide (v ≥ 0) = l.contains s ∧ RT 81 [xl (g + 1) 1 l.length cs, xs s] [] = some (xi v, []) := by
 subst hc
 have : ∃ y, (∃ v : Int, decide (v ≥ 0) = l.contains s ∧ y = xi v) ∧ RT 81 [xl (g + 1) 1 l.length (nm l), xs s] [] = some (y, []) := by
  refine zRk (fn := Tryz.f81) rfl rfl rfl rfl ?_
  refine yU cx0 _ RT [8, 7, 0, 1, 4] fun jk => ?_
  refine l87 (g := g) (s := s) hk l 0 rfl (by omega) (fun jk i h => ?_) (fun jk i v h h0 => ?_) jk
  ·exact ⟨⟨-1, by rw [h]; rfl, rfl⟩, rfl⟩
  ·exact ⟨⟨v, by rw [h]; simpa using h0, rfl⟩, rfl⟩
 obtain ⟨y, ⟨v, h1, rfl⟩, h2⟩ := this
 exact ⟨v, h1, h2⟩
theorem con73 {l : List Nm} {s : Nm} {g : Nat} {cs : List TU} (hc : cs = nm l) (hk : l.length ≤ maxLen) : RT 58 [xl (g + 1) 1 l.length cs, xs s] [] = some (xb (l.contains s), []) := by
 subst hc
 refine xM (fn := Tryz.f58) rfl rfl rfl rfl ?_
 obtain ⟨v, h1, h2⟩ := idx87 (g := g + 1) (s := s) (qX l) hk
 refine ⟨_, uH h2, ?_⟩
 exact ⟨by rw [← h1]; rfl, rfl⟩
theorem cat85 {l m : List Nm} {g h : Nat} {cs ds : List TU} (hc : cs = nm l) (hd : ds = nm m) (hk : l.length ≤ 4194304) (hk2 : m.length ≤ 4194304) : RT 59 [xl 1 1 2 [.sl () (g + 1) 1 l.length cs, .sl () (h + 1) 1 m.length ds]] [] = some (xl 0 1 (l ++ m).length (nm (l ++ m)), []) := by
 subst hc hd
 refine xM (fn := Tryz.f59) rfl rfl rfl rfl ?_
 have lt0 : ∀ {n : Int}, decide (n < 0) = true → 0 ≤ n → False := fun h h2 => by simp at h; omega
 have e1 : IntKind.wrap .i64 (0 + (l.length : Int)) = l.length := by rw [wrap64 (by omega) (by omega)]; omega
 have e2 : IntKind.wrap .i64 ((l.length : Int) + m.length) = ((l.length + m.length : Nat) : Int) := by rw [wrap64 (by omega) (by omega)]; omega
 refine yU cx0 _ RT [11, 10, 9, 3, 0, 2] fun jk => ?_
 refine zO cx0 _ RT [11, 10, 9, 3, 0, 2] ⟨fun h => ?_, fun h => by simp at h⟩
 refine ⟨⟨by omega, by omega⟩, ?_⟩
 refine ⟨_, _, _, ⟨rfl, rfl⟩, ?_⟩
 refine ⟨fun h => (lt0 h (by omega)).elim, fun h => ?_⟩
 intro jk
 rw [e1]
 refine zO cx0 _ RT [11, 10, 9, 3, 0, 2] ⟨fun h => ?_, fun h => absurd h (by decide)⟩
 refine ⟨⟨by decide, by decide⟩, ?_⟩
 refine ⟨_, _, _, ⟨rfl, rfl⟩, ?_⟩
 refine ⟨fun h => (lt0 h (by omega)).elim, fun h => ?_⟩
 intro jk
 rw [e2]
 refine zO cx0 _ RT [11, 10, 9, 3, 0, 2] ⟨fun h => absurd h (by decide), fun h => ?_⟩
 intro jk
 refine ⟨⟨by omega, by show ((l.length + m.length : Nat) : Int) * ((16 : Nat) : Int) ≤ _; omega, by simp only [maxLen]; omega⟩, ?_⟩
 refine yU cx0 _ RT [27, 26, 25, 6, 2] fun jk => ?_
 refine zO cx0 _ RT [27, 26, 25, 6, 2] ⟨fun h => ?_, fun h => absurd h (by decide)⟩
 refine ⟨⟨by decide, by decide⟩, ?_⟩
 refine ⟨_, _, _, ⟨rfl, rfl⟩, ?_⟩
 refine ⟨Nat.le_refl _, ?_⟩
 refine ⟨⟨by simp only [maxLen]; omega, by show (0 + l.length) * 16 ≤ _; omega⟩, ?_⟩
 intro jk
 refine zO cx0 _ RT [27, 26, 25, 6, 2] ⟨fun h => ?_, fun h => absurd h (by decide)⟩
 refine ⟨⟨by decide, by decide⟩, ?_⟩
 refine ⟨_, _, _, ⟨rfl, rfl⟩, ?_⟩
 refine ⟨by show 0 + (0 + l.length) * 1 ≤ (nm l).length; rw [qV]; omega, ?_⟩
 refine ⟨⟨by simp only [maxLen]; omega, by show (0 + l.length + m.length) * 16 ≤ _; omega⟩, ?_⟩
 intro jk
 refine zO cx0 _ RT [27, 26, 25, 6, 2] ⟨fun h => absurd h (by decide), fun h => ?_⟩
 intro jk
 have e := zSa (l := l) (m := m)
 refine ⟨?_, ?_⟩
 ·refine Nat.le_trans ?_ (Nat.le_of_eq (congrArg List.length e.symm))
  rw [qV, List.length_append]; show 0 + (0 + l.length + m.length) * 1 ≤ l.length + m.length; omega
 refine ⟨zV4 (by simp) ?_, rfl⟩
 refine Eq.trans ?_ (congrArg (fun x => (List.drop 0 x).take ((0 + l.length + m.length) * 1)) e.symm)
 exact (zCr (by rw [qV, List.length_append]; omega)).symm
end Go.Proofs.YtlkjnlfddadlmaaGreatDoor.V
namespace Go.Proofs.YtlkjnlfddadlmaaGreatDoor.V
set_option maxRecDepth 100000
def dgs : Nat → Nat → List UInt8 → List UInt8
 | 0, _, out => out
 | m + 1, k, out => if k = 0 then out else dgs m (k / 10) ((48 + k % 10).toUInt8 :: out)
def mtx (k : Int) : List UInt8 := if k ≤ 0 then [109, 48] else 109 :: dgs 20 k.toNat []
theorem iZ : ∀ (m k : Nat) (out : List UInt8), (dgs m k out).length ≤ out.length + m
 | 0, _, out => by simp [dgs]
 | m + 1, k, out => by
  simp only [dgs]
  split
  ·omega
  ·have := iZ m (k / 10) ((48 + k % 10).toUInt8 :: out)
   simp only [List.length_cons] at this
   omega
theorem zAe {m k : Nat} {out : List UInt8} (h : 0 < k) : dgs (m + 1) k out = dgs m (k / 10) ((48 + k % 10).toUInt8 :: out) := by
 simp only [dgs, if_neg (show ¬ k = 0 by omega)]
theorem zTw {n : Nat} (h : n < 256) : IntKind.wrap .u8 (n : Int) = n := by
 have e1 : IntKind.wrap .u8 (n : Int) = (n : Int) % 256 := by unfold IntKind.wrap; rfl
 omega
theorem l78 {K : Ex → StA → Prop} : ∀ (m k : Nat) (out : List UInt8), k < 10 ^ m → k < 9223372036854775808 → out.length + m ≤ 40 →
  (∀ jk, K (.exit 0) ⟨[(0, xi 0), (3, xs (dgs m k out)), (2, xs [])], jk, []⟩) →
  ∀ jk, sem cx0 44 RT (.loop (lp Tryz.f44 0)) ⟨[(0, xi k), (3, xs out), (2, xs [])], jk, []⟩ K
 | m, k, out, hk, h63, hl, k1, jk => by
  refine zO cx0 _ RT [0, 3, 2] ⟨fun h => ?_, fun h => ?_⟩
  ·refine ⟨by decide, ?_⟩
   refine ⟨_, rfl, ?_⟩
   refine ⟨by simp only [List.length_cons, List.length_nil, maxLen]; omega, ?_⟩
   refine ⟨by decide, ?_⟩
   have h0 : 0 < k := by simp at h; omega
   cases m with
   | zero => simp at hk; omega
   | succ m =>
   intro jk
   rw [zAe h0] at k1
   have e1 : IntKind.wrap .i64 ((k : Int).tdiv 10) = ((k / 10 : Nat) : Int) := by
    rw [show (k : Int).tdiv 10 = ((k / 10 : Nat) : Int) by rw [Int.tdiv_eq_ediv_of_nonneg (by omega)]; omega]
    exact wrap64 (by omega) (by omega)
   have e2 : (IntKind.wrap .u8 (IntKind.wrap .i64 (48 + (k : Int).tmod 10))).toNat.toUInt8 = (48 + k % 10).toUInt8 := by
    rw [show (48 + (k : Int).tmod 10) = ((48 + k % 10 : Nat) : Int) by rw [Int.tmod_eq_emod_of_nonneg (by omega)]; omega, wrap64 (by omega) (by omega), zTw (by omega)]
    rfl
   have ih := l78 m (k / 10) ((48 + k % 10).toUInt8 :: out) (by rw [Nat.pow_succ] at hk; omega) (by omega) (by simp only [List.length_cons]; omega) k1 jk
   rw [← e1, ← e2] at ih
   exact ih
  ·have h : k = 0 := by simp at h; omega
   subst h
   intro jk
   have := k1 jk
   cases m <;> exact this
theorem mt78 {k : Int} (h63 : k < 9223372036854775808) : RT 44 [xi k] [] = some (xs (mtx k), []) := by
 refine xM (fn := Tryz.f44) rfl rfl rfl rfl ?_
 refine ⟨fun h => ?_, fun h => ?_⟩
 ·have h := of_decide_eq_true h
  exact ⟨by simp only [mtx, if_pos h]; rfl, rfl⟩
 ·have h := of_decide_eq_false h
  refine yU cx0 _ RT [0, 3, 2] fun jk => ?_
  rw [show k = ((k.toNat : Nat) : Int) by omega]
  refine l78 20 k.toNat [] (by have : (10 : Nat) ^ 20 = 100000000000000000000 := rfl; omega) (by omega) (by simp) (fun jk => ?_) jk
  have := iZ 20 k.toNat []
  refine ⟨by simp only [List.length_cons, List.length_nil] at this ⊢; simp only [maxLen]; omega, ?_⟩
  refine ⟨?_, rfl⟩
  simp only [mtx, if_neg (show ¬ ((k.toNat : Nat) : Int) ≤ 0 by omega), Int.toNat_natCast]
  rfl
end Go.Proofs.YtlkjnlfddadlmaaGreatDoor.V
namespace Go.Proofs.YtlkjnlfddadlmaaGreatDoor.V
set_option maxRecDepth 100000
mutual
def szM : Co → Nat
 | .mk _ _ _ _ ks => 4 + jQ ks
def jQ : List Co → Nat
 | [] => 0
 | c :: l => szM c + jQ l
end
mutual
def mkC : Co → Int → Co
 | .mk _ _ _ _ ks, k => .mk k (k + 1) (mtx (k + 2)) (mtx (k + 3)) (dL ks (k + 4))
def dL : List Co → Int → List Co
 | [], _ => []
 | c :: l, k => mkC c k :: dL l (k + szM c)
end
theorem bP : ∀ (l : List Co) (k : Int), (dL l k).length = l.length
 | [], _ => rfl
 | c :: l, k => by simp only [dL, List.length_cons, bP l]
mutual
theorem zXo : ∀ c : Co, szM c ≤ 4 + 4 * szC c
 | .mk op n s t ks => by
  have := zGi ks
  simp only [szM, szC]; omega
theorem zGi : ∀ l : List Co, jQ l ≤ 4 * x8 l
 | [] => by simp [jQ]
 | c :: l => by
  have h1 := zXo c
  have h2 := zGi l
  simp only [jQ, x8]; omega
end
theorem putL {α : Type} {A B ts : List α} {a j m : Nat} (h : A.length = a) : (A ++ B).take (a + j) ++ ts ++ (A ++ B).drop (a + j + m) = A ++ (B.take j ++ ts ++ B.drop (j + m)) := by
 subst h
 rw [List.take_length_add_append, Nat.add_assoc, List.drop_length_add_append, List.append_assoc, List.append_assoc, List.append_assoc]
def S67 (ks : List Co) : Prop := ∀ k : Int, 0 ≤ k → k + jQ ks < 1152921504606846976 → ks.length ≤ maxLen →
 RT 19 [.c (.bor () (.ex 0) [] 0 0 5 ks.length), xi k] [[.t (.sl () 0 5 ks.length (xO ks))]] = some (xi (k + jQ ks), [[.t (.sl () 0 5 ks.length (xO (dL ks k)))]])
abbrev st67 (n i : Nat) (k : Int) (jk : Nat → XU) (cs : List TU) : StA := ⟨[(5, xi i), (1, xi k), (0, .c (.bor () (.ex 0) [] 0 0 5 n)), (4, xi 0)], jk, [[.t (.sl () 0 5 n cs)]]⟩
theorem zN5 {p : Nat} {A B ts B' : List TU} {j : Nat} (hp : A.length = p * 5) (h : B.take j ++ ts ++ B.drop (j + ts.length) = B') :
  List.take (0 + (p : Int).toNat * 5 + j) (A ++ B) ++ ts ++ List.drop (0 + (p : Int).toNat * 5 + j + ts.length) (A ++ B) = A ++ B' := by
 rw [← h, Nat.zero_add]
 exact putL hp
theorem zNi {p : Nat} {A B : List TU} {j m : Nat} (hp : A.length = p * 5) (h : j + m ≤ B.length) : 0 + (p : Int).toNat * 5 + j + m ≤ (A ++ B).length := by
 rw [List.length_append, hp]
 show 0 + p * 5 + j + m ≤ _
 omega
theorem at67 {p : Nat} {A B : List TU} {j : Nat} (hp : A.length = p * 5) : List.drop (0 + (p : Int).toNat * 5 + j) (A ++ B) = B.drop j := by
 rw [Nat.zero_add]
 show List.drop (p * 5 + j) (A ++ B) = _
 rw [← hp, List.drop_length_add_append]
theorem ge67 {p : Nat} {A B : List TU} {j : Nat} (hp : A.length = p * 5) : (A ++ B)[0 + (p : Int).toNat * 5 + j]? = B[j]? := by
 rw [Nat.zero_add]
 show (A ++ B)[p * 5 + j]? = _
 rw [← hp, List.getElem?_append_right (by omega), Nat.add_sub_cancel_left]
theorem zVz {p : Nat} {A B : List TU} {j : Nat} {x : TU} (hp : A.length = p * 5) : (A ++ B).set (0 + (p : Int).toNat * 5 + j) x = A ++ B.set j x := by
 rw [Nat.zero_add]
 show (A ++ B).set (p * 5 + j) x = _
 rw [← hp, List.set_append_right _ _ (by omega), Nat.add_sub_cancel_left]
mutual
theorem zUi : ∀ (c : Co), ups (enc c) = enc c
 | .mk op n s t ks => by simp only [enc, ups, up, mX ks]; rfl
theorem mX : ∀ (l : List Co), ups (xO l) = xO l
 | [] => by simp only [xO, ups]
 | c :: l => by
  have : ∀ (a b : List TU), ups (a ++ b) = ups a ++ ups b := by
   intro a b
   induction a with
   | nil => rfl
   | cons x a ih => simp only [List.cons_append, ups, ih]
  simp only [xO, this, zUi c, mX l]
end
theorem retM {g : Nat} {xs : List XU} {n : Int} {m : Nat} {l : List Co} {es : List TU} {q : Nat} (h : RT g xs [[.t (.sl () 0 5 q es)]] = some (xi n, [[.t (.sl () 0 5 m (xO l))]])) : zJ8 RT g xs [[.t (.sl () 0 5 q es)]] (xi n) [[.t (.sl () 0 5 m (xO l))]] := by
 refine ⟨_, h, rfl, ?_⟩
 simp only [List.mapM_cons, List.mapM_nil, xQ, qU, down, n7, Option.map_some, Option.bind_some]
 rfl
set_option maxHeartbeats 4000000 in
theorem l67 {n : Nat} {K : Ex → StA → Prop} (hn : n ≤ maxLen) : ∀ (l pre : List Co) (k : Int), (∀ op n s t ks, Co.mk op n s t ks ∈ l → S67 ks) → Wfs l → pre.length + l.length = n → 0 ≤ k → k + jQ l < 1152921504606846976 →
  (∀ jk, K (.exit 0) (st67 n n (k + jQ l) jk (xO (pre ++ dL l k)))) →
  ∀ jk, sem cx0 19 RT (.loop (lp Tryz.f19 0)) (st67 n pre.length k jk (xO pre ++ xO l)) K := by
 intro l
 induction l with
 | nil =>
  intro pre k _ _ hl h0 hk k1 jk
  simp only [List.length_nil, Nat.add_zero] at hl
  refine zO cx0 _ RT [5, 1, 0, 4] ⟨fun h => (g7 h (by omega)).elim, fun h => ?_⟩
  intro jk
  have := k1 jk
  simp only [jQ, dL, Int.natCast_zero, Int.add_zero, List.append_nil] at this
  show K _ (st67 n pre.length k jk (xO pre ++ xO []))
  rw [← hl] at this ⊢
  simp only [xO, List.append_nil]
  exact this
 | cons c l ih =>
  intro pre k H hw hl h0 hk k1 jk
  cases c with
  | mk op n' s t ks =>
  have hs := H _ _ _ _ _ List.mem_cons_self
  have e0 : jQ (.mk op n' s t ks :: l) = 4 + jQ ks + jQ l := rfl
  rw [e0] at hk
  simp only [List.length_cons] at hl
  have hp := bL pre
  refine zO cx0 _ RT [5, 1, 0, 4] ⟨fun h => ?_, fun h => (jO h (by omega)).elim⟩
  refine ⟨⟨by omega, by omega⟩, ?_⟩
  refine ⟨zNi hp (by simp [xO, enc]), ?_⟩
  rw [zN5 (B := xO (.mk op n' s t ks :: l)) (ts := [.int .i64 k]) (j := 0) (B' := .int .i64 k :: .int .i64 n' :: .str s :: .str t :: .sl () 0 5 ks.length (xO ks) :: xO l) hp rfl]
  intro jk
  refine ⟨⟨by omega, by omega⟩, ?_⟩
  refine ⟨zNi hp (by simp), ?_⟩
  rw [wrap64 (n := k + 1) (by omega) (by omega)]
  rw [zN5 (B := .int .i64 k :: .int .i64 n' :: .str s :: .str t :: .sl () 0 5 ks.length (xO ks) :: xO l) (ts := [.int .i64 (k + 1)]) (j := 1) (B' := .int .i64 k :: .int .i64 (k + 1) :: .str s :: .str t :: .sl () 0 5 ks.length (xO ks) :: xO l) hp rfl]
  intro jk
  have a2 := mt78 (k := k + 2) (by omega)
  have a3 := mt78 (k := k + 3) (by omega)
  obtain ⟨x2, hx2⟩ : ∃ x, mtx (k + 2) = x := ⟨_, rfl⟩
  obtain ⟨x3, hx3⟩ : ∃ x, mtx (k + 3) = x := ⟨_, rfl⟩
  rw [hx2] at a2
  rw [hx3] at a3
  have w2 : IntKind.wrap .i64 (k + 1 + 1) = k + 2 := by rw [wrap64 (by omega) (by omega)]; omega
  have w3 : IntKind.wrap .i64 (k + 2 + 1) = k + 3 := by rw [wrap64 (by omega) (by omega)]; omega
  have w4 : IntKind.wrap .i64 (k + 3 + 1) = k + 4 := by rw [wrap64 (by omega) (by omega)]; omega
  refine ⟨_, ⟨_, by rw [w2]; exact a2, rfl⟩, ?_⟩
  refine ⟨⟨by omega, by omega⟩, ?_⟩
  refine ⟨zNi hp (by simp), ?_⟩
  rw [w2, zN5 (B := .int .i64 k :: .int .i64 (k + 1) :: .str s :: .str t :: .sl () 0 5 ks.length (xO ks) :: xO l) (ts := [.str x2]) (j := 2) (B' := .int .i64 k :: .int .i64 (k + 1) :: .str x2 :: .str t :: .sl () 0 5 ks.length (xO ks) :: xO l) hp rfl]
  intro jk
  refine ⟨_, ⟨_, by rw [w3]; exact a3, rfl⟩, ?_⟩
  refine ⟨⟨by omega, by omega⟩, ?_⟩
  refine ⟨zNi hp (by simp), ?_⟩
  rw [w3, zN5 (B := .int .i64 k :: .int .i64 (k + 1) :: .str x2 :: .str t :: .sl () 0 5 ks.length (xO ks) :: xO l) (ts := [.str x3]) (j := 3) (B' := .int .i64 k :: .int .i64 (k + 1) :: .str x2 :: .str x3 :: .sl () 0 5 ks.length (xO ks) :: xO l) hp rfl]
  intro jk
  refine ⟨⟨by omega, by omega⟩, ?_⟩
  refine ⟨0, ks.length, xO ks, ?_⟩
  refine ⟨⟨by rw [at67 hp]; rfl, rfl⟩, ?_⟩
  refine ⟨5, ks.length, xO ks, ?_⟩
  refine ⟨by rw [ge67 hp]; rfl, ?_⟩
  rw [zVz hp]
  intro jk
  refine ⟨_, _, retM (by rw [w4, mX]; exact hs (k + 4) (by omega) (by omega) (by simp only [Wfs, Wf] at hw; exact hw.1.2.2.2.2.1)), ?_⟩
  refine ⟨by rw [ge67 hp]; rfl, ?_⟩
  rw [zVz hp]
  intro jk
  have ih := ih (pre ++ [.mk k (k + 1) (mtx (k + 2)) (mtx (k + 3)) (dL ks (k + 4))]) (k + 4 + jQ ks) (fun op n s t ks h => H op n s t ks (List.mem_cons_of_mem _ h)) (by simp only [Wfs] at hw; exact hw.2) (by simp; omega) (by omega) (by omega) (fun jk => by
   have := k1 jk
   rw [e0] at this
   simp only [dL, mkC, szM] at this
   rw [List.append_assoc, show k + 4 + (jQ ks : Int) + jQ l = k + ((4 + jQ ks + jQ l : Nat) : Int) by omega, show k + 4 + (jQ ks : Int) = k + ((4 + jQ ks : Nat) : Int) by omega]
   exact this) jk
  rw [mW, List.length_append, hx2, hx3] at ih
  simp only [xO, enc, bP, List.append_nil, List.append_assoc] at ih
  rw [kK (show pre.length < n by omega) hn]
  exact ih
theorem zWz : ∀ c : Co, (match c with | .mk _ _ _ _ ks => Wfs ks → S67 ks) := by
 refine Co.ind fun op n s t ks ih => ?_
 intro hw k h0 hk hl
 refine lR (fn := Tryz.f19) rfl rfl rfl rfl ?_
 refine yU cx0 _ RT [5, 1, 0, 4] fun jk => ?_
 refine l67 hl ks [] k (fun op n s t kk h => ih _ h ?_) hw (by simp) h0 hk (fun jk => ?_) jk
 ·have := nV.1 hw _ h
  simp only [Wf] at this
  exact this.2.2.2.2.2
 ·exact ⟨rfl, rfl⟩
theorem zQi {l : List Co} {cs : List TU} {i : Nat} {op n : Int} {s t : List UInt8} {ks : List Co} (h : Rds l cs) (hi : l[i]? = some (.mk op n s t ks)) :
  ∃ g cs' r, cs.drop (i * 5) = .int .i64 op :: .int .i64 n :: .str s :: .str t :: .sl () (g + 1) 5 ks.length cs' :: r ∧ Rds ks cs' := by
 obtain ⟨g, cs', h1, h2⟩ := vK h hi
 refine ⟨g, cs', (cs.drop (i * 5)).drop 5, ?_, h2⟩
 have := List.take_append_drop 5 (cs.drop (i * 5))
 rw [h1] at this
 exact this.symm
def S75 (ks : List Co) : Prop := ∀ (k : Int) g cs, 0 ≤ k → k + jQ ks < 1152921504606846976 → ks.length ≤ maxLen → Rds (dL ks k) cs →
 RT 20 [xl (g + 1) 5 ks.length cs, xi k] [] = some (xi (k + jQ ks), [])
set_option maxHeartbeats 4000000 in
theorem l75 {n g : Nat} {M : List Co} {cs : List TU} {K : Ex → StA → Prop} (hn : n ≤ maxLen) (hr : Rds M cs) (hM : M.length = n) : ∀ (l : List Co) (i : Nat) (k : Int), (∀ op n s t ks, Co.mk op n s t ks ∈ l → S75 ks) → Wfs l → M.drop i = dL l k → i + l.length = n → 0 ≤ k → k + jQ l < 1152921504606846976 →
  (∀ jk, K (.exit 0) ⟨[(5, xi n), (1, xi (k + jQ l)), (0, xl (g + 1) 5 n cs), (4, xi 0)], jk, []⟩) →
  ∀ jk, sem cx0 20 RT (.loop (lp Tryz.f20 0)) ⟨[(5, xi i), (1, xi k), (0, xl (g + 1) 5 n cs), (4, xi 0)], jk, []⟩ K := by
 intro l
 induction l with
 | nil =>
  intro i k _ _ _ hl h0 hk k1 jk
  simp only [List.length_nil, Nat.add_zero] at hl
  subst hl
  refine zO cx0 _ RT [5, 1, 0, 4] ⟨fun h => (g7 h (by omega)).elim, fun h => ?_⟩
  intro jk
  have := k1 jk
  simp only [jQ, Int.natCast_zero, Int.add_zero] at this
  exact this
 | cons c l ih =>
  intro i k H hw hd hl h0 hk k1 jk
  cases c with
  | mk op n' s t ks =>
  have hs := H _ _ _ _ _ List.mem_cons_self
  have e0 : jQ (.mk op n' s t ks :: l) = 4 + jQ ks + jQ l := rfl
  rw [e0] at hk
  simp only [List.length_cons] at hl
  have hi : M[i]? = some (.mk k (k + 1) (mtx (k + 2)) (mtx (k + 3)) (dL ks (k + 4))) := by
   have := congrArg (·[0]?) hd
   simpa [dL, mkC] using this
  have hd2 : M.drop (i + 1) = dL l (k + ((4 + jQ ks : Nat) : Int)) := by
   rw [← List.drop_drop, hd]; rfl
  obtain ⟨g', cs', r, e1, e2⟩ := zQi hr hi
  have a2 := mt78 (k := k + 2) (by omega)
  have a3 := mt78 (k := k + 3) (by omega)
  generalize mtx (k + 2) = x2 at a2 e1
  generalize mtx (k + 3) = x3 at a3 e1
  have w1 : IntKind.wrap .i64 (k + 1) = k + 1 := wrap64 (by omega) (by omega)
  have w2 : IntKind.wrap .i64 (k + 1 + 1) = k + 2 := by rw [wrap64 (by omega) (by omega)]; omega
  have w3 : IntKind.wrap .i64 (k + 2 + 1) = k + 3 := by rw [wrap64 (by omega) (by omega)]; omega
  have w4 : IntKind.wrap .i64 (k + 3 + 1) = k + 4 := by rw [wrap64 (by omega) (by omega)]; omega
  refine zO cx0 _ RT [5, 1, 0, 4] ⟨fun h => ?_, fun h => (jO h (by omega)).elim⟩
  refine ⟨⟨by omega, by omega⟩, ?_⟩
  refine ⟨Nat.zero_le _, ?_⟩
  refine ⟨k, ⟨by show ((cs.drop (i * 5)).drop 0).take 1 = _; rw [e1]; rfl, rfl⟩, ?_⟩
  refine ⟨fun h => by simp at h, fun _ => ?_⟩
  refine ⟨⟨by omega, by omega⟩, ?_⟩
  refine ⟨by show 1 ≤ (cs.drop (i * 5)).length; rw [e1]; simp, ?_⟩
  refine ⟨k + 1, ⟨by show ((cs.drop (i * 5)).drop 1).take 1 = _; rw [e1]; rfl, rfl⟩, ?_⟩
  rw [w1]
  refine ⟨fun h => by simp at h, fun _ => ?_⟩
  refine ⟨⟨by omega, by omega⟩, ?_⟩
  refine ⟨by show 2 ≤ (cs.drop (i * 5)).length; rw [e1]; simp, ?_⟩
  refine ⟨x2, ⟨by show ((cs.drop (i * 5)).drop 2).take 1 = _; rw [e1]; rfl, rfl⟩, ?_⟩
  rw [w2]
  refine ⟨_, ⟨_, a2, rfl⟩, ?_⟩
  refine ⟨fun h => by simp at h, fun _ => ?_⟩
  refine ⟨⟨by omega, by omega⟩, ?_⟩
  refine ⟨by show 3 ≤ (cs.drop (i * 5)).length; rw [e1]; simp, ?_⟩
  refine ⟨x3, ⟨by show ((cs.drop (i * 5)).drop 3).take 1 = _; rw [e1]; rfl, rfl⟩, ?_⟩
  rw [w3]
  refine ⟨_, ⟨_, a3, rfl⟩, ?_⟩
  refine ⟨fun h => by simp at h, fun _ => ?_⟩
  refine ⟨⟨by omega, by omega⟩, ?_⟩
  refine ⟨by show 4 ≤ (cs.drop (i * 5)).length; rw [e1]; simp, ?_⟩
  refine ⟨g' + 1, (dL ks (k + 4)).length, cs', ⟨by show ((cs.drop (i * 5)).drop 4).take 1 = _; rw [e1]; rfl, rfl⟩, ?_⟩
  rw [bP, w4]
  have hs := hs (k + 4) (g' + 1) (yD cs') (by omega) (by omega) (by simp only [Wfs, Wf] at hw; exact hw.1.2.2.2.2.1) e2.retag
  refine ⟨_, uH hs, ?_⟩
  refine ⟨fun h => by simp at h; omega, fun _ => ?_⟩
  intro jk
  have ih := ih (i + 1) (k + ((4 + jQ ks : Nat) : Int)) (fun op n s t ks h => H op n s t ks (List.mem_cons_of_mem _ h)) (by simp only [Wfs] at hw; exact hw.2) hd2 (by omega) (by omega) (by omega) (fun jk => by
   have := k1 jk
   rw [e0] at this
   rw [show k + ((4 + jQ ks : Nat) : Int) + jQ l = k + ((4 + jQ ks + jQ l : Nat) : Int) by omega]
   exact this) jk
  rw [kK (show i < n by omega) hn]
  rw [show k + ((4 + jQ ks : Nat) : Int) = k + 4 + (jQ ks : Int) by omega] at ih
  exact ih
theorem zWs : ∀ c : Co, (match c with | .mk _ _ _ _ ks => Wfs ks → S75 ks) := by
 refine Co.ind fun op n s t ks ih => ?_
 intro hw k g cs h0 hk hl hr
 refine xM (fn := Tryz.f20) rfl rfl rfl rfl ?_
 refine yU cx0 _ RT [5, 1, 0, 4] fun jk => ?_
 refine l75 (g := g) hl hr (bP _ _) ks 0 k (fun op n s t kk h => ih _ h ?_) hw rfl (by simp) h0 hk (fun jk => ?_) jk
 ·have := nV.1 hw _ h
  simp only [Wf] at this
  exact this.2.2.2.2.2
 ·exact ⟨rfl, rfl⟩
theorem zWy {op n : Int} {s t : Nm} {ks : List Co} {k : Int} (hw : Wfs ks) (h0 : 0 ≤ k) (hk : k + jQ ks < 1152921504606846976) (hl : ks.length ≤ maxLen) :
  RT 7 [.agg [.t (.int .i64 op), .t (.int .i64 n), .t (.str s), .t (.str t), .bor () (.ex 0) [] 0 0 5 ks.length], xi k] [[.t (.sl () 0 5 ks.length (xO ks))]] = some (xi (k + jQ ks), [[.t (.sl () 0 5 ks.length (xO (dL ks k)))]]) := by
 refine lR (fn := Tryz.f7) rfl rfl rfl rfl ?_
 have hs := zWz (.mk op n s t ks) hw k h0 hk hl
 refine ⟨_, _, retM (by rw [mX]; exact hs), ?_⟩
 exact ⟨rfl, rfl⟩
theorem rdM (op n : Int) (s t : List UInt8) (ks : List Co) (k : Int) : Rd (.mk op n s t (dL ks k)) (qA op n s t 1 ks.length (yD (((xO (dL ks k)).drop 0).take (ks.length * 5)))) := by
 have := rdV op n s t (dL ks k)
 rwa [bP] at this
theorem inM (ks : List Co) (k : Int) : 0 + ks.length * 5 ≤ (xO (dL ks k)).length := by rw [bL, bP]; omega
theorem zRs {op n : Int} {s t : Nm} {ks : List Co} {us : List TU} {k : Int} (hw : Wfs ks) (h0 : 0 ≤ k) (hk : k + jQ ks < 1152921504606846976) (hl : ks.length ≤ maxLen) (hr : Rd (.mk op n s t (dL ks k)) us) :
  RT 8 [xc us, xi k] [] = some (xi (k + jQ ks), []) := by
 obtain ⟨g, cs, rfl, hr⟩ := hr
 refine xM (fn := Tryz.f8) rfl rfl rfl rfl ?_
 rw [bP]
 have := zWs (.mk op n s t ks) hw k (g + 1) (yD cs) h0 hk hl hr.retag
 refine ⟨_, uH this, ?_⟩
 refine ⟨fun h => by simp at h; omega, fun _ => ?_⟩
 exact ⟨rfl, rfl⟩
end Go.Proofs.YtlkjnlfddadlmaaGreatDoor.V
namespace Go.Proofs.YtlkjnlfddadlmaaGreatDoor.V
set_option maxRecDepth 100000
end Go.Proofs.YtlkjnlfddadlmaaGreatDoor.V
namespace Go.Proofs.YtlkjnlfddadlmaaGreatDoor.V
set_option maxRecDepth 100000
theorem zNg {α : Type} {p q : Prop} [Decidable p] [Decidable q] {a b c d : α} (h : p ↔ q) (h1 : a = b) (h2 : c = d) : (if p then a else c) = if q then b else d := by
 subst h1 h2
 by_cases hp : p
 ·rw [if_pos hp, if_pos (h.1 hp)]
 ·rw [if_neg hp, if_neg (fun hq => hp (h.2 hq))]
def arC (op : Int) : Int :=
 if op == 1 || op == 2 || op == 13 then 0 else if op == 3 || op == 15 || op == 16 || op == 17 || op == 18 then 1
 else if op == 4 || op == 5 || op == 6 || op == 8 || op == 9 || op == 10 || op == 11 || op == 12 || op == 14 then 2 else if op == 7 then 3 else -1
def gD (op : Int) : Bool := op == 2 || op == 3 || op == 5 || op == 6
def gR (n : Int) : Bool := decide (n ≥ -1073741824) && decide (n ≤ 1073741823)
mutual
def ndC : Co → Nat
 | .mk _ _ _ _ ks => 1 + vQ ks
def vQ : List Co → Nat
 | [] => 0
 | c :: l => ndC c + vQ l
end
mutual
def uO : Co → Nat
 | .mk _ _ _ _ ks => vE ks + 1
def vE : List Co → Nat
 | [] => 0
 | c :: l => max (uO c) (vE l)
end
def wA (env : List Nm) (op n : Int) (s t : Nm) (k : Nat) : Bool :=
 arC op == (k : Int) && (gD op == !(s == [])) && ((op == 6) == !(t == [])) && (op == 1 || n == 0) && gR n && (!(op == 2) || env.contains s)
mutual
def j7 : List Nm → Co → Bool
 | env, .mk op n s t ks => wA env op n s t ks.length && uI op s t env 0 ks
def uI (op : Int) (s t : Nm) (env : List Nm) : Nat → List Co → Bool
 | _, [] => true
 | i, c :: l => j7 (env ++ j3 op s t i) c && uI op s t env (i + 1) l
end
def dM (c : Co) : Bool := decide (ndC c ≤ 3000) && decide (uO c ≤ 150) && j7 [] c
mutual
def prC : Nat → List Nm → Co → Nat
 | deep, env, .mk op n s t ks => if deep ≤ 150 ∧ wA env op n s t ks.length = true then prL op s t env deep 0 1 ks else 3001
def prL (op : Int) (s t : Nm) (env : List Nm) (deep : Nat) : Nat → Nat → List Co → Nat
 | _, v, [] => v
 | i, v, c :: l => if v + prC (deep + 1) (env ++ j3 op s t i) c ≥ 3001 then 3001 else prL op s t env deep (i + 1) (v + prC (deep + 1) (env ++ j3 op s t i) c) l
end
theorem zNo : ∀ c : Co, 1 ≤ ndC c
 | .mk op n s t ks => by simp only [ndC]; omega
theorem zQ9 : ∀ c : Co, 1 ≤ uO c
 | .mk op n s t ks => by simp only [uO]; omega
mutual
theorem zLe : ∀ (deep : Nat) (env : List Nm) (c : Co), prC deep env c = if deep + uO c ≤ 151 ∧ j7 env c = true ∧ ndC c ≤ 3000 then ndC c else 3001
 | deep, env, .mk op n s t ks => by
  simp only [prC, j7, Bool.and_eq_true]
  by_cases h : deep ≤ 150 ∧ wA env op n s t ks.length = true
  ·rw [if_pos h, zSk deep op s t env 0 1 ks (by omega)]
   simp only [uO, ndC]
   exact zNg ⟨fun h2 => ⟨by rcases h2.1 with h3 | h3 <;> omega, ⟨h.2, h2.2.1⟩, h2.2.2⟩, fun h3 => ⟨by omega, h3.2.1.2, h3.2.2⟩⟩ rfl rfl
  ·rw [if_neg h]
   refine (if_neg ?_).symm
   rintro ⟨h3, ⟨h4, _⟩, _⟩
   simp only [uO] at h3
   exact h ⟨by omega, h4⟩
theorem zSk : ∀ (deep : Nat) (op : Int) (s t : Nm) (env : List Nm) (i v : Nat) (l : List Co), v ≤ 3000 → prL op s t env deep i v l = if (vE l = 0 ∨ deep + 1 + vE l ≤ 151) ∧ uI op s t env i l = true ∧ v + vQ l ≤ 3000 then v + vQ l else 3001
 | deep, op, s, t, env, i, v, [], hv => by
  simp only [prL, vE, uI, vQ, true_or, true_and, Nat.add_zero]
  exact (if_pos hv).symm
 | deep, op, s, t, env, i, v, c :: l, hv => by
  have ih := zLe (deep + 1) (env ++ j3 op s t i) c
  have hp := zQ9 c
  have hn := zNo c
  simp only [prL, vE, uI, vQ, Bool.and_eq_true]
  by_cases h : deep + 1 + uO c ≤ 151 ∧ j7 (env ++ j3 op s t i) c = true ∧ ndC c ≤ 3000
  ·rw [if_pos h] at ih
   rw [ih]
   by_cases h2 : v + ndC c ≥ 3001
   ·rw [if_pos h2]
    refine (if_neg ?_).symm
    rintro ⟨_, _, h3⟩; omega
   ·rw [if_neg h2, zSk deep op s t env (i + 1) (v + ndC c) l (by omega)]
    exact zNg ⟨fun h3 => ⟨by omega, ⟨h.2.1, h3.2.1⟩, by omega⟩, fun h3 => ⟨by omega, h3.2.1.2, by omega⟩⟩ (by omega) rfl
  ·rw [if_neg h] at ih
   rw [ih, if_pos (by omega)]
   refine (if_neg ?_).symm
   rintro ⟨h4, ⟨h5, _⟩, h6⟩
   exact h ⟨by omega, h5, by omega⟩
end
theorem zW8 (c : Co) : decide (prC 1 [] c ≤ 3000) = dM c := by
 rw [zLe, dM]
 by_cases h : 1 + uO c ≤ 151 ∧ j7 [] c = true ∧ ndC c ≤ 3000
 ·rw [if_pos h, h.2.1, decide_eq_true h.2.2, decide_eq_true (by omega)]; rfl
 ·rw [if_neg h]
  by_cases h1 : ndC c ≤ 3000
  ·by_cases h2 : uO c ≤ 150
   ·have : j7 [] c = false := by
     cases hr : j7 [] c with
     | false => rfl
     | true => exact absurd ⟨by omega, hr, h1⟩ h
    rw [this]; simp
   ·simp [h2]
  ·simp [h1]
theorem zW6 (deep : Nat) (env : List Nm) (c : Co) : prC deep env c ≤ 3001 := by
 rw [zLe]; split <;> omega
mutual
theorem zW1 : ∀ c : Co, ndC c ≤ szC c + 1
 | .mk op n s t ks => by
  have := zFt ks
  simp only [ndC, szC]; omega
theorem zFt : ∀ l : List Co, vQ l ≤ x8 l
 | [] => by simp [vQ]
 | c :: l => by
  have h1 := zW1 c
  have h2 := zFt l
  simp only [vQ, x8]; omega
end
mutual
theorem zUb : ∀ c : Co, uO c ≤ szC c + 1
 | .mk op n s t ks => by
  have := zAd ks
  simp only [uO, szC]; omega
theorem zAd : ∀ l : List Co, vE l ≤ x8 l
 | [] => by simp [vE]
 | c :: l => by
  have h1 := zUb c
  have h2 := zAd l
  simp only [vE, x8]; omega
end
end Go.Proofs.YtlkjnlfddadlmaaGreatDoor.V
namespace Go.Proofs.YtlkjnlfddadlmaaGreatDoor.V
set_option maxRecDepth 100000
abbrev xby (b : UInt8) : XU := .c (.t (.int .u8 (b.toNat : Int)))
def y7 (b : UInt8) : Bool := decide ((b.toNat : Int) ≥ 48) && decide ((b.toNat : Int) ≤ 57)
def kB : Nm := [43, 45, 42, 60, 61, 63, 46, 95]
def okB (b : UInt8) : Bool := (decide ((b.toNat : Int) ≥ 97) && decide ((b.toNat : Int) ≤ 122)) || y7 b || kB.contains b
theorem gdb {l : Nm} {i : Nat} {o : UInt8} (h : l[i]? = some o) : l.getD (i : Int).toNat 0 = o := by simp [List.getD, h]
theorem zVj {a b : UInt8} : ((a.toNat : Int) == (b.toNat : Int)) = (a == b) := by
 by_cases h : a = b
 ·subst h; exact (beq_self_eq_true (a.toNat : Int)).trans (beq_self_eq_true a).symm
 ·have : ¬ (a.toNat : Int) = b.toNat := fun h2 => h (UInt8.toNat_inj.1 (by omega))
  exact (beq_eq_false_iff_ne.2 this).trans (beq_eq_false_iff_ne.2 h).symm
theorem ib81 (o : UInt8) : RT 62 [xs kB, xby o] [] = some (xi (Lib.indexByte kB o), []) := by
 have := rB (Pr := Tryz.prog) (cx := cx0) (g := 62) (h := lY) (args := [xs kB, xby o]) (x := xi (Lib.indexByte kB (o.toNat : Int).toNat.toUInt8)) rfl rfl
 rw [show (o.toNat : Int).toNat.toUInt8 = o by simp] at this
 exact this
theorem ib_at {l : Nm} {b : UInt8} : decide (Lib.indexByte l b < 0) = !l.contains b := by
 induction l with
 | nil => rfl
 | cons a l ih =>
  have h0 := Lib.indexByte_ge l b
  have e : (a :: l).contains b = ((a == b) || l.contains b) := by rw [List.contains_cons, show (b == a) = (a == b) from BEq.comm]
  rw [e]
  have e2 : ∀ x : Int, Lib.indexByte (a :: l) b = x → decide (Lib.indexByte (a :: l) b < 0) = decide (x < 0) := fun x h => by rw [h]
  by_cases h : (a == b) = true
  ·rw [e2 0 (by unfold Lib.indexByte; rw [if_pos h]), h]; rfl
  ·rw [Bool.eq_false_iff.2 h, Bool.false_or, ← ih]
   by_cases h2 : Lib.indexByte l b = -1
   ·rw [e2 (-1) (by unfold Lib.indexByte; rw [if_neg h, h2]; rfl), h2]
   ·have e3 : Lib.indexByte (a :: l) b = if (a == b) = true then 0 else if (Lib.indexByte l b == -1) = true then -1 else Lib.indexByte l b + 1 := rfl
    rw [e2 (Lib.indexByte l b + 1) (by rw [e3, if_neg h, if_neg (fun h3 => h2 (eq_of_beq h3))])]
    apply decide_eq_decide.2; omega
theorem zNb {b : UInt8} : decide (Lib.indexByte kB b < 0) = !kB.contains b := ib_at
theorem zVl (b : UInt8) : RT 69 [xby b] [] = some (xb (y7 b), []) := by
 refine xM (fn := Tryz.f69) rfl rfl rfl rfl ?_
 refine ⟨fun h => ?_, fun h => ?_⟩
 ·exact ⟨by simp only [y7, h]; rfl, rfl⟩
 ·exact ⟨by simp only [y7, h]; rfl, rfl⟩
theorem zMy (b : UInt8) : RT 61 [xby b] [] = some (xb (y7 b), []) := by
 refine xM (fn := Tryz.f61) rfl rfl rfl rfl ?_
 refine ⟨fun h => ?_, fun h => ?_⟩
 ·exact ⟨by simp only [y7, h]; rfl, rfl⟩
 ·exact ⟨by simp only [y7, h]; rfl, rfl⟩
theorem l88 {b : UInt8} {K : Ex → StA → Prop} : ∀ (r : Nm) (i : Nat), kB.drop i = r → i ≤ 8 →
  (∀ jk j, (r.contains b) = false → K (.exit 0) ⟨[(4, xi j), (3, xs kB), (0, xby b), (2, xb false)], jk, []⟩) →
  (∀ jk j, (r.contains b) = true → K .ret ⟨[(4, xi j), (3, xs kB), (0, xby b), (2, xb true)], jk, []⟩) →
  ∀ jk, sem cx0 68 RT (.loop (lp Tryz.f68 0)) ⟨[(4, xi i), (3, xs kB), (0, xby b), (2, xb false)], jk, []⟩ K := by
 refine qE ?_ ?_
 ·intro k1 k2 jk
  refine zO cx0 _ RT [4, 3, 0, 2] ⟨fun h => (g7 h (by decide)).elim, fun h => ?_⟩
  exact fun jk => k1 jk _ rfl
 ·intro i o r hi hil ih k1 k2 jk
  refine zO cx0 _ RT [4, 3, 0, 2] ⟨fun h => ?_, fun h => (jO h (by have : kB.length = 8 := rfl; omega)).elim⟩
  refine ⟨⟨by omega, by omega⟩, ?_⟩
  have e1 : (o :: r).contains b = ((b == o) || r.contains b) := List.contains_cons
  have e0 : kB[i]? = some o := hi
  rw [show (b == o) = (o == b) from BEq.comm] at e1
  refine ⟨fun h => ?_, fun h => ?_⟩
  ·rw [gdb e0, zVj] at h
   rw [h, Bool.true_or] at e1
   exact fun jk => k2 jk _ e1
  ·rw [gdb e0, zVj] at h
   rw [h, Bool.false_or] at e1
   rw [e1] at k1 k2
   intro jk
   rw [kK hil (by decide)]
   exact ih k1 k2 jk
theorem zWd (b : UInt8) : RT 68 [xby b] [] = some (xb (okB b), []) := by
 refine xM (fn := Tryz.f68) rfl rfl rfl rfl ?_
 have fin : (decide ((b.toNat : Int) ≥ 97) && decide ((b.toNat : Int) ≤ 122)) = false → y7 b = false → ∀ jk K, (∀ jk j, okB b = false → K (.exit 0) ⟨[(4, xi j), (3, xs kB), (0, xby b), (2, xb false)], jk, []⟩) →
  (∀ jk j, okB b = true → K .ret ⟨[(4, xi j), (3, xs kB), (0, xby b), (2, xb true)], jk, []⟩) →
  sem cx0 68 RT (.loop (lp Tryz.f68 0)) ⟨[(4, xi (0 : Nat)), (3, xs kB), (0, xby b), (2, xb false)], jk, []⟩ K := by
  intro h1 h2 jk K k1 k2
  have : okB b = kB.contains b := by simp only [okB, h1, h2, Bool.false_or]
  rw [this] at k1 k2
  exact l88 kB 0 rfl (by omega) k1 k2 jk
 have e1 : ∀ x : Bool, (decide ((b.toNat : Int) ≥ 97) && decide ((b.toNat : Int) ≤ 122)) = x → okB b = (x || y7 b || kB.contains b) := fun x h => by simp only [okB, h]
 refine ⟨fun h => ?_, fun h => ?_⟩
 ·refine ⟨fun h' => ?_, fun h' => ?_⟩
  ·exact ⟨by rw [e1 true (by rw [h, h']; rfl)]; rfl, rfl⟩
  ·refine ⟨fun g => ?_, fun g => ?_⟩
   ·refine ⟨fun g' => ?_, fun g' => ?_⟩
    ·exact ⟨by rw [e1 _ rfl]; simp only [y7, g, g']; simp; rfl, rfl⟩
    ·refine yU cx0 _ RT [4, 3, 0, 2] fun jk => ?_
     refine fin (by simp only [h, h']; rfl) (by simp only [y7, g, g']; rfl) _ _ (fun jk j h => ?_) (fun jk j h => ?_)
     ·exact ⟨by rw [h]; rfl, rfl⟩
     ·exact ⟨by rw [h]; rfl, rfl⟩
   ·refine yU cx0 _ RT [4, 3, 0, 2] fun jk => ?_
    refine fin (by simp only [h, h']; rfl) (by simp only [y7, g]; rfl) _ _ (fun jk j h => ?_) (fun jk j h => ?_)
    ·exact ⟨by rw [h]; rfl, rfl⟩
    ·exact ⟨by rw [h]; rfl, rfl⟩
 ·refine ⟨fun g => ?_, fun g => ?_⟩
  ·refine ⟨fun g' => ?_, fun g' => ?_⟩
   ·exact ⟨by rw [e1 _ rfl]; simp only [y7, g, g']; simp; rfl, rfl⟩
   ·refine yU cx0 _ RT [4, 3, 0, 2] fun jk => ?_
    refine fin (by simp only [h]; rfl) (by simp only [y7, g, g']; rfl) _ _ (fun jk j h => ?_) (fun jk j h => ?_)
    ·exact ⟨by rw [h]; rfl, rfl⟩
    ·exact ⟨by rw [h]; rfl, rfl⟩
  ·refine yU cx0 _ RT [4, 3, 0, 2] fun jk => ?_
   refine fin (by simp only [h]; rfl) (by simp only [y7, g]; rfl) _ _ (fun jk j h => ?_) (fun jk j h => ?_)
   ·exact ⟨by rw [h]; rfl, rfl⟩
   ·exact ⟨by rw [h]; rfl, rfl⟩
theorem l79 {s : Nm} {K : Ex → StA → Prop} (hk : s.length ≤ maxLen) : ∀ (r : Nm) (i : Nat), s.drop i = r → i ≤ s.length →
  (∀ jk j, r.all okB = true → K (.exit 0) ⟨[(3, xi j), (0, xs s), (2, xb false)], jk, []⟩) →
  (∀ jk j, r.all okB = false → K .ret ⟨[(3, xi j), (0, xs s), (2, xb false)], jk, []⟩) →
  ∀ jk, sem cx0 49 RT (.loop (lp Tryz.f49 0)) ⟨[(3, xi i), (0, xs s), (2, xb false)], jk, []⟩ K := by
 refine qE ?_ ?_
 ·intro k1 k2 jk
  refine zO cx0 _ RT [3, 0, 2] ⟨fun h => (g7 h (by omega)).elim, fun h => ?_⟩
  exact fun jk => k1 jk _ rfl
 ·intro i o r hi hil ih k1 k2 jk
  refine zO cx0 _ RT [3, 0, 2] ⟨fun h => ?_, fun h => (jO h (by omega)).elim⟩
  refine ⟨⟨by omega, by omega⟩, ?_⟩
  refine ⟨_, j6 (by rw [gdb hi]; exact zWd o), ?_⟩
  have e1 : (o :: r).all okB = (okB o && r.all okB) := List.all_cons
  refine ⟨fun h => ?_, fun h => ?_⟩
  ·exact fun jk => k2 jk _ (by rw [e1]; simp_all)
  ·have h : okB o = true := by simpa using h
   rw [e1, h, Bool.true_and] at k1 k2
   intro jk
   rw [kK hil hk]
   exact ih k1 k2 jk
def vJ (s : Nm) : Bool := s.all okB && (decide ((s.length : Int) ≥ 1) && decide ((s.length : Int) ≤ 12)) && !y7 (s.getD 0 0) && !(((s.getD 0 0).toNat : Int) == 45 && decide ((s.length : Int) > 1) && y7 (s.getD 1 0))
theorem sym79 {s : Nm} (hk : s.length ≤ maxLen) : RT 49 [xs s] [] = some (xb (vJ s), []) := by
 refine xM (fn := Tryz.f49) rfl rfl rfl rfl ?_
 refine yU cx0 _ RT [3, 0, 2] fun jk => ?_
 refine l79 hk s 0 rfl (by omega) (fun jk i h => ?_) (fun jk i h => ?_) jk
 ·refine ⟨_, j6 (in50 _ _ _), ?_⟩
  have e0 : ∀ b : Bool, (decide ((s.length : Int) ≥ 1) && decide ((s.length : Int) ≤ 12)) = b → vJ s = (b && !y7 (s.getD 0 0) && !(((s.getD 0 0).toNat : Int) == 45 && decide ((s.length : Int) > 1) && y7 (s.getD 1 0))) := fun b hb => by simp only [vJ, h, hb, Bool.true_and]
  refine ⟨fun h2 => ?_, fun h2 => ?_⟩
  ·have hl : 1 ≤ s.length := by simp at h2; omega
   rw [e0 _ h2]
   refine ⟨⟨by omega, by omega⟩, ?_⟩
   refine ⟨_, j6 (zVl _), ?_⟩
   refine ⟨fun h3 => ?_, fun h3 => ?_⟩
   ·have h3 : (!y7 (s.getD 0 0)) = true := h3
    rw [h3]
    refine ⟨⟨by omega, by omega⟩, ?_⟩
    refine ⟨fun h4 => ?_, fun h4 => ?_⟩
    ·have h4 : (((s.getD 0 0).toNat : Int) == 45) = false := by simpa using h4
     rw [h4]
     exact ⟨rfl, rfl⟩
    ·have h4 : (((s.getD 0 0).toNat : Int) == 45) = true := by simpa using h4
     rw [h4]
     refine ⟨fun h5 => ?_, fun h5 => ?_⟩
     ·have h5 : (decide ((s.length : Int) > 1)) = false := by simp at h5 ⊢; omega
      rw [h5]
      exact ⟨rfl, rfl⟩
     ·have h5 : (decide ((s.length : Int) > 1)) = true := by simp at h5 ⊢; omega
      rw [h5]
      refine ⟨⟨by omega, by simp at h5; omega⟩, ?_⟩
      refine ⟨_, j6 (zVl _), ?_⟩
      exact ⟨rfl, rfl⟩
   ·have h3 : (!y7 (s.getD 0 0)) = false := h3
    rw [h3]
    exact ⟨rfl, rfl⟩
  ·rw [e0 _ h2]
   exact ⟨rfl, rfl⟩
 ·exact ⟨by simp only [vJ, h]; rfl, rfl⟩
def gE (s : Nm) : Bool := s == [] || (vJ s && !(s == [95]) && !(s == [46, 46, 46]))
theorem zR7 {s : Nm} (hk : s.length ≤ maxLen) : RT 30 [xs s] [] = some (xb (gE s), []) := by
 refine xM (fn := Tryz.f30) rfl rfl rfl rfl ?_
 refine ⟨fun h => ?_, fun h => ?_⟩
 ·have h : (s == []) = true := h
  exact ⟨by simp only [gE, h]; rfl, rfl⟩
 ·have h : (s == []) = false := h
  refine ⟨_, j6 (sym79 hk), ?_⟩
  refine ⟨fun h1 => ?_, fun h1 => ?_⟩
  ·refine ⟨fun h2 => ?_, fun h2 => ?_⟩
   ·exact ⟨by simp only [gE, h, h1, h2]; rfl, rfl⟩
   ·exact ⟨by simp only [gE, h, h1, h2]; rfl, rfl⟩
  ·exact ⟨by simp only [gE, h, h1]; rfl, rfl⟩
mutual
def jR : Co → Bool
 | .mk _ _ s t ks => kC ks && (gE s && gE t)
def kC : List Co → Bool
 | [] => true
 | c :: l => jR c && kC l
end
def S32 (c : Co) : Prop := ∀ us, Wf c → szC c ≤ 1048576 → Rd c us → RT 12 [xc us] [] = some (xb (jR c), [])
theorem l32 {ks : List Co} {cs : List TU} {g : Nat} {op n : Int} {s t : Nm} {K : Ex → StA → Prop} (H : ∀ c ∈ ks, S32 c) (hw : Wfs ks) (hz : x8 ks ≤ 1048576) (hr : Rds ks cs) : ∀ (l : List Co) (i : Nat), ks.drop i = l → i ≤ ks.length →
  (∀ jk j, kC l = true → K (.exit 0) ⟨[(3, xi j), (1, .box () ((qA op n s t (g + 1) ks.length cs).map .t)), (2, xb false)], jk, []⟩) →
  (∀ jk j, kC l = false → K .ret ⟨[(3, xi j), (1, .box () ((qA op n s t (g + 1) ks.length cs).map .t)), (2, xb false)], jk, []⟩) →
  ∀ jk, sem cx0 12 RT (.loop (lp Tryz.f12 0)) ⟨[(3, xi i), (1, .box () ((qA op n s t (g + 1) ks.length cs).map .t)), (2, xb false)], jk, []⟩ K := by
 have hk := pR hz
 refine qE ?_ ?_
 ·intro k1 k2 jk
  refine zO cx0 _ RT [3, 1, 2] ⟨fun h => (g7 h (by omega)).elim, fun h => ?_⟩
  exact fun jk => k1 jk _ rfl
 ·intro i c l hi hil ih k1 k2 jk
  have hm := List.mem_of_getElem? hi
  have hc := H c hm
  have hzc := bX hz hm
  have hwc := nV.1 hw c hm
  have e0 : kC (c :: l) = (jR c && kC l) := rfl
  cases c with
  | mk op' n' s' t' kk =>
  obtain ⟨g', cs', e1, e2⟩ := vK hr hi
  refine zO cx0 _ RT [3, 1, 2] ⟨fun h => ?_, fun h => (jO h (by omega)).elim⟩
  refine ⟨⟨by omega, by omega⟩, ?_⟩
  refine ⟨op', n', s', t', g' + 1, kk.length, cs', ⟨e1, rfl⟩, ?_⟩
  refine ⟨_, j6 (hc _ hwc hzc (show Rd _ (qA op' n' s' t' (g' + 2) kk.length (yD cs')) from ⟨_, _, rfl, e2.retag⟩)), ?_⟩
  refine ⟨fun h => ?_, fun h => ?_⟩
  ·have h : jR (.mk op' n' s' t' kk) = false := by simpa using h
   exact fun jk => k2 jk _ (by rw [e0, h]; rfl)
  ·have h : jR (.mk op' n' s' t' kk) = true := by simpa using h
   rw [e0, h, Bool.true_and] at k1 k2
   intro jk
   rw [kK hil (by simp only [maxLen]; omega)]
   exact ih k1 k2 jk
theorem ok32 : ∀ c : Co, S32 c := by
 refine Co.ind fun op n s t ks ih => ?_
 intro us hw hz hr
 obtain ⟨g, cs, rfl, hr⟩ := hr
 have hz' : x8 ks ≤ 1048576 := by simp only [szC] at hz; omega
 simp only [Wf] at hw
 refine xM (fn := Tryz.f12) rfl rfl rfl rfl ?_
 refine yU cx0 _ RT [3, 1, 2] fun jk => ?_
 have e0 : ∀ b, kC ks = b → jR (.mk op n s t ks) = (b && (gE s && gE t)) := fun b hb => by simp only [jR, hb]
 refine l32 (g := g) (op := op) (n := n) (s := s) (t := t) ih hw.2.2.2.2.2 hz' hr ks 0 rfl (by omega) (fun jk i h => ?_) (fun jk i h => ?_) jk
 ·rw [e0 _ h]
  refine ⟨_, j6 (zR7 hw.2.2.1), ?_⟩
  refine ⟨fun h1 => ?_, fun h1 => ?_⟩
  ·refine ⟨_, j6 (zR7 hw.2.2.2.1), ?_⟩
   exact ⟨by rw [h1]; rfl, rfl⟩
  ·exact ⟨by rw [h1]; rfl, rfl⟩
 ·exact ⟨by rw [e0 _ h]; rfl, rfl⟩
theorem l61 {s : Nm} {K : Ex → StA → Prop} (hk : s.length ≤ maxLen) : ∀ (r : Nm) (i : Nat), s.drop i = r → i ≤ s.length →
  (∀ jk j, r.all okB = true → K (.exit 0) ⟨[(3, xi j), (0, xs s), (2, xb false)], jk, []⟩) →
  (∀ jk j, r.all okB = false → K .ret ⟨[(3, xi j), (0, xs s), (2, xb false)], jk, []⟩) →
  ∀ jk, sem cx0 40 RT (.loop (lp Tryz.f40 0)) ⟨[(3, xi i), (0, xs s), (2, xb false)], jk, []⟩ K := by
 refine qE ?_ ?_
 ·intro k1 k2 jk
  refine zO cx0 _ RT [3, 0, 2] ⟨fun h => (g7 h (by omega)).elim, fun h => ?_⟩
  exact fun jk => k1 jk _ rfl
 ·intro i o r hi hil ih k1 k2 jk
  refine zO cx0 _ RT [3, 0, 2] ⟨fun h => ?_, fun h => (jO h (by omega)).elim⟩
  refine ⟨⟨by omega, by omega⟩, ?_⟩
  rw [gdb hi]
  have e1 : (o :: r).all okB = (okB o && r.all okB) := List.all_cons
  have e2 : okB o = ((decide ((o.toNat : Int) ≥ 97) && decide ((o.toNat : Int) ≤ 122)) || y7 o || kB.contains o) := rfl
  have nxt : okB o = true → ∀ jk, sem cx0 40 RT (.loop (lp Tryz.f40 0)) ⟨[(3, xi (IntKind.wrap .i64 ((i : Int) + 1))), (0, xs s), (2, xb false)], jk, []⟩ K := by
   intro h jk
   rw [e1, h, Bool.true_and] at k1 k2
   rw [kK hil hk]
   exact ih k1 k2 jk
  refine ⟨fun h => ?_, fun h => ?_⟩
  ·have e3 : (decide ((o.toNat : Int) ≥ 97) && decide ((o.toNat : Int) ≤ 122)) = false := by simp at h ⊢; omega
   refine ⟨_, j6 (zMy o), ?_⟩
   refine ⟨fun h1 => ?_, fun h1 => ?_⟩
   ·have h1 : y7 o = false := by simpa using h1
    refine ⟨_, ⟨_, ib81 o, rfl⟩, ?_⟩
    refine ⟨fun h2 => ?_, fun h2 => ?_⟩
    ·rw [zNb] at h2
     have h2 : kB.contains o = false := by simpa using h2
     exact fun jk => k2 jk _ (by rw [e1, e2, h1, h2, e3]; rfl)
    ·rw [zNb] at h2
     have h2 : kB.contains o = true := by simpa using h2
     exact nxt (by rw [e2, h2, Bool.or_true])
   ·have h1 : y7 o = true := by simpa using h1
    exact nxt (by rw [e2, h1, Bool.or_true, Bool.true_or])
  ·refine ⟨fun h0 => ?_, fun h0 => ?_⟩
   ·have e3 : (decide ((o.toNat : Int) ≥ 97) && decide ((o.toNat : Int) ≤ 122)) = false := by simp at h0 ⊢; omega
    refine ⟨_, j6 (zMy o), ?_⟩
    refine ⟨fun h1 => ?_, fun h1 => ?_⟩
    ·have h1 : y7 o = false := by simpa using h1
     refine ⟨_, ⟨_, ib81 o, rfl⟩, ?_⟩
     refine ⟨fun h2 => ?_, fun h2 => ?_⟩
     ·rw [zNb] at h2
      have h2 : kB.contains o = false := by simpa using h2
      exact fun jk => k2 jk _ (by rw [e1, e2, h1, h2, e3]; rfl)
     ·rw [zNb] at h2
      have h2 : kB.contains o = true := by simpa using h2
      exact nxt (by rw [e2, h2, Bool.or_true])
    ·have h1 : y7 o = true := by simpa using h1
     exact nxt (by rw [e2, h1, Bool.or_true, Bool.true_or])
   ·have e3 : (decide ((o.toNat : Int) ≥ 97) && decide ((o.toNat : Int) ≤ 122)) = true := by simp at h h0 ⊢; omega
    exact nxt (by rw [e2, e3, Bool.true_or, Bool.true_or])
theorem sym61 {s : Nm} (hk : s.length ≤ maxLen) : RT 40 [xs s] [] = some (xb (vJ s), []) := by
 refine xM (fn := Tryz.f40) rfl rfl rfl rfl ?_
 have e0 : ∀ a b c : Bool, (decide ((s.length : Int) ≥ 1) && decide ((s.length : Int) ≤ 12)) = a → y7 (s.getD 0 0) = b → (((s.getD 0 0).toNat : Int) == 45 && decide ((s.length : Int) > 1) && y7 (s.getD 1 0)) = c → vJ s = (s.all okB && a && !b && !c) := fun a b c ha hb hc => by simp only [vJ, ha, hb, hc]
 have fin : (decide ((s.length : Int) ≥ 1) && decide ((s.length : Int) ≤ 12)) = true → y7 (s.getD 0 0) = false → (((s.getD 0 0).toNat : Int) == 45 && decide ((s.length : Int) > 1) && y7 (s.getD 1 0)) = false → ∀ jk K,
   (∀ jk j, vJ s = true → K (.exit 0) ⟨[(3, xi j), (0, xs s), (2, xb false)], jk, []⟩) →
   (∀ jk j, vJ s = false → K .ret ⟨[(3, xi j), (0, xs s), (2, xb false)], jk, []⟩) →
   sem cx0 40 RT (.loop (lp Tryz.f40 0)) ⟨[(3, xi (0 : Nat)), (0, xs s), (2, xb false)], jk, []⟩ K := by
  intro ha hb hc jk K k1 k2
  rw [e0 _ _ _ ha hb hc] at k1 k2
  refine l61 hk s 0 rfl (by omega) (fun jk j h => k1 jk j (by rw [h]; rfl)) (fun jk j h => k2 jk j (by rw [h]; rfl)) jk
 refine ⟨_, j6 (in52 _ _ _), ?_⟩
 refine ⟨fun h => ?_, fun h => ?_⟩
 ·have h : (decide ((s.length : Int) ≥ 1) && decide ((s.length : Int) ≤ 12)) = false := by rw [← Bool.not_true, ← h, Bool.not_not]
  exact ⟨by rw [e0 _ _ _ h rfl rfl]; simp; rfl, rfl⟩
 have h : (decide ((s.length : Int) ≥ 1) && decide ((s.length : Int) ≤ 12)) = true := by simpa using h
 have hl : 1 ≤ s.length := by simp at h; omega
 refine ⟨⟨by omega, by omega⟩, ?_⟩
 refine ⟨_, j6 (zMy _), ?_⟩
 refine ⟨fun h1 => ?_, fun h1 => ?_⟩
 ·have h1 : y7 (s.getD 0 0) = true := h1
  exact ⟨by rw [e0 _ _ _ h h1 rfl]; simp; rfl, rfl⟩
 have h1 : y7 (s.getD 0 0) = false := h1
 refine ⟨⟨by omega, by omega⟩, ?_⟩
 refine ⟨fun h2 => ?_, fun h2 => ?_⟩
 ·have h2 : (((s.getD 0 0).toNat : Int) == 45) = true := h2
  refine ⟨fun h3 => ?_, fun h3 => ?_⟩
  ·refine ⟨⟨by omega, by simp at h3; omega⟩, ?_⟩
   refine ⟨_, j6 (zMy _), ?_⟩
   refine ⟨fun h4 => ?_, fun h4 => ?_⟩
   ·have h4 : y7 (s.getD 1 0) = true := h4
    exact ⟨by rw [e0 _ _ true h h1 (by rw [h2, h3, h4]; rfl)]; simp; rfl, rfl⟩
   ·have h4 : y7 (s.getD 1 0) = false := h4
    refine yU cx0 _ RT [3, 0, 2] fun jk => ?_
    refine fin h h1 (by rw [h2, h3, h4]; rfl) _ _ (fun jk j h => ?_) (fun jk j h => ?_)
    ·exact ⟨by rw [h]; rfl, rfl⟩
    ·exact ⟨by rw [h]; rfl, rfl⟩
  ·refine yU cx0 _ RT [3, 0, 2] fun jk => ?_
   refine fin h h1 (by rw [h2, h3]; rfl) _ _ (fun jk j h => ?_) (fun jk j h => ?_)
   ·exact ⟨by rw [h]; rfl, rfl⟩
   ·exact ⟨by rw [h]; rfl, rfl⟩
 ·have h2 : (((s.getD 0 0).toNat : Int) == 45) = false := h2
  refine yU cx0 _ RT [3, 0, 2] fun jk => ?_
  refine fin h h1 (by rw [h2]; rfl) _ _ (fun jk j h => ?_) (fun jk j h => ?_)
  ·exact ⟨by rw [h]; rfl, rfl⟩
  ·exact ⟨by rw [h]; rfl, rfl⟩
def S33 (c : Co) : Prop := ∀ us, Wf c → szC c ≤ 1048576 → Rd c us → RT 16 [xc us] [] = some (xb (jR c), [])
theorem cl63 {c : Co} (h : S33 c) {us : List TU} (hw : Wf c) (hz : szC c ≤ 1048576) (hr : Rd c us) : RT 42 [xc us] [] = some (xb (!jR c), []) := by
 cases c with
 | mk op n s t ks =>
 obtain ⟨g, cs, rfl, hr⟩ := hr
 refine xM (fn := Tryz.f42) rfl rfl rfl rfl ?_
 refine ⟨_, j6 (h (qA op n s t (g + 2) ks.length (yD cs)) hw hz ⟨_, _, rfl, hr.retag⟩), ?_⟩
 exact ⟨rfl, rfl⟩
abbrev zQa : XU := .c (.fn 42 [])
theorem l82 {ks : List Co} {cs : List TU} {g : Nat} {K : Ex → StA → Prop} (H : ∀ c ∈ ks, S33 c) (hw : Wfs ks) (hz : x8 ks ≤ 1048576) (hr : Rds ks cs) : ∀ (l : List Co) (i : Nat), ks.drop i = l → i ≤ ks.length →
  (∀ jk j, kC l = true → K (.exit 0) ⟨[(8, xi j), (7, xi ks.length), (0, xl (g + 1) 5 ks.length cs), (1, zQa), (4, xi 0)], jk, []⟩) →
  (∀ jk j v, kC l = false → 0 ≤ v → K .ret ⟨[(8, xi j), (7, xi ks.length), (0, xl (g + 1) 5 ks.length cs), (1, zQa), (4, xi v)], jk, []⟩) →
  ∀ jk, sem cx0 63 RT (.loop (lp Tryz.f63 0)) ⟨[(8, xi i), (7, xi ks.length), (0, xl (g + 1) 5 ks.length cs), (1, zQa), (4, xi 0)], jk, []⟩ K := by
 have hk := pR hz
 refine qE ?_ ?_
 ·intro k1 k2 jk
  refine zO cx0 _ RT [8, 7, 0, 1, 4] ⟨fun h => (g7 h (by omega)).elim, fun h => ?_⟩
  exact fun jk => k1 jk _ rfl
 ·intro i c l hi hil ih k1 k2 jk
  have hm := List.mem_of_getElem? hi
  have hc := H c hm
  have hzc := bX hz hm
  have hwc := nV.1 hw c hm
  have e0 : kC (c :: l) = (jR c && kC l) := rfl
  cases c with
  | mk op' n' s' t' kk =>
  obtain ⟨g', cs', e1, e2⟩ := vK hr hi
  refine zO cx0 _ RT [8, 7, 0, 1, 4] ⟨fun h => ?_, fun h => (jO h (by omega)).elim⟩
  refine ⟨⟨by omega, by omega⟩, ?_⟩
  refine ⟨op', n', s', t', g' + 1, kk.length, cs', ⟨e1, rfl⟩, ?_⟩
  refine ⟨_, _, ⟨_, cl63 hc hwc hzc (show Rd _ (qA op' n' s' t' (g' + 2) kk.length (yD cs')) from ⟨_, _, rfl, e2.retag⟩), rfl, rfl⟩, ?_⟩
  refine ⟨fun h => ?_, fun h => ?_⟩
  ·have h : jR (.mk op' n' s' t' kk) = false := by simpa using h
   exact fun jk => k2 jk _ _ (by rw [e0, h]; rfl) (by omega)
  ·have h : jR (.mk op' n' s' t' kk) = true := by simpa using h
   rw [e0, h, Bool.true_and] at k1 k2
   intro jk
   rw [kK hil (by simp only [maxLen]; omega)]
   exact ih k1 k2 jk
theorem idx82 {ks : List Co} {cs : List TU} {g : Nat} (H : ∀ c ∈ ks, S33 c) (hw : Wfs ks) (hz : x8 ks ≤ 1048576) (hr : Rds ks cs) : ∃ v : Int, decide (v ≥ 0) = !kC ks ∧ RT 63 [xl (g + 1) 5 ks.length cs, zQa] [] = some (xi v, []) := by
 have : ∃ y, (∃ v : Int, decide (v ≥ 0) = !kC ks ∧ y = xi v) ∧ RT 63 [xl (g + 1) 5 ks.length cs, zQa] [] = some (y, []) := by
  refine zRk (fn := Tryz.f63) rfl rfl rfl rfl ?_
  refine yU cx0 _ RT [8, 7, 0, 1, 4] fun jk => ?_
  refine l82 (g := g) H hw hz hr ks 0 rfl (by omega) (fun jk i h => ?_) (fun jk i v h h0 => ?_) jk
  ·exact ⟨⟨-1, by rw [h]; rfl, rfl⟩, rfl⟩
  ·exact ⟨⟨v, by rw [h]; simpa using h0, rfl⟩, rfl⟩
 obtain ⟨y, ⟨v, h1, rfl⟩, h2⟩ := this
 exact ⟨v, h1, h2⟩
theorem con62 {ks : List Co} {cs : List TU} {g : Nat} (H : ∀ c ∈ ks, S33 c) (hw : Wfs ks) (hz : x8 ks ≤ 1048576) (hr : Rds ks cs) : RT 41 [xl (g + 1) 5 ks.length cs, zQa] [] = some (xb (!kC ks), []) := by
 refine xM (fn := Tryz.f41) rfl rfl rfl rfl ?_
 obtain ⟨v, h1, h2⟩ := idx82 (g := g + 1) H hw hz hr.retag
 refine ⟨_, _, ⟨_, h2, rfl, rfl⟩, ?_⟩
 exact ⟨by rw [← h1]; rfl, rfl⟩
theorem l33 {s : Nm} {i : Nat} {names : List Nm} {K : Ex → StA → Prop} (hi : names[i]? = some s) (hl : names.length = 2) (hk : s.length ≤ maxLen) {op n : Int} {s0 t0 : Nm} {ks : List Co} {cs : List TU} {g : Nat}
  (k1 : gE s = true → ∀ jk, sem cx0 16 RT (.loop (lp Tryz.f16 0)) ⟨[(11, xi ((i + 1 : Nat) : Int)), (10, xi 2), (9, xl 0 1 2 (nm names)), (1, .box () ((qA op n s0 t0 (g + 1) ks.length cs).map .t)), (2, xb false)], jk, []⟩ K)
  (k2 : gE s = false → ∀ jk j, K .ret ⟨[(11, xi j), (10, xi 2), (9, xl 0 1 2 (nm names)), (1, .box () ((qA op n s0 t0 (g + 1) ks.length cs).map .t)), (2, xb false)], jk, []⟩) :
  ∀ jk, sem cx0 16 RT (.loop (lp Tryz.f16 0)) ⟨[(11, xi i), (10, xi 2), (9, xl 0 1 2 (nm names)), (1, .box () ((qA op n s0 t0 (g + 1) ks.length cs).map .t)), (2, xb false)], jk, []⟩ K := by
 intro jk
 have hil : i < 2 := by have := (List.getElem?_eq_some_iff.1 hi).1; omega
 refine zO cx0 _ RT [11, 10, 9, 1, 2] ⟨fun h => ?_, fun h => (jO h (by omega)).elim⟩
 refine ⟨⟨by omega, by omega⟩, ?_⟩
 refine ⟨s, ?_⟩
 refine ⟨⟨by show (List.drop (0 + i * 1) (nm names)).take 1 = _; rw [Nat.zero_add]; exact zD5 hi, rfl⟩, ?_⟩
 have nxt : gE s = true → ∀ jk, sem cx0 16 RT (.loop (lp Tryz.f16 0)) ⟨[(11, xi (IntKind.wrap .i64 ((i : Int) + 1))), (10, xi 2), (9, xl 0 1 2 (nm names)), (1, .box () ((qA op n s0 t0 (g + 1) ks.length cs).map .t)), (2, xb false)], jk, []⟩ K := by
  intro h jk
  rw [kK hil (by decide)]
  exact k1 h jk
 refine ⟨fun h1 => ?_, fun h1 => ?_⟩
 ·have h1 : (s == []) = false := by rw [← Bool.not_true, ← h1]; simp [bne]
  refine ⟨_, j6 (sym61 hk), ?_⟩
  refine ⟨fun h2 => ?_, fun h2 => ?_⟩
  ·have h2 : vJ s = false := by simpa using h2
   exact fun jk => k2 (by simp only [gE, h1, h2]; rfl) jk _
  ·have h2 : vJ s = true := by simpa using h2
   refine ⟨fun h3 => ?_, fun h3 => ?_⟩
   ·exact fun jk => k2 (by simp only [gE, h1, h2, h3]; rfl) jk _
   ·refine ⟨fun h4 => ?_, fun h4 => ?_⟩
    ·exact fun jk => k2 (by simp only [gE, h1, h2, h3, h4]; rfl) jk _
    ·exact nxt (by simp only [gE, h1, h2, h3, h4]; rfl)
 ·have h1 : (s == []) = true := by rw [← Bool.not_false, ← h1]; simp [bne]
  exact nxt (by simp only [gE, h1]; rfl)
theorem ok33 : ∀ c : Co, S33 c := by
 refine Co.ind fun op n s t ks ih => ?_
 intro us hw hz hr
 obtain ⟨g, cs, rfl, hr⟩ := hr
 have hz' : x8 ks ≤ 1048576 := by simp only [szC] at hz; omega
 simp only [Wf] at hw
 refine xM (fn := Tryz.f16) rfl rfl rfl rfl ?_
 refine yU cx0 _ RT [11, 10, 9, 1, 2] fun jk => ?_
 have e0 : jR (.mk op n s t ks) = (kC ks && (gE s && gE t)) := rfl
 rw [e0]
 refine l33 (i := 0) (names := [s, t]) (s := s) (op := op) (n := n) (s0 := s) (t0 := t) (g := g) (ks := ks) (cs := cs) rfl rfl hw.2.2.1 (fun h1 jk => ?_) (fun h1 jk j => ?_) jk
 ·refine l33 (i := 1) (names := [s, t]) (s := t) (op := op) (n := n) (s0 := s) (t0 := t) (g := g) (ks := ks) (cs := cs) rfl rfl hw.2.2.2.1 (fun h2 jk => ?_) (fun h2 jk j => ?_) jk
  ·refine zO cx0 _ RT [11, 10, 9, 1, 2] ⟨fun h => absurd h (by decide), fun h => ?_⟩
   intro jk
   refine ⟨_, _, ⟨_, con62 (g := g + 1) ih hw.2.2.2.2.2 hz' hr.retag, rfl, rfl⟩, ?_⟩
   exact ⟨by rw [h1, h2]; simp; rfl, rfl⟩
  ·exact ⟨by rw [h1, h2]; simp; rfl, rfl⟩
 ·exact ⟨by rw [h1]; simp; rfl, rfl⟩
end Go.Proofs.YtlkjnlfddadlmaaGreatDoor.V
