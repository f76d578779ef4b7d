/-
  The law FnExactCoreRead holds for every input: the call returns true, and the input reads as it did. No conditions but the tables that the row lists, which are tied.
-/
import Derived.Test.YtlkjnlfddadlmaaGreatDoorMPCoreReadd
import Derived.Test.YtlkjnlfddadlmaaGreatDoorMPCoreReadb
import Derived.Test.YtlkjnlfddadlmaaGreatDoorRows
import Derived.Test.YtlkjnlfddadlmaaGreatDoorCards
import Derived.Test.YtlkjnlfddadlmaaGreatDoorTie
import Derived.WalkKit
import Derived.ProofKit
import Derived.OpenShut
import Derived.ChangeOld
import Derived.Below
import Derived.LaidMore
import Derived.Stop.Joined
import Derived.Stop.LaidErr
import Derived.Lib.LaidTab
import Derived.SevenTiedAt
import Derived.Lib.AtoiErrMem
set_option linter.unusedVariables false
set_option linter.unusedSimpArgs false
namespace Go.Proofs.YtlkjnlfddadlmaaGreatDoor.V
set_option maxRecDepth 100000
theorem zJ5 : Wf zCo := ⟨by omega, by omega, by simp [maxLen], by simp [maxLen], by simp [maxLen], trivial⟩
theorem zEz (c : Co) (l : List Co) : x8 (c :: l) = 1 + szC c + x8 l := rfl
theorem zG5 : ∀ (d : Nat) (st : StI), st.1.length ≤ 1048576 → szC (xE d st).1 + 3 * (xE d st).2.1.length ≤ 3 * st.1.length ∧ Wf (xE d st).1
 | 0, st, h => ⟨by simp only [xE, zCo, szC, x8, List.length_nil]; omega, zJ5⟩
 | d + 1, st, h => by
  have ihd := zG5 d
  have hk : ∀ (k : Nat) (st : StI), st.1.length ≤ 1048576 → x8 (jD (xE d) k st).1 + 3 * (jD (xE d) k st).2.1.length ≤ 3 * st.1.length + k ∧ Wfs (jD (xE d) k st).1 ∧ (jD (xE d) k st).1.length = k := by
   intro k
   induction k with
   | zero => intro st _; exact ⟨by simp [jD, x8], trivial, rfl⟩
   | succ k ih =>
    intro st hst
    have t0 := jX [32] st
    obtain ⟨c1, c2⟩ := ihd (tkI [32] st) (by omega)
    have c3 := aP d (tkI [32] st)
    obtain ⟨i1, i2, i3⟩ := ih (xE d (tkI [32] st)).2 (by omega)
    simp only [jD]
    exact ⟨by rw [zEz]; omega, ⟨c2, i2⟩, by simp [i3]⟩
  have hn : ∀ (b : Bool) (st : StI), (nmI b st).1.length + (nmI b st).2.1.length ≤ st.1.length := by
   intro b st
   unfold nmI
   split
   ·have h1 := wT (tkI [32] st)
    have h2 := jX [32] st
    omega
   ·simp
  simp only [xE]
  split
  ·exact ⟨by simp only [zCo, szC, x8, List.length_nil]; omega, zJ5⟩
  ·next hne =>
   split
   ·have hw := wT st
    have key : ∀ w : Nm, w.length ≤ 1048576 → szC (nB w) ≤ w.length ∧ Wf (nB w) := by
     intro w hl
     have k2 : szC (.mk 2 0 w [] []) ≤ w.length ∧ Wf (.mk 2 0 w [] []) := ⟨by simp [szC, x8], by omega, by omega, by simp only [maxLen]; omega, by simp [maxLen], by simp [maxLen], trivial⟩
     unfold nB
     split
     ·next n hr =>
      split
      ·obtain ⟨b0, b1⟩ := Lib.atoiAll_bounds hr
       exact ⟨by simp [szC, x8], by omega, by omega, by simp [maxLen], by simp [maxLen], by simp [maxLen], trivial⟩
      ·exact k2
     ·exact k2
    obtain ⟨k1, k2⟩ := key (wdI st).1 (by omega)
    exact ⟨by show szC (nB (wdI st).1) + 3 * (wdI st).2.1.length ≤ _; omega, k2⟩
   ·next h40 =>
    have hst : ∃ l b, st = (40 :: l, b) := by
     obtain ⟨s, b⟩ := st
     cases s with
     | nil => exact absurd (.inr rfl) hne
     | cons x l =>
      have : x = 40 := by simpa using h40
      exact ⟨l, b, by rw [this]⟩
    obtain ⟨l, b, rfl⟩ := hst
    rw [sI]
    simp only [List.length_cons] at h ⊢
    unfold zDa
    split
    ·have := jX [41] (l, b)
     dsimp only at this
     exact ⟨by show szC (.mk 13 0 [] [] []) + 3 * (tkI [41] (l, b)).1.length ≤ _; simp only [szC, x8, List.length_nil]; omega, by omega, by omega, by simp [maxLen], by simp [maxLen], by simp [maxLen], trivial⟩
    ·have hw := wT (l, b)
     dsimp only at hw
     have ho := zFx 16 3 (wdI (l, b)).1 (by omega) (by omega)
     split
     ·exact ⟨by show szC zCo + 3 * (wdI (l, b)).2.1.length ≤ _; simp only [zCo, szC, x8, List.length_nil]; omega, zJ5⟩
     ·next h18 =>
      have e16 : opI (wdI (l, b)).1 = bS 16 3 (wdI (l, b)).1 := rfl
      rw [e16] at h18 ⊢
      obtain ⟨a, ha, ha3⟩ := zQp ho.1 (by omega)
      dsimp only
      rw [ha, Int.toNat_natCast]
      have n1 := hn (bS 16 3 (wdI (l, b)).1 == 3 || bS 16 3 (wdI (l, b)).1 == 5 || bS 16 3 (wdI (l, b)).1 == 6) (wdI (l, b)).2
      generalize nmI (bS 16 3 (wdI (l, b)).1 == 3 || bS 16 3 (wdI (l, b)).1 == 5 || bS 16 3 (wdI (l, b)).1 == 6) (wdI (l, b)).2 = A at n1 ⊢
      have n2 := hn (bS 16 3 (wdI (l, b)).1 == 6) A.2
      generalize nmI (bS 16 3 (wdI (l, b)).1 == 6) A.2 = B at n2 ⊢
      obtain ⟨i1, i2, i3⟩ := hk a B.2 (by omega)
      generalize jD (xE d) a B.2 = R at i1 i2 i3 ⊢
      have t1 := jX [41] R.2
      refine ⟨?_, by omega, by omega, by simp only [maxLen]; omega, by simp only [maxLen]; omega, by simp only [maxLen]; omega, i2⟩
      show szC (.mk _ 0 A.1 B.1 R.1) + 3 * (tkI [41] R.2).1.length ≤ _
      simp only [szC]
      omega
def wl : List Nm → Nat
 | [] => 0
 | w :: l => w.length + wl l
theorem zMa : ∀ a b : List Nm, wl (a ++ b) = wl a + wl b
 | [], b => by simp [wl]
 | w :: a, b => by simp only [List.cons_append, wl, zMa a b]; omega
theorem zTu (s : Nm) : wl (one s) = s.length := by
 unfold one; split
 ·next h => subst h; rfl
 ·simp [wl]
theorem zOq : ∀ (l cur : Nm), wl (wdL cur l) ≤ cur.length + l.length
 | [], cur => by simp only [wdL, zTu, List.length_nil]; omega
 | b :: l, cur => by
  simp only [wdL]
  split
  ·have h1 := zOq l []
   rw [zMa, zMa, zTu]
   simp only [List.length_cons, List.length_nil] at h1 ⊢
   split
   ·simp only [wl]; omega
   ·simp only [wl, List.length_cons, List.length_nil]; omega
  ·have h1 := zOq l (cur ++ [b])
   simp only [List.length_append, List.length_cons, List.length_nil] at h1 ⊢
   omega
theorem zGr : ∀ (l cur : Nm), (wdL cur l).length ≤ 2 * l.length + 1
 | [], cur => by simp only [wdL, one]; split <;> simp
 | b :: l, cur => by
  have ho : (one cur).length ≤ 1 := by unfold one; split <;> simp
  simp only [wdL]
  split
  ·have h1 := zGr l []
   simp only [List.length_append, List.length_cons]
   split
   ·simp; omega
   ·simp; omega
  ·have h1 := zGr l (cur ++ [b])
   simp only [List.length_cons]; omega
theorem zId (st : StS) : (nxS st).1.length + wl (nxS st).2.1 = wl st.1 := by
 obtain ⟨l, ok⟩ := st
 cases l with
 | nil => rfl
 | cons w r => rfl
theorem zAa : ∀ (d : Nat) (st : StS), wl st.1 ≤ 1048576 → szC (xB d st).1 + 3 * wl (xB d st).2.1 ≤ 3 * wl st.1 ∧ Wf (xB d st).1
 | 0, st, h => ⟨by have := zId st; show szC zCo + 3 * wl (nxS st).2.1 ≤ _; simp only [zCo, szC, x8, List.length_nil]; omega, zJ5⟩
 | d + 1, st, h => by
  have ihd := zAa d
  have hk : ∀ (k : Nat) (st : StS), wl st.1 ≤ 1048576 → x8 (qN (xB d) k st).1 + 3 * wl (qN (xB d) k st).2.1 ≤ 3 * wl st.1 + k ∧ Wfs (qN (xB d) k st).1 ∧ (qN (xB d) k st).1.length ≤ k := by
   intro k
   induction k with
   | zero => intro st _; exact ⟨by simp [qN, x8], trivial, by simp [qN]⟩
   | succ k ih =>
    intro st hst
    simp only [qN]
    split
    ·exact ⟨by simp only [x8]; omega, trivial, by simp⟩
    ·obtain ⟨c1, c2⟩ := ihd st hst
     obtain ⟨i1, i2, i3⟩ := ih (xB d st).2 (by omega)
     exact ⟨by rw [zEz]; dsimp only; omega, ⟨c2, i2⟩, by simp only [List.length_cons]; omega⟩
  have hn : ∀ (b : Bool) (st : StS), (nmS b st).1.length + wl (nmS b st).2.1 ≤ wl st.1 := by
   intro b st
   unfold nmS
   split
   ·have := zId st; omega
   ·simp
  have hx := zId st
  simp only [xB]
  split
  ·exact ⟨by show szC zCo + 3 * wl (nxS st).2.1 ≤ _; simp only [zCo, szC, x8, List.length_nil]; omega, zJ5⟩
  ·split
   ·split
    ·next hnum =>
     have hb := zUx hnum
     exact ⟨by show szC (.mk 1 _ [] [] []) + 3 * wl (nxS st).2.1 ≤ _; simp only [szC, x8, List.length_nil]; omega, by omega, by omega, by simp [maxLen], by simp [maxLen], by simp [maxLen], trivial⟩
    ·exact ⟨by show szC (.mk 2 0 (nxS st).1 [] []) + 3 * wl (nxS st).2.1 ≤ _; simp only [szC, x8, List.length_nil]; omega, by omega, by omega, by simp only [maxLen]; omega, by simp [maxLen], by simp [maxLen], trivial⟩
   ·next h40 =>
    have h40 : (nxS st).1 = [40] := by simpa using h40
    rw [h40] at hx
    simp only [List.length_cons, List.length_nil] at hx
    have hx2 := zId (nxS st).2
    unfold zDb
    split
    ·exact ⟨by show szC (.mk 13 0 [] [] []) + 3 * wl (nxS (nxS st).2).2.1 ≤ _; simp only [szC, x8, List.length_nil]; omega, by omega, by omega, by simp [maxLen], by simp [maxLen], by simp [maxLen], trivial⟩
    ·split
     ·exact ⟨by show szC zCo + 3 * wl (nxS (nxS st).2).2.1 ≤ _; simp only [zCo, szC, x8, List.length_nil]; omega, zJ5⟩
     ·next h0 =>
      obtain ⟨a, ha, ha3⟩ := zQq h0
      have hop : -100 ≤ opS (nxS (nxS st).2).1 ∧ opS (nxS (nxS st).2).1 ≤ 100 := by
       have hm : opS (nxS (nxS st).2).1 ∈ cK := (zFw zFy cK _).resolve_left h0
       have key : ∀ o ∈ cK, -100 ≤ o ∧ o ≤ 100 := by decide
       exact key _ hm
      dsimp only
      rw [ha, Int.toNat_natCast]
      generalize opS (nxS (nxS st).2).1 = o at hop ⊢
      have n1 := hn (gD o) (nxS (nxS st).2).2
      generalize nmS (gD o) (nxS (nxS st).2).2 = A at n1 ⊢
      have n2 := hn (o == 6) A.2
      generalize nmS (o == 6) A.2 = B at n2 ⊢
      obtain ⟨i1, i2, i3⟩ := hk a B.2 (by omega)
      generalize qN (xB d) a B.2 = R at i1 i2 i3 ⊢
      have t1 := zId R.2
      refine ⟨?_, by omega, by omega, by simp only [maxLen]; omega, by simp only [maxLen]; omega, by simp only [maxLen]; omega, i2⟩
      show szC (.mk _ 0 A.1 B.1 R.1) + 3 * wl (nxS R.2).2.1 ≤ _
      simp only [szC]
      omega
end Go.Proofs.YtlkjnlfddadlmaaGreatDoor.V
namespace Go.Proofs.YtlkjnlfddadlmaaGreatDoor.V
set_option maxRecDepth 100000
theorem retWs {g : Nat} {a : List XU} {n : Nat} {l : List Nm} (h : RT g a [] = some (xl 0 1 n (nm l), [])) : Ret RT g a (xl 0 1 n (nm l)) := ⟨_, h, by simp only [kZ, qU, down, pE, Option.map_some]; rfl⟩
abbrev rsX (r : Co × Bool) : XU := .tup [xc (enc r.1), xb r.2]
set_option maxHeartbeats 8000000 in
theorem rd_s {s : Nm} (hk : s.length ≤ 1048576) : RT 4 [xs s] [] = some (rsX (zI3 s), []) := by
 refine xM (fn := Tryz.f4) rfl rfl rfl rfl ?_
 unfold zI3
 refine ⟨fun h1 => ?_, fun h1 => ?_⟩
 ·have h1 := of_decide_eq_true h1
  rw [if_pos (by omega)]
  refine ⟨inV [], ?_⟩
  exact ⟨rfl, rfl⟩
 have h1 := of_decide_eq_false h1
 rw [if_neg (by omega)]
 have hwl := zOq s []
 have hwn := zGr s []
 simp only [List.length_nil] at hwl
 refine ⟨_, retWs (zVi hk), ?_⟩
 obtain ⟨b1, b2⟩ := zAa 151 (wdL [] s, true) (by show wl (wdL [] s) ≤ _; omega)
 have hsu := sY 151 (wdL [] s, true)
 generalize wdL [] s = ws at hwl hwn b1 b2 hsu ⊢
 have hc := zWf 151 (by omega) ws ws true (List.suffix_refl _) (by omega)
 dsimp only at b1 hsu ⊢
 generalize xB 151 (ws, true) = R at hc b1 b2 hsu ⊢
 obtain ⟨⟨ro, rn, rs, rt, rk⟩, r, ok⟩ := R
 dsimp only at hc b1 b2 hsu ⊢
 have hl := hsu.length_le
 have e0 : cuR ws ws true = ([.t (.sl () 0 1 ws.length (ups (nm ws))), .t (.int .i64 0), .t (.bool true)] : List CU) := by
  rw [m9]
  show ([.t (.sl () 0 1 ws.length (nm ws)), .t (.int .i64 ((ws.length - ws.length : Nat) : Int)), .t (.bool true)] : List CU) = _
  rw [Nat.sub_self]; rfl
 rw [e0] at hc
 refine ⟨_, _, zVy hc, ?_⟩
 have hz : szC (.mk ro rn rs rt rk) ≤ 1048576 := by omega
 refine ⟨fun e1 => ?_, fun e1 => ?_⟩
 ·have e1 : ok = false := by simpa using e1
  rw [if_neg (fun h => by rw [e1] at h; cases h.1)]
  refine ⟨inV [], ?_⟩
  exact ⟨rfl, rfl⟩
 have e1 : ok = true := by simpa using e1
 refine ⟨fun e2 => ?_, fun e2 => ?_⟩
 ·have e2 : r ≠ [] := fun e => by
   subst e
   simp at e2
  rw [if_neg (fun h => e2 h.2.1)]
  refine ⟨inV [], ?_⟩
  exact ⟨rfl, rfl⟩
 have e2 : r = [] := by
  have e2 : ((ws.length - r.length : Nat) : Int) = (ws.length : Int) := by simpa using e2
  exact List.eq_nil_of_length_eq_zero (by omega)
 refine ⟨inV rk, ?_⟩
 refine ⟨_, j6 (ok_s hz (rdV ro rn rs rt rk)), ?_⟩
 refine ⟨fun e3 => ?_, fun e3 => ?_⟩
 ·have e3 : dM (.mk ro rn rs rt rk) = false := by simpa using e3
  rw [if_neg (fun h => by rw [e3] at h; cases h.2.2.1)]
  refine ⟨inV [], ?_⟩
  exact ⟨rfl, rfl⟩
 have e3 : dM (.mk ro rn rs rt rk) = true := by simpa using e3
 refine ⟨inV rk, ?_⟩
 refine ⟨_, j6 (ok32 _ _ b2 hz (rdV ro rn rs rt rk)), ?_⟩
 refine ⟨fun e4 => ?_, fun e4 => ?_⟩
 ·have e4 : jR (.mk ro rn rs rt rk) = false := by simpa using e4
  rw [if_neg (fun h => by rw [e4] at h; cases h.2.2.2.1)]
  refine ⟨inV [], ?_⟩
  exact ⟨rfl, rfl⟩
 have e4 : jR (.mk ro rn rs rt rk) = true := by simpa using e4
 obtain ⟨g1, g2⟩ := zNw e3 e4
 have g3 : ndC (.mk ro rn rs rt rk) ≤ 3000 := by simp only [dM, Bool.and_eq_true, decide_eq_true_eq] at e3; exact e3.1.1
 refine ⟨inV rk, ?_⟩
 refine ⟨_, zC3 (zXq _ _ g1 g3 (rdV ro rn rs rt rk)), ?_⟩
 refine ⟨fun e5 => ?_, fun e5 => ?_⟩
 ·have e5 : txt (.mk ro rn rs rt rk) ≠ s := by simpa using e5
  rw [if_neg (fun h => e5 h.2.2.2.2)]
  refine ⟨inV [], ?_⟩
  exact ⟨rfl, rfl⟩
 have e5 : txt (.mk ro rn rs rt rk) = s := by simpa using e5
 rw [if_pos ⟨e1, e2, e3, e4, e5⟩]
 refine ⟨inV rk, ?_⟩
 exact ⟨by rw [xK]; rfl, rfl⟩
set_option maxHeartbeats 8000000 in
theorem rd_i {s : Nm} (hk : s.length ≤ 1048576) : RT 5 [xs s] [] = some (rsX (resI s), []) := by
 refine xM (fn := Tryz.f5) rfl rfl rfl rfl ?_
 unfold resI
 refine ⟨fun h1 => ?_, fun h1 => ?_⟩
 ·have h1 := of_decide_eq_true h1
  rw [if_pos (by omega)]
  refine ⟨inV [], ?_⟩
  exact ⟨rfl, rfl⟩
 have h1 := of_decide_eq_false h1
 rw [if_neg (by omega)]
 obtain ⟨b1, b2⟩ := zG5 150 (s, false) hk
 have hc := zWe 150 (by omega) s false 1 (by omega) hk
 dsimp only at b1 ⊢
 have hs60 : s.length ≤ 60000 := by omega
 generalize xE 150 (s, false) = R at hc b1 b2 ⊢
 obtain ⟨⟨ro, rn, rs, rt, rk⟩, r, bad⟩ := R
 dsimp only at hc b1 b2 ⊢
 refine ⟨_, _, zVx hc, ?_⟩
 have hz : szC (.mk ro rn rs rt rk) ≤ 1048576 := by omega
 refine ⟨fun e1 => ?_, fun e1 => ?_⟩
 ·have e1 : bad = true := e1
  rw [if_neg (fun h => by rw [e1] at h; cases h.1)]
  refine ⟨inV [], ?_⟩
  exact ⟨rfl, rfl⟩
 have e1 : bad = false := e1
 refine ⟨fun e2 => ?_, fun e2 => ?_⟩
 ·have e2 : r ≠ [] := by simpa using e2
  rw [if_neg (fun h => e2 h.2.1)]
  refine ⟨inV [], ?_⟩
  exact ⟨rfl, rfl⟩
 have e2 : r = [] := by simpa using e2
 refine ⟨inV rk, ?_⟩
 refine ⟨_, j6 (ok_i hz (rdV ro rn rs rt rk)), ?_⟩
 refine ⟨fun e3 => ?_, fun e3 => ?_⟩
 ·have e3 : dM (.mk ro rn rs rt rk) = false := by simpa using e3
  rw [if_neg (fun h => by rw [e3] at h; cases h.2.2.1)]
  refine ⟨inV [], ?_⟩
  exact ⟨rfl, rfl⟩
 have e3 : dM (.mk ro rn rs rt rk) = true := by simpa using e3
 refine ⟨inV rk, ?_⟩
 refine ⟨_, j6 (ok33 _ _ b2 hz (rdV ro rn rs rt rk)), ?_⟩
 refine ⟨fun e4 => ?_, fun e4 => ?_⟩
 ·have e4 : jR (.mk ro rn rs rt rk) = false := by simpa using e4
  rw [if_neg (fun h => by rw [e4] at h; cases h.2.2.2.1)]
  refine ⟨inV [], ?_⟩
  exact ⟨rfl, rfl⟩
 have e4 : jR (.mk ro rn rs rt rk) = true := by simpa using e4
 obtain ⟨g1, g2⟩ := zNw e3 e4
 have g3 : ndC (.mk ro rn rs rt rk) ≤ 3000 := by simp only [dM, Bool.and_eq_true, decide_eq_true_eq] at e3; exact e3.1.1
 refine ⟨inV rk, ?_⟩
 refine ⟨_, zC3 (zXp _ _ g1 g3 (rdV ro rn rs rt rk)), ?_⟩
 refine ⟨fun e5 => ?_, fun e5 => ?_⟩
 ·have e5 : txt (.mk ro rn rs rt rk) ≠ s := by simpa using e5
  rw [if_neg (fun h => e5 h.2.2.2.2)]
  refine ⟨inV [], ?_⟩
  exact ⟨rfl, rfl⟩
 have e5 : txt (.mk ro rn rs rt rk) = s := by simpa using e5
 rw [if_pos ⟨e1, e2, e3, e4, e5⟩]
 refine ⟨inV rk, ?_⟩
 exact ⟨by rw [xK]; rfl, rfl⟩
end Go.Proofs.YtlkjnlfddadlmaaGreatDoor.V
namespace Go.Proofs.YtlkjnlfddadlmaaGreatDoor.V
set_option maxRecDepth 100000
theorem zXc {s : Nm} (hk : s.length ≤ 1048576) : Wf (zI3 s).1 ∧ szC (zI3 s).1 ≤ 4194304 := by
 unfold zI3
 split
 ·exact ⟨zJ5, by simp [zCo, szC, x8]⟩
 ·next h =>
  have hwl := zOq s []
  simp only [List.length_nil] at hwl
  obtain ⟨b1, b2⟩ := zAa 151 (wdL [] s, true) (by show wl (wdL [] s) ≤ _; omega)
  simp only
  split
  ·exact ⟨b2, by show szC (xB 151 (wdL [] s, true)).1 ≤ _; dsimp only at b1; omega⟩
  ·exact ⟨zJ5, by simp [zCo, szC, x8]⟩
theorem zSt {g : Nat} {a : List XU} {op n : Int} {s t : Nm} {ks : List Co} {b : Bool} (h : RT g a [] = some (rsX (.mk op n s t ks, b), [])) :
  Ret RT g a (.tup [.agg [.t (.int .i64 op), .t (.int .i64 n), .t (.str s), .t (.str t), .t (.sl () 0 5 ks.length (xO ks))], xb b]) := ⟨_, h, by
 simp only [rsX, kZ, mV, qU, down, xc, enc, qA, List.map_cons, List.map_nil, xQ, n7, Option.map_some, Option.bind_some]
 rfl⟩
set_option maxHeartbeats 8000000 in
theorem lawCoreRead {s : Nm} : RT 3 [xs s] [] = some (xb true, []) := by
 refine xM (fn := Tryz.f3) rfl rfl rfl rfl ?_
 refine ⟨fun h => ⟨rfl, rfl⟩, fun h => ?_⟩
 have hk : s.length ≤ 1048576 := by have h := of_decide_eq_false h; omega
 have ps := rd_s hk
 have pi := rd_i hk
 obtain ⟨hpw, hpz⟩ := zXc hk
 rw [← zXd] at pi
 generalize zI3 s = P at ps pi hpw hpz
 obtain ⟨⟨po, pn, p3, p4, pk⟩, ok⟩ := P
 have hpk : Wfs pk := by simp only [Wf] at hpw; exact hpw.2.2.2.2.2
 have hpl : pk.length ≤ maxLen := by simp only [Wf] at hpw; exact hpw.2.2.2.2.1
 have hsm := zGi pk
 simp only [szC] at hpz
 refine ⟨_, zSt ps, ?_⟩
 refine ⟨inV pk, ?_⟩
 rw [xK]
 refine ⟨_, zSt pi, ?_⟩
 refine ⟨inV pk, ?_⟩
 rw [xK]
 refine ⟨inV pk, ?_⟩
 refine ⟨inV pk, ?_⟩
 refine ⟨_, j6 (eq23 _ _ _ hpw (rdV po pn p3 p4 pk) (rdV po pn p3 p4 pk)), ?_⟩
 refine ⟨(fun h => by cases h), fun _ => ?_⟩
 refine ⟨(fun h => by simp at h), fun _ => ?_⟩
 refine ⟨_, _, retM (by rw [mX]; exact zWy hpk (by omega) (by omega) hpl), ?_⟩
 refine ⟨inM pk 1, ?_⟩
 refine ⟨_, uH (zRs hpk (by omega) (by omega) hpl (rdM po pn p3 p4 pk 1)), ?_⟩
 refine ⟨fun h => (by simp at h; omega), fun _ => ?_⟩
 refine ⟨fun h => by simp at h, fun _ => ?_⟩
 refine ⟨_, zSt pi, ?_⟩
 refine ⟨inV pk, ?_⟩
 rw [xK]
 refine ⟨inV pk, ?_⟩
 refine ⟨inV pk, ?_⟩
 refine ⟨_, j6 (eq23 _ _ _ hpw (rdV po pn p3 p4 pk) (rdV po pn p3 p4 pk)), ?_⟩
 refine ⟨(fun h => by cases h), fun _ => ?_⟩
 refine ⟨(fun h => by simp at h), fun _ => ?_⟩
 refine ⟨inM pk 1, ?_⟩
 refine ⟨_, uH (zRs hpk (by omega) (by omega) hpl (rdM po pn p3 p4 pk 1)), ?_⟩
 refine ⟨fun h => (by simp at h; omega), fun _ => ?_⟩
 refine ⟨fun h => by simp at h, fun _ => ?_⟩
 exact ⟨rfl, rfl⟩
end Go.Proofs.YtlkjnlfddadlmaaGreatDoor.V
namespace Go.Proofs.YtlkjnlfddadlmaaGreatDoor.fnExactCoreRead
open Go.ChangeShapes Go.WideShapes Go.ChangeAt Go.RowKit
set_option linter.unusedVariables false
set_option maxRecDepth 100000
theorem own : ownKnob Tryz.prog.godebug = none := by kernel_rfl
theorem zUr : laidOutB Tryz.prog = true := by kernel_rfl
def G : List Nat := [9]
theorem hG : V.plainTys Tryz.prog G = true := by kernel_rfl
theorem star : "*" ++ "errors.errorString" = "*errors.errorString" := by decide
theorem zOa (u : TypeId) (h : Tryz.prog.typeName? 3 u = some "*errors.errorString") : u = 111 :=
 typeName_ptr_named (nm := "errors.errorString") (by rw [star]; kernel_rfl) (by kernel_rfl) (by decide) u (by rw [star]; exact h)
theorem zUy {W : World} (h : laidMetH Tryz.prog Rows.fnExactCoreReadRow.laid W) : V.T0 W := by
 rw [MakeChecks.laidMetH_plain _ _ _ (by kernel_rfl)] at h
 have e : (Rows.laid_internal_strconv_uint64pow10 : DataW Unit) = Lib.tabData .u64 Lib.pow10Tab := by kernel_rfl
 have h1 : laidMet Tryz.prog [("math/bits.deBruijn32tab", Rows.laid_math_bits_deBruijn32tab), ("math/bits.deBruijn64tab", Rows.laid_math_bits_deBruijn64tab), ("internal/strconv.uint64pow10", Rows.laid_internal_strconv_uint64pow10), ("strconv.ErrRange", Rows.laid_strconv_ErrRange), ("strconv.ErrSyntax", Rows.laid_strconv_ErrSyntax)] W := h
 rw [e] at h1
 refine ⟨Lib.tabIs_of_head (g := (Tryz.prog.globalNamed "internal/strconv.uint64pow10").getD 0) (t := 120) (e := 99) (n := 20) (by kernel_rfl) (by kernel_rfl) (by kernel_rfl) (by kernel_rfl) (by kernel_rfl) (by kernel_rfl) h1.tail.tail, ?_, ?_⟩
 ·obtain ⟨a, s, hv, -⟩ := laid_sentinel (ms := #[("Error", 52)]) (g := (Tryz.prog.globalNamed "strconv.ErrSyntax").getD 0) (ti := 54) (tp := 111) (te := 113) (ts := 9) (f := ⟨"s", 9, 0, false, "", "errors", 0⟩) h1.tail.tail.tail.tail (by kernel_rfl) (by kernel_rfl) (by kernel_rfl) zOa (by kernel_rfl) (by kernel_rfl) rfl rfl (by kernel_rfl) (by kernel_rfl) (by kernel_rfl)
  exact ⟨_, _, hv⟩
 ·obtain ⟨a, s, hv, -⟩ := laid_sentinel (ms := #[("Error", 52)]) (g := (Tryz.prog.globalNamed "strconv.ErrRange").getD 0) (ti := 54) (tp := 111) (te := 113) (ts := 9) (f := ⟨"s", 9, 0, false, "", "errors", 0⟩) h1.tail.tail.tail (by kernel_rfl) (by kernel_rfl) (by kernel_rfl) zOa (by kernel_rfl) (by kernel_rfl) rfl rfl (by kernel_rfl) (by kernel_rfl) (by kernel_rfl)
  exact ⟨_, _, hv⟩
theorem zRa (os : Os) (args : Array Value) : laidMetH Tryz.prog Rows.fnExactCoreReadRow.laid ((World.doorLaid Tryz.prog 400 os).forCall (fun _ _ => 0) ⟨#[], args, []⟩).memory :=
 laidMetH_of_parts3 (fuel := 8) (laidMet_of_run' 8 (by kernel_rfl) (by kernel_rfl)) (by kernel_rfl) (by kernel_rfl)
theorem zGo {W w' : World} {n : String} {cs : Array Value} (hn : (Tryz.prog.globalNamed n).isSome = true) (h : W.var? Tryz.prog n = some cs) (hf : V.Frm (fun _ => False) W w') : w'.var? Tryz.prog n = some cs := by
 rw [← h]
 obtain ⟨g, hg⟩ := Option.isSome_iff_exists.1 hn
 unfold World.var? at h ⊢
 rw [hg] at h ⊢
 simp only [Option.bind_some] at h ⊢
 rcases Nat.lt_or_ge g W.heap.size with hl | hl
 ·rw [hf.block _ hl (fun x => x)]
 ·rw [Array.getElem?_eq_none hl] at h; cases h
theorem zVg {W : World} (h : V.T0 W) : V.TabOk V.T0 W (fun _ => False) := by
 intro w' hf
 obtain ⟨h1, ⟨t2, p2, h2⟩, t3, p3, h3⟩ := h
 exact ⟨zGo (by kernel_rfl) h1 hf, ⟨t2, p2, zGo (by kernel_rfl) h2 hf⟩, t3, p3, zGo (by kernel_rfl) h3 hf⟩
theorem zWx (os : Os) (started : os.Started) (H : Type) (enc : TypeId × Value → H) :
  ReturnsInHanded {} Tryz.checked os 3 .any (fun w args => (Rows.fnExactCoreReadSpec.pre enc Tryz.prog Tryz.f3 [] false w args ∧ laidMetH Tryz.prog Rows.fnExactCoreReadRow.laid w) ∧ sizedMet enc Tryz.prog Tryz.f3 (OpenSpec.ofChange Rows.fnExactCoreReadSpec) false w args)
   (Rows.fnExactCoreReadSpec.post enc Tryz.prog Tryz.f3 false true false false) := by
 refine returnsInHanded_of_change_and (C := Tryz.checked) (X := fun w _ => laidMetH Tryz.prog Rows.fnExactCoreReadRow.laid w) (fun _ _ _ hh h => h.of_heap hh) own started (by kernel_rfl) Tryz.func3
  (ChangeSpec.witness_shaped (enc := enc) (C := Tryz.checked) (os := os) (X := fun w _ => laidMetH Tryz.prog Rows.fnExactCoreReadRow.laid w) false (World.doorLaid Tryz.prog 400 os) #[.string ⟨#[]⟩] 8 rfl (World.shaped_of_RefB (by kernel_rfl) (by kernel_rfl)) (by kernel_rfl) (by kernel_rfl) (by kernel_rfl) (zRa os _)) ?_
 intro W base args ds gs before hval0 hW _ _ hL _
 have hval : ∀ (j : Nat) t v, Tryz.f3.params[j]? = some t → args[j]? = some v → Value.okWide Tryz.prog W .any base t v := hval0
 have hW' := hW
 obtain ⟨p, q, hA0, hV, rfl, hfz, hnd⟩ := hW
 have hA : DataW.TrodAll enc Tryz.prog W 0 (fun _ => true) true Tryz.f3.params.toList args.toList ds p := hA0
 rw [Tryz.params3] at hA hval
 obtain ⟨v0, vs0, d0, ds0, p0, q0, hargs, rfl, rfl, h0, r0⟩ := trodAll_cons hA
 obtain ⟨rfl, rfl, rfl⟩ := trodAll_nil r0
 obtain rfl : args = #[v0] := by cases args; simp_all
 obtain ⟨rfl, rfl⟩ := trodVars_none hV
 have k0 := h0
 have lt0 : ∀ x ∈ p0, x.block < W.heap.size := by obtain ⟨m, hm⟩ := k0; exact DataW.trod_lt m _ _ _ hm
 obtain ⟨k, u, hsh, hx⟩ := V.arg_cell hG (t := 9) (by decide) (fun fs hh => by rw [Tryz.underlying9] at hh; cases hh) (hval 0 9 v0 rfl rfl) h0
 obtain ⟨s, e0, hk⟩ := V.sh_str hsh
 obtain rfl : u = .str s := by simpa using e0
 obtain ⟨n, hrun⟩ := V.run_of (V.lawCoreRead (s := s))
 clear hA0 hval0
 refine (V.law_calls V.cxOk (zVg (zUy hL)) (vs := [v0]) (xs := [V.xs s]) ⟨rfl, fun i v x hv hxx => ?_⟩ hrun).mono fun e W' ⟨he, bel⟩ => ?_
 ·rcases i with _ | i
  ·simp only [List.getElem?_cons_zero, Option.some.injEq] at hv hxx; subst hv hxx; exact hx
  ·simp at hv
 subst he
 exact ⟨_, rfl, _, _, _, [], _, [], hW', trodAll_mk1 (shut_bool Tryz.underlying4 _), (trodAll_cons_mk (Below.trod zUr (by kernel_rfl) (of_decide_eq_true (by kernel_rfl)) k0 bel lt0) trodAll_mk0), rfl, bel.frame _, fun h => by cases h⟩
theorem over : Rows.FnExactCoreReadSaid :=
 OpenClaim.holds_of_wide 3 Tryz.f3 rfl rfl rfl rfl rfl rfl rfl ⟨rfl, rfl, rfl, rfl, rfl⟩ rfl rfl rfl rfl rfl (by kernel_rfl) Tryz.func3 (by kernel_rfl)
  (of_decide_eq_true (by kernel_rfl)) (by unfold Func.isWrapper; first | (rw [if_pos (by decide +kernel)]; kernel_rfl) | (rw [if_neg (by decide +kernel)]; exact ⟨rfl, rfl⟩))
  (fun os started H enc _ => zWx os started H enc)
theorem proved : Rows.FnExactCoreReadCardSaid :=
 Claim7.holds_tied_plain_at .later [] [.data, .data, .data, .sentinel, .sentinel] true (true, "be4a63957c69ba0957855e3581a43b5074ee925c1d2164ec1c1c6929730cc7b6") true
  over (fun _ h => by cases h) (by kernel_rfl) (fun _ h => by cases h) fnExactCoreRead_row_tie rfl ⟨rfl, rfl⟩ (by kernel_rfl) rfl
  (fun f fn hf hfn => by
   obtain rfl : f = 3 := Option.some.inj ((show Tryz.prog.funcNamed "loop.example/g00396/laws.FnExactCoreRead" = some 3 by kernel_rfl).symm.trans hf) |>.symm
   obtain rfl : fn = Tryz.f3 := (Option.some.inj (Tryz.func3.symm.trans hfn)).symm
   exact ⟨by kernel_rfl, fun j t ht => by
    rw [Tryz.params3] at ht
    have h3 : t = 9 := by
     rcases j with _ | j
     ·simpa using ht.symm
     ·simp at ht
    subst h3
    exact (show Tryz.prog.wantsStandIn 9 = false by kernel_rfl)⟩)
  (by kernel_rfl)
#print axioms proved
end Go.Proofs.YtlkjnlfddadlmaaGreatDoor.fnExactCoreRead
