/-
  How cores are read from their text: the reference's words. No conditions.
-/
import Derived.Test.YtlkjnlfddadlmaaGreatDoorMPCoreReadb
import Derived.Test.YtlkjnlfddadlmaaGreatDoorMPCoreReada
set_option linter.unusedVariables false
set_option linter.unusedSimpArgs false
namespace Go.Proofs.YtlkjnlfddadlmaaGreatDoor.V
set_option maxRecDepth 100000
def zQf (s : Nm) (i : Nat) (fr : Int) (cur : Nm) : Prop := (cur = [] ∧ fr = -1) ∨ ∃ f : Nat, fr = f ∧ f < i ∧ cur = (s.drop f).take (i - f)
theorem slc {s : Nm} {f i : Nat} (h : f ≤ i) : (s.drop (f : Int).toNat).take ((i : Int) - (f : Int)).toNat = (s.drop f).take (i - f) := by
 rw [Int.toNat_natCast, show ((i : Int) - (f : Int)).toNat = i - f by omega]
theorem zHj {s : Nm} {i : Nat} {b : UInt8} (h : s[i]? = some b) : (s.drop i).take 1 = [b] := by
 have hi : i < s.length := (List.getElem?_eq_some_iff.1 h).1
 have hb := (List.getElem?_eq_some_iff.1 h).2
 rw [List.drop_eq_getElem_cons hi, hb]; rfl
theorem wP {l : List Nm} {w : Nm} : ((nm l).drop 0).take (l.length * 1) ++ [.str w] = nm (l ++ [w]) := by
 rw [bQ, cE]; rfl
theorem zKg {b : UInt8} {n : Nat} (h : ((b.toNat : Int) == (n : Int)) = true) (hn : n < 256) : b = UInt8.ofNat n := by
 have h : (b.toNat : Int) = n := by simpa using h
 have h : b.toNat = n := by omega
 rw [← h]; simp
theorem zT7 {b : UInt8} (h : ((b.toNat : Int) == 32) = true) : b = 32 := zKg (n := 32) h (by omega)
theorem zT8 {b : UInt8} (h : ((b.toNat : Int) == 40) = true) : b = 40 := zKg (n := 40) h (by omega)
theorem zT9 {b : UInt8} (h : ((b.toNat : Int) == 41) = true) : b = 41 := zKg (n := 41) h (by omega)
theorem zKl {s : Nm} {f i : Nat} (h : f < i) (hi : i ≤ s.length) : (s.drop f).take (i - f) ≠ [] := fun e => by
 have := congrArg List.length e
 simp at this; omega
theorem zQ4 {s : Nm} {f i : Nat} {b : UInt8} (h : s[i]? = some b) (hf : f ≤ i) : (s.drop f).take (i + 1 - f) = (s.drop f).take (i - f) ++ [b] := by
 rw [show i + 1 - f = (i - f) + 1 by omega, List.take_add_one, List.getElem?_drop, show f + (i - f) = i by omega, h]; rfl
set_option maxHeartbeats 8000000 in
theorem lW {s : Nm} {K : Ex → StA → Prop} (hk : s.length ≤ 1048576) : ∀ (l : Nm) (i : Nat), s.drop i = l → i ≤ s.length → ∀ (fr : Int) (cur : Nm) (done : List Nm), zQf s i fr cur → done.length ≤ 2 * i →
  (∀ jk j v, K (.exit 0) ⟨[(5, xi j), (4, xi v), (3, xl 0 1 (done ++ wdL cur l).length (nm (done ++ wdL cur l))), (0, xs s), (2, xl 0 1 0 [])], jk, []⟩) →
  ∀ jk, sem cx0 9 RT (.loop (lp Tryz.f9 0)) ⟨[(5, xi i), (4, xi fr), (3, xl 0 1 done.length (nm done)), (0, xs s), (2, xl 0 1 0 [])], jk, []⟩ K := by
 refine qE ?_ ?_
 ·intro fr cur done hf hd k1 jk
  have hend : ∀ (v : Int) (out : List Nm), out = done ++ wdL cur [] → ∀ jk, sem cx0 9 RT (.loop (lp Tryz.f9 0)) ⟨[(5, xi ((s.length + 1 : Nat) : Int)), (4, xi v), (3, xl 0 1 out.length (nm out)), (0, xs s), (2, xl 0 1 0 [])], jk, []⟩ K := by
   intro v out ho jk
   subst ho
   refine zO cx0 _ RT [5, 4, 3, 0, 2] ⟨fun h => ?_, fun h => ?_⟩
   ·exfalso; simp at h; omega
   ·exact fun jk => k1 jk _ _
  refine zO cx0 _ RT [5, 4, 3, 0, 2] ⟨fun h => ?_, fun h => by simp at h⟩
  rcases hf with ⟨rfl, rfl⟩ | ⟨f, rfl, hfi, rfl⟩
  ·refine ⟨fun h1 => ?_, fun h1 => by simp at h1⟩
   refine ⟨fun h2 => by simp at h2, fun h2 => ?_⟩
   refine ⟨fun h3 => by simp at h3, fun h3 => ?_⟩
   intro jk
   rw [wrap64 (by omega) (by omega)]
   exact hend _ done (by simp [wdL, one]) jk
  ·refine ⟨fun h1 => ?_, fun h1 => by simp at h1⟩
   refine ⟨fun h2 => ?_, fun h2 => by exfalso; simp at h2 <;> omega⟩
   refine ⟨⟨by omega, by omega, by omega⟩, ?_⟩
   refine ⟨by rw [qV]; omega, ?_⟩
   refine ⟨⟨by simp only [maxLen]; omega, by show (done.length + 1) * 16 ≤ _; omega⟩, ?_⟩
   refine ⟨fun h3 => by simp at h3, fun h3 => ?_⟩
   intro jk
   rw [wrap64 (by omega) (by omega), slc (by omega), wP]
   have hne : (s.drop f).take (s.length - f) ≠ [] := fun e => by
    have := congrArg List.length e
    simp at this; omega
   have h := hend (-1) (done ++ [(s.drop f).take (s.length - f)]) (by simp only [wdL]; rw [nD hne]) jk
   rw [List.length_append] at h
   exact h
 ·intro i b l hi hil ih fr cur done hf hd k1 jk
  have hg : s.getD (i : Int).toNat 0 = b := gdb hi
  have hfin : ∀ (fr' : Int) (cur' : Nm) (done' : List Nm), zQf s (i + 1) fr' cur' → done'.length ≤ 2 * (i + 1) → done' ++ wdL cur' l = done ++ wdL cur (b :: l) →
    ∀ jk, sem cx0 9 RT (.loop (lp Tryz.f9 0)) ⟨[(5, xi ((i + 1 : Nat) : Int)), (4, xi fr'), (3, xl 0 1 done'.length (nm done')), (0, xs s), (2, xl 0 1 0 [])], jk, []⟩ K :=
   fun fr' cur' done' h1 h2 h3 jk => ih fr' cur' done' h1 h2 (fun jk j v => by rw [h3]; exact k1 jk j v) jk
  have hw1 : IntKind.wrap .i64 ((i : Int) + 1) = ((i + 1 : Nat) : Int) := by rw [wrap64 (by omega) (by omega)]; omega
  have hb1 : (s.drop (i : Int).toNat).take (((i + 1 : Nat) : Int) - (i : Int)).toNat = [b] := by
   rw [slc (by omega), show i + 1 - i = 1 by omega]
   exact zHj hi
  refine zO cx0 _ RT [5, 4, 3, 0, 2] ⟨fun h => ?_, fun h => by exfalso; simp at h; omega⟩
  refine ⟨fun h1 => by simp at h1; omega, fun h1 => ?_⟩
  refine ⟨⟨by omega, by omega⟩, ?_⟩
  rw [hg]
  refine ⟨fun h2 => ?_, fun h2 => ?_⟩
  ·obtain rfl : b = 32 := zT7 h2
   rcases hf with ⟨rfl, rfl⟩ | ⟨f, rfl, hfi, rfl⟩
   ·refine ⟨fun h3 => by simp at h3, fun h3 => ?_⟩
    refine ⟨fun h4 => ?_, fun h4 => by simp at h4; omega⟩
    refine ⟨⟨by omega, by omega⟩, ?_⟩
    refine ⟨fun h5 => by rw [hg] at h5; simp at h5, fun h5 => ?_⟩
    refine ⟨⟨by omega, by omega⟩, ?_⟩
    refine ⟨fun h5 => by rw [hg] at h5; simp at h5, fun h5 => ?_⟩
    intro jk
    rw [hw1]
    exact hfin (-1) [] done (.inl ⟨rfl, rfl⟩) (by omega) (by simp [wdL, one, dT]) jk
   ·refine ⟨fun h3 => ?_, fun h3 => by exfalso; simp at h3 <;> omega⟩
    refine ⟨⟨by omega, by omega, by omega⟩, ?_⟩
    refine ⟨by rw [qV]; omega, ?_⟩
    refine ⟨⟨by simp only [maxLen]; omega, by show (done.length + 1) * 16 ≤ _; omega⟩, ?_⟩
    refine ⟨fun h4 => ?_, fun h4 => by simp at h4; omega⟩
    refine ⟨⟨by omega, by omega⟩, ?_⟩
    refine ⟨fun h5 => by rw [hg] at h5; simp at h5, fun h5 => ?_⟩
    refine ⟨⟨by omega, by omega⟩, ?_⟩
    refine ⟨fun h5 => by rw [hg] at h5; simp at h5, fun h5 => ?_⟩
    intro jk
    rw [hw1, slc (by omega), wP]
    have h := hfin (-1) [] (done ++ [(s.drop f).take (i - f)]) (.inl ⟨rfl, rfl⟩) (by simp; omega) (by rw [← nD (zKl hfi (by omega))]; simp [wdL, dT]) jk
    rw [List.length_append] at h
    exact h
  ·have h2' : b ≠ 32 := fun e => by subst e; simp at h2
   refine ⟨⟨by omega, by omega⟩, ?_⟩
   rw [hg]
   refine ⟨fun h3 => ?_, fun h3 => ?_⟩
   ·obtain rfl : b = 40 := zT8 h3
    rcases hf with ⟨rfl, rfl⟩ | ⟨f, rfl, hfi, rfl⟩
    ·refine ⟨fun h4 => by simp at h4, fun h4 => ?_⟩
     refine ⟨fun h5 => ?_, fun h5 => by simp at h5; omega⟩
     refine ⟨⟨by omega, by omega⟩, ?_⟩
     refine ⟨fun h6 => ?_, fun h6 => by rw [hg] at h6; simp at h6⟩
     refine ⟨⟨by omega, by rw [hw1]; omega, by rw [hw1]; omega⟩, ?_⟩
     refine ⟨by rw [qV]; omega, ?_⟩
     refine ⟨⟨by simp only [maxLen]; omega, by show (done.length + 1) * 16 ≤ _; omega⟩, ?_⟩
     intro jk
     rw [hw1, hb1, wP]
     have h := hfin (-1) [] (done ++ [[40]]) (.inl ⟨rfl, rfl⟩) (by simp; omega) (by simp [wdL, dT, one]) jk
     rw [List.length_append] at h
     exact h
    ·refine ⟨fun h4 => ?_, fun h4 => by exfalso; simp at h4 <;> omega⟩
     refine ⟨⟨by omega, by omega, by omega⟩, ?_⟩
     refine ⟨by rw [qV]; omega, ?_⟩
     refine ⟨⟨by simp only [maxLen]; omega, by show (done.length + 1) * 16 ≤ _; omega⟩, ?_⟩
     refine ⟨fun h5 => ?_, fun h5 => by simp at h5; omega⟩
     refine ⟨⟨by omega, by omega⟩, ?_⟩
     refine ⟨fun h6 => ?_, fun h6 => by rw [hg] at h6; simp at h6⟩
     refine ⟨⟨by omega, by rw [hw1]; omega, by rw [hw1]; omega⟩, ?_⟩
     refine ⟨by rw [wP, qV]; simp, ?_⟩
     refine ⟨⟨by simp only [maxLen]; omega, by show (done.length + 1 + 1) * 16 ≤ _; omega⟩, ?_⟩
     intro jk
     rw [hw1, hb1, slc (by omega), wP]
     have h := hfin (-1) [] (done ++ [(s.drop f).take (i - f)] ++ [[40]]) (.inl ⟨rfl, rfl⟩) (by simp; omega) (by rw [← nD (zKl hfi (by omega))]; simp [wdL, dT]) jk
     have hl : (done ++ [(s.drop f).take (i - f)]).length = done.length + 1 := by simp
     rw [← wP, List.length_append, hl] at h
     exact h
   ·refine ⟨⟨by omega, by omega⟩, ?_⟩
    rw [hg]
    refine ⟨fun h4 => ?_, fun h4 => ?_⟩
    ·obtain rfl : b = 41 := zT9 h4
     rcases hf with ⟨rfl, rfl⟩ | ⟨f, rfl, hfi, rfl⟩
     ·refine ⟨fun h4' => by simp at h4', fun h4' => ?_⟩
      refine ⟨fun h5 => ?_, fun h5 => by simp at h5; omega⟩
      refine ⟨⟨by omega, by omega⟩, ?_⟩
      refine ⟨fun h6 => by rw [hg] at h6; simp at h6, fun h6 => ?_⟩
      refine ⟨⟨by omega, by omega⟩, ?_⟩
      refine ⟨fun h6 => ?_, fun h6 => by rw [hg] at h6; simp at h6⟩
      refine ⟨⟨by omega, by rw [hw1]; omega, by rw [hw1]; omega⟩, ?_⟩
      refine ⟨by rw [qV]; omega, ?_⟩
      refine ⟨⟨by simp only [maxLen]; omega, by show (done.length + 1) * 16 ≤ _; omega⟩, ?_⟩
      refine ⟨fun h7 => by simp at h7, fun h7 => ?_⟩
      intro jk
      rw [hw1, hb1, wP]
      have h := hfin (-1) [] (done ++ [[41]]) (.inl ⟨rfl, rfl⟩) (by simp; omega) (by simp [wdL, dT, one]) jk
      rw [List.length_append] at h
      exact h
     ·refine ⟨fun h4' => ?_, fun h4' => by exfalso; simp at h4' <;> omega⟩
      refine ⟨⟨by omega, by omega, by omega⟩, ?_⟩
      refine ⟨by rw [qV]; omega, ?_⟩
      refine ⟨⟨by simp only [maxLen]; omega, by show (done.length + 1) * 16 ≤ _; omega⟩, ?_⟩
      refine ⟨fun h5 => ?_, fun h5 => by simp at h5; omega⟩
      refine ⟨⟨by omega, by omega⟩, ?_⟩
      refine ⟨fun h6 => by rw [hg] at h6; simp at h6, fun h6 => ?_⟩
      refine ⟨⟨by omega, by omega⟩, ?_⟩
      refine ⟨fun h6 => ?_, fun h6 => by rw [hg] at h6; simp at h6⟩
      refine ⟨⟨by omega, by rw [hw1]; omega, by rw [hw1]; omega⟩, ?_⟩
      refine ⟨by rw [wP, qV]; simp, ?_⟩
      refine ⟨⟨by simp only [maxLen]; omega, by show (done.length + 1 + 1) * 16 ≤ _; omega⟩, ?_⟩
      refine ⟨fun h7 => by simp at h7, fun h7 => ?_⟩
      intro jk
      rw [hw1, hb1, slc (by omega), wP]
      have h := hfin (-1) [] (done ++ [(s.drop f).take (i - f)] ++ [[41]]) (.inl ⟨rfl, rfl⟩) (by simp; omega) (by rw [← nD (zKl hfi (by omega))]; simp [wdL, dT]) jk
      have hl : (done ++ [(s.drop f).take (i - f)]).length = done.length + 1 := by simp
      rw [← wP, List.length_append, hl] at h
      exact h
    ·have h3' : b ≠ 40 := fun e => by subst e; simp at h3
     have h4' : b ≠ 41 := fun e => by subst e; simp at h4
     have hs : dT b = false := by simp [dT, h2', h3', h4']
     have hW : ∀ cur : Nm, wdL cur (b :: l) = wdL (cur ++ [b]) l := fun cur => by simp [wdL, hs]
     refine ⟨fun h5 => ?_, fun h5 => by simp at h5; omega⟩
     refine ⟨⟨by omega, by omega⟩, ?_⟩
     refine ⟨fun h6 => (by rw [hg, h3] at h6; cases h6), fun h6 => ?_⟩
     refine ⟨⟨by omega, by omega⟩, ?_⟩
     refine ⟨fun h6 => (by rw [hg, h4] at h6; cases h6), fun h6 => ?_⟩
     refine ⟨fun h7' => ?_, fun h7' => (by rw [h4] at h7'; cases h7')⟩
     rcases hf with ⟨rfl, rfl⟩ | ⟨f, rfl, hfi, rfl⟩
     ·refine ⟨fun h7 => ?_, fun h7 => by simp at h7⟩
      intro jk
      rw [hw1]
      exact hfin i [b] done (.inr ⟨i, rfl, by omega, by rw [show i + 1 - i = 1 by omega]; exact (zHj hi).symm⟩) (by omega) (by rw [hW]; rfl) jk
     ·refine ⟨fun h7 => by exfalso; simp at h7 <;> omega, fun h7 => ?_⟩
      intro jk
      rw [hw1]
      exact hfin f ((s.drop f).take (i - f) ++ [b]) done (.inr ⟨f, rfl, by omega, (zQ4 hi (by omega)).symm⟩) (by omega) (by rw [hW]) jk
end Go.Proofs.YtlkjnlfddadlmaaGreatDoor.V
namespace Go.Proofs.YtlkjnlfddadlmaaGreatDoor.V
set_option maxRecDepth 100000
theorem zVi {s : Nm} (hk : s.length ≤ 1048576) : RT 9 [xs s] [] = some (xl 0 1 (wdL [] s).length (nm (wdL [] s)), []) := by
 refine xM (fn := Tryz.f9) rfl rfl rfl rfl ?_
 refine yU cx0 _ RT [5, 4, 3, 0, 2] fun jk => ?_
 refine lW hk s 0 rfl (by omega) (-1) [] [] (.inl ⟨rfl, rfl⟩) (by simp) (fun jk j v => ?_) jk
 have key : ∀ W : List Nm, 0 + W.length * 1 ≤ (nm W).length ∧ xl 0 1 W.length (nm W) = xl 0 1 W.length (((nm W).drop 0).take (W.length * 1)) := fun W => ⟨by rw [qV]; omega, by rw [bQ]⟩
 refine ⟨(key _).1, ?_⟩
 exact ⟨(key _).2, rfl⟩
abbrev p0 : XU := .c (.ptr () (.ex 0) [] 0)
abbrev cuR (ws rest : List Nm) (ok : Bool) : List CU := [.t (.sl () 0 1 ws.length (nm ws)), .t (.int .i64 ((ws.length - rest.length : Nat) : Int)), .t (.bool ok)]
theorem zXn {ws r : List Nm} {w : Nm} (h : (w :: r) <:+ ws) : ws[ws.length - (w :: r).length]? = some w := by
 obtain ⟨t, rfl⟩ := h
 rw [List.length_append, Nat.add_sub_cancel, List.getElem?_append_right (Nat.le_refl _), Nat.sub_self]; rfl
theorem zK6 {D : List Nm} {k : Nat} {d : Nm} (h : D[k]? = some d) : ((nm D).drop (0 + (k : Int).toNat * 1)).take 1 = [.str d] := by
 rw [Nat.zero_add, Int.toNat_natCast]; exact zD5 h
theorem wB (st : StS) : (nxS st).2.1 <:+ st.1 := by
 obtain ⟨l, ok⟩ := st
 cases l with
 | nil => exact List.suffix_refl _
 | cons w r => exact List.suffix_cons w r
theorem m7 {ws rest : List Nm} {ok : Bool} (h : rest <:+ ws) (hk : ws.length ≤ 1048576) :
  RT 21 [p0] [cuR ws rest ok] = some (xs (nxS (rest, ok)).1, [cuR ws (nxS (rest, ok)).2.1 (nxS (rest, ok)).2.2]) := by
 refine lR (fn := Tryz.f21) rfl rfl rfl rfl ?_
 cases rest with
 | nil =>
  refine ⟨fun h1 => ?_, fun h1 => by exfalso; simp at h1⟩
  exact ⟨rfl, rfl⟩
 | cons w r =>
  have hl : (w :: r).length ≤ ws.length := h.length_le
  simp only [List.length_cons] at hl
  have e1 : IntKind.wrap .i64 (((ws.length - (w :: r).length : Nat) : Int) + 1) = ((ws.length - r.length : Nat) : Int) := by
   rw [wrap64 (by omega) (by omega)]; simp only [List.length_cons]; omega
  have e2 : IntKind.wrap .i64 (((ws.length - r.length : Nat) : Int) - 1) = ((ws.length - (w :: r).length : Nat) : Int) := by
   rw [wrap64 (by omega) (by omega)]; simp only [List.length_cons]; omega
  refine ⟨fun h1 => by exfalso; simp at h1; omega, fun h1 => ?_⟩
  refine ⟨by rw [e1, e2]; exact ⟨by omega, by simp only [List.length_cons]; omega⟩, ?_⟩
  refine ⟨w, ⟨by rw [e1, e2]; exact zK6 (zXn h), rfl⟩, ?_⟩
  refine ⟨rfl, ?_⟩
  show [cuR ws r ok] = [[.t (.sl () 0 1 ws.length (nm ws)), .t (.int .i64 (IntKind.wrap .i64 (((ws.length - (w :: r).length : Nat) : Int) + 1))), .t (.bool ok)]]
  rw [e1]
def opQ : List (Nm × Int) := zFy.zip cK
theorem zPi {D : List Int} {k : Nat} {d : Int} (h : D[k]? = some d) : ((zPh D).drop (0 + (k : Int).toNat * 1)).take 1 = [.int .i64 d] := by
 rw [Nat.zero_add, Int.toNat_natCast]; exact zNs h
theorem l24 {w : Nm} {K : Ex → StA → Prop} : ∀ (r : List (Nm × Int)) (i : Nat), opQ.drop i = r → i ≤ 15 →
  (∀ jk j, opF (r.map (·.1)) (r.map (·.2)) w = 0 → K (.exit 0) ⟨[(5, xi j), (3, xl 0 1 15 (nm zFy)), (4, xl 0 1 15 (zPh cK)), (0, xs w), (2, xi 0)], jk, []⟩) →
  (∀ jk j, K .ret ⟨[(5, xi j), (3, xl 0 1 15 (nm zFy)), (4, xl 0 1 15 (zPh cK)), (0, xs w), (2, xi (opF (r.map (·.1)) (r.map (·.2)) w))], jk, []⟩) →
  ∀ jk, sem cx0 24 RT (.loop (lp Tryz.f24 0)) ⟨[(5, xi i), (3, xl 0 1 15 (nm zFy)), (4, xl 0 1 15 (zPh cK)), (0, xs w), (2, xi 0)], jk, []⟩ K := by
 refine qE ?_ ?_
 ·intro k1 k2 jk
  refine zO cx0 _ RT [5, 3, 4, 0, 2] ⟨fun h => by simp [opQ, zFy, cK] at h, fun h => ?_⟩
  exact fun jk => k1 jk _ rfl
 ·intro i q r hi hil ih k1 k2 jk
  obtain ⟨a, o⟩ := q
  have hl15 : opQ.length = 15 := rfl
  have ha : zFy[i]? = some a := by
   have := congrArg (Option.map (·.1)) hi
   rw [opQ, List.getElem?_zip_eq_some] at hi
   exact hi.1
  have ho : cK[i]? = some o := by
   rw [opQ, List.getElem?_zip_eq_some] at hi
   exact hi.2
  refine zO cx0 _ RT [5, 3, 4, 0, 2] ⟨fun h => ?_, fun h => (jO h (by omega)).elim⟩
  refine ⟨⟨by omega, by omega⟩, ?_⟩
  refine ⟨a, ⟨zK6 ha, rfl⟩, ?_⟩
  have e1 : opF (((a, o) :: r).map (·.1)) (((a, o) :: r).map (·.2)) w = if a = w then o else opF (r.map (·.1)) (r.map (·.2)) w := rfl
  refine ⟨fun h2 => ?_, fun h2 => ?_⟩
  ·have h2 : a = w := by simpa using h2
   rw [e1, if_pos h2] at k2
   refine ⟨⟨by omega, by omega⟩, ?_⟩
   refine ⟨o, ⟨zPi ho, rfl⟩, ?_⟩
   exact fun jk => k2 jk _
  ·have h2 : a ≠ w := by simpa using h2
   rw [e1, if_neg h2] at k1 k2
   intro jk
   rw [kK (by omega : i < 15) (by simp only [maxLen]; omega)]
   exact ih k1 k2 jk
theorem op_s (w : Nm) : RT 24 [xs w] [] = some (xi (opS w), []) := by
 refine xM (fn := Tryz.f24) rfl rfl rfl rfl ?_
 refine yU cx0 _ RT [5, 3, 4, 0, 2] fun jk => ?_
 refine l24 opQ 0 rfl (by omega) (fun jk j h => ?_) (fun jk j => ?_) jk
 ·have h : opS w = 0 := h
  exact ⟨by rw [h]; rfl, rfl⟩
 ·exact ⟨rfl, rfl⟩
theorem l23 {w : Nm} {K : Ex → StA → Prop} (hw : w.length ≤ 11) : ∀ (r : Nm) (i : Nat), w.drop i = r → i ≤ w.length → ∀ acc : Int, 0 ≤ acc → acc + 1 ≤ ((10 ^ i : Nat) : Int) →
  (∀ jk j, 0 ≤ gF acc r → gF acc r + 1 ≤ ((10 ^ w.length : Nat) : Int) → K (.exit 0) ⟨[(4, xi j), (3, xi (gF acc r)), (0, xs w), (2, xi 0)], jk, []⟩) →
  ∀ jk, sem cx0 23 RT (.loop (lp Tryz.f23 0)) ⟨[(4, xi i), (3, xi acc), (0, xs w), (2, xi 0)], jk, []⟩ K := by
 refine qE ?_ ?_
 ·intro acc h0 h1 k1 jk
  refine zO cx0 _ RT [4, 3, 0, 2] ⟨fun h => (g7 h (by omega)).elim, fun h => ?_⟩
  exact fun jk => k1 jk _ h0 h1
 ·intro i b r hi hil ih acc h0 h1 k1 jk
  have hg : w.getD (i : Int).toNat 0 = b := gdb hi
  have hp : (10 ^ i : Nat) ≤ 10 ^ 11 := Nat.pow_le_pow_right (by omega) (by omega)
  have hp2 : (10 ^ (i + 1) : Nat) = 10 ^ i * 10 := Nat.pow_succ ..
  have hbb := b.toNat_lt
  refine zO cx0 _ RT [4, 3, 0, 2] ⟨fun h => ?_, fun h => (jO h (by omega)).elim⟩
  refine ⟨⟨by omega, by omega⟩, ?_⟩
  rw [hg]
  refine ⟨fun h2 => ?_, fun h2 => ?_⟩
  ·have h2' := of_decide_eq_true h2
   refine ⟨⟨by omega, by omega⟩, ?_⟩
   rw [hg]
   refine ⟨fun h3 => ?_, fun h3 => ?_⟩
   ·have h3' := of_decide_eq_true h3
    refine ⟨⟨by omega, by omega⟩, ?_⟩
    intro jk
    rw [hg]
    have hd : y7 b = true := j1.2 (by omega)
    have e0 : gF acc (b :: r) = gF (10 * acc + (b.toNat : Int) - 48) r := by simp only [gF, if_pos hd]
    rw [e0] at k1
    have e1 : IntKind.wrap .i64 (IntKind.wrap .i64 (IntKind.wrap .i64 (10 * acc) + IntKind.wrap .i64 (b.toNat : Int)) - 48) = 10 * acc + (b.toNat : Int) - 48 := by
     rw [wrap64 (n := 10 * acc) (by omega) (by omega), wrap64 (n := (b.toNat : Int)) (by omega) (by omega), wrap64 (n := 10 * acc + (b.toNat : Int)) (by omega) (by omega), wrap64 (by omega) (by omega)]
    rw [e1, kK hil (by simp only [maxLen]; omega)]
    exact ih _ (by omega) (by rw [hp2]; omega) k1 jk
   ·have h3' := of_decide_eq_false h3
    have hd : y7 b = false := by rw [← Bool.not_eq_true]; intro h; have := j1.1 h; omega
    have e0 : gF acc (b :: r) = gF acc r := by simp only [gF, hd, Bool.false_eq_true, if_false]
    rw [e0] at k1
    intro jk
    rw [kK hil (by simp only [maxLen]; omega)]
    exact ih _ (by omega) (by rw [hp2]; omega) k1 jk
  ·have h2' := of_decide_eq_false h2
   have hd : y7 b = false := by rw [← Bool.not_eq_true]; intro h; have := j1.1 h; omega
   have e0 : gF acc (b :: r) = gF acc r := by simp only [gF, hd, Bool.false_eq_true, if_false]
   rw [e0] at k1
   intro jk
   rw [kK hil (by simp only [maxLen]; omega)]
   exact ih _ (by omega) (by rw [hp2]; omega) k1 jk
theorem zNr : ∀ (r : Nm) (acc : Int) (i : Nat), 0 ≤ acc → acc + 1 ≤ ((10 ^ i : Nat) : Int) → 0 ≤ gF acc r ∧ gF acc r + 1 ≤ ((10 ^ (i + r.length) : Nat) : Int)
 | [], acc, i, h0, h1 => ⟨h0, h1⟩
 | b :: r, acc, i, h0, h1 => by
  have hp2 : (10 ^ (i + 1) : Nat) = 10 ^ i * 10 := Nat.pow_succ ..
  simp only [gF, List.length_cons]
  have key : ∀ a : Int, 0 ≤ a → a + 1 ≤ ((10 ^ (i + 1) : Nat) : Int) → 0 ≤ gF a r ∧ gF a r + 1 ≤ ((10 ^ (i + (r.length + 1)) : Nat) : Int) := fun a ha hb => by
   have := zNr r a (i + 1) ha hb
   rwa [show i + 1 + r.length = i + (r.length + 1) by omega] at this
  split
  ·next hd =>
   have hd := j1.1 hd
   exact key _ (by omega) (by rw [hp2]; omega)
  ·exact key _ h0 (by rw [hp2]; omega)
theorem zUx {w : Nm} (h : kF w = true) : -1000000000000 ≤ zC2 w ∧ zC2 w ≤ 1000000000000 := by
 simp only [kF, Bool.and_eq_true, decide_eq_true_eq] at h
 have h1 := zNr w 0 0 (Int.le_refl _) (by decide)
 rw [Nat.zero_add] at h1
 have hp : (10 ^ w.length : Nat) ≤ 10 ^ 11 := Nat.pow_le_pow_right (by omega) (by omega)
 unfold zC2
 split <;> omega
theorem zIc {w : Nm} (h1 : 1 ≤ w.length) (h2 : w.length ≤ 11) : RT 23 [xs w] [] = some (xi (zC2 w), []) := by
 refine xM (fn := Tryz.f23) rfl rfl rfl rfl ?_
 refine yU cx0 _ RT [4, 3, 0, 2] fun jk => ?_
 refine l23 h2 w 0 rfl (by omega) 0 (Int.le_refl _) (by decide) (fun jk j b0 b1 => ?_) jk
 have hp : (10 ^ w.length : Nat) ≤ 10 ^ 11 := Nat.pow_le_pow_right (by omega) h2
 have e45 : (((w.getD 0 0).toNat : Int) == 45) = (w.getD 0 0 == 45) := by
  rw [Bool.eq_iff_iff]
  simp only [beq_iff_eq]
  constructor
  ·intro h
   have h : (w.getD 0 0).toNat = 45 := by omega
   have h' := congrArg UInt8.ofNat h
   simpa using h'
  ·intro h; rw [h]; rfl
 refine ⟨⟨by omega, by omega⟩, ?_⟩
 refine ⟨fun h => ?_, fun h => ?_⟩
 ·have h' : w.getD 0 0 = 45 := by have h : (((w.getD 0 0).toNat : Int) == 45) = true := h; rw [e45] at h; simpa using h
  refine ⟨?_, rfl⟩
  rw [wrap64 (by omega) (by omega)]
  simp only [zC2]; rw [if_pos h']; rfl
 ·have h' : ¬ w.getD 0 0 = 45 := by have h : (((w.getD 0 0).toNat : Int) == 45) = false := h; rw [e45] at h; simpa using h
  refine ⟨?_, rfl⟩
  simp only [zC2]; rw [if_neg h']; rfl
end Go.Proofs.YtlkjnlfddadlmaaGreatDoor.V
namespace Go.Proofs.YtlkjnlfddadlmaaGreatDoor.V
set_option maxRecDepth 100000
theorem m9 : ∀ l : List Nm, ups (nm l) = nm l
 | [] => rfl
 | s :: l => by simp only [nm, ups, up, m9 l]
theorem iE {g : Nat} {a : List XU} {e : List (List CU)} {w : Nm} {ws r : List Nm} {ok : Bool} (h : RT g a e = some (xs w, [cuR ws r ok])) : zJ8 RT g a e (xs w) [cuR ws r ok] :=
 ⟨_, h, rfl, by simp only [List.mapM_cons, List.mapM_nil, xQ, qU, down, pE, Option.map_some, Option.bind_some]; rfl⟩
theorem zHg : ∀ {a b : List TU}, qL a = some b → xQ (a.map .t) = some (b.map .t) := by
 intro a
 induction a with
 | nil => intro b h; simp only [qL, Option.some.injEq] at h; subst h; rfl
 | cons x a ih =>
  intro b h
  simp only [qL] at h
  cases hx : down x with
  | none => simp [hx] at h
  | some y =>
   cases ha : qL a with
   | none => simp [hx, ha] at h
   | some b' =>
    simp only [hx, ha, Option.bind_some, Option.map_some, Option.some.injEq] at h
    subst h
    simp only [List.map_cons, xQ, qU, hx, Option.map_some, Option.bind_some, ih ha]
theorem zVy {g : Nat} {a : List XU} {e : List (List CU)} {c : Co} {ws r : List Nm} {ok : Bool} (h : RT g a e = some (xc (enc c), [cuR ws r ok])) : zJ8 RT g a e (xc (enc c)) [cuR ws r ok] :=
 ⟨_, h, by simp only [kZ, zHg (zAi c), Option.map_some], by simp only [List.mapM_cons, List.mapM_nil, xQ, qU, down, pE, Option.map_some, Option.bind_some]; rfl⟩
theorem g45 {w : Nm} : (((w.getD 0 0).toNat : Int) == 45) = (w.getD 0 0 == 45) := by
 rw [Bool.eq_iff_iff]
 simp only [beq_iff_eq]
 constructor
 ·intro h
  have h : (w.getD 0 0).toNat = 45 := by omega
  have h' := congrArg UInt8.ofNat h
  simpa using h'
 ·intro h; rw [h]; rfl
theorem j9 (w : Nm) : kF w = ((decide ((w.length : Int) ≥ 1) && decide ((w.length : Int) ≤ 11)) && (((((w.getD 0 0).toNat : Int) == 45) && decide ((w.length : Int) > 1) && (decide (((w.getD 1 0).toNat : Int) ≥ 48) && decide (((w.getD 1 0).toNat : Int) ≤ 57))) || (decide (((w.getD 0 0).toNat : Int) ≥ 48) && decide (((w.getD 0 0).toNat : Int) ≤ 57)))) := by
 rw [g45]
 have e1 : decide ((w.length : Int) ≥ 1) = decide (1 ≤ w.length) := by rw [Bool.eq_iff_iff]; simp; omega
 have e2 : decide ((w.length : Int) ≤ 11) = decide (w.length ≤ 11) := by rw [Bool.eq_iff_iff]; simp; omega
 have e3 : decide ((w.length : Int) > 1) = decide (1 < w.length) := by rw [Bool.eq_iff_iff]; simp; omega
 rw [e1, e2, e3]
 rfl
def CS (d : Nat) : Prop := ∀ (ws rest : List Nm) (ok : Bool), rest <:+ ws → ws.length ≤ 1048576 →
 RT 10 [p0, xi d] [cuR ws rest ok] = some (xc (enc (xB d (rest, ok)).1), [cuR ws (xB d (rest, ok)).2.1 (xB d (rest, ok)).2.2])
theorem zVv {l : List Co} {op n : Int} {s t : Nm} {ks : List Co} {i : Nat} (h : l.length = i) : ((xO l).drop 0).take (i * 5) ++ qA op n s t 0 ks.length (xO ks) = xO (l ++ [.mk op n s t ks]) := by
 subst h
 rw [xK, mW]; simp only [xO, enc, List.append_nil]
theorem sY : ∀ (d : Nat) (st : StS), (xB d st).2.1 <:+ st.1
 | 0, st => wB st
 | d + 1, st => by
  have hk : ∀ (k : Nat) (st : StS), (qN (xB d) k st).2.1 <:+ st.1 := by
   intro k
   induction k with
   | zero => intro st; exact List.suffix_refl _
   | succ k ih =>
    intro st
    simp only [qN]
    split
    ·exact List.suffix_refl _
    ·exact (ih _).trans (sY d st)
  have hn : ∀ (b : Bool) (st : StS), (nmS b st).2.1 <:+ st.1 := fun b st => by
   unfold nmS
   split
   ·exact wB st
   ·exact List.suffix_refl _
  simp only [xB]
  split
  ·exact wB st
  ·split
   ·exact wB st
   ·unfold zDb
    split
    ·exact (wB _).trans (wB st)
    ·split
     ·exact (wB _).trans (wB st)
     ·exact (wB _).trans ((hk _ _).trans ((hn _ _).trans ((hn _ _).trans ((wB _).trans (wB st)))))
theorem zFq (d : Nat) : ∀ (k : Nat) (st : StS), (qN (xB d) k st).2.1 <:+ st.1 := by
 intro k
 induction k with
 | zero => intro st; exact List.suffix_refl _
 | succ k ih =>
  intro st
  simp only [qN]
  split
  ·exact List.suffix_refl _
  ·exact (ih _).trans (sY d st)
theorem zFw : ∀ (l : List Nm) (m : List Int) (w : Nm), opF l m w = 0 ∨ opF l m w ∈ m
 | [], m, w => .inl rfl
 | a :: l, [], w => .inl rfl
 | a :: l, o :: m, w => by
  simp only [opF]
  split
  ·exact .inr List.mem_cons_self
  ·exact (zFw l m w).imp id (List.mem_cons_of_mem _)
theorem zQq {w : Nm} (h : opS w ≠ 0) : ∃ a : Nat, arC (opS w) = (a : Int) ∧ a ≤ 3 := by
 have hm : opS w ∈ cK := (zFw zFy cK w).resolve_left h
 generalize opS w = o at hm
 have key : ∀ o ∈ cK, arC o = 1 ∨ arC o = 2 ∨ arC o = 3 := by decide
 rcases key o hm with e | e | e
 ·exact ⟨1, e, by omega⟩
 ·exact ⟨2, e, by omega⟩
 ·exact ⟨3, e, by omega⟩
theorem lK {d a : Nat} (ih : CS d) (hd : d + 1 ≤ 151) {op : Int} {S T : Nm} {ws : List Nm} {K : Ex → StA → Prop} (hk : ws.length ≤ 1048576) (ha : arC op = (a : Int)) (ha3 : a ≤ 3) : ∀ (m i : Nat), i + m = a → ∀ (done : List Co) (rest : List Nm) (ok : Bool), done.length = i → rest <:+ ws →
  (∀ jk j, K (.exit 0) ⟨[(7, xi j), (6, .box () ((qA op 0 S T 0 (done ++ (qN (xB d) m (rest, ok)).1).length (xO (done ++ (qN (xB d) m (rest, ok)).1))).map .t)), (0, p0), (1, xi ((d + 1 : Nat) : Int)), (4, .box () (zC.map .t))], jk, [cuR ws (qN (xB d) m (rest, ok)).2.1 (qN (xB d) m (rest, ok)).2.2]⟩) →
  ∀ jk, sem cx0 10 RT (.loop (lp Tryz.f10 0)) ⟨[(7, xi i), (6, .box () ((qA op 0 S T 0 i (xO done)).map .t)), (0, p0), (1, xi ((d + 1 : Nat) : Int)), (4, .box () (zC.map .t))], jk, [cuR ws rest ok]⟩ K := by
 intro m
 induction m with
 | zero =>
  intro i him done rest ok hdn hs k1 jk
  refine zO cx0 _ RT [7, 6, 0, 1, 4] ?_
  refine ⟨_, uH (zK2 op), ?_⟩
  refine ⟨fun h => by rw [ha] at h; simp at h; omega, fun h => ?_⟩
  have := fun jk j => k1 jk j
  simp only [qN, List.append_nil, hdn] at this
  exact fun jk => this jk _
 | succ m ihm =>
  intro i him done rest ok hdn hs k1 jk
  refine zO cx0 _ RT [7, 6, 0, 1, 4] ?_
  refine ⟨_, uH (zK2 op), ?_⟩
  refine ⟨fun h => ?_, fun h => by rw [ha] at h; simp at h; omega⟩
  refine ⟨fun h2 => ?_, fun h2 => ?_⟩
  ·have h2 : ok = true := h2
   subst h2
   have hc := ih ws rest true hs hk
   have hs' := sY d (rest, true)
   have e0 : qN (xB d) (m + 1) (rest, true) = ((xB d (rest, true)).1 :: (qN (xB d) m (xB d (rest, true)).2).1, (qN (xB d) m (xB d (rest, true)).2).2) := by
    simp [qN]
   rw [e0] at k1
   generalize xB d (rest, true) = R at hc hs' k1
   obtain ⟨⟨po, pn, ps, pt, pk⟩, r1, ok1⟩ := R
   dsimp only at hc hs' k1
   have hdl : (done ++ [Co.mk po pn ps pt pk]).length = i + 1 := by simp [hdn]
   have e1 : done ++ (Co.mk po pn ps pt pk :: (qN (xB d) m (r1, ok1)).1) = (done ++ [Co.mk po pn ps pt pk]) ++ (qN (xB d) m (r1, ok1)).1 := by simp
   rw [e1] at k1
   have hih := ihm (i + 1) (by omega) _ r1 ok1 hdl (hs'.trans hs) k1
   rw [← zVv hdn] at hih
   have hw : IntKind.wrap .i64 (((d + 1 : Nat) : Int) - 1) = (d : Int) := by rw [wrap64 (by omega) (by omega)]; omega
   refine ⟨_, _, zVy (c := .mk po pn ps pt pk) (by rw [m9, hw]; exact hc), ?_⟩
   refine ⟨⟨rfl, rfl⟩, ?_⟩
   refine ⟨⟨rfl, rfl⟩, ?_⟩
   refine ⟨by rw [bL, hdn]; omega, ?_⟩
   refine ⟨⟨by simp only [maxLen]; omega, by show (i + 1) * 72 ≤ _; omega⟩, ?_⟩
   intro jk
   rw [wrap64 (by omega) (by omega)]
   exact hih jk
  ·have h2 : ok = false := h2
   subst h2
   have e0 : qN (xB d) (m + 1) (rest, false) = ([], (rest, false)) := by simp [qN]
   rw [e0] at k1
   have := fun jk j => k1 jk j
   simp only [List.append_nil, hdn] at this
   exact fun jk => this jk _
set_option maxHeartbeats 16000000 in
theorem zWf : ∀ d, d ≤ 151 → CS d := by
 intro d
 induction d with
 | zero =>
  intro _ ws rest ok h hk
  refine lR (fn := Tryz.f10) rfl rfl rfl rfl ?_
  refine ⟨_, _, iE (by rw [m9]; exact m7 h hk), ?_⟩
  have hs := wB (rest, ok)
  simp only [xB]
  generalize nxS (rest, ok) = a at hs ⊢
  obtain ⟨w, r1, ok1⟩ := a
  dsimp only at hs ⊢
  refine ⟨fun h1 => ?_, fun h1 => ?_⟩
  ·refine ⟨inV [], ?_⟩
   exact ⟨rfl, rfl⟩
  ·refine ⟨fun h2 => ?_, fun h2 => by simp at h2⟩
   refine ⟨inV [], ?_⟩
   exact ⟨rfl, rfl⟩
 | succ d ih =>
  intro hd ws rest ok h hk
  have ih := ih (by omega)
  refine lR (fn := Tryz.f10) rfl rfl rfl rfl ?_
  refine ⟨_, _, iE (by rw [m9]; exact m7 h hk), ?_⟩
  have hs := wB (rest, ok)
  simp only [xB]
  generalize nxS (rest, ok) = a at hs ⊢
  obtain ⟨w, r1, ok1⟩ := a
  dsimp only at hs ⊢
  have hs1 : r1 <:+ ws := hs.trans h
  refine ⟨fun h1 => ?_, fun h1 => ?_⟩
  ·have h1 : ok1 = false := by simpa using h1
   subst h1
   rw [if_pos rfl]
   refine ⟨inV [], ?_⟩
   exact ⟨rfl, rfl⟩
  have h1 : ok1 = true := by simpa using h1
  subst h1
  rw [if_neg (by decide)]
  refine ⟨fun h2 => by simp at h2; omega, fun h2 => ?_⟩
  refine ⟨fun h3 => ?_, fun h3 => ?_⟩
  ·have h3 : w ≠ [40] := by simpa using h3
   rw [if_pos h3]
   refine ⟨_, j6 (in50 _ _ _), ?_⟩
   refine ⟨fun c1 => ?_, fun c1 => ?_⟩
   ·have hl11 : 1 ≤ w.length ∧ w.length ≤ 11 := by simp at c1; omega
    refine ⟨⟨by omega, by omega⟩, ?_⟩
    refine ⟨fun b1 => ?_, fun b1 => ?_⟩
    ·have b1 : ((((w.getD 0 0).toNat : Int) == 45) = true) := b1
     refine ⟨fun b2 => ?_, fun b2 => ?_⟩
     ·have b2 : (decide ((w.length : Int) > 1) = true) := b2
      have b2' := of_decide_eq_true b2
      refine ⟨⟨by omega, by omega⟩, ?_⟩
      refine ⟨fun b3 => ?_, fun b3 => ?_⟩
      ·have b3 : (decide (((w.getD 1 0).toNat : Int) ≥ 48) = true) := b3
       refine ⟨⟨by omega, by omega⟩, ?_⟩
       refine ⟨fun b4 => ?_, fun b4 => ?_⟩
       ·have b4 : (decide (((w.getD 1 0).toNat : Int) ≤ 57) = true) := b4
        have e : kF w = true := by rw [j9, c1, b1, b2, b3, b4]; simp
        rw [e]
        refine ⟨_, uH (zIc (by omega) (by omega)), ?_⟩
        refine ⟨inV [], ?_⟩
        exact ⟨rfl, rfl⟩
       ·have b4 : (decide (((w.getD 1 0).toNat : Int) ≤ 57) = false) := b4
        refine ⟨⟨by omega, by omega⟩, ?_⟩
        refine ⟨fun b5 => ?_, fun b5 => ?_⟩
        ·have b5 : (decide (((w.getD 0 0).toNat : Int) ≥ 48) = true) := b5
         refine ⟨⟨by omega, by omega⟩, ?_⟩
         refine ⟨fun b6 => ?_, fun b6 => ?_⟩
         ·have b6 : (decide (((w.getD 0 0).toNat : Int) ≤ 57) = true) := b6
          have e : kF w = true := by rw [j9, c1, b1, b2, b3, b4, b5, b6]; simp
          rw [e]
          refine ⟨_, uH (zIc (by omega) (by omega)), ?_⟩
          refine ⟨inV [], ?_⟩
          exact ⟨rfl, rfl⟩
         ·have b6 : (decide (((w.getD 0 0).toNat : Int) ≤ 57) = false) := b6
          have e : kF w = false := by rw [j9, c1, b1, b2, b3, b4, b5, b6]; simp
          rw [e]
          refine ⟨inV [], ?_⟩
          exact ⟨rfl, rfl⟩
        ·have b5 : (decide (((w.getD 0 0).toNat : Int) ≥ 48) = false) := b5
         have e : kF w = false := by rw [j9, c1, b1, b2, b3, b4, b5]; simp
         rw [e]
         refine ⟨inV [], ?_⟩
         exact ⟨rfl, rfl⟩
      ·have b3 : (decide (((w.getD 1 0).toNat : Int) ≥ 48) = false) := b3
       refine ⟨⟨by omega, by omega⟩, ?_⟩
       refine ⟨fun b5 => ?_, fun b5 => ?_⟩
       ·have b5 : (decide (((w.getD 0 0).toNat : Int) ≥ 48) = true) := b5
        refine ⟨⟨by omega, by omega⟩, ?_⟩
        refine ⟨fun b6 => ?_, fun b6 => ?_⟩
        ·have b6 : (decide (((w.getD 0 0).toNat : Int) ≤ 57) = true) := b6
         have e : kF w = true := by rw [j9, c1, b1, b2, b3, b5, b6]; simp
         rw [e]
         refine ⟨_, uH (zIc (by omega) (by omega)), ?_⟩
         refine ⟨inV [], ?_⟩
         exact ⟨rfl, rfl⟩
        ·have b6 : (decide (((w.getD 0 0).toNat : Int) ≤ 57) = false) := b6
         have e : kF w = false := by rw [j9, c1, b1, b2, b3, b5, b6]; simp
         rw [e]
         refine ⟨inV [], ?_⟩
         exact ⟨rfl, rfl⟩
       ·have b5 : (decide (((w.getD 0 0).toNat : Int) ≥ 48) = false) := b5
        have e : kF w = false := by rw [j9, c1, b1, b2, b3, b5]; simp
        rw [e]
        refine ⟨inV [], ?_⟩
        exact ⟨rfl, rfl⟩
     ·have b2 : (decide ((w.length : Int) > 1) = false) := b2
      refine ⟨⟨by omega, by omega⟩, ?_⟩
      refine ⟨fun b5 => ?_, fun b5 => ?_⟩
      ·have b5 : (decide (((w.getD 0 0).toNat : Int) ≥ 48) = true) := b5
       refine ⟨⟨by omega, by omega⟩, ?_⟩
       refine ⟨fun b6 => ?_, fun b6 => ?_⟩
       ·have b6 : (decide (((w.getD 0 0).toNat : Int) ≤ 57) = true) := b6
        have e : kF w = true := by rw [j9, c1, b1, b2, b5, b6]; simp
        rw [e]
        refine ⟨_, uH (zIc (by omega) (by omega)), ?_⟩
        refine ⟨inV [], ?_⟩
        exact ⟨rfl, rfl⟩
       ·have b6 : (decide (((w.getD 0 0).toNat : Int) ≤ 57) = false) := b6
        have e : kF w = false := by rw [j9, c1, b1, b2, b5, b6]; simp
        rw [e]
        refine ⟨inV [], ?_⟩
        exact ⟨rfl, rfl⟩
      ·have b5 : (decide (((w.getD 0 0).toNat : Int) ≥ 48) = false) := b5
       have e : kF w = false := by rw [j9, c1, b1, b2, b5]; simp
       rw [e]
       refine ⟨inV [], ?_⟩
       exact ⟨rfl, rfl⟩
    ·have b1 : ((((w.getD 0 0).toNat : Int) == 45) = false) := b1
     refine ⟨⟨by omega, by omega⟩, ?_⟩
     refine ⟨fun b5 => ?_, fun b5 => ?_⟩
     ·have b5 : (decide (((w.getD 0 0).toNat : Int) ≥ 48) = true) := b5
      refine ⟨⟨by omega, by omega⟩, ?_⟩
      refine ⟨fun b6 => ?_, fun b6 => ?_⟩
      ·have b6 : (decide (((w.getD 0 0).toNat : Int) ≤ 57) = true) := b6
       have e : kF w = true := by rw [j9, c1, b1, b5, b6]; simp
       rw [e]
       refine ⟨_, uH (zIc (by omega) (by omega)), ?_⟩
       refine ⟨inV [], ?_⟩
       exact ⟨rfl, rfl⟩
      ·have b6 : (decide (((w.getD 0 0).toNat : Int) ≤ 57) = false) := b6
       have e : kF w = false := by rw [j9, c1, b1, b5, b6]; simp
       rw [e]
       refine ⟨inV [], ?_⟩
       exact ⟨rfl, rfl⟩
     ·have b5 : (decide (((w.getD 0 0).toNat : Int) ≥ 48) = false) := b5
      have e : kF w = false := by rw [j9, c1, b1, b5]; simp
      rw [e]
      refine ⟨inV [], ?_⟩
      exact ⟨rfl, rfl⟩
   ·have e : kF w = false := by rw [j9, c1]; simp
    rw [e]
    refine ⟨inV [], ?_⟩
    exact ⟨rfl, rfl⟩
  ·have h3 : w = [40] := by simpa using h3
   subst h3
   rw [if_neg (by simp)]
   refine ⟨_, _, iE (by rw [m9]; exact m7 hs1 hk), ?_⟩
   have hs2 := wB (r1, true)
   unfold zDb
   generalize nxS (r1, true) = a at hs2 ⊢
   obtain ⟨w2, r2, ok2⟩ := a
   dsimp only at hs2 ⊢
   have hs2 : r2 <:+ ws := hs2.trans hs1
   refine ⟨fun h4 => ?_, fun h4 => ?_⟩
   ·have h4 : w2 = [41] := by simpa using h4
    rw [if_pos h4]
    refine ⟨inV [], ?_⟩
    exact ⟨rfl, rfl⟩
   have h4 : w2 ≠ [41] := by simpa using h4
   rw [if_neg h4]
   refine ⟨_, uH (op_s w2), ?_⟩
   refine ⟨fun h5 => ?_, fun h5 => ?_⟩
   ·have h5 : opS w2 = 0 := by simpa using h5
    rw [if_pos h5]
    refine ⟨inV [], ?_⟩
    exact ⟨by rw [h5]; rfl, rfl⟩
   have h5 : opS w2 ≠ 0 := by simpa using h5
   rw [if_neg h5]
   obtain ⟨a, ha, ha3⟩ := zQq h5
   have hat : (arC (opS w2)).toNat = a := by rw [ha]; rfl
   rw [hat]
   generalize opS w2 = op at h5 ha ⊢
   refine ⟨_, j6 (zNn op), ?_⟩
   refine ⟨fun e6 => ?_, fun e6 => ?_⟩
   ·have e6 : gD op = true := e6
    refine ⟨_, _, iE (by rw [m9]; exact m7 hs2 hk), ?_⟩
    have hs3 := wB (r2, ok2)
    simp only [nmS, e6, if_true]
    generalize nxS (r2, ok2) = a3 at hs3 ⊢
    obtain ⟨w3, r3, ok3⟩ := a3
    dsimp only at hs3 ⊢
    have hs3 : r3 <:+ ws := hs3.trans hs2
    refine ⟨fun e7 => ?_, fun e7 => ?_⟩
    ·have e7 : (op == 6) = true := e7
     refine ⟨_, _, iE (by rw [m9]; exact m7 hs3 hk), ?_⟩
     have hs4 := wB (r3, ok3)
     simp only [e7, if_true]
     generalize nxS (r3, ok3) = a4 at hs4 ⊢
     obtain ⟨w4, r4, ok4⟩ := a4
     dsimp only at hs4 ⊢
     have hs4 : r4 <:+ ws := hs4.trans hs3
     refine yU cx0 _ RT [7, 6, 0, 1, 4] fun jk => ?_
     refine lK ih hd hk ha ha3 a 0 (by omega) [] r4 ok4 rfl hs4 (fun jk j => ?_) jk
     have hs5 := zFq d a (r4, ok4)
     simp only [List.nil_append]
     generalize qN (xB d) a (r4, ok4) = R at hs5 ⊢
     obtain ⟨kk, r5, ok5⟩ := R
     dsimp only at hs5 ⊢
     have hs5 : r5 <:+ ws := hs5.trans hs4
     refine ⟨_, _, iE (by rw [m9]; exact m7 hs5 hk), ?_⟩
     unfold zRd
     generalize nxS (r5, ok5) = a6
     obtain ⟨w6, r6, ok6⟩ := a6
     dsimp only
     refine ⟨fun h8 => ?_, fun h8 => ?_⟩
     ·have h8 : w6 ≠ [41] := by simpa using h8
      rw [if_neg h8]
      refine ⟨inV kk, ?_⟩
      exact ⟨by rw [xK]; rfl, rfl⟩
     ·have h8 : w6 = [41] := by simpa using h8
      rw [if_pos h8]
      refine ⟨inV kk, ?_⟩
      exact ⟨by rw [xK]; rfl, rfl⟩
    ·have e7 : (op == 6) = false := e7
     simp only [e7, Bool.false_eq_true, if_false]
     refine yU cx0 _ RT [7, 6, 0, 1, 4] fun jk => ?_
     refine lK ih hd hk ha ha3 a 0 (by omega) [] r3 ok3 rfl hs3 (fun jk j => ?_) jk
     have hs5 := zFq d a (r3, ok3)
     simp only [List.nil_append]
     generalize qN (xB d) a (r3, ok3) = R at hs5 ⊢
     obtain ⟨kk, r5, ok5⟩ := R
     dsimp only at hs5 ⊢
     have hs5 : r5 <:+ ws := hs5.trans hs3
     refine ⟨_, _, iE (by rw [m9]; exact m7 hs5 hk), ?_⟩
     unfold zRd
     generalize nxS (r5, ok5) = a6
     obtain ⟨w6, r6, ok6⟩ := a6
     dsimp only
     refine ⟨fun h8 => ?_, fun h8 => ?_⟩
     ·have h8 : w6 ≠ [41] := by simpa using h8
      rw [if_neg h8]
      refine ⟨inV kk, ?_⟩
      exact ⟨by rw [xK]; rfl, rfl⟩
     ·have h8 : w6 = [41] := by simpa using h8
      rw [if_pos h8]
      refine ⟨inV kk, ?_⟩
      exact ⟨by rw [xK]; rfl, rfl⟩
   ·have e6 : gD op = false := e6
    simp only [nmS, e6, Bool.false_eq_true, if_false]
    have e7 : (op == 6) = false := by unfold gD at e6; simp at e6 ⊢; omega
    simp only [e7, Bool.false_eq_true, if_false]
    refine ⟨fun h => (by rw [e7] at h; cases h), fun _ => ?_⟩
    refine yU cx0 _ RT [7, 6, 0, 1, 4] fun jk => ?_
    refine lK ih hd hk ha ha3 a 0 (by omega) [] r2 ok2 rfl hs2 (fun jk j => ?_) jk
    have hs5 := zFq d a (r2, ok2)
    simp only [List.nil_append]
    generalize qN (xB d) a (r2, ok2) = R at hs5 ⊢
    obtain ⟨kk, r5, ok5⟩ := R
    dsimp only at hs5 ⊢
    have hs5 : r5 <:+ ws := hs5.trans hs2
    refine ⟨_, _, iE (by rw [m9]; exact m7 hs5 hk), ?_⟩
    unfold zRd
    generalize nxS (r5, ok5) = a6
    obtain ⟨w6, r6, ok6⟩ := a6
    dsimp only
    refine ⟨fun h8 => ?_, fun h8 => ?_⟩
    ·have h8 : w6 ≠ [41] := by simpa using h8
     rw [if_neg h8]
     refine ⟨inV kk, ?_⟩
     exact ⟨by rw [xK]; rfl, rfl⟩
    ·have h8 : w6 = [41] := by simpa using h8
     rw [if_pos h8]
     refine ⟨inV kk, ?_⟩
     exact ⟨by rw [xK]; rfl, rfl⟩
end Go.Proofs.YtlkjnlfddadlmaaGreatDoor.V
