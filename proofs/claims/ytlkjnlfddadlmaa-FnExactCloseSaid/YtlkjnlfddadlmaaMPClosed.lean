/-
  Closing, by the program: functions. No conditions.
-/
import Derived.Test.YtlkjnlfddadlmaaMPClosec
set_option linter.unusedVariables false
set_option linter.unusedSimpArgs false
namespace Go.Proofs.Ytlkjnlfddadlmaa.V
set_option maxRecDepth 100000
abbrev wI (bs : List Blk) : List CU := [.t (.sl () 0 4 bs.length (blE bs))]
theorem zPf : ∀ (l : List Nm) (i : Nat) (s : Nm), kp i (l ++ [s]) = kp i l ++ [(s, 3, ((i + l.length : Nat) : Int))]
 | [], i, s => by simp [kp]
 | x :: l, i, s => by
  simp only [List.cons_append, kp, zPf l (i + 1) s, List.length_cons]
  rw [show i + 1 + l.length = i + (l.length + 1) by omega]
theorem zM5 : ∀ (l : List Nm) (i : Nat), (kp i l).length = l.length
 | [], i => rfl
 | x :: l, i => by simp only [kp, List.length_cons, zM5 l]
theorem ful {self : Nm} {op m : Int} {s t : Nm} {g1 k : Nat} {ds : List TU} {arg : Nm} {l : List Pl} {cs : List TU} {g n : Nat} {names : List Nm} {bs : List Blk} {K : Ex → StA → Prop} (hl : l.length ≤ 200000) (hk : names.length ≤ 200000) (hc : cs = plE l) :
  ∀ (r : List Nm) (i : Nat), names.drop i = r → i ≤ names.length → ∀ (D : List Nm), D.length ≤ i →
  (∀ jk j, K (.exit 0) ⟨[(38, xi j), (37, xi names.length), (36, xl 0 1 names.length (nm names)), (12, xl 0 3 (D ++ r.filter fun x => !(x == self)).length (plE (kp 0 (D ++ r.filter fun x => !(x == self))))), (13, xl 0 3 (D ++ r.filter fun x => !(x == self)).length (yP ((D ++ r.filter fun x => !(x == self)).map (kC l)))), (0, p0), (1, xs arg), (2, xs self), (4, xl (g + 1) 3 l.length cs), (8, .box () ((xJ op m s t (g1 + 1) k ds).map .t)), (11, xi n), (10, .box () ((irc 0 0 0 0 []).map .t))], jk, [wI bs]⟩) →
  ∀ jk, sem cx0 100 RT (.loop (lp Try.f100 0)) ⟨[(38, xi i), (37, xi names.length), (36, xl 0 1 names.length (nm names)), (12, xl 0 3 D.length (plE (kp 0 D))), (13, xl 0 3 D.length (yP (D.map (kC l)))), (0, p0), (1, xs arg), (2, xs self), (4, xl (g + 1) 3 l.length cs), (8, .box () ((xJ op m s t (g1 + 1) k ds).map .t)), (11, xi n), (10, .box () ((irc 0 0 0 0 []).map .t))], jk, [wI bs]⟩ K := by
 refine xE ?_ ?_
 ·intro D hD k1 jk
  refine zK cx0 _ RT [38, 37, 36, 12, 13, 0, 1, 2, 4, 8, 11, 10] ⟨fun h => (jZ h (by omega)).elim, fun h => ?_⟩
  intro jk
  have := k1 jk names.length
  rw [List.filter_nil, List.append_nil] at this
  exact this
 ·intro i x r hi hil ih D hD k1 jk
  refine zK cx0 _ RT [38, 37, 36, 12, 13, 0, 1, 2, 4, 8, 11, 10] ⟨fun h => ?_, fun h => (qL h (by omega)).elim⟩
  refine ⟨⟨by omega, by omega⟩, ?_⟩
  refine ⟨x, ⟨by rw [Nat.zero_add]; exact zPn hi, rfl⟩, ?_⟩
  refine ⟨fun h2 => ?_, fun h2 => ?_⟩
  ·have e : (x :: r).filter (fun x => !(x == self)) = r.filter fun x => !(x == self) := List.filter_cons_of_neg (by rw [show (x == self) = true from h2]; decide)
   rw [e] at k1
   intro jk
   rw [q8 hil (by simp only [maxLen]; omega)]
   exact ih D (by omega) k1 jk
  ·have e : (x :: r).filter (fun x => !(x == self)) = x :: r.filter fun x => !(x == self) := List.filter_cons_of_pos (by rw [show (x == self) = false from h2]; decide)
   rw [e] at k1
   subst hc
   have hkl := zM5 D 0
   have hf := zTb (s := x) (g := g + 1) (x6 l) (by omega)
   have hp : ((plE (kp 0 D)).drop 0).take (D.length * 3) ++ [.str x, .int .i64 3, .int .i64 D.length] = plE (kp 0 (D ++ [x])) := by
    have := n9 (l := kp 0 D) (p := (x, 3, (D.length : Int)))
    rw [hkl] at this
    rw [zPf, Nat.zero_add]
    exact this
   have hq : ((yP (D.map (kC l))).drop 0).take (D.length * 3) ++ irE (kC l x) = yP ((D ++ [x]).map (kC l)) := by
    rw [List.map_append, kT, uZ (by rw [qO, List.length_map]; omega)]
    simp only [List.map_cons, List.map_nil, yP, List.append_nil]
   have ih := ih (D ++ [x]) (by simp; omega) (fun jk j => by
    have := k1 jk j
    rw [List.append_assoc]
    exact this)
   rw [← hp, ← hq, List.length_append] at ih
   generalize kC l x = F at ih hf
   obtain ⟨fo, fn, fk⟩ := F
   refine ⟨by rw [gE]; omega, ?_⟩
   refine ⟨⟨by simp only [maxLen]; omega, by show (_ + 1) * 32 ≤ _; omega⟩, ?_⟩
   refine ⟨_, zP4 hf, ?_⟩
   refine ⟨by rw [qO, List.length_map]; omega, ?_⟩
   refine ⟨⟨by simp only [maxLen]; omega, by show (_ + 1) * 40 ≤ _; omega⟩, ?_⟩
   intro jk
   rw [q8 hil (by simp only [maxLen]; omega)]
   exact ih jk
theorem zVc {l : List Pl} {n : Nat} {p : Pl} (h : l.length = n) : ((plE l).drop 0).take (n * 3) ++ [.str p.1, .int .i64 p.2.1, .int .i64 p.2.2] = plE (l ++ [p]) := by subst h; exact n9
theorem zIe {l : List Pl} {n : Nat} (h : l.length = n) : ((plE l).drop 0).take (n * 3) = plE l := by subst h; exact j4 l
theorem zEz {l : List Blk} {i : Nat} (h : i < l.length) : (blE l).take (i * 4) = blE (l.take i) ∧ (blE l).drop (i * 4) = .int .i64 (l.getD i (0, zIr)).1 :: irE (l.getD i (0, zIr)).2 ++ blE (l.drop (i + 1)) := by
 induction l generalizing i with
 | nil => simp at h
 | cons b l ih =>
  have hb : ((.int .i64 b.1 : TU) :: irE b.2).length = 4 := by simp only [List.length_cons, aO]
  cases i with
  | zero => exact ⟨rfl, rfl⟩
  | succ i =>
   obtain ⟨h1, h2⟩ := ih (i := i) (by simpa using h)
   constructor
   ·show ((.int .i64 b.1 :: irE b.2) ++ blE l).take ((i + 1) * 4) = (.int .i64 b.1 :: irE b.2) ++ blE (l.take i)
    rw [show (i + 1) * 4 = ((.int .i64 b.1 : TU) :: irE b.2).length + i * 4 by rw [hb]; omega, List.take_length_add_append, h1]
   ·show ((.int .i64 b.1 :: irE b.2) ++ blE l).drop ((i + 1) * 4) = _
    rw [show (i + 1) * 4 = ((.int .i64 b.1 : TU) :: irE b.2).length + i * 4 by rw [hb]; omega, List.drop_length_add_append, h2]
    rfl
theorem zIp {l : List Blk} {i : Nat} {b : Blk} (h : i < l.length) : blE (l.set i b) = blE (l.take i) ++ (.int .i64 b.1 :: irE b.2 ++ blE (l.drop (i + 1))) := by
 induction l generalizing i with
 | nil => simp at h
 | cons x l ih =>
  cases i with
  | zero => rfl
  | succ i =>
   have := ih (i := i) (by simpa using h)
   show (.int .i64 x.1 :: irE x.2) ++ blE (l.set i b) = (.int .i64 x.1 :: irE x.2) ++ blE (l.take i) ++ _
   rw [this, List.append_assoc]
   rfl
theorem tQ {l : List Blk} {i : Nat} {o n : Int} {ks : List Ir} (h : i < l.length) : (blE l).take (0 + i * 4 + 1) ++ [.int .i64 o, .int .i64 n, .sl () 0 3 ks.length (((yP ks).drop 0).take (ks.length * 3))] ++ (blE l).drop (0 + i * 4 + 1 + 3) = blE (rK l i (.mk o n ks)) := by
 obtain ⟨h1, h2⟩ := zEz h
 have e1 : (blE l).take (0 + i * 4 + 1) = blE (l.take i) ++ [.int .i64 (l.getD i (0, zIr)).1] := by
  rw [Nat.zero_add, List.take_add, h1, h2]; rfl
 have e2 : (blE l).drop (0 + i * 4 + 1 + 3) = blE (l.drop (i + 1)) := by
  rw [show 0 + i * 4 + 1 + 3 = i * 4 + 4 by omega, ← List.drop_drop, h2]
  rw [show 4 = ((.int .i64 (l.getD i (0, zIr)).1 : TU) :: irE (l.getD i (0, zIr)).2).length by simp only [List.length_cons, aO], List.drop_left]
 rw [e1, e2, q5, rK, zIp h]
 simp only [List.append_assoc]
 rfl
theorem zSn {l : List Blk} {i : Nat} {f : Int} (h : i < l.length) : (blE l).take (0 + i * 4 + 0) ++ [.int .i64 f] ++ (blE l).drop (0 + i * 4 + 0 + 1) = blE (l.set i (f, (l.getD i (0, zIr)).2)) := by
 obtain ⟨h1, h2⟩ := zEz h
 have e2 : (blE l).drop (0 + i * 4 + 0 + 1) = irE (l.getD i (0, zIr)).2 ++ blE (l.drop (i + 1)) := by
  rw [show 0 + i * 4 + 0 + 1 = i * 4 + 1 by omega, ← List.drop_drop, h2]; rfl
 rw [e2, show 0 + i * 4 + 0 = i * 4 by omega, h1, zIp h]
 simp only [List.append_assoc]
 rfl
theorem pE {l : List Blk} {i : Nat} {b : Ir} : (rK l i b).length = l.length := by simp [rK]
theorem zTx : ∀ {l : List Nm} {i : Nat} {p : Pl}, p ∈ kp i l → (i : Int) ≤ p.2.2 ∧ p.2.2 < ((i + l.length : Nat) : Int)
 | x :: l, i, p, h => by
  simp only [kp, List.mem_cons] at h
  rcases h with rfl | h
  ·simp only [List.length_cons]; omega
  ·have := zTx h; simp only [List.length_cons]; omega
theorem zZi {s : Nm} : (sf s).length ≤ 1 := by unfold sf; split <;> simp
theorem zZj {s : Nm} {p : Pl} (h : p ∈ sf s) : p.2.2 = 0 := by
 unfold sf at h
 split at h
 ·cases h
 ·simp only [List.mem_singleton] at h
  subst h; rfl
def SI (c : Co) : Prop := ∀ us (l : List Pl) g cs bs, wR c = true → szC c ≤ 1048576 → ndC c ≤ 40000 → l.length + ndC c ≤ 100000 → bs.length + ndC c ≤ 100000 → (∀ p : Pl, p ∈ l → 0 ≤ p.2.2 ∧ p.2.2 + (ndC c : Int) ≤ 100000) → cs = plE l → Rd c us →
 RT 65 [p0, xc us, xl (g + 1) 3 l.length cs] [wI bs] = some (xc (irE (iE c l bs).1), [wI (iE c l bs).2])
theorem cH {g : Nat} {a : List XU} {e : List (List CU)} {c : Ir} {bs : List Blk} (h : RT g a e = some (xc (irE c), [wI bs])) : zBd RT g a e (xc (irE c)) [wI bs] := by
 refine ⟨_, h, by simp only [j7, aB (lB c), Option.map_some], ?_⟩
 simp only [List.mapM_cons, List.mapM_nil, y8, qC, down, dH, Option.map_some, Option.bind_some]
 rfl
set_option maxHeartbeats 8000000 in
theorem zXn {body : Co} (H : SI body) {us : List TU} {arg self : Nm} {l : List Pl} {g : Nat} {cs : List TU} {bs : List Blk} (ha : wR body = true) (hz : arg.length + 1 + szC body ≤ 1048576) (hn : ndC body ≤ 40000)
  (hl : l.length ≤ 100000) (hB : bs.length + ndC body + 1 ≤ 100000) (hc : cs = plE l) (hr : Rd body us) :
  RT 100 [p0, xs arg, xs self, xc us, xl (g + 1) 3 l.length cs] [wI bs] = some (xc (irE (f4 arg self body (iE body) l bs).1), [wI (f4 arg self body (iE body) l bs).2]) := by
 have hk := oM (arg := arg) (self := self) ha
 have hib := zCb (M := ndC body + 2) body ha (Nat.le_refl _)
 obtain ⟨i1, i2⟩ := hib (kp 0 (qE arg self body) ++ sf self ++ [(arg, 2, 0)]) (bs ++ [(((qE arg self body).length : Int), zIr)])
 have hzb : szC body ≤ 1048576 := by omega
 have hfr := fun (us : List TU) h => zYp (c := .mk 3 0 arg [] [body]) (us := us) (by simp only [szC, x0]; simp only [List.length_nil]; omega) h
 cases body with
 | mk op n s t ks =>
 obtain ⟨g1, ds, rfl, hr⟩ := hr
 have rd : ∀ g, Rd (.mk op n s t ks) (xJ op n s t (g + 2) ks.length (zI ds)) := fun g => ⟨_, _, rfl, hr.retag⟩
 refine x8 (fn := Try.f100) rfl rfl rfl rfl ?_
 refine ⟨rJ bs, ?_⟩
 refine ⟨⟨by simp only [maxLen]; omega, by show (bs.length + 1) * 48 ≤ _; omega⟩, ?_⟩
 refine ⟨_, zDo (hfr _ (show Rd (.mk 3 0 arg [] [.mk op n s t ks]) (xJ 3 0 arg [] 1 1 (xJ op n s t (g1 + 2) ks.length (zI ds))) from ⟨0, _, rfl, _, _, (List.append_nil _).symm, rd g1, rfl⟩)), ?_⟩
 have hN : (dd [] (frC [] (.mk 3 0 arg [] [.mk op n s t ks]))).length ≤ 200000 := by
  have h1 := zMl (frC [] (.mk 3 0 arg [] [.mk op n s t ks])) []
  have h2 := zMx [arg] (.mk op n s t ks) ha
  have e : frC [] (.mk 3 0 arg [] [.mk op n s t ks]) = frC [arg] (.mk op n s t ks) := by
   simp only [frC, frL, List.nil_append, List.append_nil]
   rfl
  rw [e] at h1 ⊢
  simp only [List.length_nil] at h1
  omega
 have hkp : qE arg self (.mk op n s t ks) = (dd [] (frC [] (.mk 3 0 arg [] [.mk op n s t ks]))).filter fun x => !(x == self) := rfl
 have hq : ((blE bs).drop 0).take (bs.length * 4) ++ [.int .i64 0, .int .i64 0, .int .i64 0, .sl () 0 3 0 []] = blE (bs ++ [((0 : Int), zIr)]) := by rw [gP, mC]; rfl
 have hw : wI (bs ++ [((0 : Int), zIr)]) = [.t (.sl () 0 4 (bs.length + 1) (((blE bs).drop 0).take (bs.length * 4) ++ [.int .i64 0, .int .i64 0, .int .i64 0, .sl () 0 3 0 []]))] := by rw [hq]; simp
 have hful := fun K => ful (K := K) (self := self) (op := op) (m := n) (s := s) (t := t) (g1 := g1) (k := ks.length) (ds := ds) (arg := arg) (g := g) (n := bs.length) (bs := bs ++ [(0, zIr)]) (by omega) hN hc (dd [] (frC [] (.mk 3 0 arg [] [.mk op n s t ks]))) 0 rfl (by omega) [] (by simp)
 rw [← hkp] at hful
 clear hkp
 simp only [List.nil_append] at hful
 rw [hw] at hful
 generalize dd [] (frC [] (.mk 3 0 arg [] [.mk op n s t ks])) = N at hful hN ⊢
 generalize hKK : qE arg self (.mk op n s t ks) = KK at hful hk i1 i2
 refine yE cx0 _ RT [38, 37, 36, 12, 13, 0, 1, 2, 4, 8, 11, 10] fun jk => ?_
 refine hful _ (fun jk j => ?_) jk
 have hkl := zM5 KK 0
 have hw2 : wI (bs ++ [((KK.length : Int), zIr)]) = [.t (.sl () 0 4 (bs.length + 1) (ups ((((blE bs).drop 0).take (bs.length * 4) ++ ([.int .i64 0, .int .i64 0, .int .i64 0, .sl () 0 3 0 []] : List TU)).take (0 + bs.length * 4 + 0) ++ [.int .i64 KK.length] ++ (((blE bs).drop 0).take (bs.length * 4) ++ ([.int .i64 0, .int .i64 0, .int .i64 0, .sl () 0 3 0 []] : List TU)).drop (0 + bs.length * 4 + 0 + 1))))] := by
  rw [hq, zSn (by simp), j1]
  simp
 have hbnd : ∀ p : Pl, p ∈ kp 0 KK ++ sf self ++ [(arg, 2, 0)] → 0 ≤ p.2.2 ∧ p.2.2 + (ndC (.mk op n s t ks) : Int) ≤ 100000 := by
  intro p hp
  rcases List.mem_append.1 hp with hp | hp
  ·rcases List.mem_append.1 hp with hp | hp
   ·have := zTx hp; omega
   ·have := zZj hp; omega
  ·simp only [List.mem_singleton] at hp
   subst hp
   simp only; omega
 have hcc := H (xJ op n s t (g1 + 2) ks.length (zI ds)) (kp 0 KK ++ sf self ++ [(arg, 2, 0)]) 0 _ (bs ++ [((KK.length : Int), zIr)]) ha hzb hn (by have := zZi (s := self); simp only [List.length_append, hkl, List.length_cons, List.length_nil]; omega) (by simp only [List.length_append, List.length_cons, List.length_nil]; omega) hbnd rfl (rd g1)
 rw [hw2] at hcc
 have hEQ : f4 arg self (.mk op n s t ks) (iE (.mk op n s t ks)) l bs = (.mk 5 bs.length (KK.map (kC l)), rK (iE (.mk op n s t ks) (kp 0 KK ++ sf self ++ [(arg, 2, 0)]) (bs ++ [((KK.length : Int), zIr)])).2 bs.length (iE (.mk op n s t ks) (kp 0 KK ++ sf self ++ [(arg, 2, 0)]) (bs ++ [((KK.length : Int), zIr)])).1) := by
  unfold f4; rw [hKK]
 simp only [List.length_append, List.length_cons, List.length_nil] at i1
 refine ⟨fun hs => ?_, fun hs => ?_⟩
 ·have hsf : sf self = [(self, 4, 0)] := by unfold sf; rw [if_neg (by simpa using hs)]
  have e1 := zVc (l := kp 0 KK) (n := KK.length) (p := (self, 4, 0)) hkl
  have e2 := zVc (l := kp 0 KK ++ [(self, 4, 0)]) (n := KK.length + 1) (p := (arg, 2, 0)) (by simp [hkl])
  have hL : xl 1 3 (kp 0 KK ++ sf self ++ [(arg, 2, 0)]).length (plE (kp 0 KK ++ sf self ++ [(arg, 2, 0)])) = xl 1 3 (KK.length + 1 + 1) (zI (((((((plE (kp 0 KK)).drop 0).take (KK.length * 3) ++ ([.str self, .int .i64 4, .int .i64 0] : List TU)).drop 0).take ((KK.length + 1) * 3) ++ ([.str arg, .int .i64 2, .int .i64 0] : List TU)).drop 0).take ((KK.length + 1 + 1) * 3))) := by
   rw [hsf, e1, e2, zIe (l := kp 0 KK ++ [(self, 4, 0)] ++ [(arg, 2, 0)]) (by simp [hkl]), x6]
   simp [hkl]
  rw [hL] at hcc
  generalize iE (.mk op n s t ks) (kp 0 KK ++ sf self ++ [(arg, 2, 0)]) (bs ++ [((KK.length : Int), zIr)]) = R at hcc hEQ i1 i2
  obtain ⟨⟨ro, rn, rk⟩, rb⟩ := R
  dsimp only at hcc hEQ i1 i2
  rw [hEQ]
  refine ⟨by rw [gE]; omega, ?_⟩
  refine ⟨⟨by simp only [maxLen]; omega, by show (_ + 1) * 32 ≤ _; omega⟩, ?_⟩
  refine ⟨by rw [e1, gE, List.length_append]; simp; omega, ?_⟩
  refine ⟨⟨by simp only [maxLen]; omega, by show (_ + 1) * 32 ≤ _; omega⟩, ?_⟩
  refine ⟨⟨by omega, by omega⟩, ?_⟩
  refine ⟨by rw [hq, kM, List.length_append]; show 0 + bs.length * 4 + 0 + 1 ≤ _; simp; omega, ?_⟩
  intro jk
  refine ⟨by rw [e1, e2, gE]; simp [hkl], ?_⟩
  refine ⟨_, _, cH hcc, ?_⟩
  refine ⟨⟨by omega, by omega⟩, ?_⟩
  refine ⟨inI rk, ?_⟩
  refine ⟨by rw [kM]; show 0 + bs.length * 4 + 1 + 3 ≤ _; omega, ?_⟩
  intro jk
  refine ⟨by rw [qO, List.length_map]; omega, ?_⟩
  refine ⟨?_, ?_⟩
  ·have hv := bC (o := 5) (n := bs.length) (ks := KK.map (kC l))
   rw [List.length_map] at hv
   exact hv
  ·show [wI (rK rb bs.length (.mk ro rn rk))] = _
   unfold wI
   rw [← tQ (by omega), pE]
   rfl
 ·have hs' : self = [] := by simpa using hs
  have hsf : sf self = [] := by rw [hs']; rfl
  have e1 := zVc (l := kp 0 KK) (n := KK.length) (p := (arg, 2, 0)) hkl
  have hL : xl 1 3 (kp 0 KK ++ sf self ++ [(arg, 2, 0)]).length (plE (kp 0 KK ++ sf self ++ [(arg, 2, 0)])) = xl 1 3 (KK.length + 1) (zI (((((plE (kp 0 KK)).drop 0).take (KK.length * 3) ++ ([.str arg, .int .i64 2, .int .i64 0] : List TU)).drop 0).take ((KK.length + 1) * 3))) := by
   rw [hsf, e1, List.append_nil, zIe (l := kp 0 KK ++ [(arg, 2, 0)]) (by simp [hkl]), x6]
   simp [hkl]
  rw [hL] at hcc
  generalize iE (.mk op n s t ks) (kp 0 KK ++ sf self ++ [(arg, 2, 0)]) (bs ++ [((KK.length : Int), zIr)]) = R at hcc hEQ i1 i2
  obtain ⟨⟨ro, rn, rk⟩, rb⟩ := R
  dsimp only at hcc hEQ i1 i2
  rw [hEQ]
  refine ⟨by rw [gE]; omega, ?_⟩
  refine ⟨⟨by simp only [maxLen]; omega, by show (_ + 1) * 32 ≤ _; omega⟩, ?_⟩
  refine ⟨⟨by omega, by omega⟩, ?_⟩
  refine ⟨by rw [hq, kM, List.length_append]; show 0 + bs.length * 4 + 0 + 1 ≤ _; simp; omega, ?_⟩
  intro jk
  refine ⟨by rw [e1, gE]; simp [hkl], ?_⟩
  refine ⟨_, _, cH hcc, ?_⟩
  refine ⟨⟨by omega, by omega⟩, ?_⟩
  refine ⟨inI rk, ?_⟩
  refine ⟨by rw [kM]; show 0 + bs.length * 4 + 1 + 3 ≤ _; omega, ?_⟩
  intro jk
  refine ⟨by rw [qO, List.length_map]; omega, ?_⟩
  refine ⟨?_, ?_⟩
  ·have hv := bC (o := 5) (n := bs.length) (ks := KK.map (kC l))
   rw [List.length_map] at hv
   exact hv
  ·show [wI (rK rb bs.length (.mk ro rn rk))] = _
   unfold wI
   rw [← tQ (by omega), pE]
   rfl
end Go.Proofs.Ytlkjnlfddadlmaa.V
namespace Go.Proofs.Ytlkjnlfddadlmaa.V
set_option maxRecDepth 100000
theorem zT7 {k : Nat} : ∀ (l : List Pl) (n : Int), 1 ≤ n → n + k ≤ 100001 → (∀ p : Pl, p ∈ l → 0 ≤ p.2.2 ∧ p.2.2 + (k : Int) ≤ 100000) → 1 ≤ l.foldl zJ7 n ∧ l.foldl zJ7 n + k ≤ 100001
 | [], n, h1, h2, _ => ⟨h1, h2⟩
 | p :: l, n, h1, h2, h => by
  have hp := h p (by simp)
  rw [List.foldl_cons]
  refine zT7 l _ ?_ ?_ (fun q hq => h q (by simp [hq]))
  ·unfold zJ7; split <;> omega
  ·unfold zJ7; split <;> omega
mutual
theorem zF2 : ∀ c : Co, nf c ≤ ndC c
 | .mk op n s t ks => by
  have := zUc ks
  simp only [nf, ndC]
  split <;> omega
theorem zUc : ∀ l : List Co, nfs l ≤ y7 l
 | [] => by simp [nfs, y7]
 | c :: l => by
  have h1 := zF2 c
  have h2 := zUc l
  simp only [nfs, y7]; omega
end
theorem irl {ks : List Co} {cs ds : List TU} {g g2 : Nat} {op n : Int} {s t : Nm} {l : List Pl} {K : Ex → StA → Prop} (H : ∀ c ∈ ks, SI c) (ha : fW ks = true) (hz : x0 ks ≤ 1048576) (hn : y7 ks ≤ 40000) (hr : Rds ks cs) (hd : ds = plE l) (hl : l.length + y7 ks ≤ 100000)
  (hb : ∀ p : Pl, p ∈ l → 0 ≤ p.2.2 ∧ p.2.2 + (y7 ks : Int) ≤ 100000) :
  ∀ (r : List Co) (i : Nat), ks.drop i = r → i ≤ ks.length → ∀ (done : List Ir) (bs : List Blk), done.length = i → bs.length + y7 r ≤ 100000 →
  (∀ jk j, K (.exit 1) ⟨[(83, xi j), (82, xi ks.length), (81, xl (g + 1) 5 ks.length cs), (9, xl 0 3 ks.length (yP (done ++ (kF l (iEs r) bs).1))), (0, p0), (2, xl (g2 + 1) 3 l.length ds), (4, .box () ((xJ op n s t (g + 1) ks.length cs).map .t)), (6, .box () ((irc 0 0 0 0 []).map .t))], jk, [wI (kF l (iEs r) bs).2]⟩) →
  ∀ jk, sem cx0 65 RT (.loop (lp Try.f65 0)) ⟨[(83, xi i), (82, xi ks.length), (81, xl (g + 1) 5 ks.length cs), (9, xl 0 3 i (yP done)), (0, p0), (2, xl (g2 + 1) 3 l.length ds), (4, .box () ((xJ op n s t (g + 1) ks.length cs).map .t)), (6, .box () ((irc 0 0 0 0 []).map .t))], jk, [wI bs]⟩ K := by
 have hk := uM hz
 refine xE ?_ ?_
 ·intro done bs hdn h1 k1 jk
  refine zK cx0 _ RT [83, 82, 81, 9, 0, 2, 4, 6] ⟨fun h => (jZ h (by omega)).elim, fun h => ?_⟩
  intro jk
  have := k1 jk ks.length
  rw [show kF l (iEs []) bs = ([], bs) from rfl, List.append_nil] at this
  exact this
 ·intro i c r hi hil ih done bs hdn h1 k1 jk
  have hm := List.mem_of_getElem? hi
  have hzc := w7 hz hm
  have hac := xO ha _ hm
  have hnc := uR hm
  simp only [y7] at h1
  have hib := (zCb (M := ndC c + 2) c hac (Nat.le_refl _) l bs).1
  cases c with
  | mk op' n' s' t' kk =>
  obtain ⟨g', cs', e1, e2⟩ := qV hr hi
  subst hd
  refine zK cx0 _ RT [83, 82, 81, 9, 0, 2, 4, 6] ⟨fun h => ?_, fun h => (qL h (by omega)).elim⟩
  refine ⟨⟨by omega, by omega⟩, ?_⟩
  refine ⟨op', n', s', t', g' + 1, kk.length, cs', ⟨e1, rfl⟩, ?_⟩
  have hc := H _ hm (xJ op' n' s' t' (g' + 2) kk.length (zI cs')) l (g2 + 1) _ bs hac hzc (by omega) (by omega) (by omega) (fun p hp => by have := hb p hp; omega) (x6 l) ⟨_, _, rfl, e2.retag⟩
  have es : kF l (iEs (.mk op' n' s' t' kk :: r)) bs = ((iE (.mk op' n' s' t' kk) l bs).1 :: (kF l (iEs r) (iE (.mk op' n' s' t' kk) l bs).2).1, (kF l (iEs r) (iE (.mk op' n' s' t' kk) l bs).2).2) := rfl
  rw [es] at k1
  have hnf : nf (.mk op' n' s' t' kk) ≤ ndC (.mk op' n' s' t' kk) := zF2 _
  generalize iE (.mk op' n' s' t' kk) l bs = R at hc hib k1
  obtain ⟨⟨ro, rn, rk⟩, rb⟩ := R
  dsimp only at hc hib k1
  refine ⟨_, _, cH (by rw [j1]; exact hc), ?_⟩
  refine ⟨by rw [qO]; omega, ?_⟩
  refine ⟨⟨by simp only [maxLen]; omega, by show (_ + 1) * 40 ≤ _; omega⟩, ?_⟩
  intro jk
  have hq : ((yP done).drop 0).take (i * 3) ++ irE (.mk ro rn rk) = yP (done ++ [.mk ro rn rk]) := by
   rw [kT, uZ (by rw [qO]; omega)]
   simp only [yP, List.append_nil]
  have ih := ih (done ++ [.mk ro rn rk]) rb (by simp [hdn]) (by omega) (fun jk j => by
   have := k1 jk j
   rw [List.append_assoc]
   exact this) jk
  rw [← hq] at ih
  rw [q8 hil (by simp only [maxLen]; omega)]
  exact ih
end Go.Proofs.Ytlkjnlfddadlmaa.V
namespace Go.Proofs.Ytlkjnlfddadlmaa.V
set_option maxRecDepth 100000
set_option maxHeartbeats 16000000 in
theorem iE_i : ∀ c : Co, SI c := by
 refine Co.ind fun op n s t ks ih => ?_
 intro us l g cs bs ha hz hn hL hB hb hcs hr
 have ha' := ha
 simp only [wR, Bool.and_eq_true] at ha
 obtain ⟨ha1, ha2⟩ := ha
 have ha1 : arC op = (ks.length : Int) := eq_of_beq ha1
 have hzk : x0 ks ≤ 1048576 := by simp only [szC] at hz; omega
 have hzz : s.length + t.length + x0 ks ≤ 1048576 := by simp only [szC] at hz; exact hz
 simp only [ndC] at hn hL hB hb
 have A : ∀ i, i < ks.length → wR (kid ks i) = true ∧ SI (kid ks i) ∧ 1 + szC (kid ks i) ≤ x0 ks ∧ ks[i]? = some (kid ks i) ∧ fD (iEs ks) i = iE (kid ks i) ∧ ndC (kid ks i) ≤ y7 ks := by
  intro i hi
  have h0 : ks[i]? = some (kid ks i) := by
   unfold kid
   rw [List.getD_eq_getElem?_getD, List.getElem?_eq_getElem hi]; rfl
  have hm := List.mem_of_getElem? h0
  exact ⟨xO ha2 _ hm, ih _ hm, dB hm, h0, sN hi, uR hm⟩
 subst hcs
 obtain ⟨g1, cs, rfl, hr⟩ := hr
 have eI : iE (.mk op n s t ks) l bs = iH op n s t ks (iEs ks) l bs := rfl
 rw [eI]
 clear eI
 by_cases h1 : op = 1
 ·subst h1
  have e : iH 1 n s t ks (iEs ks) l bs = (.mk 1 n [], bs) := rfl
  rw [e]
  refine x8 (fn := Try.f65) rfl rfl rfl rfl ?_
  refine ⟨fun _ => ?_, (fun h => by cases h)⟩
  refine ⟨inI [], ?_⟩
  exact ⟨rfl, rfl⟩
 by_cases h2 : op = 2
 ·subst h2
  have e : iH 2 n s t ks (iEs ks) l bs = (kC l s, bs) := rfl
  rw [e]
  have hf := zTb (s := s) (g := g + 1) (x6 l) (by omega)
  generalize kC l s = F at hf ⊢
  obtain ⟨fo, fn, fk⟩ := F
  refine x8 (fn := Try.f65) rfl rfl rfl rfl ?_
  refine ⟨(fun h => by cases h), fun _ => ?_⟩
  refine ⟨fun _ => ?_, (fun h => by cases h)⟩
  refine ⟨_, zP4 hf, ?_⟩
  refine ⟨inI fk, ?_⟩
  exact ⟨bC, rfl⟩
 by_cases h3 : op = 3
 ·subst h3
  have hk := qI ha1 (k := 1) (by decide)
  obtain ⟨a1, a2, a3, a5, a6, a7⟩ := A 0 (by omega)
  have e : iH 3 n s t ks (iEs ks) l bs = f4 s [] (kid ks 0) (fD (iEs ks) 0) l bs := rfl
  rw [e, a6]
  cases hkd : kid ks 0 with
  | mk op' n' s' t' kk =>
  rw [hkd] at a1 a2 a3 a5 a7
  obtain ⟨g', cs', e1, e2⟩ := qV hr a5
  have hc := zXn (bs := bs) (arg := s) (self := []) (l := l) (g := g + 1) a2 a1 (by omega) (by omega) (by omega) (by omega) (x6 l) (show Rd _ (xJ op' n' s' t' (g' + 2) kk.length (zI cs')) from ⟨_, _, rfl, e2.retag⟩)
  generalize f4 s [] (.mk op' n' s' t' kk) (iE (.mk op' n' s' t' kk)) l bs = R at hc ⊢
  obtain ⟨⟨ro, rn, rk⟩, rb⟩ := R
  dsimp only at hc ⊢
  refine x8 (fn := Try.f65) rfl rfl rfl rfl ?_
  refine ⟨(fun h => by cases h), fun _ => ?_⟩
  refine ⟨(fun h => by cases h), fun _ => ?_⟩
  refine ⟨fun _ => ?_, (fun h => by cases h)⟩
  refine ⟨⟨by omega, by omega⟩, ?_⟩
  refine ⟨op', n', s', t', g' + 1, kk.length, cs', ⟨e1, rfl⟩, ?_⟩
  refine ⟨_, _, cH (by rw [j1]; exact hc), ?_⟩
  refine ⟨inI rk, ?_⟩
  exact ⟨bC, rfl⟩
 have hlb := zT7 (k := 1 + y7 ks) l 1 (by omega) (by omega) hb
 have hloc := loc_i (g := g + 1) (l := l) (x6 l) (by omega) (fun p hp => by have := hb p hp; omega)
 have hlF : j6 l = l.foldl zJ7 1 := rfl
 rw [← hlF] at hlb
 by_cases h5 : op = 5
 ·subst h5
  have hk := qI ha1 (k := 2) (by decide)
  obtain ⟨a1, a2, a3, a5, a6, a7⟩ := A 0 (by omega)
  obtain ⟨c1, c2, c3, c5, c6, c7⟩ := A 1 (by omega)
  have e : iH 5 n s t ks (iEs ks) l bs = (.mk 7 0 [(fD (iEs ks) 0 l bs).1, (fD (iEs ks) 1 (l ++ [(s, 2, j6 l)]) (fD (iEs ks) 0 l bs).2).1], (fD (iEs ks) 1 (l ++ [(s, 2, j6 l)]) (fD (iEs ks) 0 l bs).2).2) := rfl
  rw [e, a6, c6]
  have hnk : y7 ks = ndC (kid ks 0) + ndC (kid ks 1) := by
   conv => lhs; rw [u9 hk]
   simp [y7]
  cases hkd : kid ks 0 with
  | mk op' n' s' t' kk =>
  cases hkd2 : kid ks 1 with
  | mk op2 n2 s2 t2 kk2 =>
  rw [hkd] at a1 a2 a3 a5 a7 hnk
  rw [hkd2] at c1 c2 c3 c5 c7 hnk
  have hp1 := bL (.mk op' n' s' t' kk)
  have hp2 := bL (.mk op2 n2 s2 t2 kk2)
  obtain ⟨g', cs', e1, e2⟩ := qV hr a5
  obtain ⟨g2, cs2, f1, f2⟩ := qV hr c5
  have hc0 := a2 (xJ op' n' s' t' (g' + 2) kk.length (zI cs')) l (g + 1) _ bs a1 (by omega) (by omega) (by omega) (by omega) (fun p hp => by have := hb p hp; omega) (x6 l) ⟨_, _, rfl, e2.retag⟩
  have hib := (zCb (M := ndC (.mk op' n' s' t' kk) + 2) (.mk op' n' s' t' kk) a1 (Nat.le_refl _) l bs).1
  have hnf := zF2 (.mk op' n' s' t' kk)
  generalize iE (.mk op' n' s' t' kk) l bs = R at hc0 hib ⊢
  obtain ⟨⟨ro, rn, rk⟩, rb⟩ := R
  dsimp only at hc0 hib ⊢
  have hc1 := c2 (xJ op2 n2 s2 t2 (g2 + 2) kk2.length (zI cs2)) (l ++ [(s, 2, j6 l)]) 0 _ rb c1 (by omega) (by omega) (by rw [List.length_append]; simp only [List.length_cons, List.length_nil]; omega) (by omega) (fun p hp => by
   rcases List.mem_append.1 hp with hp | hp
   ·have := hb p hp; omega
   ·simp only [List.mem_singleton] at hp
    subst hp
    simp only; omega) rfl ⟨_, _, rfl, f2.retag⟩
  have hL : xl 1 3 (l ++ [(s, 2, j6 l)]).length (plE (l ++ [(s, 2, j6 l)])) = xl 1 3 (0 + l.length + 1) (zI ((([] ++ plE l ++ [.str s, .int .i64 2, .int .i64 (j6 l)] : List TU).drop 0).take ((0 + l.length + 1) * 3))) := by
   have e1 : ([] ++ plE l ++ [.str s, .int .i64 2, .int .i64 (j6 l)] : List TU) = plE (l ++ [(s, 2, j6 l)]) := by rw [List.nil_append, mL]; rfl
   rw [e1, zIe (l := l ++ [(s, 2, j6 l)]) (by simp), x6]
   simp
  rw [hL] at hc1
  generalize iE (.mk op2 n2 s2 t2 kk2) (l ++ [(s, 2, j6 l)]) rb = Q at hc1 ⊢
  obtain ⟨⟨qo, qn, qk⟩, qb⟩ := Q
  dsimp only at hc1 ⊢
  refine x8 (fn := Try.f65) rfl rfl rfl rfl ?_
  refine ⟨(fun h => by cases h), fun _ => ?_⟩
  refine ⟨(fun h => by cases h), fun _ => ?_⟩
  refine ⟨(fun h => by cases h), fun _ => ?_⟩
  refine ⟨fun _ => ?_, (fun h => by cases h)⟩
  refine ⟨fun _ => ?_, (fun h => by cases h)⟩
  refine ⟨⟨by omega, by omega⟩, ?_⟩
  refine ⟨op', n', s', t', g' + 1, kk.length, cs', ⟨e1, rfl⟩, ?_⟩
  refine ⟨_, _, cH (by rw [j1]; exact hc0), ?_⟩
  refine ⟨⟨by simp only [maxLen]; omega, by show (0 + l.length) * 32 ≤ _; omega⟩, ?_⟩
  refine ⟨_, gF hloc, ?_⟩
  refine ⟨⟨by simp only [maxLen]; omega, by show (_ + 1) * 32 ≤ _; omega⟩, ?_⟩
  refine ⟨⟨by omega, by omega⟩, ?_⟩
  refine ⟨op2, n2, s2, t2, g2 + 1, kk2.length, cs2, ⟨f1, rfl⟩, ?_⟩
  refine ⟨by show 0 + (0 + l.length + 1) * 3 ≤ ([] ++ plE l ++ [.str s, .int .i64 2, .int .i64 (j6 l)] : List TU).length; rw [List.nil_append, List.length_append, gE]; simp only [List.length_cons, List.length_nil]; omega, ?_⟩
  refine ⟨_, _, cH (by rw [j1]; exact hc1), ?_⟩
  refine ⟨⟨rfl, rfl⟩, ?_⟩
  refine ⟨inI rk, ?_⟩
  refine ⟨by show 0 + 2 * 3 ≤ 6; omega, ?_⟩
  refine ⟨?_, rfl⟩
  rw [q5 rk]
  rfl
 by_cases h6 : op = 6
 ·subst h6
  have hk := qI ha1 (k := 2) (by decide)
  obtain ⟨a1, a2, a3, a5, a6, a7⟩ := A 0 (by omega)
  obtain ⟨c1, c2, c3, c5, c6, c7⟩ := A 1 (by omega)
  have e : iH 6 n s t ks (iEs ks) l bs = (.mk 7 0 [(f4 t s (kid ks 0) (fD (iEs ks) 0) l bs).1, (fD (iEs ks) 1 (l ++ [(s, 2, j6 l)]) (f4 t s (kid ks 0) (fD (iEs ks) 0) l bs).2).1], (fD (iEs ks) 1 (l ++ [(s, 2, j6 l)]) (f4 t s (kid ks 0) (fD (iEs ks) 0) l bs).2).2) := rfl
  rw [e, a6, c6]
  have hnk : y7 ks = ndC (kid ks 0) + ndC (kid ks 1) := by
   conv => lhs; rw [u9 hk]
   simp [y7]
  cases hkd : kid ks 0 with
  | mk op' n' s' t' kk =>
  cases hkd2 : kid ks 1 with
  | mk op2 n2 s2 t2 kk2 =>
  rw [hkd] at a1 a2 a3 a5 a7 hnk
  rw [hkd2] at c1 c2 c3 c5 c7 hnk
  have hp1 := bL (.mk op' n' s' t' kk)
  have hp2 := bL (.mk op2 n2 s2 t2 kk2)
  obtain ⟨g', cs', e1, e2⟩ := qV hr a5
  obtain ⟨g2, cs2, f1, f2⟩ := qV hr c5
  have hc0 := zXn (bs := bs) (arg := t) (self := s) (l := l) (g := g + 1) a2 a1 (by omega) (by omega) (by omega) (by omega) (x6 l) (show Rd _ (xJ op' n' s' t' (g' + 2) kk.length (zI cs')) from ⟨_, _, rfl, e2.retag⟩)
  have hib := (zG8 (arg := t) (self := s) a1 (zCb (M := ndC (.mk op' n' s' t' kk) + 2) (.mk op' n' s' t' kk) a1 (Nat.le_refl _)) l bs).1
  have hnf := zF2 (.mk op' n' s' t' kk)
  generalize f4 t s (.mk op' n' s' t' kk) (iE (.mk op' n' s' t' kk)) l bs = R at hc0 hib ⊢
  obtain ⟨⟨ro, rn, rk⟩, rb⟩ := R
  dsimp only at hc0 hib ⊢
  have hc1 := c2 (xJ op2 n2 s2 t2 (g2 + 2) kk2.length (zI cs2)) (l ++ [(s, 2, j6 l)]) 0 _ rb c1 (by omega) (by omega) (by rw [List.length_append]; simp only [List.length_cons, List.length_nil]; omega) (by omega) (fun p hp => by
   rcases List.mem_append.1 hp with hp | hp
   ·have := hb p hp; omega
   ·simp only [List.mem_singleton] at hp
    subst hp
    simp only; omega) rfl ⟨_, _, rfl, f2.retag⟩
  have hL : xl 1 3 (l ++ [(s, 2, j6 l)]).length (plE (l ++ [(s, 2, j6 l)])) = xl 1 3 (0 + l.length + 1) (zI ((([] ++ plE l ++ [.str s, .int .i64 2, .int .i64 (j6 l)] : List TU).drop 0).take ((0 + l.length + 1) * 3))) := by
   have e1 : ([] ++ plE l ++ [.str s, .int .i64 2, .int .i64 (j6 l)] : List TU) = plE (l ++ [(s, 2, j6 l)]) := by rw [List.nil_append, mL]; rfl
   rw [e1, zIe (l := l ++ [(s, 2, j6 l)]) (by simp), x6]
   simp
  rw [hL] at hc1
  generalize iE (.mk op2 n2 s2 t2 kk2) (l ++ [(s, 2, j6 l)]) rb = Q at hc1 ⊢
  obtain ⟨⟨qo, qn, qk⟩, qb⟩ := Q
  dsimp only at hc1 ⊢
  refine x8 (fn := Try.f65) rfl rfl rfl rfl ?_
  refine ⟨(fun h => by cases h), fun _ => ?_⟩
  refine ⟨(fun h => by cases h), fun _ => ?_⟩
  refine ⟨(fun h => by cases h), fun _ => ?_⟩
  refine ⟨(fun h => by cases h), fun _ => ?_⟩
  refine ⟨fun _ => ?_, (fun h => by cases h)⟩
  refine ⟨(fun h => by cases h), fun _ => ?_⟩
  refine ⟨⟨by omega, by omega⟩, ?_⟩
  refine ⟨op', n', s', t', g' + 1, kk.length, cs', ⟨e1, rfl⟩, ?_⟩
  refine ⟨_, _, cH (by rw [j1]; exact hc0), ?_⟩
  refine ⟨⟨by simp only [maxLen]; omega, by show (0 + l.length) * 32 ≤ _; omega⟩, ?_⟩
  refine ⟨_, gF hloc, ?_⟩
  refine ⟨⟨by simp only [maxLen]; omega, by show (_ + 1) * 32 ≤ _; omega⟩, ?_⟩
  refine ⟨⟨by omega, by omega⟩, ?_⟩
  refine ⟨op2, n2, s2, t2, g2 + 1, kk2.length, cs2, ⟨f1, rfl⟩, ?_⟩
  refine ⟨by show 0 + (0 + l.length + 1) * 3 ≤ ([] ++ plE l ++ [.str s, .int .i64 2, .int .i64 (j6 l)] : List TU).length; rw [List.nil_append, List.length_append, gE]; simp only [List.length_cons, List.length_nil]; omega, ?_⟩
  refine ⟨_, _, cH (by rw [j1]; exact hc1), ?_⟩
  refine ⟨⟨rfl, rfl⟩, ?_⟩
  refine ⟨inI rk, ?_⟩
  refine ⟨by show 0 + 2 * 3 ≤ 6; omega, ?_⟩
  refine ⟨?_, rfl⟩
  rw [q5 rk]
  rfl
 ·have e : iH op n s t ks (iEs ks) l bs = (plI op (kF l (iEs ks) bs).1, (kF l (iEs ks) bs).2) := by
   simp only [iH]
   simp [h1, h2, h3, h5, h6]
  rw [e]
  obtain ⟨r1, r2⟩ := zEv ha1
  have hl := fun K => irl (K := K) (g := g1) (g2 := g) (op := op) (n := n) (s := s) (t := t) (l := l) ih ha2 hzk (by omega) hr rfl (by omega) (fun p hp => by have := hb p hp; omega) ks 0 rfl (by omega) [] bs rfl (by omega)
  have hlen := (zD5 (l := l) (M := y7 ks + 2) ks (fun c hc => zCb (M := y7 ks + 2) c (xO ha2 _ hc) (by have := uR hc; omega)) bs).2.2
  generalize kF l (iEs ks) bs = R at hl hlen ⊢
  obtain ⟨rl, rb⟩ := R
  dsimp only at hl hlen ⊢
  simp only [List.nil_append] at hl
  have hin : 0 + ks.length * 3 ≤ (yP rl).length := by rw [qO]; omega
  have hv : ∀ o m, xc (irE (.mk o m rl)) = xc (irc o m 0 ks.length (((yP rl).drop 0).take (ks.length * 3))) := fun o m => by rw [← hlen]; exact bC
  refine x8 (fn := Try.f65) rfl rfl rfl rfl ?_
  refine ⟨fun h => absurd (eq_of_beq h) h1, fun _ => ?_⟩
  refine ⟨fun h => absurd (eq_of_beq h) h2, fun _ => ?_⟩
  refine ⟨fun h => absurd (eq_of_beq h) h3, fun _ => ?_⟩
  refine ⟨fun h => absurd (eq_of_beq h) h5, fun _ => ?_⟩
  refine ⟨fun h => absurd (eq_of_beq h) h6, fun _ => ?_⟩
  refine yE cx0 _ RT [83, 82, 81, 9, 0, 2, 4, 6] fun jk => ?_
  refine hl _ (fun jk j => ?_) jk
  refine ⟨fun h => ?_, fun n4 => ?_⟩
  ·have h := eq_of_beq h
   subst h
   refine ⟨hin, ?_⟩
   exact ⟨hv 6 0, rfl⟩
  refine ⟨fun h => ?_, fun n7 => ?_⟩
  ·have h := eq_of_beq h
   subst h
   refine ⟨hin, ?_⟩
   exact ⟨hv 8 0, rfl⟩
  refine ⟨fun h => ?_, fun n13 => ?_⟩
  ·have h := eq_of_beq h
   subst h
   refine ⟨inI [], ?_⟩
   exact ⟨rfl, rfl⟩
  refine ⟨fun h => ?_, fun n14 => ?_⟩
  ·have h := eq_of_beq h
   subst h
   refine ⟨hin, ?_⟩
   exact ⟨hv 14 1, rfl⟩
  refine ⟨fun h => ?_, fun n15 => ?_⟩
  ·have h := eq_of_beq h
   subst h
   refine ⟨hin, ?_⟩
   exact ⟨hv 16 0, rfl⟩
  refine ⟨fun h => ?_, fun n16 => ?_⟩
  ·have h := eq_of_beq h
   subst h
   refine ⟨hin, ?_⟩
   exact ⟨hv 16 1, rfl⟩
  refine ⟨fun h => ?_, fun n17 => ?_⟩
  ·have h := eq_of_beq h
   subst h
   have hk1 := qI ha1 (k := 1) (by decide)
   have hq : ((yP rl).drop 0).take (ks.length * 3) ++ ([.int .i64 1, .int .i64 1, .sl () 0 3 0 [], .int .i64 1, .int .i64 0, .sl () 0 3 0 []] : List TU) = yP (rl ++ [.mk 1 1 [], .mk 1 0 []]) := by
    rw [kT, uZ (by rw [qO]; omega)]; rfl
   have hv2 := bC (o := 17) (n := 1) (ks := rl ++ [.mk 1 1 [], .mk 1 0 []])
   rw [show (rl ++ [Ir.mk 1 1 [], .mk 1 0 []]).length = ks.length + 2 by simp [hlen], ← hq] at hv2
   refine ⟨hin, ?_⟩
   refine ⟨⟨by simp only [maxLen]; omega, by show (_ + 2) * 40 ≤ _; omega⟩, ?_⟩
   refine ⟨by rw [List.length_append, List.length_take, List.drop_zero]; simp only [List.length_cons, List.length_nil]; omega, ?_⟩
   exact ⟨hv2, rfl⟩
  refine ⟨fun h => ?_, fun n18 => ?_⟩
  ·have h := eq_of_beq h
   subst h
   refine ⟨hin, ?_⟩
   exact ⟨hv 15 0, rfl⟩
  have e1 : IntKind.wrap .i64 (9 + op) = 9 + op := wrap64 (by omega) (by omega)
  have e2 : IntKind.wrap .i64 (9 + op - 8) = 9 + op - 8 := wrap64 (by omega) (by omega)
  have ep : plI op rl = .mk (9 + op - 8) 0 rl := by
   unfold plI
   rw [if_neg (by simp [n13]), if_neg (by simp [n14]), if_neg (by simp [n15]), if_neg (by simp [n16]), if_neg (by simp [n17]), if_neg (by simp [n18]), if_neg (by simp [n4]), if_neg (by simp [n7])]
  rw [ep]
  refine ⟨hin, ?_⟩
  refine ⟨?_, rfl⟩
  rw [hv]
  show _ = xc (irc (IntKind.wrap .i64 (IntKind.wrap .i64 (9 + op) - 8)) 0 0 ks.length (((yP rl).drop 0).take (ks.length * 3)))
  rw [e1, e2]
end Go.Proofs.Ytlkjnlfddadlmaa.V
