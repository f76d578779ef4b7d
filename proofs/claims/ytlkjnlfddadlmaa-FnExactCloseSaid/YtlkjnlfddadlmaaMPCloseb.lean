/-
  What is closed, by the reference and by the program: plain, and both are alike. No conditions.
-/
import Derived.Test.YtlkjnlfddadlmaaMPClosea
set_option linter.unusedVariables false
set_option linter.unusedSimpArgs false
namespace Go.Proofs.Ytlkjnlfddadlmaa.V
set_option maxRecDepth 100000
theorem f6 : ∀ (l out : List Nm), out <+: dd out l
 | [], out => List.prefix_refl _
 | s :: l, out => by
  rw [v9]
  refine List.IsPrefix.trans ?_ (f6 l _)
  split
  ·exact List.prefix_refl _
  ·exact List.prefix_append _ _
theorem zUa : ∀ (l out : List Nm) (x : Nm), x ∈ dd out l ↔ x ∈ out ∨ x ∈ l
 | [], out, x => by simp [dd]
 | s :: l, out, x => by
  rw [v9, zUa l]
  split
  ·next h =>
   have h : s ∈ out := by simpa using h
   simp only [List.mem_cons]
   constructor
   ·rintro (h1 | h1)
    ·exact .inl h1
    ·exact .inr (.inr h1)
   ·rintro (h1 | rfl | h1)
    ·exact .inl h1
    ·exact .inl h
    ·exact .inr h1
  ·simp only [List.mem_append, List.mem_cons, List.not_mem_nil, or_false, or_assoc]
theorem zI2 : ∀ (l out : List Nm), out.Nodup → (dd out l).Nodup
 | [], out, h => h
 | s :: l, out, h => by
  rw [v9]
  refine zI2 l _ ?_
  split
  ·exact h
  ·next hs =>
   have hs : s ∉ out := by simpa using hs
   rw [List.nodup_append]
   exact ⟨h, by simp, fun a ha b hb => by
    simp only [List.mem_singleton] at hb
    subst hb
    rintro rfl
    exact hs ha⟩
theorem zE8 (Q : Nm → Bool) : ∀ (l out : List Nm), (dd out l).filter Q = dd (out.filter Q) (l.filter Q)
 | [], out => rfl
 | s :: l, out => by
  rw [v9, zE8 Q l]
  cases hQ : Q s with
  | false =>
   rw [List.filter_cons_of_neg (by simp [hQ])]
   split
   ·rfl
   ·rw [List.filter_append, List.filter_cons_of_neg (by simp [hQ]), List.filter_nil, List.append_nil]
  | true =>
   rw [List.filter_cons_of_pos (by simp [hQ]), v9]
   by_cases hs : s ∈ out
   ·rw [if_pos (by simpa using hs), if_pos (by simpa using ⟨hs, hQ⟩)]
   ·rw [if_neg (by simpa using hs), if_neg (by simp [hs]), List.filter_append, List.filter_cons_of_pos (by simp [hQ]), List.filter_nil]
theorem zXq (Q : Nm → Bool) : ∀ (l acc out : List Nm), dd out ((dd acc l).filter Q) = dd out ((acc ++ l).filter Q)
 | [], acc, out => by simp [dd]
 | s :: l, acc, out => by
  rw [v9, zXq Q l]
  split
  ·next hs =>
   have hs : s ∈ acc := by simpa using hs
   rw [List.filter_append, List.filter_append, nF, nF]
   cases hQ : Q s with
   | false => rw [List.filter_cons_of_neg (by simp [hQ])]
   | true =>
    rw [List.filter_cons_of_pos (by simp [hQ]), v9, if_pos]
    have : s ∈ dd out (acc.filter Q) := (zUa _ _ _).2 (.inr (List.mem_filter.2 ⟨hs, hQ⟩))
    simpa using this
  ·rw [List.append_assoc]; rfl
mutual
theorem zAu : ∀ (a b : List Nm) (c : Co), frC (a ++ b) c = (frC b c).filter fun x => !a.contains x
 | a, b, .mk op n s t ks => by
  simp only [frC, List.filter_append, zO7 a b op s t 0 ks]
  congr 1
  unfold wS
  have : (a ++ b).contains s = (a.contains s || b.contains s) := by simp
  rw [this]
  cases hb : b.contains s <;> cases ha : a.contains s <;> cases ho : (op == 2) <;> simp_all
theorem zO7 : ∀ (a b : List Nm) (op : Int) (s t : Nm) (i : Nat) (l : List Co), frL op s t (a ++ b) i l = (frL op s t b i l).filter fun x => !a.contains x
 | a, b, op, s, t, i, [] => rfl
 | a, b, op, s, t, i, c :: l => by
  simp only [frL, List.filter_append, zO7 a b op s t (i + 1) l]
  rw [List.append_assoc, zAu a (b ++ qY op s t i) c]
end
mutual
def oU : Co → Bool
 | .mk op _ s _ ks => (!(op == 2) || !(s == [])) && rR ks
def rR : List Co → Bool
 | [] => true
 | c :: l => oU c && rR l
end
theorem zF3 : ∀ {l : List Co}, rR l = true → ∀ c ∈ l, oU c = true
 | c :: l, h, x, hx => by
  simp only [rR, Bool.and_eq_true] at h
  rcases List.mem_cons.1 hx with rfl | hx
  ·exact h.1
  ·exact zF3 h.2 x hx
mutual
theorem zMy : ∀ (env : List Nm) (c : Co), oU c = true → ∀ x ∈ frC env c, x ≠ []
 | env, .mk op n s t ks, h, x, hx => by
  simp only [oU, Bool.and_eq_true] at h
  simp only [frC, List.mem_append] at hx
  rcases hx with hx | hx
  ·unfold wS at hx
   split at hx
   ·next hc =>
    simp only [Bool.and_eq_true] at hc
    have h1 := h.1
    simp only [hc.1, Bool.not_true, Bool.false_or] at h1
    simp only [List.mem_singleton] at hx
    subst hx
    simpa using h1
   ·cases hx
  ·exact zTh op s t env 0 ks h.2 x hx
theorem zTh : ∀ (op : Int) (s t : Nm) (env : List Nm) (i : Nat) (l : List Co), rR l = true → ∀ x ∈ frL op s t env i l, x ≠ []
 | op, s, t, env, i, [], _, x, hx => by simp [frL] at hx
 | op, s, t, env, i, c :: l, h, x, hx => by
  simp only [rR, Bool.and_eq_true] at h
  simp only [frL, List.mem_append] at hx
  rcases hx with hx | hx
  ·exact zMy _ c h.1 x hx
  ·exact zTh op s t env (i + 1) l h.2 x hx
end
inductive Ir where
 | mk (op n : Int) (ks : List Ir)
abbrev Blk := Int × Ir
abbrev Loc := List (Nm × Nat)
def zIr : Ir := .mk 0 0 []
structure Wt where
 bs : List Blk
 ok : Bool
 kept : List Nm
abbrev Act := Bool → Nm → Loc → Nat → Wt → Ir × Wt
def jG {α : Type} (l : List (Nm × α)) (s : Nm) : Option α := (l.reverse.find? fun p => p.1 == s).map (·.2)
def gU (top : Bool) (slf : Nm) (env : Loc) (s : Nm) (w : Wt) : Ir × Wt :=
 match jG env s with
 | some n => (.mk 2 n [], w)
 | none => if slf == s && !(s == []) then (.mk 4 0 [], w)
  else if w.kept.contains s then (.mk 3 (w.kept.idxOf s) [], w)
  else if top then (.mk 1 0 [], { w with ok := false })
  else (.mk 3 w.kept.length [], { w with kept := w.kept ++ [s] })
def kR (top : Bool) (slf : Nm) (env : Loc) : List Nm → Wt → List Ir × Wt
 | [], w => ([], w)
 | s :: l, w => ((gU top slf env s w).1 :: (kR top slf env l (gU top slf env s w).2).1, (kR top slf env l (gU top slf env s w).2).2)
def qS (top : Bool) (slf : Nm) (env : Loc) (deep : Nat) : List Act → Wt → List Ir × Wt
 | [], w => ([], w)
 | a :: az, w => ((a top slf env deep w).1 :: (qS top slf env deep az (a top slf env deep w).2).1, (qS top slf env deep az (a top slf env deep w).2).2)
def vY (arg self : Nm) (a : Act) : Act := fun top slf env _ w =>
 if w.bs.length ≥ 60 then (zIr, { w with ok := false }) else
 let r := a false self [(arg, 0)] 1 ⟨w.bs ++ [(0, zIr)], w.ok, []⟩
 let g := kR top slf env r.2.kept ⟨r.2.bs.set w.bs.length (r.2.kept.length, r.1), r.2.ok, w.kept⟩
 (.mk 5 w.bs.length g.1, g.2)
def plI (op : Int) (ks : List Ir) : Ir :=
 if op == 13 then .mk 14 0 [] else if op == 14 then .mk 14 1 ks else if op == 15 then .mk 16 0 ks else if op == 16 then .mk 16 1 ks
 else if op == 17 then .mk 17 1 (ks ++ [.mk 1 1 [], .mk 1 0 []]) else if op == 18 then .mk 15 0 ks else if op == 4 then .mk 6 0 ks else if op == 7 then .mk 8 0 ks else .mk (9 + op - 8) 0 ks
def fF (az : List Act) (i : Nat) : Act := az.getD i fun _ _ _ _ w => (zIr, w)
def sH (op n : Int) (s t : Nm) (az : List Act) : Act := fun top slf env deep w =>
 if !w.ok then (zIr, w) else
 if op == 1 then (.mk 1 n [], w) else if op == 2 then gU top slf env s w else if op == 3 then vY s [] (fF az 0) top slf env deep w
 else if op == 5 then
  let e := fF az 0 top slf env deep w
  let b := fF az 1 top slf (env ++ [(s, deep)]) (deep + 1) e.2
  (.mk 7 0 [e.1, b.1], b.2)
 else if op == 6 then
  let e := vY t s (fF az 0) top slf env deep w
  let b := fF az 1 top slf (env ++ [(s, deep)]) (deep + 1) e.2
  (.mk 7 0 [e.1, b.1], b.2)
 else (plI op (qS top slf env deep az w).1, (qS top slf env deep az w).2)
mutual
def sE : Co → Act
 | .mk op n s t ks => sH op n s t (sEs ks)
def sEs : List Co → List Act
 | [] => []
 | c :: l => sE c :: sEs l
end
abbrev Pl := Nm × (Int × Int)
abbrev c9 := List Pl → List Blk → Ir × List Blk
def irOf : Option (Int × Int) → Ir
 | some p => .mk p.1 p.2 []
 | none => zIr
def kC (l : List Pl) (s : Nm) : Ir := irOf (jG l s)
def j6 (l : List Pl) : Int := l.foldl (fun n p => if p.2.1 == 2 then max n (p.2.2 + 1) else n) 1
def kp : Nat → List Nm → List Pl
 | _, [] => []
 | i, s :: l => (s, 3, i) :: kp (i + 1) l
def sf (s : Nm) : List Pl := if s == [] then [] else [(s, 4, 0)]
def lc (env : Loc) : List Pl := env.map fun p => (p.1, 2, (p.2 : Int))
def qE (arg self : Nm) (body : Co) : List Nm := (dd [] (frC [] (.mk 3 0 arg [] [body]))).filter fun x => !(x == self)
def rK (bs : List Blk) (n : Nat) (b : Ir) : List Blk := bs.set n ((bs.getD n (0, zIr)).1, b)
def f4 (arg self : Nm) (body : Co) (a : c9) : c9 := fun l bs =>
 let r := a (kp 0 (qE arg self body) ++ sf self ++ [(arg, 2, 0)]) (bs ++ [(((qE arg self body).length : Int), zIr)])
 (.mk 5 bs.length ((qE arg self body).map (kC l)), rK r.2 bs.length r.1)
def kF (l : List Pl) : List c9 → List Blk → List Ir × List Blk
 | [], bs => ([], bs)
 | a :: az, bs => ((a l bs).1 :: (kF l az (a l bs).2).1, (kF l az (a l bs).2).2)
def fD (az : List c9) (i : Nat) : c9 := az.getD i fun _ bs => (zIr, bs)
def iH (op n : Int) (s t : Nm) (ks : List Co) (az : List c9) : c9 := fun l bs =>
 if op == 1 then (.mk 1 n [], bs) else if op == 2 then (kC l s, bs) else if op == 3 then f4 s [] (kid ks 0) (fD az 0) l bs
 else if op == 5 then
  let e := fD az 0 l bs
  let b := fD az 1 (l ++ [(s, 2, j6 l)]) e.2
  (.mk 7 0 [e.1, b.1], b.2)
 else if op == 6 then
  let e := f4 t s (kid ks 0) (fD az 0) l bs
  let b := fD az 1 (l ++ [(s, 2, j6 l)]) e.2
  (.mk 7 0 [e.1, b.1], b.2)
 else (plI op (kF l az bs).1, (kF l az bs).2)
mutual
def iE : Co → c9
 | .mk op n s t ks => iH op n s t ks (iEs ks)
def iEs : List Co → List c9
 | [] => []
 | c :: l => iE c :: iEs l
end
mutual
def nf : Co → Nat
 | .mk op _ _ _ ks => (if op == 3 || op == 6 then 1 else 0) + nfs ks
def nfs : List Co → Nat
 | [] => 0
 | c :: l => nf c + nfs l
end
theorem lF {α : Type} {a b : List (Nm × α)} {s : Nm} : jG (a ++ b) s = (jG b s).or (jG a s) := by
 unfold jG
 rw [List.reverse_append, List.find?_append]
 cases List.find? (fun p => p.1 == s) b.reverse <;> rfl
theorem oQ {α : Type} {x : Nm} {v : α} {s : Nm} : jG [(x, v)] s = if x == s then some v else none := by
 unfold jG
 simp only [List.reverse_cons, List.reverse_nil, List.nil_append, List.find?_cons]
 split <;> simp_all
theorem zRc {α β : Type} (g : α → β) (l : List (Nm × α)) (s : Nm) : jG (l.map fun p => (p.1, g p.2)) s = (jG l s).map g := by
 unfold jG
 rw [← List.map_reverse, List.find?_map]
 simp only [Option.map_map]
 rfl
theorem zJz {env : Loc} {s : Nm} : jG (lc env) s = (jG env s).map fun n : Nat => ((2 : Int), (n : Int)) := zRc (fun n : Nat => ((2 : Int), (n : Int))) env s
theorem sU {α : Type} {l : List (Nm × α)} {s : Nm} : jG l s = none ↔ s ∉ l.map (·.1) := by
 unfold jG
 simp only [Option.map_eq_none_iff, List.find?_eq_none, List.mem_reverse, List.mem_map, not_exists, not_and, beq_iff_eq]
theorem zTz {x s : Nm} : jG (sf x) s = if x == s && !(s == []) then some (4, 0) else none := by
 unfold sf
 by_cases hx : x = []
 ·subst hx
  by_cases hs : s = []
  ·subst hs; rfl
  ·have : ([] == s) = false := by cases s with | nil => exact absurd rfl hs | cons a l => rfl
   simp [this, jG]
 ·rw [if_neg (by simpa using hx), oQ]
  by_cases h : x = s
  ·subst h; simp [hx]
  ·simp [h]
theorem zJx : ∀ (l : List Nm) (i : Nat), (kp i l).map (·.1) = l
 | [], i => rfl
 | s :: l, i => by simp only [kp, List.map_cons, zJx l]
theorem zCu : ∀ (K : List Nm) (j i : Nat) (s : Nm), K.Nodup → K[i]? = some s → jG (kp j K) s = some (3, ((j + i : Nat) : Int))
 | [], j, i, s, _, h => by simp at h
 | x :: K, j, 0, s, hn, h => by
  simp only [List.getElem?_cons_zero, Option.some.injEq] at h
  subst h
  rw [show kp j (x :: K) = [(x, 3, (j : Int))] ++ kp (j + 1) K from rfl, lF, sU.2 (by rw [zJx]; exact (List.nodup_cons.1 hn).1), oQ]
  simp
 | x :: K, j, i + 1, s, hn, h => by
  simp only [List.getElem?_cons_succ] at h
  rw [show kp j (x :: K) = [(x, 3, (j : Int))] ++ kp (j + 1) K from rfl, lF, zCu K (j + 1) i s (List.nodup_cons.1 hn).2 h]
  show some ((3 : Int), ((j + 1 + i : Nat) : Int)) = some (3, ((j + (i + 1) : Nat) : Int))
  rw [show j + 1 + i = j + (i + 1) by omega]
def nS (slf : Nm) (x : Nm) : Bool := !(slf == x && !(x == []))
def nE (env : Loc) (x : Nm) : Bool := !(env.map (·.1)).contains x
theorem zWy {env : Loc} {s : Nm} : nE env s = (jG env s).isNone := by
 unfold nE
 cases h : jG env s with
 | none => have := sU.1 h; simpa using this
 | some n =>
  have : s ∈ env.map (·.1) := by
   refine Decidable.of_not_not fun hn => ?_
   rw [sU.2 hn] at h; cases h
  simpa using this
theorem zGi {a b : List Nm} (h : a <+: b) {i : Nat} {x : Nm} (hx : a[i]? = some x) : b[i]? = some x := by
 obtain ⟨c, rfl⟩ := h
 rw [List.getElem?_append_left (List.getElem?_eq_some_iff.1 hx).1]; exact hx
theorem zFk {top : Bool} {slf : Nm} {env : Loc} {K : List Nm} {s : Nm} {w : Wt} (hn : K.Nodup) (ht : top = true → K = []) (hp : dd w.kept (([s].filter (nE env)).filter (nS slf)) <+: K) :
  gU top slf env s w = (kC (kp 0 K ++ sf slf ++ lc env) s, ⟨w.bs, w.ok, dd w.kept (([s].filter (nE env)).filter (nS slf))⟩) := by
 obtain ⟨wb, wo, wk⟩ := w
 unfold gU kC
 have hE := zWy (env := env) (s := s)
 rw [lF, zJz]
 cases h : jG env s with
 | some n =>
  rw [h] at hE
  rw [List.filter_cons_of_neg (by rw [hE]; simp)]
  rfl
 | none =>
  rw [h] at hE
  rw [List.filter_cons_of_pos (by rw [hE]; rfl)] at hp ⊢
  simp only [List.filter_nil] at hp ⊢
  rw [lF, zTz]
  by_cases hs : (slf == s && !(s == [])) = true
  ·rw [if_pos hs, if_pos hs, List.filter_cons_of_neg (by unfold nS; rw [hs]; simp)]
   rfl
  ·have hs' : (slf == s && !(s == [])) = false := by simpa using hs
   rw [if_neg hs, if_neg hs]
   rw [List.filter_cons_of_pos (by unfold nS; rw [hs']; rfl), List.filter_nil] at hp ⊢
   by_cases hc : wk.contains s = true
   ·rw [if_pos hc]
    have e : dd wk [s] = wk := by rw [v9, if_pos hc]; rfl
    simp only [e] at hp ⊢
    have hm : s ∈ wk := by simpa using hc
    have hi : wk[wk.idxOf s]? = some s := by rw [List.getElem?_eq_getElem (List.idxOf_lt_length_iff.2 hm)]; simp
    rw [zCu K 0 _ s hn (zGi hp hi)]
    simp [irOf]
   ·rw [if_neg hc]
    have e : dd wk [s] = wk ++ [s] := by rw [v9, if_neg hc]; rfl
    simp only [e] at hp ⊢
    cases top with
    | true =>
     rw [ht rfl] at hp
     have := List.eq_nil_of_prefix_nil hp
     simp at this
    | false =>
     have hi : (wk ++ [s])[wk.length]? = some s := by simp
     rw [zCu K 0 _ s hn (zGi hp hi)]
     simp [irOf]
theorem zAi (p : Nm → Bool) (s : Nm) (l : List Nm) : (s :: l).filter p = [s].filter p ++ l.filter p := by
 rw [← List.filter_append]; rfl
theorem sL {top : Bool} {slf : Nm} {env : Loc} {K : List Nm} (hn : K.Nodup) (ht : top = true → K = []) : ∀ (xs : List Nm) (w : Wt), dd w.kept ((xs.filter (nE env)).filter (nS slf)) <+: K →
  kR top slf env xs w = (xs.map (kC (kp 0 K ++ sf slf ++ lc env)), ⟨w.bs, w.ok, dd w.kept ((xs.filter (nE env)).filter (nS slf))⟩)
 | [], w, hp => by simp [kR, dd]
 | s :: xs, w, hp => by
  have e : dd w.kept (((s :: xs).filter (nE env)).filter (nS slf)) = dd (dd w.kept (([s].filter (nE env)).filter (nS slf))) ((xs.filter (nE env)).filter (nS slf)) := by
   rw [zAi, List.filter_append, nF]
  rw [e] at hp ⊢
  have h1 := zFk (top := top) (slf := slf) (env := env) (K := K) (s := s) (w := w) hn ht (List.IsPrefix.trans (f6 _ _) hp)
  have h2 := sL (top := top) (slf := slf) (env := env) (K := K) hn ht xs ⟨w.bs, w.ok, dd w.kept (([s].filter (nE env)).filter (nS slf))⟩ hp
  simp only [kR, h1, h2, List.map_cons]
theorem zJ6 (l : List Pl) (p : Pl) : j6 (l ++ [p]) = if p.2.1 == 2 then max (j6 l) (p.2.2 + 1) else j6 l := by
 unfold j6; rw [List.foldl_append]; rfl
theorem zPk : ∀ (K : List Nm) (j : Nat) (n : Int), (kp j K).foldl (fun n p => if p.2.1 == 2 then max n (p.2.2 + 1) else n) n = n
 | [], _, _ => rfl
 | s :: K, j, n => by
  simp only [kp, List.foldl_cons]
  rw [if_neg (by decide)]
  exact zPk K (j + 1) n
theorem zT6 {K : List Nm} {slf arg : Nm} : j6 (kp 0 K ++ sf slf ++ [(arg, 2, 0)]) = 1 := by
 rw [zJ6]
 have : j6 (kp 0 K ++ sf slf) = 1 := by
  unfold j6
  rw [List.foldl_append, zPk]
  unfold sf; split <;> rfl
 rw [this]; rfl
def zIh (c : Co) : Prop := ∀ (top : Bool) (slf : Nm) (env : Loc) (deep : Nat) (K : List Nm) (w : Wt) (bsI : List Blk), wR c = true → oU c = true → K.Nodup → (top = true → K = []) →
 j6 (kp 0 K ++ sf slf ++ lc env) = deep → w.ok = true → bsI.length = w.bs.length → nf c + w.bs.length ≤ 60 → dd w.kept ((frC (env.map (·.1)) c).filter (nS slf)) <+: K →
 ∃ ext : List Blk, ext.length = nf c ∧ iE c (kp 0 K ++ sf slf ++ lc env) bsI = ((sE c top slf env deep w).1, bsI ++ ext) ∧ (sE c top slf env deep w).2 = ⟨w.bs ++ ext, true, dd w.kept ((frC (env.map (·.1)) c).filter (nS slf))⟩
theorem zRb {arg self : Nm} {body : Co} (h : oU body = true) : qE arg self body = dd [] ((frC [arg] body).filter (nS self)) := by
 have e : frC [] (.mk 3 0 arg [] [body]) = frC [arg] body := by
  simp only [frC, frL, List.nil_append, List.append_nil]
  rfl
 unfold qE
 rw [e, zE8, List.filter_nil]
 congr 1
 refine List.filter_congr fun x hx => ?_
 have := zMy [arg] body h x hx
 unfold nS
 have hx0 : (x == []) = false := by simpa using this
 rw [hx0, Bool.not_false, Bool.and_true]
 congr 1
 rw [Bool.eq_iff_iff]; simp only [beq_iff_eq]; exact eq_comm
theorem zP9 {α : Type} (a : List α) (x y : α) (l : List α) : (a ++ [x] ++ l).set a.length y = a ++ [y] ++ l := by
 induction a with
 | nil => rfl
 | cons z a ih => simp only [List.cons_append, List.length_cons, List.set_cons_succ, ih]
theorem zTk {α : Type} (a : List α) (x d : α) (l : List α) : (a ++ [x] ++ l).getD a.length d = x := by simp
theorem zE1 {arg self : Nm} {body : Co} (H : zIh body) (ha : wR body = true) (hz : oU body = true) {top : Bool} {slf : Nm} {env : Loc} {deep : Nat} {K : List Nm} {w : Wt} {bsI : List Blk}
  (hn : K.Nodup) (ht : top = true → K = []) (hok : w.ok = true) (hb : bsI.length = w.bs.length) (hf : nf body + 1 + w.bs.length ≤ 60)
  (hp : dd w.kept ((((frC [arg] body).filter (nS self)).filter (nE env)).filter (nS slf)) <+: K) :
  ∃ ext : List Blk, ext.length = nf body + 1 ∧ f4 arg self body (iE body) (kp 0 K ++ sf slf ++ lc env) bsI = ((vY arg self (sE body) top slf env deep w).1, bsI ++ ext) ∧
   (vY arg self (sE body) top slf env deep w).2 = ⟨w.bs ++ ext, true, dd w.kept ((((frC [arg] body).filter (nS self)).filter (nE env)).filter (nS slf))⟩ := by
 have hK := zRb (arg := arg) (self := self) hz
 have hKn : (qE arg self body).Nodup := by rw [hK]; exact zI2 _ _ List.nodup_nil
 obtain ⟨ext, h1, h2, h3⟩ := H false self [(arg, 0)] 1 (qE arg self body) ⟨w.bs ++ [(0, zIr)], w.ok, []⟩ (bsI ++ [(((qE arg self body).length : Int), zIr)]) ha hz hKn (fun h => by cases h)
  (zT6 (slf := self) (arg := arg)) hok (by simp [hb]) (by simp only [List.length_append, List.length_cons, List.length_nil]; omega) (by rw [hK]; exact List.prefix_refl _)
 have h4 : dd [] ((frC ([(arg, 0)].map (·.1 : Nm × Nat → Nm)) body).filter (nS self)) = qE arg self body := hK.symm
 have hp' : dd w.kept (((qE arg self body).filter (nE env)).filter (nS slf)) = dd w.kept ((((frC [arg] body).filter (nS self)).filter (nE env)).filter (nS slf)) := by
  rw [hK]
  have := zXq (fun x => nS slf x && nE env x) ((frC [arg] body).filter (nS self)) [] w.kept
  rw [List.nil_append] at this
  have ff : ∀ X : List Nm, (X.filter (nE env)).filter (nS slf) = X.filter fun x => nS slf x && nE env x := fun X => List.filter_filter
  rw [ff, ff]
  exact this
 rw [← hp'] at hp
 refine ⟨(((qE arg self body).length : Int), (sE body false self [(arg, 0)] 1 ⟨w.bs ++ [(0, zIr)], w.ok, []⟩).1) :: ext, by simp [h1], ?_, ?_⟩
 ·have h2' : iE body (kp 0 (qE arg self body) ++ sf self ++ [(arg, 2, 0)]) (bsI ++ [(((qE arg self body).length : Int), zIr)]) = _ := h2
  unfold f4 vY
  rw [if_neg (by omega)]
  simp only [h2', h3, h4, sL hn ht (qE arg self body) ⟨_, true, w.kept⟩ hp, rK, zTk, zP9]
  simp [hb]
 ·unfold vY
  rw [if_neg (by omega)]
  simp only [h3, h4, sL hn ht (qE arg self body) ⟨_, true, w.kept⟩ hp, zP9, hp']
  simp
theorem iB : ∀ {l : List Co} {i : Nat}, i < l.length → fF (sEs l) i = sE (kid l i)
 | c :: l, 0, _ => rfl
 | c :: l, i + 1, h => by
  have := iB (l := l) (i := i) (by simpa using h)
  simpa only [fF, sEs, kid, List.getD_cons_succ] using this
theorem sN : ∀ {l : List Co} {i : Nat}, i < l.length → fD (iEs l) i = iE (kid l i)
 | c :: l, 0, _ => rfl
 | c :: l, i + 1, h => by
  have := sN (l := l) (i := i) (by simpa using h)
  simpa only [fD, iEs, kid, List.getD_cons_succ] using this
theorem zD6 {op : Int} {s t : Nm} (he : ∀ i, qY op s t i = []) {top : Bool} {slf : Nm} {env : Loc} {deep : Nat} {K : List Nm} (hn : K.Nodup) (ht : top = true → K = []) (hl : j6 (kp 0 K ++ sf slf ++ lc env) = deep) :
  ∀ (l : List Co), (∀ c ∈ l, zIh c) → fW l = true → rR l = true → ∀ (i : Nat) (w : Wt) (bsI : List Blk), w.ok = true → bsI.length = w.bs.length → nfs l + w.bs.length ≤ 60 →
  dd w.kept ((frL op s t (env.map (·.1)) i l).filter (nS slf)) <+: K →
  ∃ ext : List Blk, ext.length = nfs l ∧ kF (kp 0 K ++ sf slf ++ lc env) (iEs l) bsI = ((qS top slf env deep (sEs l) w).1, bsI ++ ext) ∧ (qS top slf env deep (sEs l) w).2 = ⟨w.bs ++ ext, true, dd w.kept ((frL op s t (env.map (·.1)) i l).filter (nS slf))⟩
 | [], H, _, _, i, w, bsI, hok, hb, hf, hp => by
  obtain ⟨wb, wo, wk⟩ := w
  simp only at hok
  subst hok
  exact ⟨[], rfl, by simp [kF, qS, iEs, sEs], by simp [qS, sEs, frL, dd]⟩
 | c :: l, H, ha, hz, i, w, bsI, hok, hb, hf, hp => by
  simp only [fW, Bool.and_eq_true] at ha
  simp only [rR, Bool.and_eq_true] at hz
  simp only [nfs] at hf
  simp only [frL, he, List.append_nil, List.filter_append, nF] at hp ⊢
  obtain ⟨e1, a1, a2, a3⟩ := H c (by simp) top slf env deep K w bsI ha.1 hz.1 hn ht hl hok hb (by omega) (List.IsPrefix.trans (f6 _ _) hp)
  obtain ⟨e2, b1, b2, b3⟩ := zD6 he hn ht hl l (fun c hc => H c (by simp [hc])) ha.2 hz.2 (i + 1) (sE c top slf env deep w).2 (bsI ++ e1) (by rw [a3]) (by rw [a3]; simp [hb]) (by rw [a3]; simp only [List.length_append, a1]; omega) (by rw [a3]; exact hp)
  refine ⟨e1 ++ e2, by simp [a1, b1, nfs], ?_, ?_⟩
  ·show ((iE c _ bsI).1 :: (kF _ (iEs l) (iE c _ bsI).2).1, (kF _ (iEs l) (iE c _ bsI).2).2) = ((sE c top slf env deep w).1 :: (qS top slf env deep (sEs l) (sE c top slf env deep w).2).1, _)
   rw [a2]
   simp only
   rw [b2, List.append_assoc bsI]
  ·show (qS top slf env deep (sEs l) (sE c top slf env deep w).2).2 = _
   rw [b3, a3, List.append_assoc w.bs]
theorem zOz {env : Loc} {s : Nm} {deep : Nat} : (env ++ [(s, deep)]).map (·.1) = env.map (·.1) ++ [s] := by simp
theorem zT0 {env : Loc} {s : Nm} {deep : Nat} : lc (env ++ [(s, deep)]) = lc env ++ [(s, 2, (deep : Int))] := by simp [lc]
theorem zY5 : nS [] = fun _ => true := by
 funext x
 unfold nS
 cases x <;> rfl
theorem zWg {s t : Nm} {b : Co} (hz : oU b = true) : frC [s, t] b = (frC [t] b).filter (nS s) := by
 have h := zAu [s] [t] b
 rw [show [s] ++ [t] = [s, t] from rfl] at h
 rw [h]
 refine List.filter_congr fun x hx => ?_
 have := zMy [t] b hz x hx
 have hx0 : (x == []) = false := by simpa using this
 unfold nS
 rw [hx0, Bool.not_false, Bool.and_true]
 by_cases hs : x = s
 ·subst hs; simp
 ·have h1 : (s == x) = false := by simpa using fun e : s = x => hs e.symm
  rw [h1]; simp [hs]
theorem behind {op n : Int} {s t : Nm} {a b : Co} (Hb : zIh b) (hb : wR b = true) (hzb : oU b = true) {top : Bool} {slf : Nm} {env : Loc} {deep : Nat} {K : List Nm} (hn : K.Nodup) (ht : top = true → K = [])
  (hl : j6 (kp 0 K ++ sf slf ++ lc env) = deep) {w : Wt} {bsI : List Blk} (hok : w.ok = true) (hI : bsI.length = w.bs.length) (hf : nf b + w.bs.length ≤ 60) (hp : dd w.kept ((frC (env.map (·.1) ++ [s]) b).filter (nS slf)) <+: K) :
  ∃ ext : List Blk, ext.length = nf b ∧ iE b (kp 0 K ++ sf slf ++ lc env ++ [(s, 2, j6 (kp 0 K ++ sf slf ++ lc env))]) bsI = ((sE b top slf (env ++ [(s, deep)]) (deep + 1) w).1, bsI ++ ext) ∧
   (sE b top slf (env ++ [(s, deep)]) (deep + 1) w).2 = ⟨w.bs ++ ext, true, dd w.kept ((frC (env.map (·.1) ++ [s]) b).filter (nS slf))⟩ := by
 have e : kp 0 K ++ sf slf ++ lc env ++ [(s, 2, j6 (kp 0 K ++ sf slf ++ lc env))] = kp 0 K ++ sf slf ++ lc (env ++ [(s, deep)]) := by rw [zT0, hl, List.append_assoc (kp 0 K ++ sf slf)]
 rw [e]
 have h := Hb top slf (env ++ [(s, deep)]) (deep + 1) K w bsI hb hzb hn ht (by rw [← e, zJ6, hl]; simp; omega) hok hI hf (by rw [zOz]; exact hp)
 rw [zOz] at h
 exact h
theorem qI {op : Int} {l : List Co} (h : arC op = (l.length : Int)) {k : Nat} (hk : arC op = (k : Int)) : l.length = k := by omega
set_option maxHeartbeats 4000000 in
theorem agree : ∀ c : Co, zIh c := by
 refine Co.ind fun op n s t ks H => ?_
 intro top slf env deep K w bsI ha hz hn ht hl hok hb hf hp
 obtain ⟨wb, wo, wk⟩ := w
 simp only at hok hb hf hp
 subst hok
 simp only [wR, Bool.and_eq_true] at ha
 simp only [oU, Bool.and_eq_true] at hz
 obtain ⟨ha1, ha2⟩ := ha
 have ha1 : arC op = (ks.length : Int) := eq_of_beq ha1
 obtain ⟨hz1, hz2⟩ := hz
 simp only [nf] at hf
 have A : ∀ i, i < ks.length → wR (kid ks i) = true ∧ oU (kid ks i) = true ∧ zIh (kid ks i) := by
  intro i hi
  have hm : kid ks i ∈ ks := by
   unfold kid
   rw [List.getD_eq_getElem?_getD, List.getElem?_eq_getElem hi]
   exact List.getElem_mem hi
  exact ⟨xO ha2 _ hm, zF3 hz2 _ hm, H _ hm⟩
 have hks1 : ks.length = 1 → ks = [kid ks 0] := fun h => by
  match ks, h with
  | [a], _ => rfl
 have hks2 : ks.length = 2 → ks = [kid ks 0, kid ks 1] := fun h => by
  match ks, h with
  | [a, b], _ => rfl
 have S0 := fun h => iB (l := ks) (i := 0) h
 have I0 := fun h => sN (l := ks) (i := 0) h
 have S1 := fun h => iB (l := ks) (i := 1) h
 have I1 := fun h => sN (l := ks) (i := 1) h
 by_cases h1 : op = 1
 ·subst h1
  have hk : ks = [] := List.eq_nil_of_length_eq_zero (qI ha1 (k := 0) (by decide))
  subst hk
  refine ⟨[], rfl, ?_, ?_⟩
  ·simp [iE, iH, sE, sH]
  ·simp only [sE, sH, frC, frL, wS]; simp [dd]
 by_cases h2 : op = 2
 ·subst h2
  have hk : ks = [] := List.eq_nil_of_length_eq_zero (qI ha1 (k := 0) (by decide))
  subst hk
  have hfr : frC (env.map (·.1)) (.mk 2 n s t []) = [s].filter (nE env) := by
   simp only [frC, frL, wS, List.append_nil]
   cases he : nE env s with
   | true => rw [List.filter_cons_of_pos he, if_pos (by unfold nE at he; rw [he]; rfl)]; rfl
   | false => rw [List.filter_cons_of_neg (by simp [he]), if_neg (by unfold nE at he; rw [he]; decide)]; rfl
  rw [hfr] at hp ⊢
  have hg := zFk (top := top) (w := ⟨wb, true, wk⟩) hn ht hp
  refine ⟨[], rfl, ?_, ?_⟩
  ·show (kC (kp 0 K ++ sf slf ++ lc env) s, bsI) = ((gU top slf env s ⟨wb, true, wk⟩).1, bsI ++ [])
   rw [hg]; simp
  ·show (gU top slf env s ⟨wb, true, wk⟩).2 = _
   rw [hg]; simp
 by_cases h3 : op = 3
 ·subst h3
  have hk := qI ha1 (k := 1) (by decide)
  obtain ⟨a1, a2, a3⟩ := A 0 (by omega)
  have hfr : frC (env.map (·.1)) (.mk 3 n s t ks) = ((frC [s] (kid ks 0)).filter (nS [])).filter (nE env) := by
   rw [hks1 hk]
   simp only [frC, frL, wS, List.append_nil]
   rw [show qY 3 s t 0 = [s] from rfl, zAu, zY5]
   simp [nE, kid]
  have hnf : nfs ks = nf (kid ks 0) := by rw [hks1 hk]; simp [nfs, kid]
  rw [hfr] at hp ⊢
  have hf : 1 + nfs ks + wb.length ≤ 60 := hf
  obtain ⟨ext, b1, b2, b3⟩ := zE1 (arg := s) (self := []) (deep := deep) (top := top) (slf := slf) (env := env) (w := ⟨wb, true, wk⟩) (bsI := bsI) a3 a1 a2 hn ht rfl hb (by show _ + 1 + wb.length ≤ 60; omega) hp
  refine ⟨ext, by simp only [nf]; rw [b1, hnf, if_pos (by decide)]; omega, ?_, ?_⟩
  ·show f4 s [] (kid ks 0) (fD (iEs ks) 0) _ _ = ((vY s [] (fF (sEs ks) 0) top slf env deep ⟨wb, true, wk⟩).1, _)
   rw [S0 (by omega), I0 (by omega)]; exact b2
  ·show (vY s [] (fF (sEs ks) 0) top slf env deep ⟨wb, true, wk⟩).2 = _
   rw [S0 (by omega)]; exact b3
 by_cases h5 : op = 5
 ·subst h5
  have hk := qI ha1 (k := 2) (by decide)
  obtain ⟨a1, a2, a3⟩ := A 0 (by omega)
  obtain ⟨c1, c2, c3⟩ := A 1 (by omega)
  have hfr : frC (env.map (·.1)) (.mk 5 n s t ks) = frC (env.map (·.1)) (kid ks 0) ++ frC (env.map (·.1) ++ [s]) (kid ks 1) := by
   rw [hks2 hk]
   simp only [frC, frL, wS, List.append_nil]
   rw [show qY 5 s t 0 = [] from rfl, show qY 5 s t (0 + 1) = [s] from rfl, List.append_nil]
   simp [kid]
  have hnf : nfs ks = nf (kid ks 0) + nf (kid ks 1) := by rw [hks2 hk]; simp [nfs, kid]
  rw [hfr, List.filter_append, nF] at hp ⊢
  have hf : 0 + nfs ks + wb.length ≤ 60 := hf
  obtain ⟨e1, b1, b2, b3⟩ := a3 top slf env deep K ⟨wb, true, wk⟩ bsI a1 a2 hn ht hl rfl hb (by show _ + wb.length ≤ 60; omega) (List.IsPrefix.trans (f6 _ _) hp)
  obtain ⟨e2, d1, d2, d3⟩ := behind (op := 5) (n := n) (s := s) (t := t) (a := kid ks 0) c3 c1 c2 (top := top) hn ht hl (w := (sE (kid ks 0) top slf env deep ⟨wb, true, wk⟩).2) (bsI := bsI ++ e1) (by rw [b3]) (by rw [b3]; simp [hb]) (by rw [b3]; simp only [List.length_append, b1]; omega) (by rw [b3]; exact hp)
  refine ⟨e1 ++ e2, by simp only [nf, List.length_append]; rw [b1, d1, hnf, if_neg (by decide)]; omega, ?_, ?_⟩
  ·show iH 5 n s t ks (iEs ks) _ _ = ((sH 5 n s t (sEs ks) top slf env deep ⟨wb, true, wk⟩).1, _)
   generalize kp 0 K ++ sf slf ++ lc env = L at b2 d2 ⊢
   simp only [iH, sH, S0 (show 0 < ks.length by omega), I0 (show 0 < ks.length by omega), S1 (show 1 < ks.length by omega), I1 (show 1 < ks.length by omega)]
   simp [b2, d2]
  ·show (sH 5 n s t (sEs ks) top slf env deep ⟨wb, true, wk⟩).2 = _
   simp only [sH, S0 (show 0 < ks.length by omega), S1 (show 1 < ks.length by omega)]
   have : (sE (kid ks 1) top slf (env ++ [(s, deep)]) (deep + 1) (sE (kid ks 0) top slf env deep ⟨wb, true, wk⟩).2).2 = _ := d3
   simp only [b3] at this
   simp [-List.filter_filter, this, b3]
 by_cases h6 : op = 6
 ·subst h6
  have hk := qI ha1 (k := 2) (by decide)
  obtain ⟨a1, a2, a3⟩ := A 0 (by omega)
  obtain ⟨c1, c2, c3⟩ := A 1 (by omega)
  have hfr : frC (env.map (·.1)) (.mk 6 n s t ks) = ((frC [t] (kid ks 0)).filter (nS s)).filter (nE env) ++ frC (env.map (·.1) ++ [s]) (kid ks 1) := by
   rw [hks2 hk]
   simp only [frC, frL, wS, List.append_nil]
   rw [show qY 6 s t 0 = [s, t] from rfl, show qY 6 s t (0 + 1) = [s] from rfl, zAu (env.map (·.1)) [s, t], zWg a2]
   simp [kid, nE]
  have hnf : nfs ks = nf (kid ks 0) + nf (kid ks 1) := by rw [hks2 hk]; simp [nfs, kid]
  rw [hfr, List.filter_append, nF] at hp ⊢
  have hf : 1 + nfs ks + wb.length ≤ 60 := hf
  obtain ⟨e1, b1, b2, b3⟩ := zE1 (arg := t) (self := s) (deep := deep) (top := top) (slf := slf) (env := env) (w := ⟨wb, true, wk⟩) (bsI := bsI) a3 a1 a2 hn ht rfl hb (by show _ + 1 + wb.length ≤ 60; omega) (List.IsPrefix.trans (f6 _ _) hp)
  obtain ⟨e2, d1, d2, d3⟩ := behind (op := 6) (n := n) (s := s) (t := t) (a := kid ks 0) c3 c1 c2 (top := top) hn ht hl (w := (vY t s (sE (kid ks 0)) top slf env deep ⟨wb, true, wk⟩).2) (bsI := bsI ++ e1) (by rw [b3]) (by rw [b3]; simp [hb]) (by rw [b3]; simp only [List.length_append, b1]; omega) (by rw [b3]; exact hp)
  refine ⟨e1 ++ e2, by simp only [nf, List.length_append]; rw [b1, d1, hnf, if_pos (by decide)]; omega, ?_, ?_⟩
  ·show iH 6 n s t ks (iEs ks) _ _ = ((sH 6 n s t (sEs ks) top slf env deep ⟨wb, true, wk⟩).1, _)
   generalize kp 0 K ++ sf slf ++ lc env = L at b2 d2 ⊢
   simp only [iH, sH, S0 (show 0 < ks.length by omega), I0 (show 0 < ks.length by omega), S1 (show 1 < ks.length by omega), I1 (show 1 < ks.length by omega)]
   simp [b2, d2]
  ·show (sH 6 n s t (sEs ks) top slf env deep ⟨wb, true, wk⟩).2 = _
   simp only [sH, S0 (show 0 < ks.length by omega), S1 (show 1 < ks.length by omega)]
   have : (sE (kid ks 1) top slf (env ++ [(s, deep)]) (deep + 1) (vY t s (sE (kid ks 0)) top slf env deep ⟨wb, true, wk⟩).2).2 = _ := d3
   simp only [b3] at this
   simp [-List.filter_filter, this, b3]
 ·have he : ∀ i, qY op s t i = [] := fun i => by unfold qY; simp [h3, h5, h6]
  have hfr : frC (env.map (·.1)) (.mk op n s t ks) = frL op s t (env.map (·.1)) 0 ks := by
   simp only [frC, wS]; simp [h2]
  have e36 : (if (op == 3 || op == 6) = true then 1 else 0) = 0 := by simp [h3, h6]
  rw [e36] at hf
  rw [hfr] at hp ⊢
  obtain ⟨ext, b1, b2, b3⟩ := zD6 he (top := top) hn ht hl ks H ha2 hz2 0 ⟨wb, true, wk⟩ bsI rfl hb (by show _ + wb.length ≤ 60; omega) hp
  refine ⟨ext, by simp only [nf, e36]; omega, ?_, ?_⟩
  ·show iH op n s t ks (iEs ks) _ _ = ((sH op n s t (sEs ks) top slf env deep ⟨wb, true, wk⟩).1, _)
   generalize kp 0 K ++ sf slf ++ lc env = L at b2 ⊢
   simp only [iH, sH]
   simp [h1, h2, h3, h5, h6, b2]
  ·show (sH op n s t (sEs ks) top slf env deep ⟨wb, true, wk⟩).2 = _
   simp only [sH]
   simp [h1, h2, h3, h5, h6, b3]
end Go.Proofs.Ytlkjnlfddadlmaa.V
namespace Go.Proofs.Ytlkjnlfddadlmaa.V
set_option maxRecDepth 100000
def Bd (a : Act) (k : Nat) : Prop := ∀ top slf env deep w, w.bs.length ≤ (a top slf env deep w).2.bs.length ∧ (a top slf env deep w).2.bs.length ≤ w.bs.length + k ∧ (a top slf env deep w).2.kept.length ≤ w.kept.length + k
def Ok (a : Act) (m : Nat) : Prop := ∀ top slf env deep w, (a top slf env deep w).2.ok = true → w.ok = true ∧ (a top slf env deep w).2.bs.length = w.bs.length + m ∧ (w.bs.length ≤ 60 → (a top slf env deep w).2.bs.length ≤ 60)
theorem zAv {top : Bool} {slf : Nm} {env : Loc} {s : Nm} {w : Wt} : (gU top slf env s w).2.bs = w.bs ∧ (gU top slf env s w).2.kept.length ≤ w.kept.length + 1 ∧ ((gU top slf env s w).2.ok = true → w.ok = true) := by
 unfold gU
 split
 ·exact ⟨rfl, Nat.le_succ _, id⟩
 ·split
  ·exact ⟨rfl, Nat.le_succ _, id⟩
  ·split
   ·exact ⟨rfl, Nat.le_succ _, id⟩
   ·split
    ·exact ⟨rfl, by simp, fun h => by cases h⟩
    ·exact ⟨rfl, by simp, id⟩
theorem aH {top : Bool} {slf : Nm} {env : Loc} : ∀ (l : List Nm) (w : Wt), (kR top slf env l w).2.bs = w.bs ∧ (kR top slf env l w).2.kept.length ≤ w.kept.length + l.length ∧ (kR top slf env l w).1.length = l.length ∧ ((kR top slf env l w).2.ok = true → w.ok = true)
 | [], w => ⟨rfl, by simp [kR], rfl, id⟩
 | s :: l, w => by
  obtain ⟨a1, a2, a3⟩ := zAv (top := top) (slf := slf) (env := env) (s := s) (w := w)
  obtain ⟨b1, b2, b3, b4⟩ := aH (top := top) (slf := slf) (env := env) l (gU top slf env s w).2
  simp only [kR, List.length_cons, b3]
  exact ⟨by rw [b1, a1], by omega, trivial, fun h => a3 (b4 h)⟩
theorem zG9 {arg self : Nm} {a : Act} {k : Nat} (h : Bd a k) : Bd (vY arg self a) (k + 1) := by
 intro top slf env deep w
 unfold vY
 split
 ·exact ⟨Nat.le_refl _, by simp, by simp⟩
 ·obtain ⟨h1, h2, h3⟩ := h false self [(arg, 0)] 1 ⟨w.bs ++ [(0, zIr)], w.ok, []⟩
  simp only [List.length_append, List.length_cons, List.length_nil] at h1 h2 h3
  have hg := aH (top := top) (slf := slf) (env := env) (a false self [(arg, 0)] 1 ⟨w.bs ++ [(0, zIr)], w.ok, []⟩).2.kept ⟨(a false self [(arg, 0)] 1 ⟨w.bs ++ [(0, zIr)], w.ok, []⟩).2.bs.set w.bs.length ((a false self [(arg, 0)] 1 ⟨w.bs ++ [(0, zIr)], w.ok, []⟩).2.kept.length, (a false self [(arg, 0)] 1 ⟨w.bs ++ [(0, zIr)], w.ok, []⟩).1), (a false self [(arg, 0)] 1 ⟨w.bs ++ [(0, zIr)], w.ok, []⟩).2.ok, w.kept⟩
  obtain ⟨g1, g2, g3, g4⟩ := hg
  simp only [g1, List.length_set] at g2 ⊢
  exact ⟨by omega, by omega, by omega⟩
theorem zOs {arg self : Nm} {a : Act} {m : Nat} (h : Ok a m) : Ok (vY arg self a) (m + 1) := by
 intro top slf env deep w
 unfold vY
 split
 ·intro h; cases h
 ·next hl =>
  have hg := aH (top := top) (slf := slf) (env := env) (a false self [(arg, 0)] 1 ⟨w.bs ++ [(0, zIr)], w.ok, []⟩).2.kept ⟨(a false self [(arg, 0)] 1 ⟨w.bs ++ [(0, zIr)], w.ok, []⟩).2.bs.set w.bs.length ((a false self [(arg, 0)] 1 ⟨w.bs ++ [(0, zIr)], w.ok, []⟩).2.kept.length, (a false self [(arg, 0)] 1 ⟨w.bs ++ [(0, zIr)], w.ok, []⟩).1), (a false self [(arg, 0)] 1 ⟨w.bs ++ [(0, zIr)], w.ok, []⟩).2.ok, w.kept⟩
  obtain ⟨g1, g2, g3, g4⟩ := hg
  intro hok
  obtain ⟨h1, h2, h3⟩ := h false self [(arg, 0)] 1 ⟨w.bs ++ [(0, zIr)], w.ok, []⟩ (g4 hok)
  simp only [List.length_append, List.length_cons, List.length_nil] at h2 h3
  simp only [g1, List.length_set]
  exact ⟨h1, by omega, fun _ => by omega⟩
theorem cQ {top : Bool} {slf : Nm} {env : Loc} {deep : Nat} : ∀ (l : List Co), (∀ c ∈ l, Bd (sE c) (ndC c)) → ∀ w : Wt, w.bs.length ≤ (qS top slf env deep (sEs l) w).2.bs.length ∧ (qS top slf env deep (sEs l) w).2.bs.length ≤ w.bs.length + y7 l ∧ (qS top slf env deep (sEs l) w).2.kept.length ≤ w.kept.length + y7 l ∧ (qS top slf env deep (sEs l) w).1.length = l.length
 | [], _, w => by simp [qS, sEs]
 | c :: l, H, w => by
  obtain ⟨a1, a2, a3⟩ := H c (by simp) top slf env deep w
  obtain ⟨b1, b2, b3, b4⟩ := cQ (top := top) (slf := slf) (env := env) (deep := deep) l (fun c hc => H c (by simp [hc])) (sE c top slf env deep w).2
  simp only [sEs, qS, y7, List.length_cons, b4]
  exact ⟨by omega, by omega, by omega, trivial⟩
theorem zLu {top : Bool} {slf : Nm} {env : Loc} {deep : Nat} : ∀ (l : List Co), (∀ c ∈ l, Ok (sE c) (nf c)) → ∀ w : Wt, (qS top slf env deep (sEs l) w).2.ok = true → w.ok = true ∧ (qS top slf env deep (sEs l) w).2.bs.length = w.bs.length + nfs l ∧ (w.bs.length ≤ 60 → (qS top slf env deep (sEs l) w).2.bs.length ≤ 60)
 | [], _, w => by simp [qS, sEs, nfs]
 | c :: l, H, w => by
  intro h
  obtain ⟨b1, b2, b3⟩ := zLu (top := top) (slf := slf) (env := env) (deep := deep) l (fun c hc => H c (by simp [hc])) (sE c top slf env deep w).2 h
  obtain ⟨a1, a2, a3⟩ := H c (by simp) top slf env deep w b1
  simp only [sEs, qS, nfs]
  exact ⟨a1, by omega, fun h => b3 (a3 h)⟩
theorem zCt {l : List Co} (h : l.length = 1) : l = [kid l 0] := by
 match l, h with
 | [a], _ => rfl
theorem u9 {l : List Co} (h : l.length = 2) : l = [kid l 0, kid l 1] := by
 match l, h with
 | [a, b], _ => rfl
set_option maxHeartbeats 4000000 in
theorem zDx : ∀ c : Co, wR c = true → Bd (sE c) (ndC c) ∧ Ok (sE c) (nf c) := by
 refine Co.ind fun op n s t ks H => ?_
 intro ha
 simp only [wR, Bool.and_eq_true] at ha
 obtain ⟨ha1, ha2⟩ := ha
 have ha1 : arC op = (ks.length : Int) := eq_of_beq ha1
 have A : ∀ i, i < ks.length → Bd (sE (kid ks i)) (ndC (kid ks i)) ∧ Ok (sE (kid ks i)) (nf (kid ks i)) := by
  intro i hi
  have hm : kid ks i ∈ ks := by
   unfold kid
   rw [List.getD_eq_getElem?_getD, List.getElem?_eq_getElem hi]
   exact List.getElem_mem hi
  exact H _ hm (xO ha2 _ hm)
 have S0 := fun h => iB (l := ks) (i := 0) h
 have S1 := fun h => iB (l := ks) (i := 1) h
 refine ⟨fun top slf env deep w => ?_, fun top slf env deep w => ?_⟩
 ·show _ ≤ (sH op n s t (sEs ks) top slf env deep w).2.bs.length ∧ (sH op n s t (sEs ks) top slf env deep w).2.bs.length ≤ _ ∧ (sH op n s t (sEs ks) top slf env deep w).2.kept.length ≤ _
  unfold sH
  simp only [ndC]
  split
  ·exact ⟨Nat.le_refl _, by simp, by simp⟩
  split
  ·exact ⟨Nat.le_refl _, by simp, by simp⟩
  split
  ·obtain ⟨g1, g2, g3⟩ := zAv (top := top) (slf := slf) (env := env) (s := s) (w := w)
   rw [g1]
   exact ⟨Nat.le_refl _, by simp, by omega⟩
  split
  ·next h3 =>
   have h3 := eq_of_beq h3
   subst h3
   have hk := qI ha1 (k := 1) (by decide)
   rw [S0 (by omega)]
   obtain ⟨b1, b2, b3⟩ := zG9 (arg := s) (self := []) (A 0 (by omega)).1 top slf env deep w
   have e : y7 ks = ndC (kid ks 0) := by
    conv => lhs; rw [zCt hk]
    simp [y7]
   exact ⟨b1, by omega, by omega⟩
  split
  ·next h3 =>
   have h3 := eq_of_beq h3
   subst h3
   have hk := qI ha1 (k := 2) (by decide)
   rw [S0 (by omega), S1 (by omega)]
   obtain ⟨b1, b2, b3⟩ := (A 0 (by omega)).1 top slf env deep w
   obtain ⟨c1, c2, c3⟩ := (A 1 (by omega)).1 top slf (env ++ [(s, deep)]) (deep + 1) (sE (kid ks 0) top slf env deep w).2
   have e : y7 ks = ndC (kid ks 0) + ndC (kid ks 1) := by
    conv => lhs; rw [u9 hk]
    simp [y7]
   exact ⟨by simp only; omega, by simp only; omega, by simp only; omega⟩
  split
  ·next h3 =>
   have h3 := eq_of_beq h3
   subst h3
   have hk := qI ha1 (k := 2) (by decide)
   rw [S0 (by omega), S1 (by omega)]
   obtain ⟨b1, b2, b3⟩ := zG9 (arg := t) (self := s) (A 0 (by omega)).1 top slf env deep w
   obtain ⟨c1, c2, c3⟩ := (A 1 (by omega)).1 top slf (env ++ [(s, deep)]) (deep + 1) (vY t s (sE (kid ks 0)) top slf env deep w).2
   have e : y7 ks = ndC (kid ks 0) + ndC (kid ks 1) := by
    conv => lhs; rw [u9 hk]
    simp [y7]
   exact ⟨by simp only; omega, by simp only; omega, by simp only; omega⟩
  ·obtain ⟨b1, b2, b3, _⟩ := cQ (top := top) (slf := slf) (env := env) (deep := deep) ks (fun c hc => (H c hc (xO ha2 _ hc)).1) w
   exact ⟨by simp only; omega, by simp only; omega, by simp only; omega⟩
 ·show (sH op n s t (sEs ks) top slf env deep w).2.ok = true → w.ok = true ∧ (sH op n s t (sEs ks) top slf env deep w).2.bs.length = _ ∧ (_ → (sH op n s t (sEs ks) top slf env deep w).2.bs.length ≤ _)
  unfold sH
  simp only [nf]
  split
  ·next h => intro h2; rw [h2] at h; cases h
  next hw =>
  have hw : w.ok = true := by simpa using hw
  split
  ·next h1 =>
   have h1 := eq_of_beq h1
   subst h1
   have hk : ks = [] := List.eq_nil_of_length_eq_zero (qI ha1 (k := 0) (by decide))
   subst hk
   intro h
   exact ⟨hw, by simp [nfs], id⟩
  split
  ·next h1 =>
   have h1 := eq_of_beq h1
   subst h1
   have hk : ks = [] := List.eq_nil_of_length_eq_zero (qI ha1 (k := 0) (by decide))
   subst hk
   obtain ⟨g1, g2, g3⟩ := zAv (top := top) (slf := slf) (env := env) (s := s) (w := w)
   rw [g1]
   intro h
   exact ⟨hw, by simp [nfs], id⟩
  split
  ·next h3 =>
   have h3 := eq_of_beq h3
   subst h3
   have hk := qI ha1 (k := 1) (by decide)
   rw [S0 (by omega)]
   intro h
   obtain ⟨b1, b2, b3⟩ := zOs (arg := s) (self := []) (A 0 (by omega)).2 top slf env deep w h
   have e : nfs ks = nf (kid ks 0) := by
    conv => lhs; rw [zCt hk]
    simp [nfs]
   exact ⟨hw, by rw [b2, e, if_pos (by decide)]; omega, b3⟩
  split
  ·next h3 =>
   have h3 := eq_of_beq h3
   subst h3
   have hk := qI ha1 (k := 2) (by decide)
   rw [S0 (by omega), S1 (by omega)]
   intro h
   obtain ⟨c1, c2, c3⟩ := (A 1 (by omega)).2 top slf (env ++ [(s, deep)]) (deep + 1) (sE (kid ks 0) top slf env deep w).2 h
   obtain ⟨b1, b2, b3⟩ := (A 0 (by omega)).2 top slf env deep w c1
   have e : nfs ks = nf (kid ks 0) + nf (kid ks 1) := by
    conv => lhs; rw [u9 hk]
    simp [nfs]
   exact ⟨hw, by rw [e, if_neg (by decide)]; simp only; omega, fun h => c3 (b3 h)⟩
  split
  ·next h3 =>
   have h3 := eq_of_beq h3
   subst h3
   have hk := qI ha1 (k := 2) (by decide)
   rw [S0 (by omega), S1 (by omega)]
   intro h
   obtain ⟨c1, c2, c3⟩ := (A 1 (by omega)).2 top slf (env ++ [(s, deep)]) (deep + 1) (vY t s (sE (kid ks 0)) top slf env deep w).2 h
   obtain ⟨b1, b2, b3⟩ := zOs (arg := t) (self := s) (A 0 (by omega)).2 top slf env deep w c1
   have e : nfs ks = nf (kid ks 0) + nf (kid ks 1) := by
    conv => lhs; rw [u9 hk]
    simp [nfs]
   exact ⟨hw, by rw [e, if_pos (by decide)]; simp only; omega, fun h => c3 (b3 h)⟩
  ·next h3 _ _ h6 =>
   intro h
   obtain ⟨b1, b2, b3⟩ := zLu (top := top) (slf := slf) (env := env) (deep := deep) ks (fun c hc => (H c hc (xO ha2 _ hc)).2) w h
   exact ⟨hw, by rw [if_neg (by simp_all)]; simp only; omega, b3⟩
mutual
def q7 : Ir → Nat
 | .mk _ _ ks => 1 + zX ks
def zX : List Ir → Nat
 | [] => 0
 | c :: l => q7 c + zX l
end
def kL : List Blk → Nat
 | [] => 0
 | b :: l => q7 b.2 + kL l
theorem zL5 : ∀ (a b : List Blk), kL (a ++ b) = kL a + kL b
 | [], b => by simp [kL]
 | x :: a, b => by simp only [List.cons_append, kL, zL5 a b]; omega
theorem zEc : ∀ (l : List Blk) (i : Nat) (x : Blk), kL (l.set i x) ≤ kL l + q7 x.2
 | [], i, x => by simp [kL]
 | y :: l, 0, x => by simp only [List.set_cons_zero, kL]; omega
 | y :: l, i + 1, x => by have := zEc l i x; simp only [List.set_cons_succ, kL]; omega
theorem zEb : ∀ {l : List Blk} {b : Blk}, b ∈ l → q7 b.2 ≤ kL l
 | x :: l, b, h => by
  simp only [kL]
  rcases List.mem_cons.1 h with rfl | h
  ·omega
  ·have := zEb h; omega
theorem zF0 : ∀ (a b : List Ir), zX (a ++ b) = zX a + zX b
 | [], b => by simp [zX]
 | x :: a, b => by simp only [List.cons_append, zX, zF0 a b]; omega
def IB (a : c9) (j k : Nat) : Prop := ∀ l bs, (a l bs).2.length = bs.length + j ∧ q7 (a l bs).1 + kL (a l bs).2 ≤ kL bs + k
theorem zFg {l : List Pl} {s : Nm} : q7 (kC l s) = 1 := by
 unfold kC irOf
 split <;> rfl
theorem zFh {l : List Pl} : ∀ K : List Nm, zX (K.map (kC l)) = K.length
 | [] => rfl
 | s :: K => by simp only [List.map_cons, zX, zFg, zFh K, List.length_cons]; omega
mutual
theorem zMx : ∀ (env : List Nm) (c : Co), wR c = true → (frC env c).length ≤ ndC c
 | env, .mk op n s t ks, h => by
  simp only [wR, Bool.and_eq_true] at h
  have := zTg op s t env 0 ks h.2
  have : (wS (op == 2 && !env.contains s) s).length ≤ 1 := by unfold wS; split <;> simp
  simp only [frC, List.length_append, ndC]; omega
theorem zTg : ∀ (op : Int) (s t : Nm) (env : List Nm) (i : Nat) (l : List Co), fW l = true → (frL op s t env i l).length ≤ y7 l
 | op, s, t, env, i, [], _ => by simp [frL, y7]
 | op, s, t, env, i, c :: l, h => by
  simp only [fW, Bool.and_eq_true] at h
  have h1 := zMx (env ++ qY op s t i) c h.1
  have h2 := zTg op s t env (i + 1) l h.2
  simp only [frL, List.length_append, y7]; omega
end
theorem zMl : ∀ (l out : List Nm), (dd out l).length ≤ out.length + l.length
 | [], out => by simp [dd]
 | s :: l, out => by
  rw [v9]
  have ih := zMl l (if out.contains s then out else out ++ [s])
  have : (if out.contains s then out else out ++ [s]).length ≤ out.length + 1 := by split <;> simp
  simp only [List.length_cons]; omega
theorem oM {arg self : Nm} {body : Co} (h : wR body = true) : (qE arg self body).length ≤ ndC body := by
 unfold qE
 refine Nat.le_trans (List.length_filter_le _ _) ?_
 have h1 := zMl (frC [] (.mk 3 0 arg [] [body])) []
 have h2 := zMx [arg] body h
 have e : frC [] (.mk 3 0 arg [] [body]) = frC [arg] body := by
  simp only [frC, frL, List.nil_append, List.append_nil]
  rfl
 rw [e] at h1 ⊢
 simp only [List.length_nil] at h1
 omega
theorem zG8 {arg self : Nm} {body : Co} {a : c9} {j k : Nat} (ha : wR body = true) (h : IB a j k) : IB (f4 arg self body a) (j + 1) (k + ndC body + 2) := by
 intro l bs
 obtain ⟨h1, h2⟩ := h (kp 0 (qE arg self body) ++ sf self ++ [(arg, 2, 0)]) (bs ++ [(((qE arg self body).length : Int), zIr)])
 have hk := oM (arg := arg) (self := self) ha
 have hz : q7 zIr = 1 := rfl
 simp only [zL5, kL, hz, List.length_append, List.length_cons, List.length_nil] at h1 h2
 unfold f4
 have hs := zEc (a (kp 0 (qE arg self body) ++ sf self ++ [(arg, 2, 0)]) (bs ++ [(((qE arg self body).length : Int), zIr)])).2 bs.length ((((a (kp 0 (qE arg self body) ++ sf self ++ [(arg, 2, 0)]) (bs ++ [(((qE arg self body).length : Int), zIr)])).2).getD bs.length (0, zIr)).1, (a (kp 0 (qE arg self body) ++ sf self ++ [(arg, 2, 0)]) (bs ++ [(((qE arg self body).length : Int), zIr)])).1)
 simp only [rK, List.length_set, q7, zFh] at hs ⊢
 refine ⟨by omega, ?_⟩
 omega
theorem zD5 {l : List Pl} {M : Nat} : ∀ (ks : List Co), (∀ c ∈ ks, IB (iE c) (nf c) (3 * ndC c + nf c * M)) → ∀ bs, (kF l (iEs ks) bs).2.length = bs.length + nfs ks ∧ zX (kF l (iEs ks) bs).1 + kL (kF l (iEs ks) bs).2 ≤ kL bs + 3 * y7 ks + nfs ks * M ∧ (kF l (iEs ks) bs).1.length = ks.length
 | [], _, bs => by simp [kF, iEs, nfs, y7, zX]
 | c :: ks, H, bs => by
  obtain ⟨a1, a2⟩ := H c (by simp) l bs
  obtain ⟨b1, b2, b3⟩ := zD5 (l := l) ks (fun c hc => H c (by simp [hc])) (iE c l bs).2
  simp only [iEs, kF, nfs, y7, zX, List.length_cons, b3, Nat.add_mul, Nat.mul_add]
  exact ⟨by omega, by omega, trivial⟩
theorem zW2 {op : Int} {ks : List Ir} : q7 (plI op ks) ≤ zX ks + 3 := by
 have h1 : q7 (.mk 1 1 []) = 1 := rfl
 have h0 : q7 (.mk 1 0 []) = 1 := rfl
 unfold plI
 repeat' split
 all_goals simp only [q7, zX, zF0, h1, h0]; omega
theorem zCb {M : Nat} : ∀ c : Co, wR c = true → ndC c + 2 ≤ M → IB (iE c) (nf c) (3 * ndC c + nf c * M) := by
 refine Co.ind fun op n s t ks H => ?_
 intro ha hM
 simp only [wR, Bool.and_eq_true] at ha
 obtain ⟨ha1', ha2⟩ := ha
 have ha1 : arC op = (ks.length : Int) := eq_of_beq ha1'
 clear ha1'
 simp only [ndC] at hM
 have hnd : ∀ c ∈ ks, ndC c ≤ y7 ks := by
  intro c hc
  clear H ha1 ha2 hM
  induction ks with
  | nil => cases hc
  | cons x l ih =>
   simp only [y7]
   rcases List.mem_cons.1 hc with rfl | hc
   ·omega
   ·have := ih hc; omega
 have A : ∀ i, i < ks.length → IB (iE (kid ks i)) (nf (kid ks i)) (3 * ndC (kid ks i) + nf (kid ks i) * M) ∧ wR (kid ks i) = true ∧ ndC (kid ks i) ≤ y7 ks := by
  intro i hi
  have hm : kid ks i ∈ ks := by
   unfold kid
   rw [List.getD_eq_getElem?_getD, List.getElem?_eq_getElem hi]
   exact List.getElem_mem hi
  exact ⟨H _ hm (xO ha2 _ hm) (by have := hnd _ hm; omega), xO ha2 _ hm, hnd _ hm⟩
 have I0 := fun h => sN (l := ks) (i := 0) h
 have I1 := fun h => sN (l := ks) (i := 1) h
 intro l bs
 show (iH op n s t ks (iEs ks) l bs).2.length = _ ∧ q7 (iH op n s t ks (iEs ks) l bs).1 + kL (iH op n s t ks (iEs ks) l bs).2 ≤ _
 unfold iH
 simp only [nf, ndC]
 split
 ·next h1 =>
  have h1 := eq_of_beq h1
  subst h1
  have hk : ks = [] := List.eq_nil_of_length_eq_zero (qI ha1 (k := 0) (by decide))
  subst hk
  exact ⟨by simp [nfs], by simp only [q7, zX, y7]; omega⟩
 split
 ·next h1 =>
  have h1 := eq_of_beq h1
  subst h1
  have hk : ks = [] := List.eq_nil_of_length_eq_zero (qI ha1 (k := 0) (by decide))
  subst hk
  exact ⟨by simp [nfs], by simp only [zFg]; omega⟩
 split
 ·next h3 =>
  have h3 := eq_of_beq h3
  subst h3
  have hk := qI ha1 (k := 1) (by decide)
  rw [I0 (by omega)]
  obtain ⟨a1, a2, a3⟩ := A 0 (by omega)
  obtain ⟨b1, b2⟩ := zG8 (arg := s) (self := []) a2 a1 l bs
  have e1 : nfs ks = nf (kid ks 0) := by
   conv => lhs; rw [zCt hk]
   simp [nfs]
  have e2 : y7 ks = ndC (kid ks 0) := by
   conv => lhs; rw [zCt hk]
   simp [y7]
  rw [if_pos (by decide), e1, Nat.add_mul]
  exact ⟨by omega, by omega⟩
 split
 ·next h3 =>
  have h3 := eq_of_beq h3
  subst h3
  have hk := qI ha1 (k := 2) (by decide)
  rw [I0 (by omega), I1 (by omega)]
  obtain ⟨b1, b2⟩ := (A 0 (by omega)).1 l bs
  obtain ⟨c1, c2⟩ := (A 1 (by omega)).1 (l ++ [(s, 2, j6 l)]) (iE (kid ks 0) l bs).2
  have e1 : nfs ks = nf (kid ks 0) + nf (kid ks 1) := by
   conv => lhs; rw [u9 hk]
   simp [nfs]
  have e2 : y7 ks = ndC (kid ks 0) + ndC (kid ks 1) := by
   conv => lhs; rw [u9 hk]
   simp [y7]
  rw [if_neg (by decide), e1, e2]
  simp only [Nat.add_mul, Nat.zero_add, q7, zX]
  exact ⟨by omega, by omega⟩
 split
 ·next h3 =>
  have h3 := eq_of_beq h3
  subst h3
  have hk := qI ha1 (k := 2) (by decide)
  rw [I0 (by omega), I1 (by omega)]
  obtain ⟨a1, a2, a3⟩ := A 0 (by omega)
  obtain ⟨b1, b2⟩ := zG8 (arg := t) (self := s) a2 a1 l bs
  obtain ⟨c1, c2⟩ := (A 1 (by omega)).1 (l ++ [(s, 2, j6 l)]) (f4 t s (kid ks 0) (iE (kid ks 0)) l bs).2
  have e1 : nfs ks = nf (kid ks 0) + nf (kid ks 1) := by
   conv => lhs; rw [u9 hk]
   simp [nfs]
  have e2 : y7 ks = ndC (kid ks 0) + ndC (kid ks 1) := by
   conv => lhs; rw [u9 hk]
   simp [y7]
  rw [if_pos (by decide), e1, e2]
  simp only [Nat.add_mul, q7, zX]
  exact ⟨by omega, by omega⟩
 ·obtain ⟨b1, b2, b3⟩ := zD5 (l := l) (M := M) ks (fun c hc => H c hc (xO ha2 _ hc) (by have := hnd _ hc; omega)) bs
  have hp := zW2 (op := op) (ks := (kF l (iEs ks) bs).1)
  rw [if_neg (by simp_all)]
  simp only [Nat.zero_add]
  exact ⟨by omega, by omega⟩
end Go.Proofs.Ytlkjnlfddadlmaa.V
namespace Go.Proofs.Ytlkjnlfddadlmaa.V
set_option maxRecDepth 100000
theorem Ir.ind {P : Ir → Prop} (h : ∀ op n ks, (∀ c ∈ ks, P c) → P (.mk op n ks)) (c : Ir) : P c :=
 Ir.rec (motive_1 := P) (motive_2 := fun l => ∀ c ∈ l, P c) (fun op n ks ih => h op n ks ih) (by simp) (fun c l h1 h2 x hx => by
  rcases List.mem_cons.1 hx with rfl | hx
  ·exact h1
  ·exact h2 x hx) c
abbrev irc (op n : Int) (g k : Nat) (cs : List TU) : List TU := [.int .i64 op, .int .i64 n, .sl () g 3 k cs]
abbrev blc (f op n : Int) (g k : Nat) (cs : List TU) : List TU := [.int .i64 f, .int .i64 op, .int .i64 n, .sl () g 3 k cs]
mutual
def RdI : Ir → List TU → Prop
 | .mk op n ks, us => ∃ g cs, us = irc op n (g + 1) ks.length cs ∧ kY ks cs
def kY : List Ir → List TU → Prop
 | [], cs => cs = []
 | c :: l, cs => ∃ us vs, cs = us ++ vs ∧ RdI c us ∧ kY l vs
end
mutual
def irE : Ir → List TU
 | .mk op n ks => irc op n 0 ks.length (yP ks)
def yP : List Ir → List TU
 | [] => []
 | c :: l => irE c ++ yP l
end
def blE : List Blk → List TU
 | [] => []
 | b :: l => .int .i64 b.1 :: irE b.2 ++ blE l
def RdB : List Blk → List TU → Prop
 | [], cs => cs = []
 | b :: l, cs => ∃ us vs, cs = .int .i64 b.1 :: us ++ vs ∧ RdI b.2 us ∧ RdB l vs
mutual
theorem RdI.retag : ∀ {c : Ir} {us : List TU}, RdI c us → RdI c (zI us)
 | .mk op n ks, us, h => by
  simp only [RdI] at h ⊢
  obtain ⟨g, cs, rfl, h⟩ := h
  exact ⟨g + 1, zI cs, rfl, kY.retag h⟩
theorem kY.retag : ∀ {l : List Ir} {cs : List TU}, kY l cs → kY l (zI cs)
 | [], cs, h => by simp only [kY] at h ⊢; subst h; rfl
 | c :: l, cs, h => by
  simp only [kY] at h ⊢
  obtain ⟨us, vs, rfl, h1, h2⟩ := h
  exact ⟨_, _, jD us vs, RdI.retag h1, kY.retag h2⟩
end
theorem RdB.retag : ∀ {l : List Blk} {cs : List TU}, RdB l cs → RdB l (zI cs)
 | [], cs, h => by simp only [RdB] at h ⊢; subst h; rfl
 | b :: l, cs, h => by
  simp only [RdB] at h ⊢
  obtain ⟨us, vs, rfl, h1, h2⟩ := h
  refine ⟨zI us, zI vs, ?_, h1.retag, RdB.retag h2⟩
  rw [jD]; rfl
mutual
theorem zFo : ∀ (c : Ir), RdI c (zI (irE c))
 | .mk op n ks => by
  simp only [RdI, irE]
  exact ⟨0, zI (yP ks), rfl, zCh ks⟩
theorem zCh : ∀ (l : List Ir), kY l (zI (yP l))
 | [] => by simp only [kY, yP, zI]
 | c :: l => by
  simp only [kY, yP]
  exact ⟨_, _, jD _ _, zFo c, zCh l⟩
end
theorem pO : ∀ (l : List Blk), RdB l (zI (blE l))
 | [] => by simp only [RdB, blE, zI]
 | b :: l => by
  simp only [RdB, blE]
  refine ⟨zI (irE b.2), zI (blE l), ?_, zFo b.2, pO l⟩
  rw [jD]; rfl
theorem pR : ∀ {a b a' b' : List TU}, yT a = some a' → yT b = some b' → yT (a ++ b) = some (a' ++ b') := by
 intro a
 induction a with
 | nil => intro b a' b' h1 h2; simp only [yT, Option.some.injEq] at h1; subst h1; exact h2
 | cons x a ih =>
  intro b a' b' h1 h2
  simp only [yT] at h1
  cases hx : down x with
  | none => simp [hx] at h1
  | some y =>
   simp only [hx, Option.bind_some] at h1
   cases ha : yT a with
   | none => simp [ha] at h1
   | some a1 =>
    simp only [ha, Option.map_some, Option.some.injEq] at h1
    subst h1
    simp only [List.cons_append, yT, hx, Option.bind_some, ih ha h2, Option.map_some]
mutual
theorem lB : ∀ (c : Ir), yT (irE c) = some (irE c)
 | .mk op n ks => by simp only [irE, yT, down, pZ ks, Option.bind_some, Option.map_some]; rfl
theorem pZ : ∀ (l : List Ir), yT (yP l) = some (yP l)
 | [] => by simp only [yP, yT]
 | c :: l => pR (lB c) (pZ l)
end
theorem dH : ∀ (l : List Blk), yT (blE l) = some (blE l)
 | [] => by simp only [blE, yT]
 | b :: l => pR (a := .int .i64 b.1 :: irE b.2) (by simp only [yT, down, lB, Option.bind_some, Option.map_some]) (dH l)
mutual
theorem zTr : ∀ (c : Ir), ups (irE c) = irE c
 | .mk op n ks => by simp only [irE, irc, ups, up, aP ks]; rfl
theorem aP : ∀ (l : List Ir), ups (yP l) = yP l
 | [] => rfl
 | c :: l => by
  have : ∀ a b : List TU, ups (a ++ b) = ups a ++ ups b := by
   intro a; induction a with
   | nil => intro b; rfl
   | cons x a ih => intro b; simp only [List.cons_append, ups, ih]
  simp only [yP, this, zTr c, aP l]
end
theorem zA8 : ∀ a b : List TU, ups (a ++ b) = ups a ++ ups b
 | [], b => rfl
 | x :: a, b => by simp only [List.cons_append, ups, zA8 a b]
theorem j1 : ∀ (l : List Blk), ups (blE l) = blE l
 | [] => rfl
 | b :: l => by
  simp only [blE, zA8, j1 l]
  simp only [ups, up, zTr]
theorem aO (c : Ir) : (irE c).length = 3 := by cases c; rfl
theorem qO : ∀ (l : List Ir), (yP l).length = l.length * 3
 | [] => rfl
 | c :: l => by simp only [yP, List.length_append, aO, qO l, List.length_cons]; omega
theorem q5 (l : List Ir) : ((yP l).drop 0).take (l.length * 3) = yP l := by rw [List.drop_zero, ← qO, List.take_length]
theorem kT : ∀ (l m : List Ir), yP (l ++ m) = yP l ++ yP m
 | [], m => rfl
 | c :: l, m => by simp only [List.cons_append, yP, kT l m, List.append_assoc]
theorem kM : ∀ (l : List Blk), (blE l).length = l.length * 4
 | [] => rfl
 | b :: l => by simp only [blE, List.length_append, List.length_cons, aO, kM l]; omega
theorem gP (l : List Blk) : ((blE l).drop 0).take (l.length * 4) = blE l := by rw [List.drop_zero, ← kM, List.take_length]
theorem mC : ∀ (l m : List Blk), blE (l ++ m) = blE l ++ blE m
 | [], m => rfl
 | c :: l, m => by simp only [List.cons_append, blE, mC l m, List.append_assoc]
theorem zAl {c : Ir} {us : List TU} (h : RdI c us) : us.length = 3 := by
 cases c
 simp only [RdI] at h
 obtain ⟨g, cs, rfl, _⟩ := h
 rfl
theorem fP {l : List Ir} {cs : List TU} {i : Nat} {op n : Int} {ks : List Ir} (h : kY l cs) (hi : l[i]? = some (.mk op n ks)) :
  ∃ g cs', (cs.drop (i * 3)).take 3 = irc op n (g + 1) ks.length cs' ∧ kY ks cs' := by
 induction l generalizing cs i with
 | nil => simp at hi
 | cons x l ih =>
  simp only [kY] at h
  obtain ⟨us, vs, rfl, h1, h2⟩ := h
  cases i with
  | zero =>
   simp only [List.getElem?_cons_zero, Option.some.injEq] at hi
   subst hi
   have hl := zAl h1
   simp only [RdI] at h1
   obtain ⟨g, cs', rfl, h3⟩ := h1
   exact ⟨g, cs', rfl, h3⟩
  | succ i =>
   simp only [List.getElem?_cons_succ] at hi
   have e : (i + 1) * 3 = us.length + i * 3 := by rw [zAl h1]; omega
   rw [e, List.drop_length_add_append]
   exact ih h2 hi
theorem zAk {l : List Blk} {cs : List TU} {i : Nat} {f op n : Int} {ks : List Ir} (h : RdB l cs) (hi : l[i]? = some (f, .mk op n ks)) :
  ∃ g cs', (cs.drop (i * 4)).take 4 = blc f op n (g + 1) ks.length cs' ∧ kY ks cs' := by
 induction l generalizing cs i with
 | nil => simp at hi
 | cons x l ih =>
  simp only [RdB] at h
  obtain ⟨us, vs, rfl, h1, h2⟩ := h
  cases i with
  | zero =>
   simp only [List.getElem?_cons_zero, Option.some.injEq] at hi
   subst hi
   simp only [RdI] at h1
   obtain ⟨g, cs', rfl, h3⟩ := h1
   exact ⟨g, cs', rfl, h3⟩
  | succ i =>
   simp only [List.getElem?_cons_succ] at hi
   have e : (i + 1) * 4 = ((T.int .i64 x.1 : TU) :: us).length + i * 4 := by simp only [List.length_cons, zAl h1]; omega
   rw [e, List.drop_length_add_append]
   exact ih h2 hi
theorem inI (ks : List Ir) : 0 + ks.length * 3 ≤ (yP ks).length := by rw [qO]; omega
theorem rJ (l : List Blk) : 0 + l.length * 4 ≤ (blE l).length := by rw [kM]; omega
theorem aB {a b : List TU} (h : yT a = some b) : y8 (a.map .t) = some (b.map .t) := by
 induction a generalizing b with
 | nil => simp only [yT, Option.some.injEq] at h; subst h; rfl
 | cons x a ih =>
  simp only [yT, Option.bind_eq_some_iff, Option.map_eq_some_iff] at h
  obtain ⟨y, h1, z, h2, rfl⟩ := h
  simp only [List.map_cons, y8, qC, h1, Option.map_some, ih h2, Option.bind_some]
theorem zP4 {g : Nat} {xs : List XU} {c : Ir} (h : RT g xs [] = some (xc (irE c), [])) : Ret RT g xs (xc (irE c)) := ⟨_, h, by simp only [j7, aB (lB c), Option.map_some]⟩
def lA (op : Int) : Int :=
 if op == 1 || op == 2 || op == 3 || op == 4 || op == 19 then 0 else if op == 15 || op == 16 then 1 else if op == 8 || op == 17 || op == 18 then 3 else if op == 5 || op == 14 then -1 else 2
def nN (bs : List Blk) (i : Nat) : Int := (bs.getD i (0, zIr)).1
def x4 (bs : List Blk) (w : Nat) (deep : Nat) (op n : Int) (k : Nat) : Bool :=
 if op == 1 || op == 18 then bB n else if op == 2 then decide (0 ≤ n) && decide (n ≤ (deep : Int) - 1) else if op == 3 then decide (0 ≤ n) && decide (n ≤ nN bs w - 1)
 else if op == 4 then n == 0 && decide (0 < w) else if op == 5 then decide (1 ≤ n) && decide (n ≤ (bs.length : Int) - 1) && (k : Int) == nN bs n.toNat
 else if op == 14 || op == 16 || op == 17 then decide (0 ≤ n) && decide (n ≤ 1073741823) else n == 0
def u6 (op : Int) (k : Nat) : Bool := decide (1 ≤ op) && decide (op ≤ 19) && (decide (lA op < 0) || (k : Int) == lA op)
mutual
def nV (bs : List Blk) (w : Nat) : Nat → Ir → Bool
 | deep, .mk op n ks => u6 op ks.length && x4 bs w deep op n ks.length && gD bs w op deep 0 ks
def gD (bs : List Blk) (w : Nat) (op : Int) (deep : Nat) : Nat → List Ir → Bool
 | _, [] => true
 | i, c :: l => nV bs w (deep + if op == 7 && (i : Int) == 1 then 1 else 0) c && gD bs w op deep (i + 1) l
end
def okB1 (bs : List Blk) (i : Nat) (b : Blk) : Bool := decide (0 ≤ b.1) && decide (q7 b.2 ≤ 4000) && nV bs i 1 b.2
def zAj (bs : List Blk) : Nat → List Blk → Bool
 | _, [] => true
 | i, b :: l => okB1 bs i b && zAj bs (i + 1) l
def okB (bs : List Blk) : Bool := decide (1 ≤ bs.length) && decide (bs.length ≤ 60) && nN bs 0 == 0 && zAj bs 0 bs
end Go.Proofs.Ytlkjnlfddadlmaa.V
namespace Go.Proofs.Ytlkjnlfddadlmaa.V
set_option maxRecDepth 100000
def plE : List Pl → List TU
 | [] => []
 | p :: l => .str p.1 :: .int .i64 p.2.1 :: .int .i64 p.2.2 :: plE l
def ks0 (l : List Nm) : List Pl := l.map fun s => (s, 0, 0)
theorem x6 : ∀ l, zI (plE l) = plE l
 | [] => rfl
 | s :: l => by simp only [plE, zI, retag, x6 l]
theorem a0 : ∀ l, yT (plE l) = some (plE l)
 | [] => rfl
 | s :: l => by simp only [plE, yT, down, a0 l, Option.bind_some, Option.map_some]
theorem jX : ∀ l, ups (plE l) = plE l
 | [] => rfl
 | s :: l => by simp only [plE, ups, up, jX l]
theorem gE : ∀ l, (plE l).length = l.length * 3
 | [] => rfl
 | s :: l => by simp only [plE, List.length_cons, gE l]; omega
theorem mL : ∀ l m, plE (l ++ m) = plE l ++ plE m
 | [], m => rfl
 | s :: l, m => by simp only [List.cons_append, plE, mL l m]
theorem j4 (l : List Pl) : ((plE l).drop 0).take (l.length * 3) = plE l := by rw [List.drop_zero, List.take_of_length_le (by rw [gE]; omega)]
theorem s5 : ∀ {l : List Pl} {i : Nat} {p : Pl}, l[i]? = some p → ∃ r, (plE l).drop (i * 3) = .str p.1 :: .int .i64 p.2.1 :: .int .i64 p.2.2 :: r
 | [], i, s, h => by simp at h
 | x :: l, 0, s, h => by
  simp only [List.getElem?_cons_zero, Option.some.injEq] at h
  subst h; exact ⟨_, rfl⟩
 | x :: l, i + 1, s, h => by
  simp only [List.getElem?_cons_succ] at h
  have := s5 h
  rw [show (i + 1) * 3 = i * 3 + 3 by omega]; exact this
theorem inP (l : List Pl) : 0 + l.length * 3 ≤ (plE l).length := by rw [gE]; omega
theorem zIf {k : Nat} (h : k ≤ 8388608) : IntKind.wrap .i64 (((k + 1 : Nat) : Int) - 1) = (k : Int) := by rw [wrap64 (by omega) (by omega)]; omega
theorem zQl : IntKind.wrap .i64 (((0 : Nat) : Int) - 1) = -1 := by rw [wrap64 (by omega) (by omega)]; rfl
def aT (l : List Pl) (s : Nm) : Nat → Int
 | 0 => -1
 | k + 1 => match l[k]? with
  | some p => if p.1 == s then k else aT l s k
  | none => aT l s k
theorem sV {l : List Pl} {k : Nat} {p : Pl} {s : Nm} (h : l[k]? = some p) : jG (l.take (k + 1)) s = if p.1 == s then some p.2 else jG (l.take k) s := by
 rw [List.take_add_one, h, Option.toList, lF, oQ]
 split
 ·rfl
 ·rfl
theorem zJ2 {l : List Pl} {s : Nm} : ∀ k, k ≤ l.length → (aT l s k = -1 ∧ jG (l.take k) s = none) ∨ ∃ i : Nat, aT l s k = i ∧ i < k ∧ ∃ p, l[i]? = some p ∧ jG (l.take k) s = some p.2
 | 0, _ => .inl ⟨rfl, rfl⟩
 | k + 1, h => by
  have hi : l[k]? = some l[k] := List.getElem?_eq_getElem (by omega)
  generalize l[k] = p at hi
  rw [sV hi]
  simp only [aT, hi]
  split
  ·exact .inr ⟨k, rfl, by omega, p, hi, rfl⟩
  ·rcases zJ2 (l := l) (s := s) k (by omega) with ⟨a, b⟩ | ⟨i, a, b, c⟩
   ·exact .inl ⟨a, b⟩
   ·exact .inr ⟨i, a, by omega, c⟩
theorem lixl {l : List Pl} {s : Nm} {g : Nat} {K : Ex → StA → Prop} (hk : l.length ≤ 8388608) : ∀ (k : Nat), k ≤ l.length →
  (∀ jk j, aT l s k = -1 → K (.exit 0) ⟨[(5, xi j), (0, xl (g + 1) 3 l.length (plE l)), (1, xs s), (4, xi 0)], jk, []⟩) →
  (∀ jk j, K .ret ⟨[(5, xi j), (0, xl (g + 1) 3 l.length (plE l)), (1, xs s), (4, xi (aT l s k))], jk, []⟩) →
  ∀ jk, sem cx0 126 RT (.loop (lp Try.f126 0)) ⟨[(5, xi (IntKind.wrap .i64 ((k : Int) - 1))), (0, xl (g + 1) 3 l.length (plE l)), (1, xs s), (4, xi 0)], jk, []⟩ K := by
 intro k
 induction k with
 | zero =>
  intro _ k1 k2 jk
  rw [zQl]
  refine zK cx0 _ RT [5, 0, 1, 4] ⟨fun h => by simp at h, fun h => ?_⟩
  exact fun jk => k1 jk _ rfl
 | succ k ih =>
  intro hkl k1 k2 jk
  have hi : l[k]? = some l[k] := List.getElem?_eq_getElem (by omega)
  generalize l[k] = p at hi
  obtain ⟨r, hr⟩ := s5 hi
  rw [zIf (by omega)]
  refine zK cx0 _ RT [5, 0, 1, 4] ⟨fun h => ?_, fun h => by simp at h⟩
  refine ⟨⟨by omega, by omega⟩, ?_⟩
  have hd : (plE l).drop ((k : Int).toNat * 3) = .str p.1 :: .int .i64 p.2.1 :: .int .i64 p.2.2 :: r := hr
  refine ⟨by show 0 ≤ _; omega, ?_⟩
  refine ⟨p.1, ⟨?_, rfl⟩, ?_⟩
  ·show (((plE l).drop ((k : Int).toNat * 3)).drop 0).take 1 = _
   rw [hd]; rfl
  refine ⟨fun h2 => ?_, fun h2 => ?_⟩
  ·have heq : p.1 = s := by simpa using h2
   have e : aT l s (k + 1) = k := by simp only [aT, hi]; simp [heq]
   rw [e] at k2
   exact fun jk => k2 jk _
  ·have hne : ¬ p.1 = s := by simpa using h2
   have e : aT l s (k + 1) = aT l s k := by simp only [aT, hi]; simp [hne]
   rw [e] at k1 k2
   exact fun jk => ih (by omega) k1 k2 jk
theorem zJ3 {l : List Pl} {s : Nm} {g : Nat} {cs : List TU} (hc : cs = plE l) (hk : l.length ≤ 8388608) : RT 126 [xl (g + 1) 3 l.length cs, xs s] [] = some (xi (aT l s l.length), []) := by
 subst hc
 refine xL (fn := Try.f126) rfl rfl rfl rfl ?_
 refine yE cx0 _ RT [5, 0, 1, 4] fun jk => ?_
 refine lixl (g := g) hk l.length (Nat.le_refl _) (fun jk j h => ?_) (fun jk j => ?_) jk
 ·exact ⟨by rw [h]; rfl, rfl⟩
 ·exact ⟨rfl, rfl⟩
theorem fndl {l : List Pl} {s : Nm} {g : Nat} {K : Ex → StA → Prop} (hk : l.length ≤ 8388608) : ∀ (k : Nat), k ≤ l.length →
  (∀ jk j, jG (l.take k) s = none → K (.exit 0) ⟨[(5, xi j), (0, xl (g + 1) 3 l.length (plE l)), (1, xs s), (4, .box () ((irc 0 0 0 0 []).map .t))], jk, []⟩) →
  (∀ jk j p, jG (l.take k) s = some p → K .ret ⟨[(5, xi j), (0, xl (g + 1) 3 l.length (plE l)), (1, xs s), (4, .box () ((irc p.1 p.2 0 0 []).map .t))], jk, []⟩) →
  ∀ jk, sem cx0 99 RT (.loop (lp Try.f99 0)) ⟨[(5, xi (IntKind.wrap .i64 ((k : Int) - 1))), (0, xl (g + 1) 3 l.length (plE l)), (1, xs s), (4, .box () ((irc 0 0 0 0 []).map .t))], jk, []⟩ K := by
 intro k
 induction k with
 | zero =>
  intro _ k1 k2 jk
  rw [zQl]
  refine zK cx0 _ RT [5, 0, 1, 4] ⟨fun h => by simp at h, fun h => ?_⟩
  exact fun jk => k1 jk _ rfl
 | succ k ih =>
  intro hkl k1 k2 jk
  have hi : l[k]? = some l[k] := List.getElem?_eq_getElem (by omega)
  generalize l[k] = p at hi
  obtain ⟨r, hr⟩ := s5 hi
  rw [zIf (by omega)]
  refine zK cx0 _ RT [5, 0, 1, 4] ⟨fun h => ?_, fun h => by simp at h⟩
  refine ⟨⟨by omega, by omega⟩, ?_⟩
  have hd : (plE l).drop ((k : Int).toNat * 3) = .str p.1 :: .int .i64 p.2.1 :: .int .i64 p.2.2 :: r := hr
  refine ⟨by show 0 ≤ _; omega, ?_⟩
  refine ⟨p.1, ⟨?_, rfl⟩, ?_⟩
  ·show (((plE l).drop ((k : Int).toNat * 3)).drop 0).take 1 = _
   rw [hd]; rfl
  refine ⟨fun h2 => ?_, fun h2 => ?_⟩
  ·have heq : p.1 = s := by simpa using h2
   have e : jG (l.take (k + 1)) s = some p.2 := by rw [sV hi, if_pos (by simpa using heq)]
   rw [e] at k2
   refine ⟨⟨by omega, by omega⟩, ?_⟩
   refine ⟨by show 1 ≤ ((plE l).drop ((k : Int).toNat * 3)).length; rw [hd]; simp, ?_⟩
   refine ⟨p.2.1, ⟨?_, rfl⟩, ?_⟩
   ·show (((plE l).drop ((k : Int).toNat * 3)).drop 1).take 1 = _
    rw [hd]; rfl
   refine ⟨⟨by omega, by omega⟩, ?_⟩
   refine ⟨by show 2 ≤ ((plE l).drop ((k : Int).toNat * 3)).length; rw [hd]; simp, ?_⟩
   refine ⟨p.2.2, ⟨?_, rfl⟩, ?_⟩
   ·show (((plE l).drop ((k : Int).toNat * 3)).drop 2).take 1 = _
    rw [hd]; rfl
   exact fun jk => k2 jk _ _ rfl
  ·have hne : ¬ p.1 = s := by simpa using h2
   have e : jG (l.take (k + 1)) s = jG (l.take k) s := by rw [sV hi, if_neg (by simpa using hne)]
   rw [e] at k1 k2
   exact fun jk => ih (by omega) k1 k2 jk
theorem zTb {l : List Pl} {s : Nm} {g : Nat} {cs : List TU} (hc : cs = plE l) (hk : l.length ≤ 8388608) : RT 99 [xl (g + 1) 3 l.length cs, xs s] [] = some (xc (irE (kC l s)), []) := by
 subst hc
 refine xL (fn := Try.f99) rfl rfl rfl rfl ?_
 refine yE cx0 _ RT [5, 0, 1, 4] fun jk => ?_
 refine fndl (g := g) hk l.length (Nat.le_refl _) (fun jk j h => ?_) (fun jk j p h => ?_) jk
 ·rw [List.take_length] at h
  have e : kC l s = zIr := by unfold kC; rw [h]; rfl
  rw [e]
  first
   | exact ⟨rfl, rfl⟩
   | (refine ⟨inI [], ?_⟩; exact ⟨rfl, rfl⟩)
 ·rw [List.take_length] at h
  have e : kC l s = .mk p.1 p.2 [] := by unfold kC; rw [h]; rfl
  rw [e]
  first
   | exact ⟨rfl, rfl⟩
   | (refine ⟨inI [], ?_⟩; exact ⟨rfl, rfl⟩)
end Go.Proofs.Ytlkjnlfddadlmaa.V
namespace Go.Proofs.Ytlkjnlfddadlmaa.V
set_option maxRecDepth 100000
abbrev zJ7 (n : Int) (p : Pl) : Int := if p.2.1 == 2 then max n (p.2.2 + 1) else n
theorem locl {l : List Pl} {g : Nat} {K : Ex → StA → Prop} (hk : l.length ≤ 8388608) (hb : ∀ p ∈ l, 0 ≤ p.2.2 ∧ p.2.2 ≤ 4194304) : ∀ (r : List Pl) (i : Nat), l.drop i = r → i ≤ l.length → ∀ v : Int,
  (∀ jk j, K (.exit 0) ⟨[(8, xi j), (7, xi l.length), (6, xl (g + 1) 3 l.length (plE l)), (3, xi (r.foldl zJ7 v))], jk, []⟩) →
  ∀ jk, sem cx0 101 RT (.loop (lp Try.f101 0)) ⟨[(8, xi i), (7, xi l.length), (6, xl (g + 1) 3 l.length (plE l)), (3, xi v)], jk, []⟩ K := by
 refine xE ?_ ?_
 ·intro v k1 jk
  refine zK cx0 _ RT [8, 7, 6, 3] ⟨fun h => (jZ h (by omega)).elim, fun h => ?_⟩
  exact fun jk => k1 jk _
 ·intro i p r hi hil ih v k1 jk
  obtain ⟨q, hq⟩ := s5 hi
  have hp := hb p (List.mem_of_getElem? hi)
  refine zK cx0 _ RT [8, 7, 6, 3] ⟨fun h => ?_, fun h => (qL h (by omega)).elim⟩
  refine ⟨⟨by omega, by omega⟩, ?_⟩
  have hd : (plE l).drop ((i : Int).toNat * 3) = .str p.1 :: .int .i64 p.2.1 :: .int .i64 p.2.2 :: q := hq
  refine ⟨p.1, p.2.1, p.2.2, ⟨by show ((plE l).drop ((i : Int).toNat * 3)).take 3 = _; rw [hd]; rfl, rfl⟩, ?_⟩
  refine ⟨fun h2 => ?_, fun h2 => ?_⟩
  ·have e : IntKind.wrap .i64 (p.2.2 + 1) = p.2.2 + 1 := wrap64 (by omega) (by omega)
   have ih := ih (max v (p.2.2 + 1)) (fun jk j => by
    have := k1 jk j
    rw [List.foldl_cons, zJ7, if_pos h2] at this
    exact this)
   intro jk
   rw [q8 hil (by simp only [maxLen]; omega), e]
   exact ih jk
  ·have ih := ih v (fun jk j => by
    have := k1 jk j
    rw [List.foldl_cons, zJ7, if_neg (by rw [h2]; decide)] at this
    exact this)
   intro jk
   rw [q8 hil (by simp only [maxLen]; omega)]
   exact ih jk
theorem loc_i {l : List Pl} {g : Nat} {cs : List TU} (hc : cs = plE l) (hk : l.length ≤ 8388608) (hb : ∀ p ∈ l, 0 ≤ p.2.2 ∧ p.2.2 ≤ 4194304) : RT 101 [xl (g + 1) 3 l.length cs] [] = some (xi (j6 l), []) := by
 subst hc
 refine xL (fn := Try.f101) rfl rfl rfl rfl ?_
 refine yE cx0 _ RT [8, 7, 6, 3] fun jk => ?_
 refine locl (g := g) hk hb l 0 rfl (by omega) 1 (fun jk j => ?_) jk
 exact ⟨rfl, rfl⟩
theorem ir_s {nm : Nm} {o n : Int} : RT 91 [.agg [.t (.str nm), .t (ii o), .t (ii n)]] [] = some (xc (irE (.mk o n [])), []) := by
 refine xL (fn := Try.f91) rfl rfl rfl rfl ?_
 refine ⟨inI [], ?_⟩
 exact ⟨rfl, rfl⟩
theorem zW1 {l : List Pl} {i : Nat} {p : Pl} (h : l[i]? = some p) : ((plE l).drop (0 + i * 3)).take 3 = [.str p.1, .int .i64 p.2.1, .int .i64 p.2.2] := by
 obtain ⟨r, hr⟩ := s5 h
 rw [Nat.zero_add, hr]; rfl
theorem zPw {l : List Pl} {i : Nat} {p : Pl} (h : l[i]? = some p) : ((plE l).drop (0 + i * 3 + 0)).take 1 = [.str p.1] := by
 obtain ⟨r, hr⟩ := s5 h
 rw [Nat.add_zero, Nat.zero_add, hr]; rfl
abbrev wC (bs : List Blk) (ok : Bool) : List CU := [.t (.sl () 0 4 bs.length (blE bs)), .t (.bool ok)]
abbrev vI (top : Bool) (up : CU) (env kept : List Pl) (slf : Nm) : List CU := [.t (.bool top), up, .t (.sl () 0 3 env.length (plE env)), .t (.sl () 0 3 kept.length (plE kept)), .t (.str slf)]
abbrev p0 : XU := .c (.ptr () (.ex 0) [] 0)
abbrev p1 : XU := .c (.ptr () (.ex 1) [] 0)
theorem zYv {x s : Nm} {r : List Nm} (h2 : x ≠ s) : (x :: r).idxOf s = r.idxOf s + 1 := by
 have : (x == s) = false := by simpa using h2
 rw [List.idxOf_cons, this]; rfl
theorem zAz (l : List Nm) : (ks0 l).length = l.length := by simp [ks0]
theorem zTy {l : List Nm} {i : Nat} {x : Nm} (h : l[i]? = some x) : (ks0 l)[i]? = some (x, 0, 0) := by simp [ks0, h]
theorem zJy (l : List Nm) (s : Nm) : ks0 (l ++ [s]) = ks0 l ++ [(s, 0, 0)] := by simp [ks0]
theorem n9 {l : List Pl} {p : Pl} : ((plE l).drop 0).take (l.length * 3) ++ [.str p.1, .int .i64 p.2.1, .int .i64 p.2.2] = plE (l ++ [p]) := by rw [j4, mL]; rfl
theorem getl {top : Bool} {slf s : Nm} {env : List Pl} {bs : List Blk} {ok : Bool} {u : CU} {kept : List Nm} {K : Ex → StA → Prop} (hu : u = .nilp ∨ u = .t (.dead ())) (hK : kept.length ≤ 1048576) :
  ∀ (r : List Nm) (i : Nat), kept.drop i = r → i ≤ kept.length →
  (∀ jk j, s ∉ r → K (.exit 0) ⟨[(8, xi j), (0, p0), (1, p1), (2, xs s), (6, .box () [.t (.str []), .t (ii 0), .t (ii 0)])], jk, [wC bs ok, vI top u env (ks0 kept) slf]⟩) →
  (∀ jk j (k : Nat), s ∈ r → k = i + r.idxOf s → K .ret ⟨[(8, xi j), (0, p0), (1, p1), (2, xs s), (6, .box () [.t (.str s), .t (ii 3), .t (ii k)])], jk, [wC bs ok, vI top u env (ks0 kept) slf]⟩) →
  ∀ jk, sem cx0 92 RT (.loop (lp Try.f92 0)) ⟨[(8, xi i), (0, p0), (1, p1), (2, xs s), (6, .box () [.t (.str []), .t (ii 0), .t (ii 0)])], jk, [wC bs ok, vI top u env (ks0 kept) slf]⟩ K := by
 have hkl := zAz kept
 rcases hu with rfl | rfl
 all_goals
  refine xE ?_ ?_
  ·intro k1 k2 jk
   refine zK cx0 _ RT [8, 0, 1, 2, 6] ⟨fun h => (jZ h (by omega)).elim, fun h => ?_⟩
   exact fun jk => k1 jk _ (by simp)
  ·intro i x r hi hil ih k1 k2 jk
   refine zK cx0 _ RT [8, 0, 1, 2, 6] ⟨fun h => ?_, fun h => (qL h (by omega)).elim⟩
   refine ⟨⟨by omega, by omega⟩, ?_⟩
   refine ⟨x, ⟨zPw (zTy hi), rfl⟩, ?_⟩
   refine ⟨fun h2 => ?_, fun h2 => ?_⟩
   ·have h2 : x = s := by simpa using h2
    subst h2
    exact fun jk => k2 jk _ i (by simp) (by simp)
   ·have h2 : x ≠ s := by simpa using h2
    intro jk
    rw [q8 hil (by simp only [maxLen]; omega)]
    refine ih (fun jk j hn => k1 jk j (by simp [hn, Ne.symm h2])) (fun jk j k hm hk => k2 jk j k (by simp [hm]) ?_) jk
    rw [hk, zYv h2]; omega
theorem zXx {top : Bool} {slf s : Nm} {env : Loc} {bs : List Blk} {ok : Bool} {u : CU} {kept : List Nm} (hu : u = .nilp ∨ u = .t (.dead ())) (hE : env.length ≤ 1048576) (hK : kept.length ≤ 1048576) :
  ∃ nm o n, (gU top slf env s ⟨bs, ok, kept⟩).1 = .mk o n [] ∧ RT 92 [p0, p1, xs s] [wC bs ok, vI top u (lc env) (ks0 kept) slf] =
   some (.agg [.t (.str nm), .t (ii o), .t (ii n)], [wC (gU top slf env s ⟨bs, ok, kept⟩).2.bs (gU top slf env s ⟨bs, ok, kept⟩).2.ok, vI top u (lc env) (ks0 (gU top slf env s ⟨bs, ok, kept⟩).2.kept) slf]) := by
 have hl := zJ2 (l := lc env) (s := s) (lc env).length (Nat.le_refl _)
 rw [List.take_length, zJz] at hl
 have hle : (lc env).length = env.length := by simp [lc]
 cases h : jG env s with
 | some n =>
  rw [h] at hl
  rcases hl with ⟨_, h2⟩ | ⟨i, h1, h2, p, h3, h4⟩
  ·simp at h2
  obtain ⟨r, hr⟩ := s5 h3
  have e : gU top slf env s ⟨bs, ok, kept⟩ = (.mk 2 n [], ⟨bs, ok, kept⟩) := by unfold gU; rw [h]
  rw [e]
  refine ⟨p.1, 2, n, rfl, ?_⟩
  rcases hu with rfl | rfl
  all_goals
   refine x8 (fn := Try.f92) rfl rfl rfl rfl ?_
   refine ⟨inP (lc env), ?_⟩
   refine ⟨_, gF (zJ3 (g := 0) (by rw [j4, x6]) (by omega)), ?_⟩
   rw [h1]
   refine ⟨fun hh => ?_, fun hh => by simp at hh⟩
   refine ⟨⟨by omega, by omega⟩, ?_⟩
   refine ⟨p.1, p.2.1, p.2.2, ⟨zW1 h3, rfl⟩, ?_⟩
   have h5 : ((2 : Int), (n : Int)) = p.2 := Option.some.inj h4
   rw [← h5]
   exact ⟨rfl, rfl⟩
 | none =>
  rw [h] at hl
  have h1 : aT (lc env) s (lc env).length = -1 := by
   rcases hl with ⟨h1, _⟩ | ⟨i, h1, h2, p, h3, h4⟩
   ·exact h1
   ·simp at h4
  have e : gU top slf env s ⟨bs, ok, kept⟩ = if slf == s && !(s == []) then (.mk 4 0 [], ⟨bs, ok, kept⟩)
   else if kept.contains s then (.mk 3 (kept.idxOf s) [], ⟨bs, ok, kept⟩)
   else if top then (.mk 1 0 [], ⟨bs, false, kept⟩)
   else (.mk 3 kept.length [], ⟨bs, ok, kept ++ [s]⟩) := by unfold gU; rw [h]
  rw [e]
  have hkl := zAz kept
  have fin : ¬ (slf == s && !(s == [])) = true → ∀ jk (K : Ex → StA → Prop),
    (∀ jk j, ¬ kept.contains s = true → K (.exit 0) ⟨[(8, xi j), (0, p0), (1, p1), (2, xs s), (6, .box () [.t (.str []), .t (ii 0), .t (ii 0)])], jk, [wC bs ok, vI top u (lc env) (ks0 kept) slf]⟩) →
    (∀ jk j, kept.contains s = true → K .ret ⟨[(8, xi j), (0, p0), (1, p1), (2, xs s), (6, .box () [.t (.str s), .t (ii 3), .t (ii (kept.idxOf s))])], jk, [wC bs ok, vI top u (lc env) (ks0 kept) slf]⟩) →
    sem cx0 92 RT (.loop (lp Try.f92 0)) ⟨[(8, xi (0 : Nat)), (0, p0), (1, p1), (2, xs s), (6, .box () [.t (.str []), .t (ii 0), .t (ii 0)])], jk, [wC bs ok, vI top u (lc env) (ks0 kept) slf]⟩ K := by
   intro _ jk K k1 k2
   refine getl hu hK kept 0 rfl (by omega) (fun jk j hn => k1 jk j (by simpa using hn)) (fun jk j k hm hk => ?_) jk
   rw [hk, Nat.zero_add]
   exact k2 jk j (by simpa using hm)
  by_cases hs : (slf == s && !(s == [])) = true
  ·rw [if_pos hs]
   refine ⟨s, 4, 0, rfl, ?_⟩
   simp only [Bool.and_eq_true] at hs
   rcases hu with rfl | rfl
   all_goals
    refine x8 (fn := Try.f92) rfl rfl rfl rfl ?_
    refine ⟨inP (lc env), ?_⟩
    refine ⟨_, gF (zJ3 (g := 0) (by rw [j4, x6]) (by omega)), ?_⟩
    rw [h1]
    refine ⟨fun hh => by simp at hh, fun hh => ?_⟩
    refine ⟨fun h6 => ?_, fun h6 => by rw [hs.1] at h6; cases h6⟩
    refine ⟨fun h7 => ?_, fun h7 => absurd (hs.2.symm.trans h7) (by decide)⟩
    exact ⟨rfl, rfl⟩
  ·rw [if_neg hs]
   have fin := fin hs
   cases hc : kept.contains s with
   | true =>
    rw [if_pos rfl]
    refine ⟨s, 3, kept.idxOf s, rfl, ?_⟩
    rcases hu with rfl | rfl
    all_goals
     refine x8 (fn := Try.f92) rfl rfl rfl rfl ?_
     refine ⟨inP (lc env), ?_⟩
     refine ⟨_, gF (zJ3 (g := 0) (by rw [j4, x6]) (by omega)), ?_⟩
     rw [h1]
     refine ⟨fun hh => by simp at hh, fun hh => ?_⟩
     refine ⟨fun h6 => ⟨fun h7 => (hs (by simp_all)).elim, fun h7 => ?_⟩, fun h6 => ?_⟩
     ·refine yE cx0 _ RT [8, 0, 1, 2, 6] fun jk => ?_
      refine fin jk _ (fun jk j hn => (hn hc).elim) (fun jk j _ => ?_)
      exact ⟨rfl, rfl⟩
     ·refine yE cx0 _ RT [8, 0, 1, 2, 6] fun jk => ?_
      refine fin jk _ (fun jk j hn => (hn hc).elim) (fun jk j _ => ?_)
      exact ⟨rfl, rfl⟩
   | false =>
    rw [if_neg (by decide)]
    cases top with
    | true =>
     rw [if_pos rfl]
     refine ⟨[], 1, 0, rfl, ?_⟩
     rcases hu with rfl | rfl
     all_goals
      refine x8 (fn := Try.f92) rfl rfl rfl rfl ?_
      refine ⟨inP (lc env), ?_⟩
      refine ⟨_, gF (zJ3 (g := 0) (by rw [j4, x6]) (by omega)), ?_⟩
      rw [h1]
      refine ⟨fun hh => by simp at hh, fun hh => ?_⟩
      refine ⟨fun h6 => ⟨fun h7 => (hs (by simp_all)).elim, fun h7 => ?_⟩, fun h6 => ?_⟩
      ·refine yE cx0 _ RT [8, 0, 1, 2, 6] fun jk => ?_
       refine fin jk _ (fun jk j _ => ?_) (fun jk j hy => by rw [hc] at hy; cases hy)
       refine ⟨fun _ => ?_, (fun h => by cases h)⟩
       exact ⟨rfl, rfl⟩
      ·refine yE cx0 _ RT [8, 0, 1, 2, 6] fun jk => ?_
       refine fin jk _ (fun jk j _ => ?_) (fun jk j hy => by rw [hc] at hy; cases hy)
       refine ⟨fun _ => ?_, (fun h => by cases h)⟩
       exact ⟨rfl, rfl⟩
    | false =>
     rw [if_neg (by decide)]
     refine ⟨s, 3, kept.length, rfl, ?_⟩
     rcases hu with rfl | rfl
     all_goals
      refine x8 (fn := Try.f92) rfl rfl rfl rfl ?_
      refine ⟨inP (lc env), ?_⟩
      refine ⟨_, gF (zJ3 (g := 0) (by rw [j4, x6]) (by omega)), ?_⟩
      rw [h1]
      refine ⟨fun hh => by simp at hh, fun hh => ?_⟩
      refine ⟨fun h6 => ⟨fun h7 => (hs (by simp_all)).elim, fun h7 => ?_⟩, fun h6 => ?_⟩
      ·refine yE cx0 _ RT [8, 0, 1, 2, 6] fun jk => ?_
       refine fin jk _ (fun jk j _ => ?_) (fun jk j hy => by rw [hc] at hy; cases hy)
       refine ⟨(fun h => by cases h), fun _ => ?_⟩
       refine ⟨inP (ks0 kept), ?_⟩
       refine ⟨⟨by simp only [maxLen]; omega, by show (_ + 1) * 32 ≤ _; omega⟩, ?_⟩
       refine ⟨?_, ?_⟩
       ·rw [hkl, zIf (by omega)]; rfl
       ·show [wC bs ok, vI false _ (lc env) (ks0 (kept ++ [s])) slf] = _
        rw [zJy]
        unfold vI
        rw [← n9, List.length_append]
        rfl
      ·refine yE cx0 _ RT [8, 0, 1, 2, 6] fun jk => ?_
       refine fin jk _ (fun jk j _ => ?_) (fun jk j hy => by rw [hc] at hy; cases hy)
       refine ⟨(fun h => by cases h), fun _ => ?_⟩
       refine ⟨inP (ks0 kept), ?_⟩
       refine ⟨⟨by simp only [maxLen]; omega, by show (_ + 1) * 32 ≤ _; omega⟩, ?_⟩
       refine ⟨?_, ?_⟩
       ·rw [hkl, zIf (by omega)]; rfl
       ·show [wC bs ok, vI false _ (lc env) (ks0 (kept ++ [s])) slf] = _
        rw [zJy]
        unfold vI
        rw [← n9, List.length_append]
        rfl
end Go.Proofs.Ytlkjnlfddadlmaa.V
namespace Go.Proofs.Ytlkjnlfddadlmaa.V
set_option maxRecDepth 100000
end Go.Proofs.Ytlkjnlfddadlmaa.V
