/-
  What is told of a program, checked. No conditions.
-/
import Derived.Test.YtlkjnlfddadlmaaGreatDoorM4T
import Derived.ChangeOld
import Derived.ChangeArms
import Derived.WideShapes
set_option linter.unusedVariables false
set_option linter.unusedSimpArgs false
namespace Go.Proofs.YtlkjnlfddadlmaaGreatDoor.V
def zFj (Pr : Program) (cx : Ctx) (g : Nat) : Bool :=
 match Pr.funcs[g]? with
 | none => true
 | some fn => (fn.name != "runtime.NumGoroutine") && (match fn.body with
  | some c => wW cx g fn.ntmps c
  | none => true)
def tysCk (Pr : Program) (cx : Ctx) (n : Nat) : Bool := (List.range n).all fun t => !(cx.ty t).ok || tyCk Pr cx.ty t
theorem zQ3 {Pr : Program} {cx : Ctx} {T : World → Prop} (hmix : Pr.follows .mixedOrders = true) (n : Nat) (hty : tysCk Pr cx n = true) (hhi : ∀ t, n ≤ t → (cx.ty t).ok = false) (gl : List Nat) (hg : ∀ g, cx.good g = gl.contains g) (hgood : gl.all (zFj Pr cx) = true)
  (horc : ∀ g h args x, cx.orc g = some h → h args = some x → bF Pr g ∧
   ∀ (w : World) (E : Nat → Prop) (P : Nat → Nat → Prop) (R : Nat → Prop) (ea : List EA) (argsG : List XV), TabOk T w E → argsG.map erX = args → In w E P R ea argsG [] →
    Calls Pr g (argsG.map zQ).toArray w (fun
     | .returned v, w' => ∃ resG, erX resG = x ∧ v = zQ resG ∧ Out w E P R ea w' resG []
     | _, _ => False)) (s8 : eN Pr cx) : CtxOk Pr cx T := by
 have hT : jB Pr cx.ty := by
  intro t ht
  rcases Nat.lt_or_ge t n with h | h
  ·have := List.all_eq_true.1 hty t (List.mem_range.2 h)
   simpa [ht] using this
  ·rw [hhi t h] at ht; cases ht
 have hG : ∀ g, cx.good g = true → zFj Pr cx g = true := by
  intro g h
  rw [hg, List.contains_iff_mem] at h
  exact List.all_eq_true.1 hgood g h
 constructor
 ·exact hmix
 ·exact hT
 ·intro g fn h hf
  have := hG g h
  simp only [zFj, hf, Bool.and_eq_true, bne_iff_ne, ne_eq] at this
  simpa using this.1
 ·intro g fn c h hf hb
  have := hG g h
  simp only [zFj, hf, hb, Bool.and_eq_true] at this
  exact this.2
 ·exact horc
 ·intro call w0 E0 hcall g n P R ea; exact zTc hT s8 hcall
end Go.Proofs.YtlkjnlfddadlmaaGreatDoor.V
namespace Go.Proofs.YtlkjnlfddadlmaaGreatDoor.V
open Go.RowKit
def bM (P : Program) (G : List Nat) : List Field → Nat → Nat → Bool
 | [], o, n => o == n
 | f :: fs, o, n => f.offset == o && G.contains f.type && bM P G fs (o + P.cellsOf f.type) n
def zF3 (P : Program) (G : List Nat) (t : Nat) : Bool :=
 match P.underlying t with
 | some .bool | some (.int _) | some .string => true
 | some (.slice e) => G.contains e && decide (0 < P.cellsOf e)
 | some (.struct fs) => bM P G fs.toList 0 (P.cellsOf t)
 | _ => false
def plainTys (P : Program) (G : List Nat) : Bool := G.all (zF3 P G)
def ShF (sh : Nat → List TU → Prop) : List Field → List TU → Prop
 | [], us => us = []
 | f :: fs, us => ∃ vs ws, us = vs ++ ws ∧ sh f.type vs ∧ ShF sh fs ws
def Sh (P : Program) : Nat → Nat → List TU → Prop
 | 0, _, _ => False
 | k + 1, t, us => match P.underlying t with
  | some .bool => ∃ b, us = [.bool b]
  | some (.int q) => ∃ n, us = [.int q n] ∧ (Lit.int q n).wf = true
  | some .string => ∃ s, us = [.str s] ∧ s.length ≤ maxLen
  | some (.slice e) => ∃ cs : List (List TU), us = [.sl () 1 (P.cellsOf e) cs.length cs.flatten] ∧ cs.length ≤ maxLen ∧ (∀ c ∈ cs, c.length = P.cellsOf e) ∧ ∀ c ∈ cs, Sh P k e c
  | some (.struct fs) => ShF (Sh P k) fs.toList us
  | _ => False
theorem zH9 {α β : Type} {f : α → Option β} : ∀ {l : List α} {ys : List β}, l.mapM f = some ys → ys.length = l.length ∧ ∀ (i : Nat) (x : α), l[i]? = some x → ∃ y, f x = some y ∧ ys[i]? = some y
 | [], ys, h => by
  have : ys = [] := by simpa using h.symm
  subst this; simp
 | x :: l, ys, h => by
  simp only [List.mapM_cons] at h
  cases hx : f x with
  | none => rw [hx] at h; cases h
  | some y =>
   rw [hx] at h
   cases hl : l.mapM f with
   | none => rw [hl] at h; cases h
   | some zs =>
    rw [hl] at h
    have : ys = y :: zs := by simpa using h.symm
    subst this
    obtain ⟨h1, h2⟩ := zH9 hl
    refine ⟨by simp [h1], fun i x' hi => ?_⟩
    cases i with
    | zero => simp only [List.getElem?_cons_zero, Option.some.injEq] at hi; subst hi; exact ⟨y, hx, rfl⟩
    | succ i => simp only [List.getElem?_cons_succ] at hi ⊢; exact h2 i x' hi
theorem zHu {α : Type} {sz : Nat} : ∀ {cs : List (List α)}, (∀ c ∈ cs, c.length = sz) → cs.flatten.length = cs.length * sz
 | [], _ => by simp
 | c :: cs, h => by
  have ih := zHu (cs := cs) (fun c hc => h c (List.mem_cons_of_mem _ hc))
  simp only [List.flatten_cons, List.length_append, ih, h c (List.mem_cons_self), List.length_cons, Nat.add_mul, Nat.one_mul]
  omega
theorem zHt {α : Type} {sz : Nat} : ∀ {cs : List (List α)} {i : Nat} {c : List α}, (∀ c ∈ cs, c.length = sz) → cs[i]? = some c → (cs.flatten.drop (i * sz)).take sz = c
 | [], i, c, _, hi => by simp at hi
 | c0 :: cs, 0, c, h, hi => by
  simp only [List.getElem?_cons_zero, Option.some.injEq] at hi
  subst hi
  have := h c0 (List.mem_cons_self)
  simp [← this]
 | c0 :: cs, i + 1, c, h, hi => by
  simp only [List.getElem?_cons_succ] at hi
  have h0 := h c0 (List.mem_cons_self)
  have ih := zHt (cs := cs) (fun c hc => h c (List.mem_cons_of_mem _ hc)) hi
  rw [List.flatten_cons, List.drop_append, List.drop_eq_nil_of_le (by rw [h0, Nat.add_mul]; omega), List.nil_append, h0, show (i + 1) * sz - sz = i * sz by rw [Nat.add_mul]; omega]
  exact ih
section
variable {H : Type} {enc : TypeId × Value → H} {Pr : Program} {w : World} {spare : Nat → Bool} {held : Bool} {P : Nat → Nat → Prop} {G : List Nat}
theorem zKh {a : Addr} {n : Nat} {vs : List Value} (h : w.cells? 0 a n = some vs) : vs.length = n ∧ ∀ j v, vs[j]? = some v → w.cell? (a.add j) = some v := by
 unfold World.cells? at h
 rw [if_pos (Nat.zero_le _)] at h
 obtain ⟨h1, h2⟩ := zH9 h
 rw [List.length_range] at h1
 refine ⟨h1, fun j v hj => ?_⟩
 have hlt := (List.getElem?_eq_some_iff.1 hj).1
 obtain ⟨y, hy1, hy2⟩ := h2 j j (by rw [List.getElem?_range (by omega)])
 rw [hj] at hy2
 simp only [Option.some.injEq] at hy2
 subst hy2; exact hy1
theorem zO3 {a : Addr} {v : Value} (h : w.cell? a = some v) : a.spot = none ∧ a.block < w.heap.size := by
 unfold World.cell? at h
 split at h
 ·rename_i cs e fr hb
  split at h
  ·cases h
  ·rename_i hs
   exact ⟨by simpa using hs, (Array.getElem?_eq_some_iff.1 hb).1⟩
 ·cases h
def Tree (Pr : Program) (w : World) (P : Nat → Nat → Prop) (k t : Nat) (cs : List Value) : Prop :=
 ∃ us : List TV, us.map zV = cs ∧ xP w P (· < w.heap.size) us ∧ qZ 1 us ∧ Sh Pr k t (us.map erT)
theorem oN {k : Nat} {cs : List Value} : ∀ {fs : List Field} {o n : Nat}, bM Pr G fs o n = true → n ≤ cs.length → (∀ f ∈ fs, Tree Pr w P k f.type ((cs.drop f.offset).take (Pr.cellsOf f.type))) →
  ∃ us : List TV, us.map zV = (cs.drop o).take (n - o) ∧ o ≤ n ∧ xP w P (· < w.heap.size) us ∧ qZ 1 us ∧ ShF (Sh Pr k) fs (us.map erT)
 | [], o, n, h, hn, _ => by
  simp only [bM, beq_iff_eq] at h
  subst h
  exact ⟨[], by simp, Nat.le_refl _, by simp [xP], by simp [qZ], by simp [ShF]⟩
 | f :: fs, o, n, h, hn, hf => by
  simp only [bM, Bool.and_eq_true, beq_iff_eq] at h
  obtain ⟨⟨h1, h2⟩, h3⟩ := h
  obtain ⟨vs, a1, a2, a3, a4⟩ := hf f (List.mem_cons_self)
  obtain ⟨us, b1, b2, b3, b4, b5⟩ := oN h3 hn (fun g hg => hf g (List.mem_cons_of_mem _ hg))
  refine ⟨vs ++ us, ?_, by omega, yJ.2 fun x hx => ?_, xU.2 fun x hx => ?_, ?_⟩
  ·rw [List.map_append, a1, b1, h1]
   have e : n - o = Pr.cellsOf f.type + (n - (o + Pr.cellsOf f.type)) := by omega
   rw [e, List.take_add, List.drop_drop]
  ·rcases List.mem_append.1 hx with hx | hx
   ·exact yJ.1 a2 x hx
   ·exact yJ.1 b3 x hx
  ·rcases List.mem_append.1 hx with hx | hx
   ·exact xU.1 a3 x hx
   ·exact xU.1 b4 x hx
  ·simp only [ShF]
   exact ⟨_, _, List.map_append, a4, b5⟩
theorem zQb (hG : plainTys Pr G = true) (hP : ∀ b, b < w.heap.size → P 1 b) : ∀ (fuel t : Nat) (cs : List Value) (x : DataW H × List MemPlace), t ∈ G → DataW.trod enc Pr w 0 spare held fuel t cs = some x → Tree Pr w P fuel t cs := by
 intro fuel
 induction fuel with
 | zero => intro t cs x _ h; simp [DataW.trod] at h
 | succ k ih =>
  intro t cs x ht h
  have hpt := List.all_eq_true.1 hG t ht
  unfold zF3 at hpt
  cases hu : Pr.underlying t with
  | none => rw [hu] at hpt; cases hpt
  | some d =>
   rw [hu] at hpt
   cases d with
   | bool =>
    obtain ⟨b, rfl, _⟩ := DataW.trod_bool hu h
    exact ⟨[.bool b], by simp [zV], by simp [xP, okT], by simp [qZ, shT], by simp only [Sh, hu]; exact ⟨b, rfl⟩⟩
   | int q =>
    obtain ⟨n, rfl, _, hwf⟩ := DataW.trod_int hu h
    exact ⟨[.int q n], by simp [zV], by simp [xP, okT], by simp [qZ, shT], by simp only [Sh, hu]; exact ⟨n, rfl, hwf⟩⟩
   | string =>
    obtain ⟨s, rfl, _, hs⟩ := DataW.trod_string hu h
    exact ⟨[.str s.data.toList], by simp [zV], by simp [xP, okT], by simp [qZ, shT], by simp only [Sh, hu]; exact ⟨_, rfl, by simpa using hs⟩⟩
   | slice e =>
    simp only [Bool.and_eq_true, decide_eq_true_eq, List.contains_iff_mem] at hpt
    obtain ⟨he, hsz⟩ := hpt
    rcases DataW.trod_slice hu h with ⟨rfl, _⟩ | ⟨a, len, cap, elems, rest, k', hk', rfl, _, _, hlc, hcm, hel0, hall, _⟩
    ·-- nil
     refine ⟨[.sl (.slice none 0 0) 1 (Pr.cellsOf e) 0 []], by simp [zV], ?_, by simp [qZ, shT], ?_⟩
     ·simp only [xP, okT, List.length_nil, Nat.zero_mul, Nat.one_ne_zero, if_false, List.map_nil, qZ, and_true, true_and]
      exact ⟨⟨none, 0, rfl, Nat.le_refl _, .inl rfl⟩, Nat.le_refl _⟩
     ·simp only [Sh, hu]
      exact ⟨[], by simp [erT, yA, kH, er0], by simp, by simp, by simp⟩
    ·have : k' = k := by omega
     subst this
     have hel : ∀ i, i < len → ∃ us : List TV, us.length = Pr.cellsOf e ∧ (∀ (j : Nat) (v : Value), (us.map zV)[j]? = some v → w.cell? ((a.add (i * Pr.cellsOf e)).add j) = some v) ∧ xP w P (· < w.heap.size) us ∧ qZ 1 us ∧ Sh Pr k' e (us.map erT) := by
      intro i hi
      have hy := hall i hi
      rw [List.getElem?_eq_getElem (by omega)] at hy
      cases hcl : w.cells? 0 (a.add (i * Pr.cellsOf e)) (Pr.cellsOf e) with
      | none => rw [hcl] at hy; simp at hy
      | some vs =>
       rw [hcl] at hy
       simp only [Option.bind_some] at hy
       obtain ⟨us, u1, u2, u3, u4⟩ := ih e vs _ he hy
       obtain ⟨c1, c2⟩ := zKh hcl
       refine ⟨us, by rw [← c1, ← u1, List.length_map], fun j v hj => c2 j v (by rw [← u1]; exact hj), u2, u3, u4⟩
     -- all of them
     have hex : ∀ n, n ≤ len → ∃ us : List (List TV), us.length = n ∧ ∀ i c, us[i]? = some c → c.length = Pr.cellsOf e ∧ (∀ j v, (c.map zV)[j]? = some v → w.cell? ((a.add (i * Pr.cellsOf e)).add j) = some v) ∧ xP w P (· < w.heap.size) c ∧ qZ 1 c ∧ Sh Pr k' e (c.map erT) := by
      intro n
      induction n with
      | zero => intro _; exact ⟨[], rfl, by simp⟩
      | succ n ihn =>
       intro hn
       obtain ⟨us, h1, h2⟩ := ihn (by omega)
       obtain ⟨c, hc⟩ := hel n (by omega)
       refine ⟨us ++ [c], by simp [h1], fun i c' hi => ?_⟩
       rcases Nat.lt_or_ge i n with hlt | hge
       ·rw [List.getElem?_append_left (by omega)] at hi; exact h2 i c' hi
       ·rw [List.getElem?_append_right (by omega), h1] at hi
        have : i = n := by
         have := (List.getElem?_eq_some_iff.1 hi).1
         simp at this; omega
        subst this
        simp at hi; subst hi; exact hc
     obtain ⟨us, hul, hus⟩ := hex len (Nat.le_refl _)
     have hmem : ∀ c ∈ us, c.length = Pr.cellsOf e ∧ xP w P (· < w.heap.size) c ∧ qZ 1 c ∧ Sh Pr k' e (c.map erT) := by
      intro c hc
      obtain ⟨i, hi⟩ := List.getElem?_of_mem hc
      obtain ⟨g1, _, g3, g4, g5⟩ := hus i c hi
      exact ⟨g1, g3, g4, g5⟩
     have hflen := zHu (fun c hc => (hmem c hc).1)
     refine ⟨[.sl (.slice (some a) len cap) 1 (Pr.cellsOf e) len us.flatten], by simp [zV], ?_, ?_, ?_⟩
     ·simp only [xP, okT, Nat.one_ne_zero, if_false, and_true]
      refine ⟨by rw [hflen, hul], yJ.2 fun y hy => ?_, ⟨some a, cap, rfl, hlc, ?_⟩, Nat.le_refl _, xU.2 fun y hy => ?_⟩
      ·obtain ⟨c, hc, hy⟩ := List.mem_flatten.1 hy
       exact yJ.1 (hmem c hc).2.1 y hy
      ·by_cases hn : len = 0
       ·exact .inl hn
       ·right
        have h0 : ∃ c, us[0]? = some c := ⟨us[0]'(by omega), List.getElem?_eq_getElem (by omega)⟩
        obtain ⟨c, hc⟩ := h0
        obtain ⟨g1, g2, _⟩ := hus 0 c hc
        obtain ⟨v, hv⟩ : ∃ v, (c.map zV)[0]? = some v := ⟨_, List.getElem?_eq_getElem (by rw [List.length_map, g1]; exact hsz)⟩
        have hcell := g2 0 v hv
        have e0 : (a.add (0 * Pr.cellsOf e)).add 0 = a := by simp [Addr.add]
        rw [e0] at hcell
        obtain ⟨s1, s2⟩ := zO3 hcell
        refine ⟨a, rfl, s1, hP _ s2, fun j v hj => ?_⟩
        -- the cell's place
        have hjl := (List.getElem?_eq_some_iff.1 hj).1
        rw [List.length_map, hflen, hul] at hjl
        have hdiv : j / Pr.cellsOf e < len := Nat.div_lt_of_lt_mul (by rw [Nat.mul_comm]; exact hjl)
        have hci : us[j / Pr.cellsOf e]? = some (us[j / Pr.cellsOf e]'(by omega)) := List.getElem?_eq_getElem (by omega)
        obtain ⟨k1, k2, _⟩ := hus _ _ hci
        have hfg := zHt (fun c hc => (hmem c hc).1) hci
        have hmod := Nat.mod_lt j hsz
        have hjd : j / Pr.cellsOf e * Pr.cellsOf e + j % Pr.cellsOf e = j := by rw [Nat.mul_comm]; exact Nat.div_add_mod j _
        have hval : ((us[j / Pr.cellsOf e]'(by omega)).map zV)[j % Pr.cellsOf e]? = some v := by
         rw [← hfg, List.getElem?_map, List.getElem?_take_of_lt hmod, List.getElem?_drop, hjd, ← List.getElem?_map]
         exact hj
        have := k2 _ v hval
        have e1 : (a.add (j / Pr.cellsOf e * Pr.cellsOf e)).add (j % Pr.cellsOf e) = ⟨a.block, a.off + j, none⟩ := by
         unfold Addr.add
         obtain ⟨ab, ao, asp⟩ := a
         simp only at s1
         subst s1
         split <;> split <;> simp_all <;> omega
        rw [e1] at this
        exact this
      ·obtain ⟨c, hc, hy⟩ := List.mem_flatten.1 hy
       exact xU.1 (hmem c hc).2.2.1 y hy
     ·simp only [qZ, shT, and_true]
      refine ⟨Nat.le_refl _, Nat.le_refl _, xU.2 fun y hy => ?_⟩
      obtain ⟨c, hc, hy⟩ := List.mem_flatten.1 hy
      exact xU.1 (hmem c hc).2.2.1 y hy
     ·simp only [Sh, hu]
      refine ⟨us.map (·.map erT), by simp [erT, yA, yO, er0, List.map_flatten, hul], by simp; omega, fun c hc => ?_, fun c hc => ?_⟩
      ·obtain ⟨c', hc', rfl⟩ := List.mem_map.1 hc
       rw [List.length_map]; exact (hmem c' hc').1
      ·obtain ⟨c', hc', rfl⟩ := List.mem_map.1 hc
       exact (hmem c' hc').2.2.2
   | struct fs =>
    obtain ⟨xs, k', hk', _, hl, hxl, hall⟩ := DataW.trod_struct hu h
    have : k' = k := by omega
    subst this
    have hin : ∀ {l : List Field} {o n : Nat}, bM Pr G l o n = true → ∀ f ∈ l, f.type ∈ G := by
     intro l
     induction l with
     | nil => intro _ _ _ f hf; cases hf
     | cons g gs ihg =>
      intro o n hk f hf
      simp only [bM, Bool.and_eq_true, List.contains_iff_mem] at hk
      rcases List.mem_cons.1 hf with rfl | hf
      ·exact hk.1.2
      ·exact ihg hk.2 f hf
    obtain ⟨us, u1, _, u3, u4, u5⟩ := oN (w := w) (P := P) (k := k') (cs := cs) hpt (by omega) (fun f hf => by
     obtain ⟨i, hi⟩ := List.getElem?_of_mem hf
     have hy := hall i f (by simpa using hi)
     have hlt : i < xs.length := by rw [hxl]; have := (List.getElem?_eq_some_iff.1 hi).1; simpa using this
     rw [List.getElem?_eq_getElem hlt] at hy
     exact ih f.type _ _ (hin hpt f hf) hy)
    refine ⟨us, ?_, u3, u4, by simp only [Sh, hu]; exact u5⟩
    rw [u1, List.drop_zero, Nat.sub_zero, ← hl, List.take_length]
   | _ => simp at hpt
end
end Go.Proofs.YtlkjnlfddadlmaaGreatDoor.V
namespace Go.Proofs.YtlkjnlfddadlmaaGreatDoor.V
open Go.RowKit
section
variable {H : Type} {enc : TypeId × Value → H} {Pr : Program} {w : World} {spare : Nat → Bool} {held : Bool} {G : List Nat}
def P0 (w : World) : Nat → Nat → Prop := yR (· < w.heap.size) (fun _ _ => False)
def ArgX (w : World) (v : Value) (x : XU) : Prop := ∃ xG : XV, zQ xG = v ∧ erX xG = x ∧ oG w (P0 w) (· < w.heap.size) xG
theorem zWq {y : TV} (h : okT w (P0 w) (· < w.heap.size) y) (hs : shT 1 y) : sJ w (P0 w) (· < w.heap.size) (.t y) := sJ.t h hs
theorem arg_cell (hG : plainTys Pr G = true) {t : Nat} (ht : t ∈ G) (hu : ∀ fs, Pr.underlying t ≠ some (.struct fs)) {r : Reach} {base : Nat} {v : Value} {d : DataW H} {p : List MemPlace} (hval : Value.okWide Pr w r base t v)
  (h : DataW.Trod enc Pr w 0 spare held t v d p) : ∃ k u, Sh Pr k t [u] ∧ ArgX w v (.c (.t u)) := by
 obtain ⟨fuel, hf⟩ := h
 obtain ⟨us, u1, u2, u3, u4⟩ := zQb (P := P0 w) hG (fun b hb => hb) fuel t _ _ ht hf
 have hv : v.cells = #[v] := by
  have hpt := List.all_eq_true.1 hG t ht
  unfold zF3 at hpt
  cases hd : Pr.underlying t with
  | none => rw [hd] at hpt; cases hpt
  | some d' =>
   rw [hd] at hpt
   cases d' with
   | struct fs => exact absurd hd (hu fs)
   | slice e => obtain ⟨a, l, c, rfl⟩ := Go.WideShapes.okWide_slice hd hval; rfl
   | string => obtain ⟨s, rfl⟩ := Go.WideShapes.okWide_string hd hval; rfl
   | int k => obtain ⟨n, rfl⟩ := Go.WideShapes.okWide_int hd hval; rfl
   | bool =>
    simp only [Value.okWide, hd, Cell.okWide] at hval
    cases v <;> simp_all [Cell.ok, Value.cells]
   | _ => simp at hpt
 rw [hv] at u1
 cases us with
 | nil => simp at u1
 | cons y ys =>
  cases ys with
  | cons z zs => simp at u1
  | nil =>
   simp only [List.map_cons, List.map_nil, List.cons.injEq, and_true] at u1
   refine ⟨fuel, erT y, by simpa using u4, .c (.t y), by simpa [zQ, zJ] using u1, by simp [erX, zW, zI], ?_⟩
   exact sJ.x (zWq (by simp only [xP, and_true] at u2; exact u2) (by simp only [qZ, and_true] at u3; exact u3))
theorem law_calls {cx : Ctx} {T : World → Prop} (hcx : CtxOk Pr cx T) (hT : TabOk T w (fun _ => False)) {f k : Nat} {vs : List Value} {xs : List XU} (hargs : vs.length = xs.length ∧ ∀ (i : Nat) v x, vs[i]? = some v → xs[i]? = some x → ArgX w v x) (hrun : run Pr cx k f xs [] = some (.c (.t (.bool true)), [])) :
  Calls Pr f vs.toArray w fun e w' => e = .returned (.bool true) ∧ Below w.heap.size w w' := by
 have hex : ∀ {vs : List Value} {xs : List XU}, vs.length = xs.length → (∀ (i : Nat) v x, vs[i]? = some v → xs[i]? = some x → ArgX w v x) → ∃ gs : List XV, gs.map zQ = vs ∧ gs.map erX = xs ∧ ∀ g ∈ gs, oG w (P0 w) (· < w.heap.size) g := by
  intro vs
  induction vs with
  | nil => intro xs hl _; cases xs with
   | nil => exact ⟨[], rfl, rfl, by simp⟩
   | cons => simp at hl
  | cons v vs ih =>
   intro xs hl h
   cases xs with
   | nil => simp at hl
   | cons x xs =>
    obtain ⟨g, g1, g2, g3⟩ := h 0 v x rfl rfl
    obtain ⟨gs, k1, k2, k3⟩ := ih (xs := xs) (by simpa using hl) (fun i v' x' h1 h2 => h (i + 1) v' x' h1 h2)
    refine ⟨g :: gs, by simp [g1, k1], by simp [g2, k2], fun y hy => ?_⟩
    rcases List.mem_cons.1 hy with rfl | hy
    ·exact g3
    ·exact k3 y hy
 obtain ⟨gs, rfl, rfl, hfree⟩ := hex hargs.1 hargs.2
 obtain ⟨_, hc⟩ := zSw hcx k w _ hT f _ _ _ _ hrun
 have hin := zA0 (w := w) (P := fun _ _ => False) (args := gs) (fun _ _ h => h.elim) hfree
 refine (hc w _ _ _ [] gs [] (Frm.refl _ w) (fun _ hb => hb.elim) rfl rfl hin).mono fun e w' h => ?_
 cases e with
 | returned v =>
  obtain ⟨resG, extG, e1, _, rfl, ho⟩ := h
  obtain ⟨cG, rfl, e2⟩ := aR e1
  obtain ⟨y, rfl, e3⟩ := k9 e2
  have := n8 e3
  subst this
  exact ⟨rfl, ho.frm.os, ho.frm.tape, ho.frm.output, ho.frm.size, fun k hk => ho.frm.block k hk (fun h => h)⟩
 | panicked c => exact h.elim
 | outgrown => exact h.elim
end
end Go.Proofs.YtlkjnlfddadlmaaGreatDoor.V
namespace Go.Proofs.YtlkjnlfddadlmaaGreatDoor.V
section
variable {cx : Ctx} {f : Nat} {call : zX}
abbrev Qs := List (Nat × List XU × List (List CU) × (XU × List (List CU)))
def Ans (call : zX) (q : Qs) : Prop := ∀ x ∈ q, call x.1 x.2.1 x.2.2.1 = some x.2.2.2
theorem Ans.app {call : zX} {q q' : Qs} : Ans call (q ++ q') ↔ Ans call q ∧ Ans call q' := by
 simp only [Ans, List.mem_append]
 exact ⟨fun h => ⟨fun x hx => h x (.inl hx), fun x hx => h x (.inr hx)⟩, fun h x hx => hx.elim (h.1 x) (h.2 x)⟩
def Fin (call : zX) {β : Type} (g : zX → Option β) : Prop := ∀ r, g call = some r → ∃ q : Qs, Ans call q ∧ ∀ call', Ans call' q → g call' = some r
theorem Fin.const {β : Type} {x : Option β} : Fin call (fun _ => x) := fun r h => ⟨[], by simp [Ans], fun _ _ => h⟩
theorem Fin.bind {β γ : Type} {g : zX → Option β} {h : zX → β → Option γ} (hg : Fin call g) (hh : ∀ x, Fin call (fun c => h c x)) : Fin call (fun c => (g c).bind (h c)) := by
 intro r hr
 cases hx : g call with
 | none => simp [hx] at hr
 | some x =>
  simp only [hx, Option.bind_some] at hr
  obtain ⟨q, q1, q2⟩ := hg x hx
  obtain ⟨p, p1, p2⟩ := hh x r hr
  exact ⟨q ++ p, Ans.app.2 ⟨q1, p1⟩, fun c' hc => by simp only [q2 c' (Ans.app.1 hc).1, Option.bind_some]; exact p2 c' (Ans.app.1 hc).2⟩
theorem Fin.map {β γ : Type} {g : zX → Option β} {h : β → γ} (hg : Fin call g) : Fin call (fun c => (g c).map h) := by
 intro r hr
 cases hx : g call with
 | none => simp [hx] at hr
 | some x =>
  obtain ⟨q, q1, q2⟩ := hg x hx
  exact ⟨q, q1, fun c' hc => by simp only [q2 c' hc]; simp only [hx] at hr; exact hr⟩
theorem Fin.ite {c : Prop} [Decidable c] {β : Type} {g : zX → Option β} (h : c → Fin call g) : Fin call (fun k => if c then g k else none) := by
 by_cases hc : c
 ·simp only [if_pos hc]; exact h hc
 ·simp only [if_neg hc]; exact .const
theorem Fin.one (g : Nat) (xs : List XU) (e : List (List CU)) : Fin call (fun c => c g xs e) := fun r h => ⟨[(g, xs, e, r)], by simpa [Ans] using h, fun c' hc => by simpa [Ans] using hc⟩
theorem Fin.quietCall {S : SU} {fo : Operand} {args : List Operand} {ts : List Nat} : Fin call (fun c => quietCall cx f c S fo args ts) := by
 unfold V.quietCall
 cases opv cx f S 0 fo with
 | none => exact .const
 | some x =>
  cases x with
  | c c => cases c with
   | fn g caps => cases caps with
    | nil =>
     simp only
     split
     ·exact .const
     ·exact .bind .const (fun xs => .bind (.one _ _ _) (fun r => .const))
    | cons => exact .const
   | _ => exact .const
  | _ => exact .const
theorem Fin.qcall {S : SU} {t : Nat} {c : Call} : Fin call (fun k => qcall cx f k S t c) := by
 unfold V.qcall
 split
 ·exact .const
 ·exact .const
 ·by_cases hg : zFm cx c = true
  ·simp only [if_pos hg]; exact .const
  ·simp only [if_neg hg]; exact .map .quietCall
 ·exact .const
theorem Fin.qval {S : SU} {t : Nat} {op : Op} : Fin call (fun k => qval cx f k S t op) := by
 cases op with
 | call c => exact .qcall
 | makeFunc g first caps => cases g <;> exact .const
 | slice e x lo hi mx => cases mx <;> exact .const
 | _ => exact .const
theorem Fin.activeCall {S : SU} {fo : Operand} {args : List Operand} {ts : List Nat} : Fin call (fun c => activeCall cx f c S fo args ts) := by
 unfold V.activeCall
 cases opv cx f S 0 fo with
 | none => exact .const
 | some x =>
  cases x with
  | c c => cases c with
   | fn g caps =>
    refine .bind .const (fun u => ?_)
    cases opv cx f u.2.2 0 fo with
    | none => exact .const
    | some x =>
     cases x with
     | c c => cases c with
      | fn g' caps' =>
       refine .bind .const (fun xs => .bind .const (fun ys => .bind .const (fun cs => .bind .const (fun bs => ?_))))
       exact .ite fun _ => .bind (.one _ _ _) (fun r => .const)
      | _ => exact .const
     | _ => exact .const
   | _ => exact .const
  | _ => exact .const
theorem Fin.stepOp {S : SU} {ops : Array Oper} {o : Oper} : Fin call (fun k => stepOp cx f k S ops o) := by
 unfold V.stepOp
 cases y5 S ops o with
 | none => exact .const
 | some b =>
  cases b with
  | false => exact .const
  | true =>
   simp only
   cases o.op with
   | assign x => exact .const
   | store t a x => exact .const
   | call c =>
    simp only
    split
    ·split
     ·exact .const
     ·exact .bind .activeCall (fun r => .const)
     ·exact .const
    ·exact .bind .qcall (fun r => .const)
   | _ => exact .bind .qval (fun r => .const)
theorem Fin.stepOps {ops : Array Oper} : ∀ {l : List Oper} {S : SU}, Fin call (fun k => stepOps cx f k ops l S)
 | [], S => .const
 | o :: l, S => by
  simp only [V.stepOps]
  exact .bind .stepOp (fun S' => .stepOps)
theorem Fin.stepsD {id : Nat} {ops : Array Oper} : ∀ {l : List Oper} {k : Nat} {S : SU}, Fin call (fun c => stepsD cx f c id ops k l S)
 | [], k, S => .const
 | o :: l, k, S => by
  simp only [V.stepsD]
  refine .bind ?_ (fun S' => .stepsD)
  unfold aC
  split
  ·split
   ·exact .const
   ·exact .stepOp
  ·unfold bW
   split
   ·exact .bind .stepOp (fun _ => .const)
   ·exact .const
def FinL (call : zX) (lf : Nat) {β : Type} (g : zX → Nat → Option β) : Prop := ∀ r, g call lf = some r → ∃ q : Qs, Ans call q ∧ ∀ call' lf', lf ≤ lf' → Ans call' q → g call' lf' = some r
theorem Fin.l {β : Type} {lf : Nat} {g : zX → Option β} (h : Fin call g) : FinL call lf (fun c _ => g c) := fun r hr => let ⟨q, q1, q2⟩ := h r hr; ⟨q, q1, fun c' _ _ hc => q2 c' hc⟩
theorem zA3 {lf : Nat} {g : zX → Nat → SU → Option (Ex × SU)} (hg : ∀ S, FinL call lf (fun c l => g c l S)) : ∀ {n : Nat} {S : SU} {r : Ex × SU}, iter n (g call lf) S = some r → ∃ q : Qs, Ans call q ∧ ∀ call' lf' n', lf ≤ lf' → n ≤ n' → Ans call' q → iter n' (g call' lf') S = some r
 | 0, S, r, h => by simp [iter] at h
 | n + 1, S, r, h => by
  simp only [iter] at h
  cases hx : g call lf S with
  | none => simp [hx] at h
  | some x =>
   obtain ⟨ex, S'⟩ := x
   obtain ⟨q, q1, q2⟩ := hg S _ hx
   cases ex with
   | nrm =>
    simp only [hx] at h
    obtain ⟨p, p1, p2⟩ := zA3 hg h
    refine ⟨q ++ p, Ans.app.2 ⟨q1, p1⟩, fun c' lf' n' hl hn hc => ?_⟩
    obtain ⟨m, rfl⟩ : ∃ m, n' = m + 1 := ⟨n' - 1, by omega⟩
    simp only [iter, q2 c' lf' hl (Ans.app.1 hc).1]
    exact p2 c' lf' m hl (by omega) (Ans.app.1 hc).2
   | exit id =>
    simp only [hx] at h
    refine ⟨q, q1, fun c' lf' n' hl hn hc => ?_⟩
    obtain ⟨m, rfl⟩ : ∃ m, n' = m + 1 := ⟨n' - 1, by omega⟩
    simp only [iter]
    rw [show g c' lf' S = _ from q2 c' lf' hl hc]; exact h
   | ret =>
    simp only [hx] at h
    refine ⟨q, q1, fun c' lf' n' hl hn hc => ?_⟩
    obtain ⟨m, rfl⟩ : ∃ m, n' = m + 1 := ⟨n' - 1, by omega⟩
    simp only [iter]
    rw [show g c' lf' S = _ from q2 c' lf' hl hc]; exact h
theorem aT {lf : Nat} : ∀ (c : Code) (S : SU), FinL call lf (fun k l => y8 cx f k l c S) := by
 intro c
 induction c with
 | region id ops draw =>
  intro S
  simp only [y8]
  cases draw with
  | true => exact (Fin.map .stepsD).l
  | false => exact (Fin.map .stepOps).l
 | seq a b iha ihb =>
  intro S r h
  simp only [y8] at h ⊢
  cases hx : y8 cx f call lf a S with
  | none => simp [hx] at h
  | some x =>
   obtain ⟨ex, S'⟩ := x
   obtain ⟨q, q1, q2⟩ := iha S _ hx
   cases ex with
   | nrm =>
    simp only [hx] at h
    obtain ⟨p, p1, p2⟩ := ihb S' r h
    exact ⟨q ++ p, Ans.app.2 ⟨q1, p1⟩, fun c' lf' hl hc => by simp only [q2 c' lf' hl (Ans.app.1 hc).1]; exact p2 c' lf' hl (Ans.app.1 hc).2⟩
   | exit id => simp only [hx] at h; exact ⟨q, q1, fun c' lf' hl hc => by simp only [q2 c' lf' hl hc]; exact h⟩
   | ret => simp only [hx] at h; exact ⟨q, q1, fun c' lf' hl hc => by simp only [q2 c' lf' hl hc]; exact h⟩
 | cond o a b iha ihb =>
  intro S r h
  simp only [y8] at h ⊢
  split at h
  ·obtain ⟨q, q1, q2⟩ := iha S r h; exact ⟨q, q1, q2⟩
  ·obtain ⟨q, q1, q2⟩ := ihb S r h; exact ⟨q, q1, q2⟩
  ·cases h
 | block id a iha =>
  intro S r h
  simp only [y8] at h ⊢
  cases hx : y8 cx f call lf a S with
  | none => simp [hx] at h
  | some x =>
   obtain ⟨q, q1, q2⟩ := iha S _ hx
   exact ⟨q, q1, fun c' lf' hl hc => by rw [hx] at h; simp only [q2 c' lf' hl hc]; exact h⟩
 | loop a iha =>
  intro S r h
  simp only [y8] at h ⊢
  obtain ⟨q, q1, q2⟩ := zA3 (g := fun k l => y8 cx f k l a) (fun S => iha S) h
  exact ⟨q, q1, fun c' lf' hl hc => q2 c' lf' lf' hl hl hc⟩
 | _ => intro S; exact Fin.const.l
theorem iG {lf : Nat} {fn : Func} {c : Code} {args : List XU} {ext : List (List CU)} : FinL call lf (fun k l => uX cx f k l fn c args ext) := by
 intro r h
 simp only [uX] at h ⊢
 split at h
 ·rename_i hl0
  cases hx : y8 cx f call lf c ⟨y6 args, ext⟩ with
  | none => simp [hx] at h
  | some x =>
   obtain ⟨q, q1, q2⟩ := aT (cx := cx) (f := f) (call := call) (lf := lf) c ⟨y6 args, ext⟩ _ hx
   exact ⟨q, q1, fun c' lf' hl hc => by rw [hx] at h; simp only [if_pos hl0, q2 c' lf' hl hc]; exact h⟩
 ·cases h
end
section
variable (Pr : Program) (cx : Ctx)
theorem hO : ∀ {k k' : Nat} {g : Nat} {a : List XU} {e : List (List CU)} {r : XU × List (List CU)}, k ≤ k' → run Pr cx k g a e = some r → run Pr cx k' g a e = some r
 | 0, k', g, a, e, r, _, h => by simp [run] at h
 | k + 1, k', g, a, e, r, hk, h => by
  obtain ⟨m, rfl⟩ : ∃ m, k' = m + 1 := ⟨k' - 1, by omega⟩
  simp only [run] at h ⊢
  cases ho : cx.orc g with
  | some hh => rw [ho] at h; exact h
  | none =>
   rw [ho] at h
   simp only at h ⊢
   cases hf : Pr.funcs[g]? with
   | none => rw [hf] at h; cases h
   | some fn =>
    rw [hf] at h
    simp only at h ⊢
    cases hb : fn.body with
    | none => rw [hb] at h; cases h
    | some c =>
     rw [hb] at h
     simp only at h ⊢
     split at h
     ·rename_i hg
      rw [if_pos hg]
      obtain ⟨q, q1, q2⟩ := iG r h
      exact q2 _ m (by omega) (fun x hx => hO (by omega) (q1 x hx))
     ·cases h
open Classical in
noncomputable def RR : zX := fun g a e => if h : ∃ k r, run Pr cx k g a e = some r then some h.choose_spec.choose else none
theorem zE4 {g : Nat} {a : List XU} {e : List (List CU)} {r : XU × List (List CU)} : RR Pr cx g a e = some r ↔ ∃ k, run Pr cx k g a e = some r := by
 unfold RR
 constructor
 ·intro h
  split at h
  ·rename_i hx
   simp only [Option.some.injEq] at h
   subst h
   exact ⟨_, hx.choose_spec.choose_spec⟩
  ·cases h
 ·rintro ⟨k, h⟩
  have hx : ∃ k r, run Pr cx k g a e = some r := ⟨k, r, h⟩
  rw [dif_pos hx]
  have h1 := hO Pr cx (Nat.le_max_left hx.choose k) hx.choose_spec.choose_spec
  have h2 := hO Pr cx (Nat.le_max_right hx.choose k) h
  rw [h1] at h2
  exact h2
theorem zTy {g : Nat} {fn : Func} {c : Code} {a : List XU} {e : List (List CU)} {r : XU × List (List CU)} (lf : Nat) (ho : cx.orc g = none) (hf : Pr.funcs[g]? = some fn) (hb : fn.body = some c) (hg : cx.good g = true) (h : uX cx g (RR Pr cx) lf fn c a e = some r) : RR Pr cx g a e = some r := by
 obtain ⟨q, q1, q2⟩ := iG r h
 have hK : ∃ K, ∀ x ∈ q, run Pr cx K x.1 x.2.1 x.2.2.1 = some x.2.2.2 := by
  clear q2
  induction q with
  | nil => exact ⟨0, by simp⟩
  | cons x q ih =>
   obtain ⟨K, hK⟩ := ih (fun y hy => q1 y (List.mem_cons_of_mem _ hy))
   obtain ⟨k, hk⟩ := (zE4 Pr cx).1 (q1 x List.mem_cons_self)
   refine ⟨max K k, fun y hy => ?_⟩
   rcases List.mem_cons.1 hy with rfl | hy
   ·exact hO Pr cx (Nat.le_max_right _ _) hk
   ·exact hO Pr cx (Nat.le_max_left _ _) (hK y hy)
 obtain ⟨K, hK⟩ := hK
 refine (zE4 Pr cx).2 ⟨max K lf + 1, ?_⟩
 simp only [run, ho, hf, hb, hg, if_true]
 exact q2 _ _ (Nat.le_max_right _ _) (fun x hx => hO Pr cx (Nat.le_max_left _ _) (hK x hx))
end
end Go.Proofs.YtlkjnlfddadlmaaGreatDoor.V
namespace Go.Proofs.YtlkjnlfddadlmaaGreatDoor.V
def lk (jk : Nat → XU) : List (Nat × XU) → Nat → XU
 | [], i => jk i
 | (d, x) :: r, i => if i = d then x else lk jk r i
structure StA where
 env : List (Nat × XU)
 jk : Nat → XU
 e : List (List CU)
def den (A : StA) : SU := ⟨lk A.jk A.env, A.e⟩
def dn {β : Type} (r : β × StA) : β × SU := (r.1, den r.2)
def StA.put (A : StA) (d : Nat) (x : XU) : StA := ⟨(d, x) :: A.env, A.jk, A.e⟩
theorem gU (A : StA) (d : Nat) (x : XU) : { den A with s := upd (den A).s d x } = den (A.put d x) := by
 simp only [den, StA.put]
 congr 1
def tD (r : Root) (q : List Nat) (A : StA) : StA := ⟨A.env.map fun p => (p.1, z6 r q p.2), fun i => z6 r q (A.jk i), A.e.map (yT r q)⟩
theorem zNj (r : Root) (q : List Nat) (jk : Nat → XU) : ∀ (l : List (Nat × XU)) (i : Nat), lk (fun i => z6 r q (jk i)) (l.map fun p => (p.1, z6 r q p.2)) i = z6 r q (lk jk l i)
 | [], i => rfl
 | (d, x) :: l, i => by
  simp only [List.map_cons, lk]
  split
  ·rfl
  ·exact zNj r q jk l i
theorem fD (r : Root) (q : List Nat) (A : StA) : kill r q (den A) = den (tD r q A) := by
 simp only [den, tD, kill]
 congr 1
 funext i
 exact (zNj r q A.jk A.env i).symm
section
variable (cx : Ctx) (f : Nat) (call : zX)
def qG (A : StA) (r : Root) (cs : List CU) : StA :=
 match r with
 | .sl d => A.put d (x7 (lk A.jk A.env d) cs)
 | .ex j => { A with e := A.e.set j cs }
theorem dC (A : StA) (r : Root) (cs : List CU) : zM (den A) r cs = den (qG A r cs) := by
 cases r with
 | sl d => simp only [zM, qG]; exact gU A d _
 | ex j => rfl
def jE (A : StA) (r : Root) (p : List Nat) (off : Nat) (c : CU) : Option StA :=
 (zA (den A) r).bind fun cs => (kU cs p off c).map (qG A r)
theorem vD (A : StA) (r : Root) (p : List Nat) (off : Nat) (c : CU) : z7 (den A) r p off c = (jE A r p off c).map den := by
 simp only [z7, jE]
 cases zA (den A) r with
 | none => rfl
 | some cs =>
  simp only [Option.bind_some]
  cases kU cs p off c with
  | none => rfl
  | some ds => simp only [Option.map_some, dC]
def zCy (A : StA) : Operand → StA
 | .tmp d => if zB cx f d then A else if yQ (lk A.jk A.env d) then A.put d .undef else A
 | _ => A
theorem q7 (A : StA) (o : Operand) : clr cx f (den A) o = den (zCy cx f A o) := by
 cases o with
 | tmp d =>
  have e : (den A).s d = lk A.jk A.env d := rfl
  simp only [clr, zCy, e]
  by_cases h1 : zB cx f d = true
  ·simp only [h1, if_true]
  ·by_cases h2 : yQ (lk A.jk A.env d) = true
   ·simp only [h1, h2, if_true, if_false]; exact gU A d _
   ·simp only [h1, h2, if_false]; rfl
 | _ => rfl
def aE (A : StA) (a : Unit) (r : Root) (p : List Nat) (i off sz n : Nat) : Option (TU × StA) :=
 match at_ (den A) r p i with
 | some (.t (.sl b 0 sz' _ ds)) => if off + n * sz ≤ ds.length ∧ sz = sz' ∧ 0 < sz then
   (jE A r p i (.t (.dead b))).map fun A' => (.sl a 0 sz n ((ds.drop off).take (n * sz)), tD r (p ++ [i]) A')
  else none
 | _ => none
theorem zAc (A : StA) (a : Unit) (r : Root) (p : List Nat) (i off sz n : Nat) : xL (den A) a r p i off sz n = (aE A a r p i off sz n).map dn := by
 unfold xL aE
 generalize at_ (den A) r p i = o
 rcases o with _ | c
 ·rfl
 ·cases c with
  | t x => cases x with
   | sl b tag sz' m ds => cases tag with
    | zero =>
     by_cases h : off + n * sz ≤ ds.length ∧ sz = sz' ∧ 0 < sz
     ·simp only [if_pos h, vD]
      cases jE A r p i (.t (.dead b)) with
      | none => rfl
      | some A' => simp only [Option.map_some, dn, fD]
     ·simp only [if_neg h]; rfl
    | succ g => rfl
   | _ => rfl
  | _ => rfl
mutual
def tY : CU → StA → Option (TU × StA)
 | .t x, A => some (x, A)
 | .bor a (.sl d) p i off sz n, A => aE A a (.sl d) p i off sz n
 | .lst a sz n cs, A => (lD cs A).map fun r => (.sl a 0 sz n r.1, r.2)
 | _, _ => none
def lD : List CU → StA → Option (List TU × StA)
 | [], A => some ([], A)
 | c :: cs, A => (tY c A).bind fun r => (lD cs r.2).map fun q => (r.1 :: q.1, q.2)
end
mutual
theorem zKm : ∀ (c : CU) (A : StA), yS c (den A) = (tY c A).map dn
 | .t x, A => rfl
 | .bor a (.sl d) p i off sz n, A => by simp only [yS, tY]; exact zAc _ _ _ _ _ _ _ _
 | .bor a (.ex j) p i off sz n, A => rfl
 | .lst a sz n cs, A => by
  simp only [yS, tY, oL cs A]
  cases lD cs A with
  | none => rfl
  | some r => rfl
 | .ptr _ _ _ _, A => rfl
 | .rptr _ _, A => rfl
 | .nilp, A => rfl
 | .nilf, A => rfl
 | .fn _ _, A => rfl
theorem oL : ∀ (cs : List CU) (A : StA), xZ cs (den A) = (lD cs A).map dn
 | [], A => rfl
 | c :: cs, A => by
  simp only [xZ, lD, zKm c A]
  cases tY c A with
  | none => rfl
  | some r =>
   simp only [Option.map_some, Option.bind_some, dn, oL cs r.2]
   cases lD cs r.2 with
   | none => rfl
   | some q => rfl
end
def gK (r : Root) (p : List Nat) : Nat → List (List Nat) → List CU → StA → Option StA
 | _, _, [], A => some A
 | off, qs, c :: cs, A => (at_ (den A) r p off).bind fun old =>
   if x9 old then (if cx.nst f && x4 r then none else (jE A r p off (.t (.dead ()))).bind fun A0 =>
    (jE (tD r (p ++ [off]) A0) r p off ((qs ++ [p ++ [off]]).foldl (fun c q => zS r q c) c)).bind fun A1 => gK r p (off + 1) (qs ++ [p ++ [off]]) cs A1)
   else (jE A r p off (qs.foldl (fun c q => zS r q c) c)).bind fun A1 => gK r p (off + 1) qs cs A1
theorem uN (r : Root) (p : List Nat) : ∀ (cs : List CU) (off : Nat) (qs : List (List Nat)) (A : StA), qF cx f r p off qs cs (den A) = (gK cx f r p off qs cs A).map den
 | [], off, qs, A => rfl
 | c :: cs, off, qs, A => by
  simp only [qF, gK]
  cases at_ (den A) r p off with
  | none => rfl
  | some old =>
   simp only [Option.bind_some]
   split
   ·split
    ·rfl
    ·rw [vD]
     cases jE A r p off (.t (.dead ())) with
     | none => rfl
     | some A0 =>
      simp only [Option.map_some, Option.bind_some, fD, vD]
      cases jE (tD r (p ++ [off]) A0) r p off _ with
      | none => rfl
      | some A1 => simp only [Option.map_some, Option.bind_some]; exact uN r p cs _ _ A1
   ·rw [vD]
    cases jE A r p off _ with
    | none => rfl
    | some A1 => simp only [Option.map_some, Option.bind_some]; exact uN r p cs _ _ A1
def lP (place : Nat → Option (Nat × Nat)) : List (Nat × Operand) → List CU → StA → Option (List CU × StA)
 | [], cells, A => some (cells, A)
 | (i, o) :: rest, cells, A => (place i).bind fun q => (opv cx f (den A) q.2 o).bind fun x => (jN x).bind fun cs =>
   if cs.length = (cx.ty q.2).sz ∧ q.1 + cs.length ≤ cells.length then lP place rest (zHn cells q.1 cs) (zCy cx f A o) else none
theorem aQ (place : Nat → Option (Nat × Nat)) : ∀ (ps : List (Nat × Operand)) (cells : List CU) (A : StA), jU cx f place ps cells (den A) = (lP cx f place ps cells A).map dn
 | [], cells, A => rfl
 | (i, o) :: ps, cells, A => by
  simp only [jU, lP]
  cases place i with
  | none => rfl
  | some q =>
   simp only [Option.bind_some]
   cases opv cx f (den A) q.2 o with
   | none => rfl
   | some x =>
    simp only [Option.bind_some]
    cases jN x with
    | none => rfl
    | some cs =>
     simp only [Option.bind_some]
     split
     ·rw [q7]; exact aQ place ps _ _
     ·rfl
def mI (A : StA) (t : Nat) : Op → Option (XU × StA)
 | .move x => (opv cx f (den A) t x).map fun y => (y, zCy cx f A x)
 | .pick c a b => match v1 (opv cx f (den A) t c) with
  | some true => (opv cx f (den A) t a).map fun y => (y, zCy cx f A a)
  | some false => (opv cx f (den A) t b).map fun y => (y, zCy cx f A b)
  | none => none
 | .box e x => (opv cx f (den A) e x).bind fun y => (jN y).bind fun cs => if (cx.ty e).ok ∧ cs.length = (cx.ty e).sz then some (.box () cs, zCy cx f A x) else none
 | .build e ps => if (cx.ty e).ok ∧ (cx.ty e).agg ∧ (cx.ty e).fs ≠ [] ∧ ((cx.ty e).fs.all fun q => (cx.ty q.2).ok) then (lP cx f (fun i => (cx.ty e).fs[i]?) ps.toList (cx.ty e).zs A).map fun r => (.agg r.1, r.2) else none
 | .buildSlice e len ps => match (cx.ty e).el with
  | some el => if (cx.ty el).ok ∧ (cx.ty e).ok ∧ len * (cx.ty el).sz ≤ 16777216 then (lP cx f (fun i => if i < len then some (i * (cx.ty el).sz, el) else none) ps.toList (dA len (cx.ty el).zs) A).map fun r => (.c (zR5 (cx.ty el).sz len r.1), r.2) else none
  | none => none
 | .field e x i => match (cx.ty e).fs[i]?, opv cx f (den A) 0 x with
  | some (off, ft), some (.agg cs) => if (cx.ty e).ok ∧ (cx.ty ft).ok ∧ off + (cx.ty ft).sz ≤ cs.length then (mkX cx ft ((cs.drop off).take (cx.ty ft).sz)).map fun y => (y, zCy cx f A x) else none
  | _, _ => none
 | op => (qval cx f call (den A) t op).map fun r => (r.1, A)
theorem zLh {S S' : SU} {t : Nat} {c : Call} {x : XU} (h : qcall cx f call S t c = some (x, S')) : S' = S := (zB2 (S2 := S) Agr.refl h).1
theorem zQ8 (A : StA) (t : Nat) (op : Op) : qval cx f call (den A) t op = (mI cx f call A t op).map dn := by
 have same : ∀ {op : Op}, (∀ x S', qval cx f call (den A) t op = some (x, S') → S' = den A) → qval cx f call (den A) t op = ((qval cx f call (den A) t op).map fun r => (r.1, A)).map dn := by
  intro op h
  cases hq : qval cx f call (den A) t op with
  | none => rfl
  | some r =>
   obtain ⟨x, S'⟩ := r
   have := h x S' hq
   subst this; rfl
 cases op with
 | move x =>
  simp only [qval, mI]
  cases opv cx f (den A) t x with
  | none => rfl
  | some y => simp only [Option.map_some, dn, q7]
 | pick c a b =>
  simp only [qval, mI]
  generalize v1 (opv cx f (den A) t c) = o
  rcases o with _ | b'
  ·rfl
  ·cases b' with
   | true =>
    simp only
    cases opv cx f (den A) t a with
    | none => rfl
    | some y => simp only [Option.map_some, dn, q7]
   | false =>
    simp only
    cases opv cx f (den A) t b with
    | none => rfl
    | some y => simp only [Option.map_some, dn, q7]
 | box e x =>
  simp only [qval, mI]
  cases opv cx f (den A) e x with
  | none => rfl
  | some y =>
   simp only [Option.bind_some]
   cases jN y with
   | none => rfl
   | some cs =>
    simp only [Option.bind_some]
    split
    ·simp only [Option.map_some, dn, q7]
    ·rfl
 | build e ps =>
  simp only [qval, mI]
  split
  ·rw [aQ]
   cases lP cx f _ ps.toList (cx.ty e).zs A with
   | none => rfl
   | some r => rfl
  ·rfl
 | buildSlice e len ps =>
  simp only [qval, mI]
  cases (cx.ty e).el with
  | none => rfl
  | some el =>
   simp only
   by_cases h : (cx.ty el).ok ∧ (cx.ty e).ok ∧ len * (cx.ty el).sz ≤ 16777216
   ·simp only [if_pos h]
    rw [aQ]
    cases lP cx f _ ps.toList _ A with
    | none => rfl
    | some r => rfl
   ·simp only [if_neg h]; rfl
 | field e x i =>
  simp only [qval, mI]
  generalize opv cx f (den A) 0 x = o
  cases (cx.ty e).fs[i]? with
  | none => rfl
  | some q =>
   obtain ⟨off, ft⟩ := q
   rcases o with _ | y
   ·rfl
   ·cases y with
    | agg cs =>
     simp only
     by_cases h : (cx.ty e).ok ∧ (cx.ty ft).ok ∧ off + (cx.ty ft).sz ≤ cs.length
     ·simp only [if_pos h]
      cases mkX cx ft ((cs.drop off).take (cx.ty ft).sz) with
      | none => rfl
      | some y => simp only [Option.map_some, dn, q7]
     ·simp only [if_neg h]; rfl
    | _ => rfl
 | call c => exact same (op := .call c) (fun x S' h => zLh cx f call (by simpa only [qval] using h))
 | alloc e => exact same (op := .alloc e) (fun x S' h => by simp only [qval] at h; split at h <;> simp_all)
 | load e y => exact same (op := .load e y) (fun x S' h => by
   simp only [qval] at h
   split at h
   ·split at h
    ·cases hl : jT (den A) _ _ _ (cx.ty e).sz with
     | none => rw [hl] at h; cases h
     | some cs =>
      rw [hl] at h
      simp only [Option.bind_some] at h
      cases hm : mkX cx e cs with
      | none => rw [hm] at h; cases h
      | some z => rw [hm] at h; simp only [Option.map_some, Option.some.injEq, Prod.mk.injEq] at h; exact h.2.symm
    ·cases h
   ·split at h
    ·cases hm : mkX cx e _ with
     | none => rw [hm] at h; cases h
     | some z => rw [hm] at h; simp only [Option.map_some, Option.some.injEq, Prod.mk.injEq] at h; exact h.2.symm
    ·cases h
   ·cases h)
 | fieldAddr e y i => exact same (op := .fieldAddr e y i) (fun x S' h => by
   simp only [qval] at h
   split at h
   ·split at h
    ·cases hm : pS _ _ with
     | none => rw [hm] at h; cases h
     | some z => rw [hm] at h; simp only [Option.map_some, Option.some.injEq, Prod.mk.injEq] at h; exact h.2.symm
    ·cases h
   ·cases h)
 | indexAddr e y i => exact same (op := .indexAddr e y i) (fun x S' h => by
   simp only [qval] at h
   split at h
   ·split at h
    ·simp only [Option.some.injEq, Prod.mk.injEq] at h; exact h.2.symm
    ·cases h
   ·split at h
    ·simp only [Option.some.injEq, Prod.mk.injEq] at h; exact h.2.symm
    ·cases h
   ·cases h)
 | index e y i => exact same (op := .index e y i) (fun x S' h => by
   simp only [qval] at h
   split at h
   ·split at h
    ·simp only [Option.some.injEq, Prod.mk.injEq] at h; exact h.2.symm
    ·cases h
   ·cases h)
 | binOp o xt y z yt => exact same (op := .binOp o xt y z yt) (fun x S' h => by
   simp only [qval] at h
   split at h
   ·cases hm : rG _ _ _ _ _ with
    | none => rw [hm] at h; cases h
    | some z => rw [hm] at h; simp only [Option.map_some, Option.some.injEq, Prod.mk.injEq] at h; exact h.2.symm
   ·cases h)
 | nilCheck y => exact same (op := .nilCheck y) (fun x S' h => by
   simp only [qval] at h
   split at h
   ·simp only [Option.some.injEq, Prod.mk.injEq] at h; exact h.2.symm
   ·simp only [Option.some.injEq, Prod.mk.injEq] at h; exact h.2.symm
   ·cases h)
 | unOp o xt y => exact same (op := .unOp o xt y) (fun x S' h => by
   simp only [qval] at h
   split at h
   ·cases hm : unV _ _ with
    | none => rw [hm] at h; cases h
    | some z => rw [hm] at h; simp only [Option.map_some, Option.some.injEq, Prod.mk.injEq] at h; exact h.2.symm
   ·cases h)
 | convert s d y => exact same (op := .convert s d y) (fun x S' h => by
   simp only [qval] at h
   split at h
   ·cases hm : mH _ _ _ _ _ with
    | none => rw [hm] at h; cases h
    | some z => rw [hm] at h; simp only [Option.map_some, Option.some.injEq, Prod.mk.injEq] at h; exact h.2.symm
   ·cases h)
 | extract y i => exact same (op := .extract y i) (fun x S' h => by
   simp only [qval] at h
   cases hm : vN cx f (den A) y i with
   | none => rw [hm] at h; cases h
   | some z => rw [hm] at h; simp only [Option.map_some, Option.some.injEq, Prod.mk.injEq] at h; exact h.2.symm)
 | slice e y lo hi mx => exact same (op := .slice e y lo hi mx) (fun x S' h => by
   cases mx with
   | some m => simp [qval] at h
   | none =>
    simp only [qval] at h
    split at h
    ·split at h
     ·cases hm : vU _ _ _ with
      | none => rw [hm] at h; cases h
      | some z => rw [hm] at h; simp only [Option.map_some, Option.some.injEq, Prod.mk.injEq] at h; exact h.2.symm
     ·cases h
    ·cases h)
 | makeSlice e l c => exact same (op := .makeSlice e l c) (fun x S' h => by
   simp only [qval] at h
   split at h
   ·split at h
    ·cases hm : mQ _ with
     | none => rw [hm] at h; cases h
     | some z => rw [hm] at h; simp only [Option.map_some, Option.some.injEq, Prod.mk.injEq] at h; exact h.2.symm
    ·cases h
   ·cases h)
 | makeFunc g first caps => exact same (op := .makeFunc g first caps) (fun x S' h => by
   cases g with
   | func g =>
    simp only [qval] at h
    split at h
    ·cases hm : dB cx f (den A) caps.toList with
     | none => rw [hm] at h; cases h
     | some z => rw [hm] at h; simp only [Option.map_some, Option.some.injEq, Prod.mk.injEq] at h; exact h.2.symm
    ·cases h
   | _ => simp [qval] at h)
 | _ => rfl
def zBz (A : StA) : List Oper → StA
 | [] => A
 | o :: os => match o.dst with
  | some d => if zRw o.op && zB cx f d then zBz ((tD (.sl d) [] A).put d .undef) os else zBz A os
  | none => zBz A os
theorem mU : ∀ (l : List Oper) (A : StA), zBy cx f (den A) l = den (zBz cx f A l)
 | [], A => rfl
 | o :: l, A => by
  simp only [zBy, zBz]
  cases o.dst with
  | none => exact mU l A
  | some d =>
   simp only
   split
   ·rw [fD, gU]; exact mU l _
   ·exact mU l A
end
def zDn : Nat → List XU → List (Nat × XU)
 | _, [] => []
 | i, x :: xs => (i, x) :: zDn (i + 1) xs
theorem zH5 : ∀ (xs : List XU) (k i : Nat), lk (fun _ => .undef) (zDn k xs) i = if k ≤ i then xs.getD (i - k) .undef else .undef
 | [], k, i => by simp [zDn, lk]
 | x :: xs, k, i => by
  simp only [zDn, lk, zH5 xs (k + 1) i]
  by_cases h1 : i = k
  ·subst h1; simp
  ·by_cases h2 : k ≤ i
   ·have h3 : k + 1 ≤ i := by omega
    obtain ⟨m, rfl⟩ : ∃ m, i = k + 1 + m := ⟨i - (k + 1), by omega⟩
    have e : k + 1 + m - k = m + 1 := by omega
    simp [h1, h2, e]
   ·have h3 : ¬ (k + 1 ≤ i) := by omega
    simp [h1, h2, h3]
end Go.Proofs.YtlkjnlfddadlmaaGreatDoor.V
