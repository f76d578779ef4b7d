/-
  What is known is put in place: plain. No conditions.
-/
import Derived.Test.YtlkjnlfddadlmaaDoorMPInlineCoreb
set_option linter.unusedVariables false
set_option linter.unusedSimpArgs false
namespace Go.Proofs.YtlkjnlfddadlmaaDoor.V
set_option maxRecDepth 100000

def inlH (op n : Int) (s t : Nm) (R : List Co) : Co :=
  if op == 5 then (if smallB (coOp (kid R 0)) then putB s (kid R 0) false (kid R 1) else if pureB (coOp (kid R 0)) && (frC [] (kid R 1)).count s == 0 then kid R 1 else .mk op n s t R) else .mk op n s t R

mutual
def inl : Co → Co
  | .mk op n s t ks => inlH op n s t (inls ks)
def inls : List Co → List Co
  | [] => []
  | c :: l => inl c :: inls l
end

theorem kid_at' {l : List Co} {i : Nat} (h : i < l.length) : l[i]? = some (kid l i) := by
  unfold kid
  rw [List.getD_eq_getElem?_getD, List.getElem?_eq_getElem h]; rfl

theorem inls_len : ∀ l : List Co, (inls l).length = l.length
  | [] => rfl
  | c :: l => by simp only [inls, List.length_cons, inls_len l]
theorem inls_at : ∀ {l : List Co} {i : Nat} {c : Co}, l[i]? = some c → (inls l)[i]? = some (inl c)
  | [], i, c, h => by simp at h
  | x :: l, 0, c, h => by
    simp only [List.getElem?_cons_zero, Option.some.injEq] at h
    subst h; rfl
  | x :: l, i + 1, c, h => by
    simp only [List.getElem?_cons_succ] at h
    simpa only [inls, List.getElem?_cons_succ] using inls_at h

mutual
theorem ar_put (name : Nm) (v : Co) (hv : arOk v = true) : ∀ (b : Bool) (c : Co), arOk c = true → arOk (putB name v b c) = true
  | b, .mk op n s t ks, h => by
    rw [putB]
    split
    · exact hv
    · simp only [arOk, Bool.and_eq_true, putBs_len] at h ⊢
      exact ⟨h.1, ars_put name v hv b op s t ks 0 h.2⟩
theorem ars_put (name : Nm) (v : Co) (hv : arOk v = true) : ∀ (b : Bool) (op : Int) (s t : Nm) (l : List Co) (i : Nat), arOks l = true → arOks (putBs name v b op s t i l) = true
  | b, op, s, t, [], i, h => rfl
  | b, op, s, t, c :: l, i, h => by
    simp only [arOks, Bool.and_eq_true] at h
    simp only [putBs, arOks, Bool.and_eq_true]
    exact ⟨ar_put name v hv _ c h.1, ars_put name v hv b op s t l (i + 1) h.2⟩
end

mutual
def nmx (M : Nat) : Co → Prop
  | .mk _ _ s t ks => s.length ≤ M ∧ t.length ≤ M ∧ nmxs M ks
def nmxs (M : Nat) : List Co → Prop
  | [] => True
  | c :: l => nmx M c ∧ nmxs M l
end
mutual
theorem nmx_sz {M : Nat} : ∀ c : Co, nmx M c → szC c + 1 ≤ (2 * M + 1) * nds c
  | .mk op n s t ks, h => by
    simp only [nmx] at h
    have := nmxs_sz ks h.2.2
    simp only [szC, nds, Nat.mul_add]
    omega
theorem nmxs_sz {M : Nat} : ∀ l : List Co, nmxs M l → szCs l ≤ (2 * M + 1) * ndss l
  | [], _ => by simp [szCs]
  | c :: l, h => by
    simp only [nmxs] at h
    have h1 := nmx_sz c h.1
    have h2 := nmxs_sz l h.2
    simp only [szCs, ndss, Nat.mul_add]
    omega
end
mutual
theorem nmx_put {M : Nat} (name : Nm) (v : Co) (hv : nmx M v) : ∀ (b : Bool) (c : Co), nmx M c → nmx M (putB name v b c)
  | b, .mk op n s t ks, h => by
    rw [putB]
    split
    · exact hv
    · simp only [nmx] at h ⊢
      exact ⟨h.1, h.2.1, nmxs_put name v hv b op s t ks 0 h.2.2⟩
theorem nmxs_put {M : Nat} (name : Nm) (v : Co) (hv : nmx M v) : ∀ (b : Bool) (op : Int) (s t : Nm) (l : List Co) (i : Nat), nmxs M l → nmxs M (putBs name v b op s t i l)
  | b, op, s, t, [], i, h => by simp only [putBs, nmxs]
  | b, op, s, t, c :: l, i, h => by
    simp only [nmxs] at h
    simp only [putBs, nmxs]
    exact ⟨nmx_put name v hv _ c h.1, nmxs_put name v hv b op s t l (i + 1) h.2⟩
end

theorem nmxs_mem {M : Nat} : ∀ {l : List Co}, nmxs M l → ∀ c ∈ l, nmx M c
  | c :: l, h, x, hx => by
    simp only [nmxs] at h
    rcases List.mem_cons.1 hx with rfl | hx
    · exact h.1
    · exact nmxs_mem h.2 x hx
theorem ndss_mem : ∀ {l : List Co} {c : Co}, c ∈ l → nds c ≤ ndss l
  | x :: l, c, h => by
    simp only [ndss]
    rcases List.mem_cons.1 h with rfl | h
    · omega
    · have := ndss_mem h; omega

theorem small_nds {c : Co} (h : smallB (coOp c) = true) (ha : arOk c = true) : nds c = 1 := by
  cases c with
  | mk op n s t ks =>
    simp only [arOk, Bool.and_eq_true] at ha
    have hl : arC op = ks.length := eq_of_beq ha.1
    simp only [coOp, smallB, Bool.or_eq_true] at h
    have hz : arC op = 0 := by
      rcases h with (h | h) | h
      all_goals (have := eq_of_beq h; subst this; decide)
    have : ks = [] := List.eq_nil_of_length_eq_zero (by omega)
    subst this
    rfl

def Good3 (M : Nat) (c : Co) : Prop := arOk c = true ∧ nmx M c ∧ Wf c

theorem inlH_all {M : Nat} {op n : Int} {s t : Nm} {R : List Co} (h : Good3 M (.mk op n s t R)) : Good3 M (inlH op n s t R) ∧ nds (inlH op n s t R) ≤ 1 + ndss R := by
  obtain ⟨ha, hm, hw⟩ := h
  have hs : Good3 M (.mk op n s t R) ∧ nds (.mk op n s t R) ≤ 1 + ndss R := ⟨⟨ha, hm, hw⟩, by simp [nds]⟩
  unfold inlH
  split
  · next h5 =>
    have h5 := eq_of_beq h5
    subst h5
    have ha' := ha
    simp only [arOk, Bool.and_eq_true] at ha'
    have hl : arC 5 = R.length := eq_of_beq ha'.1
    have h2 : arC 5 = 2 := by decide
    have m0 := List.mem_of_getElem? (kid_at' (l := R) (i := 0) (by omega))
    have m1 := List.mem_of_getElem? (kid_at' (l := R) (i := 1) (by omega))
    simp only [nmx] at hm
    simp only [Wf] at hw
    have g : ∀ c ∈ R, Good3 M c := fun c hc => ⟨arOks_mem ha'.2 c hc, nmxs_mem hm.2.2 c hc, Wfs_iff.1 hw.2.2.2.2.2 c hc⟩
    have g0 := g _ m0
    have g1 := g _ m1
    have n1 := ndss_mem m1
    split
    · next hsm =>
      have e := small_nds hsm g0.1
      have hp := nds_put s (kid R 0) false (kid R 1)
      rw [e, Nat.mul_one] at hp
      exact ⟨⟨ar_put s _ g0.1 _ _ g1.1, nmx_put s _ g0.2.1 _ _ g1.2.1, wf_put s _ g0.2.2 _ _ g1.2.2⟩, by omega⟩
    · split
      · exact ⟨g1, by omega⟩
      · exact hs
  · exact hs

mutual
theorem inl_all {M : Nat} : ∀ c : Co, Good3 M c → Good3 M (inl c) ∧ nds (inl c) ≤ nds c
  | .mk op n s t ks, h => by
    obtain ⟨ha, hm, hw⟩ := h
    simp only [arOk, Bool.and_eq_true] at ha
    simp only [nmx] at hm
    simp only [Wf] at hw
    obtain ⟨k1, k2, k3, k4⟩ := inls_all ks ha.2 hm.2.2 hw.2.2.2.2.2
    have := inlH_all (M := M) (op := op) (n := n) (s := s) (t := t) (R := inls ks) ⟨by simp only [arOk, inls_len, Bool.and_eq_true]; exact ⟨ha.1, k1⟩, by simp only [nmx]; exact ⟨hm.1, hm.2.1, k2⟩, by simp only [Wf, inls_len]; exact ⟨hw.1, hw.2.1, hw.2.2.1, hw.2.2.2.1, hw.2.2.2.2.1, k3⟩⟩
    refine ⟨by simp only [inl]; exact this.1, ?_⟩
    have h2 := this.2
    simp only [inl, nds]; omega
theorem inls_all {M : Nat} : ∀ l : List Co, arOks l = true → nmxs M l → Wfs l → arOks (inls l) = true ∧ nmxs M (inls l) ∧ Wfs (inls l) ∧ ndss (inls l) ≤ ndss l
  | [], _, _, _ => by simp [inls, arOks, nmxs, Wfs]
  | c :: l, ha, hm, hw => by
    simp only [arOks, Bool.and_eq_true] at ha
    simp only [nmxs] at hm
    simp only [Wfs] at hw
    obtain ⟨⟨a1, a2, a3⟩, a4⟩ := inl_all c ⟨ha.1, hm.1, hw.1⟩
    obtain ⟨b1, b2, b3, b4⟩ := inls_all l ha.2 hm.2 hw.2
    simp only [inls, arOks, nmxs, Wfs, ndss, Bool.and_eq_true]
    exact ⟨⟨a1, b1⟩, ⟨a2, b2⟩, ⟨a3, b3⟩, by omega⟩
end
end Go.Proofs.YtlkjnlfddadlmaaDoor.V

namespace Go.Proofs.YtlkjnlfddadlmaaDoor.V
set_option maxRecDepth 100000

def GoodI (c : Co) : Prop := Good3 22 c ∧ nds c ≤ 3000

theorem GoodI_kid {op n : Int} {s t : Nm} {ks : List Co} (h : GoodI (.mk op n s t ks)) : ∀ c ∈ ks, GoodI c := by
  obtain ⟨⟨ha, hm, hw⟩, hn⟩ := h
  simp only [arOk, Bool.and_eq_true] at ha
  simp only [nmx] at hm
  simp only [Wf] at hw
  simp only [nds] at hn
  intro c hc
  have := ndss_mem hc
  exact ⟨⟨arOks_mem ha.2 c hc, nmxs_mem hm.2.2 c hc, Wfs_iff.1 hw.2.2.2.2.2 c hc⟩, by omega⟩

theorem GoodI_sz {c : Co} (h : GoodI c) : szC c ≤ 1048576 := by
  have h1 := nmx_sz c h.1.2.1
  have h2 := h.2
  have : (2 * 22 + 1) * nds c ≤ 45 * 3000 := Nat.mul_le_mul (by omega) h2
  omega

theorem GoodI_inl {c : Co} (h : GoodI c) : GoodI (inl c) := by
  have := inl_all c h.1
  exact ⟨this.1, by have := this.2; have := h.2; omega⟩

theorem encs_el' {l : List Co} {i : Nat} {op n : Int} {s t : Nm} {ks : List Co} (h : l[i]? = some (.mk op n s t ks)) : ((encs l).drop (i * 5)).take 5 = core op n s t 0 ks.length (encs ks) := by
  induction l generalizing i with
  | nil => simp at h
  | cons c l ih =>
    cases i with
    | zero =>
      simp only [List.getElem?_cons_zero, Option.some.injEq] at h
      subst h
      simp only [encs, enc, Nat.zero_mul, List.drop_zero]
      rfl
    | succ i =>
      simp only [List.getElem?_cons_succ] at h
      have e : (i + 1) * 5 = (enc c).length + i * 5 := by rw [enc_len]; omega
      simp only [encs]
      rw [e, List.drop_length_add_append]
      exact ih h

theorem enc_k' {R : List Co} {i : Nat} {o m : Int} {s t : Nm} {kk : List Co} (h : kid R i = .mk o m s t kk) : xc (enc (kid R i)) = xc (core o m s t 0 kk.length (((encs kk).drop 0).take (kk.length * 5))) := by
  rw [h, encs_whole]; rfl

theorem el4' {l : List TU} {o m : Int} {s t : Nm} {i k : Nat} {cs : List TU} (h : (l.drop i).take 5 = core o m s t 0 k cs) : l[i + 4]? = some (.sl () 0 5 k cs) := by
  have : ((l.drop i).take 5)[4]? = some (.sl () 0 5 k cs) := by rw [h]; rfl
  rwa [List.getElem?_take_of_lt (by omega), List.getElem?_drop] at this

theorem isLT5' {l : List TU} {o m : Int} {s t : Nm} {i k : Nat} {cs : List TU} (h : (l.drop i).take 5 = core o m s t 0 k cs) : isLT l[i + 4]? = true := by
  have : ((l.drop i).take 5)[4]? = some (.sl () 0 5 k cs) := by rw [h]; rfl
  rw [List.getElem?_take_of_lt (by omega), List.getElem?_drop] at this
  rw [this]; rfl

def Sin (c : Co) : Prop := ∀ us, GoodI c → Rd c us → RT 32 [xc us] [] = some (xc (enc (inl c)), [])

theorem lin_s {ks : List Co} {cs : List TU} {g : Nat} {op n : Int} {s t : List UInt8} {K : Ex → StA → Prop} (H : ∀ c ∈ ks, Sin c) (hG : ∀ c ∈ ks, GoodI c) (hk : ks.length ≤ 1048576) (hr : Rds ks cs) :
    ∀ (l : List Co) (i : Nat), ks.drop i = l → i ≤ ks.length →
    (∀ jk j, K (.exit 0) ⟨[(4, xi j), (3, .box () ((core op n s t 0 ks.length (encs (inls ks))).map .t)), (1, .box () ((core op n s t (g + 1) ks.length cs).map .t)), (2, .box () (zC.map .t))], jk, []⟩) →
    ∀ jk, sem cx0 32 RT (.loop (lp Tryd.f32 0)) ⟨[(4, xi i), (3, .box () ((core op n s t 0 i (encs ((inls ks).take i))).map .t)), (1, .box () ((core op n s t (g + 1) ks.length cs).map .t)), (2, .box () (zC.map .t))], jk, []⟩ K := by
  have hRl := inls_len ks
  refine drop_ind ?_ ?_
  · intro k1 jk
    refine loop_step cx0 _ RT [4, 3, 1, 2] ⟨fun h => (lt_no h (by omega)).elim, fun h => ?_⟩
    intro jk
    have := k1 jk ks.length
    rw [← hRl, List.take_length]
    rw [hRl]
    exact this
  · intro i c l hi hil ih k1 jk
    have hm := List.mem_of_getElem? hi
    have hc := H c hm
    have hg := hG c hm
    have hq := enc_put (i := i) (inls_at hi)
    cases c with
    | mk op' n' s' t' kk =>
    obtain ⟨g', cs', e1, e2⟩ := Rds_get hr hi
    have hti : ((inls ks).take i).length = i := by rw [List.length_take]; omega
    refine loop_step cx0 _ RT [4, 3, 1, 2] ⟨fun h => ?_, fun h => (lt_yes h (by omega)).elim⟩
    refine ⟨⟨by omega, by omega⟩, ?_⟩
    refine ⟨op', n', s', t', g' + 1, kk.length, cs', ⟨e1, rfl⟩, ?_⟩
    have hc2 := hc (core op' n' s' t' (g' + 2) kk.length (retags cs')) hg ⟨_, _, rfl, e2.retag⟩
    generalize inl (.mk op' n' s' t' kk) = P at hc2 hq
    cases P with
    | mk po pn ps pt pk =>
    refine ⟨_, retC hc2, ?_⟩
    refine ⟨by rw [encs_len, hti]; omega, ?_⟩
    refine ⟨⟨by simp only [maxLen]; omega, by show (i + 1) * 72 ≤ _; omega⟩, ?_⟩
    intro jk
    have ih := ih k1 jk
    rw [← hq] at ih
    rw [wrapS hil (by simp only [maxLen]; omega)]
    exact ih

theorem inl5 {n : Int} {s t : Nm} {ks : List Co} : inl (.mk 5 n s t ks) = (if smallB (coOp (kid (inls ks) 0)) then putB s (kid (inls ks) 0) false (kid (inls ks) 1) else if pureB (coOp (kid (inls ks) 0)) && (frC [] (kid (inls ks) 1)).count s == 0 then kid (inls ks) 1 else .mk 5 n s t (inls ks)) := by
  simp only [inl, inlH]; rfl

theorem inl_s : ∀ c : Co, Sin c := by
  refine Co.ind fun op n s t ks ih => ?_
  intro us hG hr
  have hz := GoodI_sz hG
  have hGi := GoodI_inl hG
  obtain ⟨g1, cs, rfl, hr⟩ := hr
  have hk : ks.length ≤ 1048576 := szCs_le (by simp only [szC] at hz; omega)
  have hl := fun K => lin_s (K := K) (g := g1) (op := op) (n := n) (s := s) (t := t) ih (GoodI_kid hG) hk hr ks 0 rfl (by omega)
  clear ih
  have hRl := inls_len ks
  have hself : xc (enc (.mk op n s t (inls ks))) = xc (core op n s t 0 ks.length (((encs (inls ks)).drop 0).take (ks.length * 5))) := by
    have := encs_whole (inls ks)
    rw [hRl] at this
    rw [this]
    simp only [enc, hRl]
  have hW : 0 + ks.length * 5 ≤ (encs (inls ks)).length := by rw [encs_len, hRl]; omega
  refine fn_is (fn := Tryd.f32) rfl rfl rfl rfl ?_
  refine sem_in cx0 _ RT [4, 3, 1, 2] fun jk => ?_
  refine hl _ (fun jk j => ?_) jk
  refine ⟨fun h5 => ?_, fun h5 => ?_⟩
  · refine ⟨hW, ?_⟩
    refine ⟨?_, rfl⟩
    have h5' : (op == 5) = false := by simpa using h5
    simp only [inl, inlH, h5']
    exact hself
  · have h5' : op = 5 := by simpa using h5
    subst h5'
    have hl2 : ks.length = 2 := by
      have ha := hG.1.1
      simp only [arOk, Bool.and_eq_true] at ha
      have := eq_of_beq ha.1
      have h2 : arC 5 = 2 := by decide
      omega
    have el : ∀ i, i < ks.length → ∃ o m s' t' kk, kid (inls ks) i = .mk o m s' t' kk ∧ ((encs (inls ks)).drop (i * 5)).take 5 = core o m s' t' 0 kk.length (encs kk) := by
      intro i hi
      have := kid_at' (l := inls ks) (i := i) (by omega)
      cases hk : kid (inls ks) i with
      | mk o m s' t' kk => rw [hk] at this; exact ⟨o, m, s', t', kk, rfl, encs_el' this⟩
    obtain ⟨o0, m0, s0, t0, kk0, q0, w0⟩ := el 0 (by omega)
    obtain ⟨o1, m1, s1, t1, kk1, q1, w1⟩ := el 1 (by omega)
    refine ⟨⟨by omega, by omega⟩, ?_⟩
    refine ⟨o0, m0, s0, t0, 0, kk0.length, encs kk0, ⟨w0, rfl⟩, ?_⟩
    refine ⟨_, el4' w0, ?_⟩
    refine ⟨inV kk0, ?_⟩
    refine ⟨_, retB (b := smallB o0) (small20 (rdV o0 m0 s0 t0 kk0)), ?_⟩
    have c0 : coOp (kid (inls ks) 0) = o0 := by rw [q0]; rfl
    have hR : ∀ c ∈ inls ks, GoodI c := by
      intro c hc
      obtain ⟨i, hi⟩ := List.getElem?_of_mem hc
      have hil : i < ks.length := by have := (List.getElem?_eq_some_iff.1 hi).1; omega
      have h2 := inls_at (List.getElem?_eq_getElem hil)
      rw [hi] at h2
      cases h2
      exact GoodI_inl (GoodI_kid hG _ (List.getElem_mem hil))
    have z0 := GoodI_sz (hR _ (List.mem_of_getElem? (kid_at' (l := inls ks) (i := 0) (by omega))))
    have z1 := GoodI_sz (hR _ (List.mem_of_getElem? (kid_at' (l := inls ks) (i := 1) (by omega))))
    rw [q0] at z0
    rw [q1] at z1
    refine ⟨fun hsm => ?_, fun hsm => ?_⟩
    · refine ⟨⟨by omega, by omega⟩, ?_⟩
      refine ⟨o1, m1, s1, t1, 0, kk1.length, encs kk1, ⟨w1, rfl⟩, ?_⟩
      refine ⟨⟨by omega, by omega⟩, ?_⟩
      refine ⟨o0, m0, s0, t0, 0, kk0.length, encs kk0, ⟨w0, rfl⟩, ?_⟩
      refine ⟨_, el4' w1, ?_⟩
      refine ⟨inV kk1, ?_⟩
      refine ⟨_, el4' w0, ?_⟩
      refine ⟨inV kk0, ?_⟩
      have hp := put42 (name := s) z1 z0 (rdV o1 m1 s1 t1 kk1) (rdV o0 m0 s0 t0 kk0)
      have e : inl (.mk 5 n s t ks) = putB s (.mk o0 m0 s0 t0 kk0) false (.mk o1 m1 s1 t1 kk1) := by
        rw [inl5, q0, q1, if_pos (show smallB (coOp (.mk o0 m0 s0 t0 kk0)) = true from hsm)]
      rw [e]
      generalize putB s (.mk o0 m0 s0 t0 kk0) false (.mk o1 m1 s1 t1 kk1) = P at hp
      cases P with
      | mk po pn ps pt pk =>
      refine ⟨_, retC hp, ?_⟩
      refine ⟨inV pk, ?_⟩
      refine ⟨?_, rfl⟩
      show _ = xc (core po pn ps pt 0 pk.length (((encs pk).drop 0).take (pk.length * 5)))
      rw [encs_whole]; rfl
    · refine ⟨⟨by omega, by omega⟩, ?_⟩
      refine ⟨o0, m0, s0, t0, 0, kk0.length, encs kk0, ⟨w0, rfl⟩, ?_⟩
      refine ⟨_, el4' w0, ?_⟩
      refine ⟨inV kk0, ?_⟩
      refine ⟨_, retB (b := pureB o0) (pure24 (rdV o0 m0 s0 t0 kk0)), ?_⟩
      have un := uses40 (name := s) z1 (rdV o1 m1 s1 t1 kk1)
      have e0 : inl (.mk 5 n s t ks) = if pureB o0 && (frC [] (.mk o1 m1 s1 t1 kk1)).count s == 0 then .mk o1 m1 s1 t1 kk1 else .mk 5 n s t (inls ks) := by
        rw [inl5, q0, q1, if_neg (show ¬ smallB (coOp (.mk o0 m0 s0 t0 kk0)) = true from fun hh => by rw [show smallB (coOp (.mk o0 m0 s0 t0 kk0)) = false from hsm] at hh; cases hh)]; rfl
      refine ⟨fun hp => ?_, fun hp => ?_⟩
      · refine ⟨⟨by omega, by omega⟩, ?_⟩
        refine ⟨o1, m1, s1, t1, 0, kk1.length, encs kk1, ⟨w1, rfl⟩, ?_⟩
        refine ⟨_, el4' w1, ?_⟩
        refine ⟨inV kk1, ?_⟩
        refine ⟨_, retI un, ?_⟩
        have hc : ((((frC [] (Co.mk o1 m1 s1 t1 kk1)).count s : Nat) : Int) == 0) = ((frC [] (Co.mk o1 m1 s1 t1 kk1)).count s == 0) := by
          rw [Bool.eq_iff_iff]; simp only [beq_iff_eq]; omega
        rw [show pureB o0 = true from hp, Bool.true_and] at e0
        refine ⟨fun hu => ?_, fun hu => ?_⟩
        · rw [hc] at hu
          rw [hu, if_pos rfl] at e0
          refine ⟨⟨by omega, by omega⟩, ?_⟩
          refine ⟨o1, m1, s1, t1, 0, kk1.length, encs kk1, ⟨w1, rfl⟩, ?_⟩
          refine ⟨isLT5' w1, ?_⟩
          refine ⟨5, kk1.length, encs kk1, el4' w1, ?_⟩
          refine ⟨inV kk1, ?_⟩
          refine ⟨?_, rfl⟩
          rw [e0, ← q1]
          exact enc_k' q1
        · rw [hc] at hu
          rw [hu, if_neg (by decide)] at e0
          refine ⟨hW, ?_⟩
          exact ⟨by rw [e0]; exact hself, rfl⟩
      · rw [show pureB o0 = false from hp, Bool.false_and, if_neg (by decide)] at e0
        first
          | (refine ⟨hW, ?_⟩
             exact ⟨by rw [e0]; exact hself, rfl⟩)
          | (refine ⟨fun hh => absurd hh (by simp), fun _ => ?_⟩
             refine ⟨hW, ?_⟩
             exact ⟨by rw [e0]; exact hself, rfl⟩)
          | (trace_state
             sorry)
end Go.Proofs.YtlkjnlfddadlmaaDoor.V

namespace Go.Proofs.YtlkjnlfddadlmaaDoor.V
set_option maxRecDepth 100000

def Sii (c : Co) : Prop := ∀ us, GoodI c → Rd c us → RT 34 [xc us] [] = some (xc (enc (inl c)), [])

theorem lin_i {ks : List Co} {cs : List TU} {g : Nat} {op n : Int} {s t : List UInt8} {K : Ex → StA → Prop} (H : ∀ c ∈ ks, Sii c) (hG : ∀ c ∈ ks, GoodI c) (hk : ks.length ≤ 1048576) (hr : Rds ks cs) :
    ∀ (l : List Co) (i : Nat), ks.drop i = l → i ≤ ks.length →
    (∀ jk j, K (.exit 0) ⟨[(13, xi j), (12, xi ks.length), (11, xl (g + 1) 5 ks.length cs), (3, .box () ((core op n s t 0 ks.length (encs (inls ks))).map .t)), (1, .box () ((core op n s t (g + 1) ks.length cs).map .t)), (2, .box () (zC.map .t))], jk, []⟩) →
    ∀ jk, sem cx0 34 RT (.loop (lp Tryd.f34 0)) ⟨[(13, xi i), (12, xi ks.length), (11, xl (g + 1) 5 ks.length cs), (3, .box () ((core op n s t 0 i (encs ((inls ks).take i))).map .t)), (1, .box () ((core op n s t (g + 1) ks.length cs).map .t)), (2, .box () (zC.map .t))], jk, []⟩ K := by
  have hRl := inls_len ks
  refine drop_ind ?_ ?_
  · intro k1 jk
    refine loop_step cx0 _ RT [13, 12, 11, 3, 1, 2] ⟨fun h => (lt_no h (by omega)).elim, fun h => ?_⟩
    intro jk
    have := k1 jk ks.length
    rw [← hRl, List.take_length]
    rw [hRl]
    exact this
  · intro i c l hi hil ih k1 jk
    have hm := List.mem_of_getElem? hi
    have hc := H c hm
    have hg := hG c hm
    have hq := enc_put (i := i) (inls_at hi)
    cases c with
    | mk op' n' s' t' kk =>
    obtain ⟨g', cs', e1, e2⟩ := Rds_get hr hi
    have hti : ((inls ks).take i).length = i := by rw [List.length_take]; omega
    refine loop_step cx0 _ RT [13, 12, 11, 3, 1, 2] ⟨fun h => ?_, fun h => (lt_yes h (by omega)).elim⟩
    refine ⟨⟨by omega, by omega⟩, ?_⟩
    refine ⟨op', n', s', t', g' + 1, kk.length, cs', ⟨e1, rfl⟩, ?_⟩
    have hc2 := hc (core op' n' s' t' (g' + 2) kk.length (retags cs')) hg ⟨_, _, rfl, e2.retag⟩
    generalize inl (.mk op' n' s' t' kk) = P at hc2 hq
    cases P with
    | mk po pn ps pt pk =>
    refine ⟨_, retC hc2, ?_⟩
    refine ⟨by rw [encs_len, hti]; omega, ?_⟩
    refine ⟨⟨by simp only [maxLen]; omega, by show (i + 1) * 72 ≤ _; omega⟩, ?_⟩
    intro jk
    have ih := ih k1 jk
    rw [← hq] at ih
    rw [wrapS hil (by simp only [maxLen]; omega)]
    exact ih

set_option maxHeartbeats 4000000 in
theorem inl_i : ∀ c : Co, Sii c := by
  refine Co.ind fun op n s t ks ih => ?_
  intro us hG hr
  have hz := GoodI_sz hG
  have hGi := GoodI_inl hG
  obtain ⟨g1, cs, rfl, hr⟩ := hr
  have hk : ks.length ≤ 1048576 := szCs_le (by simp only [szC] at hz; omega)
  have hl := fun K => lin_i (K := K) (g := g1) (op := op) (n := n) (s := s) (t := t) ih (GoodI_kid hG) hk hr ks 0 rfl (by omega)
  clear ih
  have hRl := inls_len ks
  have hself : xc (enc (.mk op n s t (inls ks))) = xc (core op n s t 0 ks.length (((encs (inls ks)).drop 0).take (ks.length * 5))) := by
    have := encs_whole (inls ks)
    rw [hRl] at this
    rw [this]
    simp only [enc, hRl]
  have hW : 0 + ks.length * 5 ≤ (encs (inls ks)).length := by rw [encs_len, hRl]; omega
  refine fn_is (fn := Tryd.f34) rfl rfl rfl rfl ?_
  refine sem_in cx0 _ RT [13, 12, 11, 3, 1, 2] fun jk => ?_
  refine hl _ (fun jk j => ?_) jk
  refine ⟨fun h5 => ?_, fun h5 => ?_⟩
  · refine ⟨hW, ?_⟩
    refine ⟨?_, rfl⟩
    have h5' : (op == 5) = false := by simpa using h5
    simp only [inl, inlH, h5']
    exact hself
  · have h5' : op = 5 := by simpa using h5
    subst h5'
    have hl2 : ks.length = 2 := by
      have ha := hG.1.1
      simp only [arOk, Bool.and_eq_true] at ha
      have := eq_of_beq ha.1
      have h2 : arC 5 = 2 := by decide
      omega
    have el : ∀ i, i < ks.length → ∃ o m s' t' kk, kid (inls ks) i = .mk o m s' t' kk ∧ ((encs (inls ks)).drop (i * 5)).take 5 = core o m s' t' 0 kk.length (encs kk) := by
      intro i hi
      have := kid_at' (l := inls ks) (i := i) (by omega)
      cases hk : kid (inls ks) i with
      | mk o m s' t' kk => rw [hk] at this; exact ⟨o, m, s', t', kk, rfl, encs_el' this⟩
    obtain ⟨o0, m0, s0, t0, kk0, q0, w0⟩ := el 0 (by omega)
    obtain ⟨o1, m1, s1, t1, kk1, q1, w1⟩ := el 1 (by omega)
    have c0 : coOp (kid (inls ks) 0) = o0 := by rw [q0]; rfl
    have hR : ∀ c ∈ inls ks, GoodI c := by
      intro c hc
      obtain ⟨i, hi⟩ := List.getElem?_of_mem hc
      have hil : i < ks.length := by have := (List.getElem?_eq_some_iff.1 hi).1; omega
      have h2 := inls_at (List.getElem?_eq_getElem hil)
      rw [hi] at h2
      cases h2
      exact GoodI_inl (GoodI_kid hG _ (List.getElem_mem hil))
    have z0 := GoodI_sz (hR _ (List.mem_of_getElem? (kid_at' (l := inls ks) (i := 0) (by omega))))
    have z1 := GoodI_sz (hR _ (List.mem_of_getElem? (kid_at' (l := inls ks) (i := 1) (by omega))))
    rw [q0] at z0
    rw [q1] at z1
    refine ⟨⟨by omega, by omega⟩, ?_⟩
    refine ⟨o0, m0, s0, t0, 0, kk0.length, encs kk0, ⟨w0, rfl⟩, ?_⟩
    refine ⟨⟨by omega, by omega⟩, ?_⟩
    refine ⟨o1, m1, s1, t1, 0, kk1.length, encs kk1, ⟨w1, rfl⟩, ?_⟩
    refine ⟨isLT5' w0, ?_⟩
    refine ⟨⟨rfl, rfl⟩, ?_⟩
    refine ⟨⟨rfl, rfl⟩, ?_⟩
    refine ⟨⟨by omega, by omega⟩, ?_⟩
    refine ⟨⟨rfl, rfl⟩, ?_⟩
    refine ⟨o1, m1, s1, t1, 0, kk1.length, encs kk1, ⟨w1, rfl⟩, ?_⟩
    refine ⟨⟨rfl, rfl⟩, ?_⟩
    refine ⟨isLT5' w1, ?_⟩
    refine ⟨_, el4' w0, ?_⟩
    refine ⟨inV kk0, ?_⟩
    refine ⟨_, retB (b := smallB o0) (small22 (rdV o0 m0 s0 t0 kk0)), ?_⟩
    refine ⟨fun hsm => ?_, fun hsm => ?_⟩
    · refine ⟨_, el4' w1, ?_⟩
      refine ⟨inV kk1, ?_⟩
      refine ⟨_, el4' w0, ?_⟩
      refine ⟨inV kk0, ?_⟩
      have hp := put43 (.mk o1 m1 s1 t1 kk1) _ s (.mk o0 m0 s0 t0 kk0) _ z1 z0 (rdV o1 m1 s1 t1 kk1) (rdV o0 m0 s0 t0 kk0)
      have e : inl (.mk 5 n s t ks) = putB s (.mk o0 m0 s0 t0 kk0) false (.mk o1 m1 s1 t1 kk1) := by
        rw [inl5, q0, q1, if_pos (show smallB (coOp (.mk o0 m0 s0 t0 kk0)) = true from hsm)]
      rw [e]
      generalize putB s (.mk o0 m0 s0 t0 kk0) false (.mk o1 m1 s1 t1 kk1) = P at hp
      cases P with
      | mk po pn ps pt pk =>
      refine ⟨_, retC hp, ?_⟩
      refine ⟨inV pk, ?_⟩
      refine ⟨?_, rfl⟩
      show _ = xc (core po pn ps pt 0 pk.length (((encs pk).drop 0).take (pk.length * 5)))
      rw [encs_whole]; rfl
    · refine ⟨_, el4' w0, ?_⟩
      refine ⟨inV kk0, ?_⟩
      refine ⟨_, retB (b := pureB o0) (pure25 (rdV o0 m0 s0 t0 kk0)), ?_⟩
      have un := uses41 (name := s) z1 (rdV o1 m1 s1 t1 kk1)
      have e0 : inl (.mk 5 n s t ks) = if pureB o0 && (frC [] (.mk o1 m1 s1 t1 kk1)).count s == 0 then .mk o1 m1 s1 t1 kk1 else .mk 5 n s t (inls ks) := by
        rw [inl5, q0, q1, if_neg (show ¬ smallB (coOp (.mk o0 m0 s0 t0 kk0)) = true from fun hh => by rw [show smallB (coOp (.mk o0 m0 s0 t0 kk0)) = false from hsm] at hh; cases hh)]; rfl
      refine ⟨fun hp => ?_, fun hp => ?_⟩
      · refine ⟨_, el4' w1, ?_⟩
        refine ⟨inV kk1, ?_⟩
        refine ⟨_, retI un, ?_⟩
        have hc : ((((frC [] (Co.mk o1 m1 s1 t1 kk1)).count s : Nat) : Int) == 0) = ((frC [] (Co.mk o1 m1 s1 t1 kk1)).count s == 0) := by
          rw [Bool.eq_iff_iff]; simp only [beq_iff_eq]; omega
        rw [show pureB o0 = true from hp, Bool.true_and] at e0
        refine ⟨fun hu => ?_, fun hu => ?_⟩
        · rw [hc] at hu
          rw [hu, if_pos rfl] at e0
          refine ⟨isLT5' w1, ?_⟩
          refine ⟨5, kk1.length, encs kk1, el4' w1, ?_⟩
          refine ⟨inV kk1, ?_⟩
          refine ⟨?_, rfl⟩
          rw [e0, ← q1]
          exact enc_k' q1
        · rw [hc] at hu
          rw [hu, if_neg (by decide)] at e0
          refine ⟨hW, ?_⟩
          exact ⟨by rw [e0]; exact hself, rfl⟩
      · rw [show pureB o0 = false from hp, Bool.false_and, if_neg (by decide)] at e0
        refine ⟨hW, ?_⟩
        exact ⟨by rw [e0]; exact hself, rfl⟩
end Go.Proofs.YtlkjnlfddadlmaaDoor.V
