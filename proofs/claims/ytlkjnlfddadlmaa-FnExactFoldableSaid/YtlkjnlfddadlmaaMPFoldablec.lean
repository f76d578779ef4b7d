/-
  Cores reckoned ahead: what comes of them. No conditions.
-/
import Derived.Test.YtlkjnlfddadlmaaMPFoldablea
import Derived.Test.YtlkjnlfddadlmaaMPFoldableb
set_option linter.unusedVariables false
set_option linter.unusedSimpArgs false
namespace Go.Proofs.Ytlkjnlfddadlmaa.V
set_option maxRecDepth 100000

abbrev zco : Co := .mk 0 0 [] [] []
def kid (ks : List Co) (i : Nat) : Co := ks.getD i zco
def coOp : Co → Int
  | .mk op _ _ _ _ => op
def coN : Co → Int
  | .mk _ n _ _ _ => n
def coKs : Co → List Co
  | .mk _ _ _ _ ks => ks

def and31 (x : Int) : Int := IntKind.wrap .i64 (BitVec.ofInt IntKind.i64.bits x &&& BitVec.ofInt IntKind.i64.bits 2147483647).toNat
def rnd (x : Int) : Int := if and31 x ≥ 1073741824 then IntKind.wrap .i64 (and31 x - 2147483648) else and31 x

def mathC (op a b : Int) : Int :=
  if op = 8 then rnd (IntKind.wrap .i64 (a + b)) else if op = 9 then rnd (IntKind.wrap .i64 (a - b)) else if op = 10 then rnd (IntKind.wrap .i64 (a * b))
  else if op = 11 then (bit (decide (a < b)) : Int) else (bit (a == b) : Int)

def foldH (op n : Int) (s t : Nm) (ks : List Co) : Co :=
  if (decide (op ≥ 8) && decide (op ≤ 12)) && coOp (kid ks 0) == 1 && coOp (kid ks 1) == 1 then .mk 1 (mathC op (coN (kid ks 0)) (coN (kid ks 1))) [] [] []
  else if op == 7 && coOp (kid ks 0) == 1 then (if coN (kid ks 0) == 0 then kid ks 2 else kid ks 1)
  else if op == 17 && (coOp (kid ks 0) == 1 || coOp (kid ks 0) == 13) then .mk 1 0 [] [] []
  else .mk op n s t ks

mutual
def fold : Co → Co
  | .mk op n s t ks => foldH op n s t (folds ks)
def folds : List Co → List Co
  | [] => []
  | c :: l => fold c :: folds l
end

theorem folds_len : ∀ l : List Co, (folds l).length = l.length
  | [] => rfl
  | c :: l => by simp only [folds, List.length_cons, folds_len l]
theorem folds_at : ∀ {l : List Co} {i : Nat} {c : Co}, l[i]? = some c → (folds l)[i]? = some (fold c)
  | [], i, c, h => by simp at h
  | x :: l, 0, c, h => by
    simp only [List.getElem?_cons_zero, Option.some.injEq] at h
    subst h; rfl
  | x :: l, i + 1, c, h => by
    simp only [List.getElem?_cons_succ] at h
    simpa only [folds, List.getElem?_cons_succ] using folds_at h

/-! ### as many kids as there must be -/
mutual
def arOk : Co → Bool
  | .mk op _ _ _ ks => arC op == (ks.length : Int) && arOks ks
def arOks : List Co → Bool
  | [] => true
  | c :: l => arOk c && arOks l
end
mutual
theorem right_ar : ∀ (env : List Nm) (c : Co), rightC env c = true → arOk c = true
  | env, .mk op n s t ks, h => by
    simp only [rightC, hdOk, Bool.and_eq_true] at h
    simp only [arOk, Bool.and_eq_true]
    exact ⟨h.1.1.1.1.1.1, right_ars op s t env 0 ks h.2⟩
theorem right_ars : ∀ (op : Int) (s t : Nm) (env : List Nm) (i : Nat) (l : List Co), rightL op s t env i l = true → arOks l = true
  | op, s, t, env, i, [], h => rfl
  | op, s, t, env, i, c :: l, h => by
    simp only [rightL, Bool.and_eq_true] at h
    simp only [arOks, Bool.and_eq_true]
    exact ⟨right_ar _ c h.1, right_ars op s t env (i + 1) l h.2⟩
end
theorem arOks_mem : ∀ {l : List Co}, arOks l = true → ∀ c ∈ l, arOk c = true
  | c :: l, h, x, hx => by
    simp only [arOks, Bool.and_eq_true] at h
    rcases List.mem_cons.1 hx with rfl | hx
    · exact h.1
    · exact arOks_mem h.2 x hx

theorem okCo_right {c : Co} (h : okCo c = true) : rightC [] c = true := by
  simp only [okCo, Bool.and_eq_true] at h; exact h.2
theorem okCo_ar {c : Co} (h : okCo c = true) : arOk c = true := right_ar _ _ (okCo_right h)

/-! ### how large, and what numbers -/
theorem wrap_range (n : Int) : -9223372036854775808 ≤ IntKind.wrap .i64 n ∧ IntKind.wrap .i64 n < 9223372036854775808 := by
  have : IntKind.wrap .i64 n = if n % 18446744073709551616 ≥ 9223372036854775808 then n % 18446744073709551616 - 18446744073709551616 else n % 18446744073709551616 := by
    unfold IntKind.wrap
    exact ite_iff (by simp [IntKind.bits, IntKind.signed]) rfl rfl
  rw [this]
  split <;> omega

theorem rnd_range (x : Int) : -9223372036854775808 ≤ rnd x ∧ rnd x < 9223372036854775808 := by
  unfold rnd
  split
  · exact wrap_range _
  · exact wrap_range _

theorem mathC_range (op a b : Int) : -9223372036854775808 ≤ mathC op a b ∧ mathC op a b < 9223372036854775808 := by
  have h : ∀ c : Bool, -9223372036854775808 ≤ ((bit c : Nat) : Int) ∧ ((bit c : Nat) : Int) < 9223372036854775808 := by intro c; cases c <;> simp [bit]
  unfold mathC
  split
  · exact rnd_range _
  · split
    · exact rnd_range _
    · split
      · exact rnd_range _
      · split
        · exact h _
        · exact h _

theorem ndCs_mem : ∀ {l : List Co} {c : Co}, c ∈ l → ndC c ≤ ndCs l
  | x :: l, c, h => by
    simp only [ndCs]
    rcases List.mem_cons.1 h with rfl | h
    · omega
    · have := ndCs_mem h; omega

theorem kid_mem {ks : List Co} {i : Nat} : kid ks i ∈ ks ∨ kid ks i = zco := by
  unfold kid
  rw [List.getD_eq_getElem?_getD]
  cases h : ks[i]? with
  | none => right; rfl
  | some c => left; exact List.mem_of_getElem? h

/-- What holds of a core's kids and of plain ones holds of what is folded. -/
theorem foldH_of {P : Co → Prop} {op n : Int} {s t : Nm} {ks : List Co} (h0 : P zco) (h1 : ∀ n, -9223372036854775808 ≤ n → n < 9223372036854775808 → P (.mk 1 n [] [] [])) (hk : ∀ c ∈ ks, P c) (hs : P (.mk op n s t ks)) : P (foldH op n s t ks) := by
  have hkid : ∀ i, P (kid ks i) := fun i => by
    rcases kid_mem (ks := ks) (i := i) with h | h
    · exact hk _ h
    · rw [h]; exact h0
  unfold foldH
  split
  · exact h1 _ (mathC_range _ _ _).1 (mathC_range _ _ _).2
  · split
    · split
      · exact hkid _
      · exact hkid _
    · split
      · exact h1 0 (by omega) (by omega)
      · exact hs

theorem zco_wf : Wf zco := by simp [Wf, Wfs, maxLen]
mutual
theorem fold_wf : ∀ c : Co, Wf c → Wf (fold c)
  | .mk op n s t ks, h => by
    simp only [Wf] at h
    have hk := folds_wf ks h.2.2.2.2.2
    simp only [fold]
    refine foldH_of zco_wf (fun n h1 h2 => by simp [Wf, Wfs, maxLen, h1, h2]) (Wfs_iff.1 hk) ?_
    simp only [Wf]
    exact ⟨h.1, h.2.1, h.2.2.1, h.2.2.2.1, by rw [folds_len]; exact h.2.2.2.2.1, hk⟩
theorem folds_wf : ∀ l : List Co, Wfs l → Wfs (folds l)
  | [], h => trivial
  | c :: l, h => by
    simp only [Wfs] at h
    simp only [folds, Wfs]
    exact ⟨fold_wf c h.1, folds_wf l h.2⟩
end
mutual
theorem fold_nd : ∀ c : Co, ndC (fold c) ≤ ndC c
  | .mk op n s t ks => by
    have hk := folds_nd ks
    simp only [fold]
    refine foldH_of (P := fun x => ndC x ≤ ndC (.mk op n s t ks)) ?_ (fun n _ _ => ?_) (fun c hc => ?_) ?_
    · simp only [ndC, ndCs]; omega
    · simp only [ndC, ndCs]; omega
    · have := ndCs_mem hc; simp only [ndC]; omega
    · simp only [ndC]; omega
theorem folds_nd : ∀ l : List Co, ndCs (folds l) ≤ ndCs l
  | [] => Nat.le_refl _
  | c :: l => by
    have h1 := fold_nd c
    have h2 := folds_nd l
    simp only [folds, ndCs]; omega
end
theorem szC_kid {l : List Co} {c : Co} (h : c ∈ l) : szC c ≤ szCs l := by have := szCs_mem1 h; omega
mutual
theorem fold_sz : ∀ c : Co, szC (fold c) ≤ szC c
  | .mk op n s t ks => by
    have hk := folds_sz ks
    simp only [fold]
    refine foldH_of (P := fun x => szC x ≤ szC (.mk op n s t ks)) ?_ (fun n _ _ => ?_) (fun c hc => ?_) ?_
    · simp only [szC, szCs, List.length_nil]; omega
    · simp only [szC, szCs, List.length_nil]; omega
    · have := szC_kid hc; simp only [szC]; omega
    · simp only [szC]; omega
theorem folds_sz : ∀ l : List Co, szCs (folds l) ≤ szCs l
  | [] => Nat.le_refl _
  | c :: l => by
    have h1 := fold_sz c
    have h2 := folds_sz l
    simp only [folds, szCs]; omega
end
mutual
theorem szM_nd : ∀ c : Co, szM c = 4 * ndC c
  | .mk op n s t ks => by simp only [szM, ndC, szMs_nd ks]; omega
theorem szMs_nd : ∀ l : List Co, szMs l = 4 * ndCs l
  | [] => rfl
  | c :: l => by simp only [szMs, ndCs, szM_nd c, szMs_nd l]; omega
end
end Go.Proofs.Ytlkjnlfddadlmaa.V

namespace Go.Proofs.Ytlkjnlfddadlmaa.V
set_option maxRecDepth 100000

theorem round_s (x : Int) : RT 116 [xi x] [] = some (xi (rnd x), []) := by
  refine fn_is (fn := Try.f116) rfl rfl rfl rfl ?_
  refine ⟨fun h => ?_, fun h => ?_⟩
  · have h : and31 x > 1073741823 := of_decide_eq_true h
    exact ⟨xi_eq (by unfold rnd; rw [if_pos (by omega)]; rfl), rfl⟩
  · have h : ¬ and31 x > 1073741823 := of_decide_eq_false h
    exact ⟨xi_eq (by unfold rnd; rw [if_neg (by omega)]; rfl), rfl⟩

theorem math_s (op a b : Int) : RT 84 [xi op, xi a, xi b] [] = some (xi (mathC op a b), []) := by
  refine fn_is (fn := Try.f84) rfl rfl rfl rfl ?_
  refine ⟨fun h1 => ?_, fun h1 => ⟨fun h2 => ?_, fun h2 => ⟨fun h3 => ?_, fun h3 => ⟨fun h4 => ?_, fun h4 => ?_⟩⟩⟩⟩
  · have h1 := eq_of_beq h1
    exact ⟨_, retI (round_s _), xi_eq (by unfold mathC; rw [if_pos h1]), rfl⟩
  · have h1 := ne_of_beq_false h1; have h2 := eq_of_beq h2
    exact ⟨_, retI (round_s _), xi_eq (by unfold mathC; rw [if_neg h1, if_pos h2]), rfl⟩
  · have h1 := ne_of_beq_false h1; have h2 := ne_of_beq_false h2; have h3 := eq_of_beq h3
    exact ⟨_, retI (round_s _), xi_eq (by unfold mathC; rw [if_neg h1, if_neg h2, if_pos h3]), rfl⟩
  · have h1 := ne_of_beq_false h1; have h2 := ne_of_beq_false h2; have h3 := ne_of_beq_false h3; have h4 := eq_of_beq h4
    exact ⟨_, retI (bit57 _), xi_eq (by unfold mathC; rw [if_neg h1, if_neg h2, if_neg h3, if_pos h4]), rfl⟩
  · have h1 := ne_of_beq_false h1; have h2 := ne_of_beq_false h2; have h3 := ne_of_beq_false h3; have h4 := ne_of_beq_false h4
    exact ⟨_, retI (bit57 _), xi_eq (by unfold mathC; rw [if_neg h1, if_neg h2, if_neg h3, if_neg h4]), rfl⟩

theorem isM_s (op : Int) : RT 83 [xi op] [] = some (xb (decide (op ≥ 8) && decide (op ≤ 12)), []) := by
  refine fn_is (fn := Try.f83) rfl rfl rfl rfl ?_
  exact ⟨_, retB (in50 _ _ _), rfl, rfl⟩

/-! ### parts of what is one's own -/
theorem encs_el {l : List Co} {i : Nat} {op n : Int} {s t : Nm} {ks : List Co} (h : l[i]? = some (.mk op n s t ks)) : ((encs l).drop (i * 5)).take 5 = core op n s t 0 ks.length (encs ks) := by
  induction l generalizing i with
  | nil => simp at h
  | cons c l ih =>
    cases i with
    | zero =>
      simp only [List.getElem?_cons_zero, Option.some.injEq] at h
      subst h
      simp only [encs, enc, Nat.zero_mul, List.drop_zero]
      rfl
    | succ i =>
      simp only [List.getElem?_cons_succ] at h
      have e : (i + 1) * 5 = (enc c).length + i * 5 := by rw [enc_len]; omega
      simp only [encs]
      rw [e, List.drop_length_add_append]
      exact ih h

theorem take1 {α : Type} {l : List α} {a b c d e : α} {i : Nat} (h : (l.drop i).take 5 = [a, b, c, d, e]) : (l.drop i).take 1 = [a] ∧ (l.drop (i + 1)).take 1 = [b] ∧ (l.drop (i + 2)).take 1 = [c] ∧ (l.drop (i + 3)).take 1 = [d] ∧ (l.drop (i + 4)).take 1 = [e] := by
  have : ∃ m, l.drop i = a :: b :: c :: d :: e :: m := by
    generalize l.drop i = q at h
    match q, h with
    | x1 :: x2 :: x3 :: x4 :: x5 :: m, h => simp at h; obtain ⟨rfl, rfl, rfl, rfl, rfl⟩ := h; exact ⟨m, rfl⟩
  obtain ⟨m, hm⟩ := this
  simp only [← List.drop_drop, hm]
  simp

def Sfs (c : Co) : Prop := ∀ us, szC c ≤ 1048576 → arOk c = true → Rd c us → RT 51 [xc us] [] = some (xc (enc (fold c)), [])

theorem lfs {ks : List Co} {cs : List TU} {g : Nat} {op n : Int} {s t : List UInt8} {K : Ex → StA → Prop} (H : ∀ c ∈ ks, Sfs c) (hz : szCs ks ≤ 1048576) (ha : arOks ks = true) (hr : Rds ks cs) :
    ∀ (l : List Co) (i : Nat), ks.drop i = l → i ≤ ks.length →
    (∀ jk j, K (.exit 0) ⟨[(4, xi j), (3, .box () ((core op n s t 0 ks.length (encs (folds ks))).map .t)), (1, .box () ((core op n s t (g + 1) ks.length cs).map .t)), (2, .box () (zC.map .t))], jk, []⟩) →
    ∀ jk, sem cx0 51 RT (.loop (lp Try.f51 0)) ⟨[(4, xi i), (3, .box () ((core op n s t 0 i (encs ((folds ks).take i))).map .t)), (1, .box () ((core op n s t (g + 1) ks.length cs).map .t)), (2, .box () (zC.map .t))], jk, []⟩ K := by
  have hk := szCs_le hz
  have hRl := folds_len ks
  refine drop_ind ?_ ?_
  · intro k1 jk
    refine loop_step cx0 _ RT [4, 3, 1, 2] ⟨fun h => (lt_no h (by omega)).elim, fun h => ?_⟩
    intro jk
    have := k1 jk ks.length
    rw [← hRl, List.take_length]
    rw [hRl]
    exact this
  · intro i c l hi hil ih k1 jk
    have hm := List.mem_of_getElem? hi
    have hc := H c hm
    have hzc := szCs_mem hz hm
    have hac := arOks_mem ha c hm
    have hq := enc_put (i := i) (folds_at hi)
    cases c with
    | mk op' n' s' t' kk =>
    obtain ⟨g', cs', e1, e2⟩ := Rds_get hr hi
    have hti : ((folds ks).take i).length = i := by rw [List.length_take]; omega
    refine loop_step cx0 _ RT [4, 3, 1, 2] ⟨fun h => ?_, fun h => (lt_yes h (by omega)).elim⟩
    refine ⟨⟨by omega, by omega⟩, ?_⟩
    refine ⟨op', n', s', t', g' + 1, kk.length, cs', ⟨e1, rfl⟩, ?_⟩
    have hc2 := hc (core op' n' s' t' (g' + 2) kk.length (retags cs')) hzc hac ⟨_, _, rfl, e2.retag⟩
    generalize fold (.mk op' n' s' t' kk) = P at hc2 hq
    cases P with
    | mk po pn ps pt pk =>
    refine ⟨_, retC hc2, ?_⟩
    refine ⟨by rw [encs_len, hti]; omega, ?_⟩
    refine ⟨⟨by simp only [maxLen]; omega, by show (i + 1) * 72 ≤ _; omega⟩, ?_⟩
    intro jk
    have ih := ih k1 jk
    rw [← hq] at ih
    rw [wrapS hil (by simp only [maxLen]; omega)]
    exact ih

theorem kid_at {l : List Co} {i : Nat} (h : i < l.length) : l[i]? = some (kid l i) := by
  unfold kid
  rw [List.getD_eq_getElem?_getD, List.getElem?_eq_getElem h]; rfl

theorem fH1 {op n : Int} {s t : Nm} {R : List Co} (h1 : (decide (op ≥ 8) && decide (op ≤ 12)) = true) (h2 : (coOp (kid R 0) == 1) = true) (h3 : (coOp (kid R 1) == 1) = true) : foldH op n s t R = .mk 1 (mathC op (coN (kid R 0)) (coN (kid R 1))) [] [] [] := by
  unfold foldH; rw [h1, h2, h3]; rfl
theorem fH2 {op n : Int} {s t : Nm} {R : List Co} (h1 : ((decide (op ≥ 8) && decide (op ≤ 12)) && coOp (kid R 0) == 1 && coOp (kid R 1) == 1) = false) (h2 : (op == 7) = true) (h3 : (coOp (kid R 0) == 1) = true) : foldH op n s t R = if coN (kid R 0) == 0 then kid R 2 else kid R 1 := by
  unfold foldH; rw [h1, h2, h3]; rfl
theorem fH3 {op n : Int} {s t : Nm} {R : List Co} (h1 : ((decide (op ≥ 8) && decide (op ≤ 12)) && coOp (kid R 0) == 1 && coOp (kid R 1) == 1) = false) (h2 : (op == 7 && coOp (kid R 0) == 1) = false) (h3 : (op == 17) = true) (h4 : (coOp (kid R 0) == 1 || coOp (kid R 0) == 13) = true) : foldH op n s t R = .mk 1 0 [] [] [] := by
  unfold foldH; rw [h1, h2, h3, h4]; rfl
theorem fH4 {op n : Int} {s t : Nm} {R : List Co} (h1 : ((decide (op ≥ 8) && decide (op ≤ 12)) && coOp (kid R 0) == 1 && coOp (kid R 1) == 1) = false) (h2 : (op == 7 && coOp (kid R 0) == 1) = false) (h3 : (op == 17 && (coOp (kid R 0) == 1 || coOp (kid R 0) == 13)) = false) : foldH op n s t R = .mk op n s t R := by
  unfold foldH; rw [h1, h2, h3]; rfl
theorem ar2 {op : Int} {k : Nat} (h : (decide (op ≥ 8) && decide (op ≤ 12)) = true) (ha : arC op = k) : k = 2 := by
  simp only [Bool.and_eq_true, decide_eq_true_eq] at h
  have : op = 8 ∨ op = 9 ∨ op = 10 ∨ op = 11 ∨ op = 12 := by omega
  rcases this with rfl | rfl | rfl | rfl | rfl <;> simp [arC] at ha <;> omega
theorem ar7 {op : Int} {k : Nat} (h : (op == 7) = true) (ha : arC op = k) : k = 3 := by
  have := eq_of_beq h
  subst this; simp [arC] at ha; omega
theorem ar17 {op : Int} {k : Nat} (h : (op == 17) = true) (ha : arC op = k) : k = 1 := by
  have := eq_of_beq h
  subst this; simp [arC] at ha; omega
theorem enc_k {R : List Co} {i : Nat} {o m : Int} {s t : Nm} {kk : List Co} (h : kid R i = .mk o m s t kk) : xc (enc (kid R i)) = xc (core o m s t 0 kk.length (((encs kk).drop 0).take (kk.length * 5))) := by
  rw [h, encs_whole]; rfl

theorem el4 {l : List TU} {o m : Int} {s t : Nm} {i k : Nat} {cs : List TU} (h : (l.drop i).take 5 = core o m s t 0 k cs) : l[i + 4]? = some (.sl () 0 5 k cs) := by
  have : ((l.drop i).take 5)[4]? = some (.sl () 0 5 k cs) := by rw [h]; rfl
  rwa [List.getElem?_take_of_lt (by omega), List.getElem?_drop] at this

theorem isLT5 {l : List TU} {o m : Int} {s t : Nm} {i k : Nat} {cs : List TU} (h : (l.drop i).take 5 = core o m s t 0 k cs) : isLT l[i + 4]? = true := by
  have : ((l.drop i).take 5)[4]? = some (.sl () 0 5 k cs) := by rw [h]; rfl
  rw [List.getElem?_take_of_lt (by omega), List.getElem?_drop] at this
  rw [this]; rfl

set_option maxHeartbeats 4000000 in
theorem fold_s : ∀ c : Co, Sfs c := by
  refine Co.ind fun op n s t ks ih => ?_
  intro us hz ha hr
  obtain ⟨g1, cs, rfl, hr⟩ := hr
  have hz' : szCs ks ≤ 1048576 := by simp only [szC] at hz; omega
  simp only [arOk, Bool.and_eq_true] at ha
  obtain ⟨ha1, ha2⟩ := ha
  have ha1 : arC op = ks.length := eq_of_beq ha1
  have hl := fun K => lfs (K := K) (g := g1) (op := op) (n := n) (s := s) (t := t) ih hz' ha2 hr ks 0 rfl (by omega)
  clear ih
  have hRl := folds_len ks
  show RT _ _ _ = some (xc (enc (foldH op n s t (folds ks))), [])
  generalize folds ks = R at hl hRl
  have el : ∀ i, i < ks.length → ∃ o m s' t' kk, kid R i = .mk o m s' t' kk ∧ ((encs R).drop (i * 5)).take 5 = core o m s' t' 0 kk.length (encs kk) := by
    intro i hi
    have := kid_at (l := R) (i := i) (by omega)
    cases hk : kid R i with
    | mk o m s' t' kk => rw [hk] at this; exact ⟨o, m, s', t', kk, rfl, encs_el this⟩
  have hW : 0 + ks.length * 5 ≤ (encs R).length := by rw [encs_len, hRl]; omega
  have hself : xc (enc (.mk op n s t R)) = xc (core op n s t 0 ks.length (((encs R).drop 0).take (ks.length * 5))) := by
    have := encs_whole R
    rw [hRl] at this
    rw [this]
    simp only [enc, hRl]
  refine fn_is (fn := Try.f51) rfl rfl rfl rfl ?_
  refine sem_in cx0 _ RT [4, 3, 1, 2] fun jk => ?_
  refine hl _ (fun jk j => ?_) jk
  refine ⟨_, retB (isM_s op), ?_⟩
  have c0 : ∀ {o m s' t' kk}, kid R 0 = .mk o m s' t' kk → coOp (kid R 0) = o ∧ coN (kid R 0) = m := fun h => by rw [h]; exact ⟨rfl, rfl⟩
  have c1 : ∀ {o m s' t' kk}, kid R 1 = .mk o m s' t' kk → coOp (kid R 1) = o ∧ coN (kid R 1) = m := fun h => by rw [h]; exact ⟨rfl, rfl⟩
  refine ⟨fun h1 => ?_, fun h1 => ?_⟩
  · have hk2 := ar2 h1 ha1
    obtain ⟨o0, m0, s0, t0, kk0, q0, w0⟩ := el 0 (by omega)
    obtain ⟨o1, m1, s1, t1, kk1, q1, w1⟩ := el 1 (by omega)
    refine ⟨⟨by omega, by omega⟩, ?_⟩
    refine ⟨o0, ⟨(take1 w0).1, rfl⟩, ?_⟩
    refine ⟨fun h2 => ?_, fun h2 => ?_⟩
    · refine ⟨⟨by omega, by omega⟩, ?_⟩
      refine ⟨o1, ⟨(take1 w1).1, rfl⟩, ?_⟩
      refine ⟨fun h3 => ?_, fun h3 => ?_⟩
      · refine ⟨⟨by omega, by omega⟩, ?_⟩
        refine ⟨m0, ⟨(take1 w0).2.1, rfl⟩, ?_⟩
        refine ⟨⟨by omega, by omega⟩, ?_⟩
        refine ⟨m1, ⟨(take1 w1).2.1, rfl⟩, ?_⟩
        refine ⟨_, retI (math_s _ _ _), ?_⟩
        refine ⟨Nat.le_refl _, ?_⟩
        refine ⟨?_, rfl⟩
        rw [fH1 h1 (by rw [(c0 q0).1]; exact h2) (by rw [(c1 q1).1]; exact h3), (c0 q0).2, (c1 q1).2]
        rfl
      · have hnm : ((decide (op ≥ 8) && decide (op ≤ 12)) && coOp (kid R 0) == 1 && coOp (kid R 1) == 1) = false := by rw [(c1 q1).1, h3]; simp
        have n7 : (op == 7) = true → False := fun h => by have := ar7 h ha1; omega
        have n17 : (op == 17) = true → False := fun h => by have := ar17 h ha1; omega
        refine ⟨fun h => (n7 h).elim, fun h7 => ?_⟩
        refine ⟨fun h => (n7 h).elim, fun _ => ?_⟩
        refine ⟨fun h => (n17 h).elim, fun h17 => ?_⟩
        refine ⟨hW, ?_⟩
        exact ⟨by rw [fH4 hnm (by rw [h7]; rfl) (by rw [h17]; rfl)]; exact hself, rfl⟩
    · have hnm : ((decide (op ≥ 8) && decide (op ≤ 12)) && coOp (kid R 0) == 1 && coOp (kid R 1) == 1) = false := by rw [(c0 q0).1, h2]; simp
      have n7 : (op == 7) = true → False := fun h => by have := ar7 h ha1; omega
      have n17 : (op == 17) = true → False := fun h => by have := ar17 h ha1; omega
      refine ⟨fun h => (n7 h).elim, fun h7 => ?_⟩
      refine ⟨fun h => (n7 h).elim, fun _ => ?_⟩
      refine ⟨fun h => (n17 h).elim, fun h17 => ?_⟩
      refine ⟨hW, ?_⟩
      exact ⟨by rw [fH4 hnm (by rw [h7]; rfl) (by rw [h17]; rfl)]; exact hself, rfl⟩
  · have hnm : ((decide (op ≥ 8) && decide (op ≤ 12)) && coOp (kid R 0) == 1 && coOp (kid R 1) == 1) = false := by rw [h1]; rfl
    refine ⟨fun h4 => ?_, fun h4 => ?_⟩
    · have hk3 := ar7 h4 ha1
      obtain ⟨o0, m0, s0, t0, kk0, q0, w0⟩ := el 0 (by omega)
      refine ⟨⟨by omega, by omega⟩, ?_⟩
      refine ⟨o0, ⟨(take1 w0).1, rfl⟩, ?_⟩
      refine ⟨fun h5 => ?_, fun h5 => ?_⟩
      · refine ⟨⟨by omega, by omega⟩, ?_⟩
        refine ⟨m0, ⟨(take1 w0).2.1, rfl⟩, ?_⟩
        have hf := fH2 (n := n) (s := s) (t := t) hnm h4 (by rw [(c0 q0).1]; exact h5)
        rw [(c0 q0).2] at hf
        refine ⟨fun h6 => ?_, fun h6 => ?_⟩
        · obtain ⟨o1, m1, s1, t1, kk1, q1, w1⟩ := el 1 (by omega)
          refine ⟨⟨by omega, by omega⟩, ?_⟩
          refine ⟨o1, m1, s1, t1, 0, kk1.length, encs kk1, ⟨w1, rfl⟩, ?_⟩
          refine ⟨isLT5 w1, ?_⟩
          refine ⟨5, kk1.length, encs kk1, el4 w1, ?_⟩
          refine ⟨inV kk1, ?_⟩
          refine ⟨?_, rfl⟩
          have h6 : (m0 == 0) = false := by simpa using h6
          rw [hf, h6]
          exact enc_k q1
        · refine ⟨fun h7 => ?_, fun h7 => (Bool.noConfusion (h4.symm.trans h7))⟩
          refine ⟨⟨by omega, by omega⟩, ?_⟩
          refine ⟨o0, ⟨(take1 w0).1, rfl⟩, ?_⟩
          refine ⟨fun h8 => ?_, fun h8 => (Bool.noConfusion (h5.symm.trans h8))⟩
          obtain ⟨o2, m2, s2, t2, kk2, q2, w2⟩ := el 2 (by omega)
          refine ⟨⟨by omega, by omega⟩, ?_⟩
          refine ⟨o2, m2, s2, t2, 0, kk2.length, encs kk2, ⟨w2, rfl⟩, ?_⟩
          refine ⟨isLT5 w2, ?_⟩
          refine ⟨5, kk2.length, encs kk2, el4 w2, ?_⟩
          refine ⟨inV kk2, ?_⟩
          refine ⟨?_, rfl⟩
          have h6 : (m0 == 0) = true := by simpa using h6
          rw [hf, h6]
          exact enc_k q2
      · have hn2 : (op == 7 && coOp (kid R 0) == 1) = false := by rw [(c0 q0).1, h5]; simp
        have n17 : (op == 17) = true → False := fun h => by have := ar17 h ha1; omega
        refine ⟨fun _ => ?_, fun h7 => (Bool.noConfusion (h4.symm.trans h7))⟩
        refine ⟨⟨by omega, by omega⟩, ?_⟩
        refine ⟨o0, ⟨(take1 w0).1, rfl⟩, ?_⟩
        refine ⟨fun h8 => (Bool.noConfusion (h8.symm.trans h5)), fun _ => ?_⟩
        refine ⟨fun h => (n17 h).elim, fun h17 => ?_⟩
        refine ⟨hW, ?_⟩
        exact ⟨by rw [fH4 hnm hn2 (by rw [h17]; rfl)]; exact hself, rfl⟩
    · have hn2 : (op == 7 && coOp (kid R 0) == 1) = false := by rw [h4]; rfl
      refine ⟨fun h7 => (Bool.noConfusion (h7.symm.trans h4)), fun _ => ?_⟩
      refine ⟨fun h17 => ?_, fun h17 => ?_⟩
      · have hk1 := ar17 h17 ha1
        obtain ⟨o0, m0, s0, t0, kk0, q0, w0⟩ := el 0 (by omega)
        refine ⟨⟨by omega, by omega⟩, ?_⟩
        refine ⟨o0, ⟨(take1 w0).1, rfl⟩, ?_⟩
        refine ⟨fun h8 => ?_, fun h8 => ?_⟩
        · refine ⟨Nat.le_refl _, ?_⟩
          exact ⟨by rw [fH3 hnm hn2 h17 (by rw [(c0 q0).1, h8]; rfl)]; rfl, rfl⟩
        · refine ⟨⟨by omega, by omega⟩, ?_⟩
          refine ⟨o0, ⟨(take1 w0).1, rfl⟩, ?_⟩
          refine ⟨fun h9 => ?_, fun h9 => ?_⟩
          · refine ⟨Nat.le_refl _, ?_⟩
            exact ⟨by rw [fH3 hnm hn2 h17 (by rw [(c0 q0).1, h8, h9]; rfl)]; rfl, rfl⟩
          · refine ⟨hW, ?_⟩
            exact ⟨by rw [fH4 hnm hn2 (by rw [(c0 q0).1, h8, h9]; simp)]; exact hself, rfl⟩
      · refine ⟨hW, ?_⟩
        exact ⟨by rw [fH4 hnm hn2 (by rw [h17]; rfl)]; exact hself, rfl⟩
end Go.Proofs.Ytlkjnlfddadlmaa.V

namespace Go.Proofs.Ytlkjnlfddadlmaa.V
set_option maxRecDepth 100000

theorem num_i {op n : Int} {s t : Nm} {R : List Co} {i : Nat} (hi : i < R.length) (hR : R.length ≤ maxLen) : RT 86 [xi i, .c (.ptr () (.ex 0) [] 0)] [(core op n s t 0 R.length (encs R)).map .t] = some (xb (coOp (kid R i) == 1), [(core op n s t 0 R.length (encs R)).map .t]) := by
  have hk := kid_at (l := R) (i := i) hi
  cases h : kid R i with
  | mk o m s' t' kk =>
  rw [h] at hk
  have hel := encs_el hk
  refine fn_isE (fn := Try.f86) rfl rfl rfl rfl ?_
  have hW : 0 + R.length * 5 ≤ (encs R).length := by rw [encs_len]; omega
  refine ⟨⟨by omega, by omega⟩, ?_⟩
  refine ⟨o, ⟨(by show List.take 1 (List.drop (0 + ((i : Int)).toNat * 5 + 0) (encs R)) = _; rw [show 0 + ((i : Int)).toNat * 5 + 0 = i * 5 by omega]; exact (take1 hel).1), rfl⟩, ?_⟩
  exact ⟨rfl, rfl⟩

theorem put_end {A Z P : List TU} {n : Nat} (hA : A.length = n) (hZ : Z.length = P.length) : ((A ++ Z).take n ++ P) ++ (A ++ Z).drop (n + P.length) = A ++ P := by
  rw [List.take_append_of_le_length (by omega), List.take_of_length_le (by omega), List.drop_of_length_le (by rw [List.length_append]; omega), List.append_nil]

def Sfi (c : Co) : Prop := ∀ us, szC c ≤ 1048576 → arOk c = true → Rd c us → RT 55 [xc us] [] = some (xc (enc (fold c)), [])

theorem lfi {ks : List Co} {cs : List TU} {g : Nat} {op n : Int} {s t : List UInt8} {K : Ex → StA → Prop} (H : ∀ c ∈ ks, Sfi c) (hz : szCs ks ≤ 1048576) (ha : arOks ks = true) (hr : Rds ks cs) :
    ∀ (l : List Co) (i : Nat), ks.drop i = l → i ≤ ks.length →
    (∀ jk j, K (.exit 0) ⟨[(12, xi j), (11, xi ks.length), (10, xl (g + 1) 5 ks.length cs), (3, .box () ((core op n s t 0 ks.length (encs (folds ks))).map .t)), (1, .box () ((core op n s t (g + 1) ks.length cs).map .t)), (2, .box () (zC.map .t))], jk, []⟩) →
    ∀ jk, sem cx0 55 RT (.loop (lp Try.f55 0)) ⟨[(12, xi i), (11, xi ks.length), (10, xl (g + 1) 5 ks.length cs), (3, .box () ((core op n s t 0 i (encs ((folds ks).take i))).map .t)), (1, .box () ((core op n s t (g + 1) ks.length cs).map .t)), (2, .box () (zC.map .t))], jk, []⟩ K := by
  have hk := szCs_le hz
  have hRl := folds_len ks
  refine drop_ind ?_ ?_
  · intro k1 jk
    refine loop_step cx0 _ RT [12, 11, 10, 3, 1, 2] ⟨fun h => (lt_no h (by omega)).elim, fun h => ?_⟩
    intro jk
    have := k1 jk ks.length
    rw [← hRl, List.take_length]
    rw [hRl]
    exact this
  · intro i c l hi hil ih k1 jk
    have hm := List.mem_of_getElem? hi
    have hc := H c hm
    have hzc := szCs_mem hz hm
    have hac := arOks_mem ha c hm
    have hq := enc_put (i := i) (folds_at hi)
    cases c with
    | mk op' n' s' t' kk =>
    obtain ⟨g', cs', e1, e2⟩ := Rds_get hr hi
    have hti : ((folds ks).take i).length = i := by rw [List.length_take]; omega
    refine loop_step cx0 _ RT [12, 11, 10, 3, 1, 2] ⟨fun h => ?_, fun h => (lt_yes h (by omega)).elim⟩
    refine ⟨⟨by omega, by omega⟩, ?_⟩
    refine ⟨op', n', s', t', g' + 1, kk.length, cs', ⟨e1, rfl⟩, ?_⟩
    have hc2 := hc (core op' n' s' t' (g' + 2) kk.length (retags cs')) hzc hac ⟨_, _, rfl, e2.retag⟩
    generalize fold (.mk op' n' s' t' kk) = P at hc2 hq
    cases P with
    | mk po pn ps pt pk =>
    refine ⟨_, retC hc2, ?_⟩
    refine ⟨by rw [encs_len, hti]; omega, ?_⟩
    refine ⟨⟨by simp only [maxLen]; omega, by show (i + 1) * 72 ≤ _; omega⟩, ?_⟩
    refine ⟨⟨by omega, by omega⟩, ?_⟩
    have hA : (((encs ((folds ks).take i)).drop 0).take (i * 5)).length = i * 5 := by
      rw [List.drop_zero, List.length_take, encs_len, hti]; omega
    refine ⟨by simp only [List.length_append, hA, List.length_cons, List.length_nil]; omega, ?_⟩
    have hx := put_end (A := ((encs ((folds ks).take i)).drop 0).take (i * 5)) (Z := zC) (P := enc (.mk po pn ps pt pk)) (n := 0 + (i : Int).toNat * 5) (by omega) (by rw [enc_len]; rfl)
    have hl5 : (((encs ((folds ks).take i)).drop 0).take (i * 5) ++ enc (.mk po pn ps pt pk)).length = (i + 1) * 5 := by rw [List.length_append, hA, enc_len]; omega
    have hx2 : ((((((encs ((folds ks).take i)).drop 0).take (i * 5) ++ zC).take (0 + (i : Int).toNat * 5) ++ enc (.mk po pn ps pt pk)) ++ (((encs ((folds ks).take i)).drop 0).take (i * 5) ++ zC).drop (0 + (i : Int).toNat * 5 + (enc (.mk po pn ps pt pk)).length)).drop 0).take ((i + 1) * 5) = encs ((folds ks).take (i + 1)) := by
      rw [hx, List.drop_zero, List.take_of_length_le (by omega), hq]
    intro jk
    refine ⟨?_, ?_⟩
    · show 0 + (i + 1) * 5 ≤ ((((encs ((folds ks).take i)).drop 0).take (i * 5) ++ zC).take (0 + (i : Int).toNat * 5) ++ enc (.mk po pn ps pt pk) ++ (((encs ((folds ks).take i)).drop 0).take (i * 5) ++ zC).drop (0 + (i : Int).toNat * 5 + (enc (.mk po pn ps pt pk)).length)).length
      rw [hx, hl5]; omega
    intro jk
    have ih := ih k1 jk
    rw [← hx2] at ih
    rw [← wrapS hil (by simp only [maxLen]; omega)] at ih
    exact ih

/-! ### what two ints come to -/
abbrev vcs (n : Int) : List CU := .t (ii 1) :: .t (ii n) :: (cx0.ty 114).zs.drop 2
abbrev xvl (n : Int) : XU := .box () (vcs n)

theorem int_i (n : Int) : RT 121 [xi n] [] = some (xvl n, []) := by
  refine fn_is (fn := Try.f121) rfl rfl rfl rfl ?_
  exact ⟨rfl, rfl⟩
theorem retV {g : Nat} {xs : List XU} {n : Int} (h : RT g xs [] = some (xvl n, [])) : Ret RT g xs (xvl n) := ⟨_, h, rfl⟩
theorem flag_i (b : Bool) : RT 123 [xb b] [] = some (xvl (bit b), []) := by
  refine fn_is (fn := Try.f123) rfl rfl rfl rfl ?_
  refine ⟨fun h => ?_, fun h => ?_⟩
  · subst h
    exact ⟨_, retV (int_i _), rfl, rfl⟩
  · subst h
    exact ⟨_, retV (int_i _), rfl, rfl⟩
theorem round_i (x : Int) : RT 122 [xi x] [] = some (xi (rnd x), []) := by
  refine fn_is (fn := Try.f122) rfl rfl rfl rfl ?_
  refine ⟨fun h => ?_, fun h => ?_⟩
  · have h : and31 x ≥ 1073741824 := of_decide_eq_true h
    exact ⟨xi_eq (by unfold rnd; rw [if_pos h]; rfl), rfl⟩
  · have h : ¬ and31 x ≥ 1073741824 := of_decide_eq_false h
    exact ⟨xi_eq (by unfold rnd; rw [if_neg h]; rfl), rfl⟩
theorem rec_i (op a b : Int) : RT 87 [xi op, xi a, xi b] [] = some (xvl (mathC op a b), []) := by
  refine fn_is (fn := Try.f87) rfl rfl rfl rfl ?_
  have xe : ∀ {m k : Int}, m = k → xvl m = xvl k := fun h => by rw [h]
  refine ⟨fun h1 => ?_, fun h1 => ⟨fun h2 => ?_, fun h2 => ⟨fun h3 => ?_, fun h3 => ⟨fun h4 => ?_, fun h4 => ?_⟩⟩⟩⟩
  · have h1 := eq_of_beq h1
    exact ⟨_, retI (round_i _), _, retV (int_i _), xe (by unfold mathC; rw [if_pos h1]), rfl⟩
  · have h1 := ne_of_beq_false h1; have h2 := eq_of_beq h2
    exact ⟨_, retI (round_i _), _, retV (int_i _), xe (by unfold mathC; rw [if_neg h1, if_pos h2]), rfl⟩
  · have h1 := ne_of_beq_false h1; have h2 := ne_of_beq_false h2; have h3 := eq_of_beq h3
    exact ⟨_, retI (round_i _), _, retV (int_i _), xe (by unfold mathC; rw [if_neg h1, if_neg h2, if_pos h3]), rfl⟩
  · have h1 := ne_of_beq_false h1; have h2 := ne_of_beq_false h2; have h3 := ne_of_beq_false h3; have h4 := eq_of_beq h4
    exact ⟨_, retV (flag_i _), xe (by unfold mathC; rw [if_neg h1, if_neg h2, if_neg h3, if_pos h4]), rfl⟩
  · have h1 := ne_of_beq_false h1; have h2 := ne_of_beq_false h2; have h3 := ne_of_beq_false h3; have h4 := ne_of_beq_false h4
    exact ⟨_, retV (flag_i _), xe (by unfold mathC; rw [if_neg h1, if_neg h2, if_neg h3, if_neg h4]), rfl⟩
end Go.Proofs.Ytlkjnlfddadlmaa.V
