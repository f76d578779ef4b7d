/-
  Where a name stands innermost; cores that are alike, plain; the first of these walked. No conditions.
-/
import Derived.Test.YtlkjnlfddadlmaaDoorMPInlineCoreb
import Derived.Test.YtlkjnlfddadlmaaDoorMPInlineCorea
set_option linter.unusedVariables false
set_option linter.unusedSimpArgs false
namespace Go.Proofs.YtlkjnlfddadlmaaDoor.V
set_option maxRecDepth 100000

def plF (l : List Nm) (s : Nm) : Nat → Int
  | 0 => -1
  | k + 1 => if (l[k]? == some s) then k else plF l s k

def varOk (x y : List Nm) (s s' : Nm) : Bool := plF x s x.length == plF y s' y.length && !(decide (plF x s x.length < 0) && !(s == s'))

mutual
def alC : Co → Co → List Nm → List Nm → Bool
  | .mk op n s t ks, b, x, y => match b with
    | .mk op' n' s' t' ks' => (op == op' && n == n' && ks.length == ks'.length) && (!(op == 2) || varOk x y s s') && alL op s t op' s' t' 0 ks ks' x y
def alL (op : Int) (s t : Nm) (op' : Int) (s' t' : Nm) : Nat → List Co → List Co → List Nm → List Nm → Bool
  | _, [], _, _, _ => true
  | _, _ :: _, [], _, _ => true
  | i, c :: l, c' :: l', x, y => alC c c' (x ++ envS op s t i) (y ++ envS op' s' t' i) && alL op s t op' s' t' (i + 1) l l' x y
end

theorem wrapM {k : Nat} (h : k ≤ 8388608) : IntKind.wrap .i64 (((k + 1 : Nat) : Int) - 1) = (k : Int) := by rw [wrap64 (by omega) (by omega)]; omega
theorem wrapM0 : IntKind.wrap .i64 (((0 : Nat) : Int) - 1) = -1 := by rw [wrap64 (by omega) (by omega)]; rfl

theorem lpl_i {l : List Nm} {s : Nm} {g : Nat} {K : Ex → StA → Prop} (hk : l.length ≤ 8388608) : ∀ (k : Nat), k ≤ l.length →
    (∀ jk j, plF l s k = -1 → K (.exit 0) ⟨[(5, xi j), (0, xl (g + 1) 1 l.length (nm l)), (1, xs s), (4, xi 0)], jk, []⟩) →
    (∀ jk j, K .ret ⟨[(5, xi j), (0, xl (g + 1) 1 l.length (nm l)), (1, xs s), (4, xi (plF l s k))], jk, []⟩) →
    ∀ jk, sem cx0 47 RT (.loop (lp Tryd.f47 0)) ⟨[(5, xi (IntKind.wrap .i64 ((k : Int) - 1))), (0, xl (g + 1) 1 l.length (nm l)), (1, xs s), (4, xi 0)], jk, []⟩ K := by
  intro k
  induction k with
  | zero =>
    intro _ k1 k2 jk
    rw [wrapM0]
    refine loop_step cx0 _ RT [5, 0, 1, 4] ⟨fun h => by simp at h, fun h => ?_⟩
    exact fun jk => k1 jk _ rfl
  | succ k ih =>
    intro hkl k1 k2 jk
    have hi : l[k]? = some l[k] := List.getElem?_eq_getElem (by omega)
    rw [wrapM (by omega)]
    refine loop_step cx0 _ RT [5, 0, 1, 4] ⟨fun h => ?_, fun h => by simp at h⟩
    refine ⟨⟨by omega, by omega⟩, ?_⟩
    refine ⟨l[k], ⟨nm_at hi, rfl⟩, ?_⟩
    refine ⟨fun h2 => ?_, fun h2 => ?_⟩
    · have heq : l[k] = s := by simpa using h2
      have e : plF l s (k + 1) = k := by simp only [plF, hi]; simp [heq]
      rw [e] at k2
      exact fun jk => k2 jk _
    · have hne : ¬ l[k] = s := by simpa using h2
      have e : plF l s (k + 1) = plF l s k := by simp only [plF, hi]; simp [hne]
      rw [e] at k1 k2
      exact fun jk => ih (by omega) k1 k2 jk

theorem pl_i {l : List Nm} {s : Nm} {g : Nat} {cs : List TU} (hc : cs = nm l) (hk : l.length ≤ 8388608) : RT 47 [xl (g + 1) 1 l.length cs, xs s] [] = some (xi (plF l s l.length), []) := by
  subst hc
  refine fn_is (fn := Tryd.f47) rfl rfl rfl rfl ?_
  refine sem_in cx0 _ RT [5, 0, 1, 4] fun jk => ?_
  refine lpl_i hk l.length (Nat.le_refl _) (fun jk j h => ?_) (fun jk j => ?_) jk
  · rw [h]; exact ⟨rfl, rfl⟩
  · exact ⟨rfl, rfl⟩
end Go.Proofs.YtlkjnlfddadlmaaDoor.V

namespace Go.Proofs.YtlkjnlfddadlmaaDoor.V
set_option maxRecDepth 100000

end Go.Proofs.YtlkjnlfddadlmaaDoor.V

namespace Go.Proofs.YtlkjnlfddadlmaaDoor.V
set_option maxRecDepth 100000

theorem dgs_dec : ∀ (m k : Nat) (out : List UInt8), 0 < k → k < 10 ^ m → dgs m k out = Lib.decDigits k ++ out
  | 0, k, out, h, hk => by simp at hk; omega
  | m + 1, k, out, h, hk => by
    rw [dgs_step h, Lib.decDigits]
    split
    · next h10 =>
      rw [show k / 10 = 0 by omega, show k % 10 = k by omega]
      cases m <;> simp [dgs, Nat.toUInt8]
    · next h10 =>
      rw [dgs_dec m (k / 10) _ (by omega) (by rw [Nat.pow_succ] at hk; omega)]
      simp [Nat.toUInt8]

theorem td10 (n : Int) : (0 ≤ n ∧ n.tdiv 10 = n / 10 ∧ n.tmod 10 = n % 10) ∨ (n < 0 ∧ n.tdiv 10 = -((-n) / 10) ∧ n.tmod 10 = -((-n) % 10)) := by
  rcases (by omega : n < 0 ∨ 0 ≤ n) with h | h
  · right
    obtain ⟨k, rfl⟩ : ∃ k : Int, n = -k := ⟨-n, by omega⟩
    refine ⟨h, ?_, ?_⟩
    · rw [Int.neg_tdiv, Int.tdiv_eq_ediv_of_nonneg (by omega), Int.neg_neg]
    · rw [Int.neg_tmod, Int.tmod_eq_emod_of_nonneg (by omega), Int.neg_neg]
  · exact .inl ⟨h, Int.tdiv_eq_ediv_of_nonneg h, Int.tmod_eq_emod_of_nonneg h⟩

theorem lDg {b : Bool} {K : Ex → StA → Prop} : ∀ (m : Nat) (n : Int) (out : List UInt8), n.natAbs < 10 ^ m → -9223372036854775808 ≤ n → n ≤ 9223372036854775807 → out.length + m ≤ 40 →
    (∀ jk, K (.exit 0) ⟨[(0, xi 0), (4, xs (dgs m n.natAbs out)), (3, xb b), (2, xs [])], jk, []⟩) →
    ∀ jk, sem cx0 19 RT (.loop (lp Tryd.f19 0)) ⟨[(0, xi n), (4, xs out), (3, xb b), (2, xs [])], jk, []⟩ K
  | m, n, out, hk, h0, h1, hl, k1, jk => by
    refine loop_step cx0 _ RT [0, 4, 3, 2] ⟨fun h => ?_, fun h => ?_⟩
    · refine ⟨by decide, ?_⟩
      have hm : ∃ m', m = m' + 1 := by
        cases m with
        | zero => simp at hk h; omega
        | succ m => exact ⟨m, rfl⟩
      obtain ⟨m, rfl⟩ := hm
      have hn0 : 0 < n.natAbs := by simp at h; omega
      have ht := td10 n
      have e1 : IntKind.wrap .i64 (n.tdiv 10) = n.tdiv 10 := wrap64 (by omega) (by omega)
      have e3 : (n.tdiv 10).natAbs = n.natAbs / 10 := by omega
      have hk' : (n.tdiv 10).natAbs < 10 ^ m := by rw [e3]; rw [Nat.pow_succ] at hk; omega
      rw [dgs_step hn0, ← e3] at k1
      have ih := fun jk => lDg m (n.tdiv 10) ((48 + n.natAbs % 10).toUInt8 :: out) hk' (by omega) (by omega) (by simp only [List.length_cons]; omega) k1 jk
      refine ⟨fun hd => ?_, fun hd => ?_⟩
      · have hd := of_decide_eq_true hd
        refine ⟨_, rfl, ?_⟩
        refine ⟨by simp only [List.length_cons, List.length_nil, maxLen]; omega, ?_⟩
        refine ⟨by decide, ?_⟩
        intro jk
        have e2 : (IntKind.wrap .u8 (IntKind.wrap .i64 (48 + IntKind.wrap .i64 (0 - n.tmod 10)))).toNat.toUInt8 = (48 + n.natAbs % 10).toUInt8 := by
          rw [wrap64 (n := 0 - n.tmod 10) (by omega) (by omega), show (48 + (0 - n.tmod 10)) = ((48 + n.natAbs % 10 : Nat) : Int) by omega, wrap64 (by omega) (by omega), wrap8 (by omega)]
          rfl
        have ih := ih jk
        rw [← e2, ← e1] at ih
        exact ih
      · have hd := of_decide_eq_false hd
        refine ⟨_, rfl, ?_⟩
        refine ⟨by simp only [List.length_cons, List.length_nil, maxLen]; omega, ?_⟩
        refine ⟨by decide, ?_⟩
        intro jk
        have e2 : (IntKind.wrap .u8 (IntKind.wrap .i64 (48 + n.tmod 10))).toNat.toUInt8 = (48 + n.natAbs % 10).toUInt8 := by
          rw [show (48 + n.tmod 10) = ((48 + n.natAbs % 10 : Nat) : Int) by omega, wrap64 (by omega) (by omega), wrap8 (by omega)]
          rfl
        have ih := ih jk
        rw [← e2, ← e1] at ih
        exact ih
    · have h : n = 0 := by simp at h; omega
      subst h
      intro jk
      have := k1 jk
      cases m <;> exact this

theorem itoa_len (n : Int) (h0 : -9223372036854775808 ≤ n) (h1 : n ≤ 9223372036854775807) : (Lib.itoa n).length ≤ 21 := by
  have key : ∀ k : Nat, 0 < k → k < 10 ^ 20 → (Lib.decDigits k).length ≤ 20 := fun k h hk => by
    have := dgs_len 20 k []
    rw [dgs_dec 20 k [] h hk, List.append_nil] at this
    simpa using this
  unfold Lib.itoa
  have hp : (10 : Nat) ^ 20 = 100000000000000000000 := rfl
  split
  · have := key n.natAbs (by omega) (by omega)
    simp only [List.length_cons]; omega
  · rcases Nat.eq_zero_or_pos n.toNat with h | h
    · rw [h, Lib.decDigits]; simp
    · have := key n.toNat h (by omega); omega

theorem retX {g : Nat} {a : List XU} {s : List UInt8} (h : RT g a [] = some (xs s, [])) : Ret RT g a (xs s) := ⟨_, h, rfl⟩

theorem dig_s {n : Int} (h0 : -9223372036854775808 ≤ n) (h1 : n ≤ 9223372036854775807) : RT 19 [xi n] [] = some (xs (Lib.itoa n), []) := by
  refine fn_is (fn := Tryd.f19) rfl rfl rfl rfl ?_
  refine ⟨fun h => ?_, fun h => ?_⟩
  · have h : n = 0 := by simpa using h
    subst h
    exact ⟨by rw [Lib.itoa, if_neg (by decide), Lib.decDigits, dif_pos (by decide)]; rfl, rfl⟩
  · have h : n ≠ 0 := by simpa using h
    refine sem_in cx0 _ RT [0, 4, 3, 2] fun jk => ?_
    refine lDg 20 n [] (by have : (10 : Nat) ^ 20 = 100000000000000000000 := rfl; omega) h0 h1 (by simp) (fun jk => ?_) jk
    have hp : (10 : Nat) ^ 20 = 100000000000000000000 := rfl
    have e := dgs_dec 20 n.natAbs [] (by omega) (by omega)
    have el := dgs_len 20 n.natAbs []
    refine ⟨fun hb => ?_, fun hb => ?_⟩
    · have hb := of_decide_eq_true hb
      refine ⟨by simp only [List.length_cons, List.length_nil] at el ⊢; simp only [maxLen]; omega, ?_⟩
      refine ⟨?_, rfl⟩
      rw [Lib.itoa, if_pos hb, e, List.append_nil]
      rfl
    · have hb := of_decide_eq_false hb
      refine ⟨?_, rfl⟩
      rw [Lib.itoa, if_neg hb, e, List.append_nil, show n.natAbs = n.toNat by omega]
      rfl

theorem dig_i {n : Int} (h0 : -9223372036854775808 ≤ n) (h1 : n ≤ 9223372036854775807) : RT 20 [xi n] [] = some (xs (Lib.itoa n), []) := by
  refine fn_is (fn := Tryd.f20) rfl rfl rfl rfl ?_
  have e : RT 35 [xi n] [] = some (xs (Lib.itoa n), []) := RR_orc (h := orcItoa) rfl (by simp only [orcItoa, orcIS]; rw [if_pos ⟨h0, h1⟩])
  refine ⟨_, ⟨_, e, rfl⟩, ?_⟩
  exact ⟨rfl, rfl⟩
end Go.Proofs.YtlkjnlfddadlmaaDoor.V

namespace Go.Proofs.YtlkjnlfddadlmaaDoor.V
set_option maxRecDepth 100000

abbrev Env := List (Nm × Nm)
def prs : Env → List TU
  | [] => []
  | p :: l => .str p.1 :: .str p.2 :: prs l

theorem prs_retag : ∀ l, retags (prs l) = prs l
  | [] => rfl
  | s :: l => by simp only [prs, retags, retag, prs_retag l]
theorem prs_down : ∀ l, downs (prs l) = some (prs l)
  | [] => rfl
  | s :: l => by simp only [prs, downs, down, prs_down l, Option.bind_some, Option.map_some]
theorem prs_len : ∀ l, (prs l).length = l.length * 2
  | [] => rfl
  | s :: l => by simp only [prs, List.length_cons, prs_len l]; omega
theorem prs_append : ∀ l m, prs (l ++ m) = prs l ++ prs m
  | [], m => rfl
  | s :: l, m => by simp only [List.cons_append, prs, prs_append l m]
theorem prs_whole (l : Env) : ((prs l).drop 0).take (l.length * 2) = prs l := by rw [List.drop_zero, List.take_of_length_le (by rw [prs_len]; omega)]
theorem prs_at : ∀ {l : Env} {i : Nat} {p : Nm × Nm}, l[i]? = some p → ∃ r, (prs l).drop (i * 2) = .str p.1 :: .str p.2 :: r
  | [], i, s, h => by simp at h
  | x :: l, 0, s, h => by
    simp only [List.getElem?_cons_zero, Option.some.injEq] at h
    subst h; exact ⟨_, rfl⟩
  | x :: l, i + 1, s, h => by
    simp only [List.getElem?_cons_succ] at h
    have := prs_at h
    rw [show (i + 1) * 2 = i * 2 + 2 by omega]; exact this

def lkF (l : Env) (s : Nm) : Nat → Nm
  | 0 => s
  | k + 1 => match l[k]? with
    | some p => if p.1 == s then p.2 else lkF l s k
    | none => lkF l s k

def vn (k : Nat) : Nm := 118 :: Lib.itoa k

theorem retP {g : Nat} {xs : List XU} {n : Nat} {l : Env} (h : RT g xs [] = some (xl 0 2 n (prs l), [])) : Ret RT g xs (xl 0 2 n (prs l)) := ⟨_, h, by simp only [downX, downC, down, prs_down, Option.map_some]; rfl⟩

theorem llk {l : Env} {s : Nm} {g : Nat} {K : Ex → StA → Prop} (hk : l.length ≤ 8388608) : ∀ (k : Nat), k ≤ l.length →
    (∀ jk j, lkF l s k = s → K (.exit 0) ⟨[(5, xi j), (0, xl (g + 1) 2 l.length (prs l)), (1, xs s), (4, xs [])], jk, []⟩) →
    (∀ jk j, K .ret ⟨[(5, xi j), (0, xl (g + 1) 2 l.length (prs l)), (1, xs s), (4, xs (lkF l s k))], jk, []⟩) →
    ∀ jk, sem cx0 42 RT (.loop (lp Tryd.f42 0)) ⟨[(5, xi (IntKind.wrap .i64 ((k : Int) - 1))), (0, xl (g + 1) 2 l.length (prs l)), (1, xs s), (4, xs [])], jk, []⟩ K := by
  intro k
  induction k with
  | zero =>
    intro _ k1 k2 jk
    rw [wrapM0]
    refine loop_step cx0 _ RT [5, 0, 1, 4] ⟨fun h => by simp at h, fun h => ?_⟩
    exact fun jk => k1 jk _ rfl
  | succ k ih =>
    intro hkl k1 k2 jk
    have hi : l[k]? = some l[k] := List.getElem?_eq_getElem (by omega)
    generalize l[k] = p at hi
    obtain ⟨r, hr⟩ := prs_at hi
    rw [wrapM (by omega)]
    refine loop_step cx0 _ RT [5, 0, 1, 4] ⟨fun h => ?_, fun h => by simp at h⟩
    refine ⟨⟨by omega, by omega⟩, ?_⟩
    have hd : (prs l).drop ((k : Int).toNat * 2) = .str p.1 :: .str p.2 :: r := hr
    refine ⟨by show 0 ≤ _; omega, ?_⟩
    refine ⟨p.1, ⟨?_, rfl⟩, ?_⟩
    · show (((prs l).drop ((k : Int).toNat * 2)).drop 0).take 1 = _
      rw [hd]; rfl
    refine ⟨fun h2 => ?_, fun h2 => ?_⟩
    · have heq : p.1 = s := by simpa using h2
      have e : lkF l s (k + 1) = p.2 := by simp only [lkF, hi]; simp [heq]
      rw [e] at k2
      refine ⟨⟨by omega, by omega⟩, ?_⟩
      refine ⟨by show 1 ≤ ((prs l).drop ((k : Int).toNat * 2)).length; rw [hd]; simp, ?_⟩
      refine ⟨p.2, ⟨?_, rfl⟩, ?_⟩
      · show (((prs l).drop ((k : Int).toNat * 2)).drop 1).take 1 = _
        rw [hd]; rfl
      exact fun jk => k2 jk _
    · have hne : ¬ p.1 = s := by simpa using h2
      have e : lkF l s (k + 1) = lkF l s k := by simp only [lkF, hi]; simp [hne]
      rw [e] at k1 k2
      exact fun jk => ih (by omega) k1 k2 jk

theorem look_s {l : Env} {s : Nm} {g : Nat} {cs : List TU} (hc : cs = prs l) (hk : l.length ≤ 8388608) : RT 42 [xl (g + 1) 2 l.length cs, xs s] [] = some (xs (lkF l s l.length), []) := by
  subst hc
  refine fn_is (fn := Tryd.f42) rfl rfl rfl rfl ?_
  refine sem_in cx0 _ RT [5, 0, 1, 4] fun jk => ?_
  refine llk (g := g) hk l.length (Nat.le_refl _) (fun jk j h => ?_) (fun jk j => ?_) jk
  · exact ⟨by rw [h]; rfl, rfl⟩
  · exact ⟨rfl, rfl⟩

theorem new_s {k : Nat} (hk : k ≤ 8388608) : RT 43 [.c (.ptr () (.ex 0) [] 0)] [[.t (.int .i64 k)]] = some (xs (vn k), [[.t (.int .i64 ((k + 1 : Nat) : Int))]]) := by
  refine fn_isE (fn := Tryd.f43) rfl rfl rfl rfl ?_
  have e1 : IntKind.wrap .i64 ((k : Int) + 1) = ((k + 1 : Nat) : Int) := by rw [wrap64 (by omega) (by omega)]; omega
  have e2 : IntKind.wrap .i64 (((k + 1 : Nat) : Int) - 1) = (k : Int) := by rw [wrap64 (by omega) (by omega)]; omega
  have hl := itoa_len k (by omega) (by omega)
  refine ⟨_, retX (dig_s (n := IntKind.wrap .i64 (IntKind.wrap .i64 ((k : Int) + 1) - 1)) (by rw [e1, e2]; omega) (by rw [e1, e2]; omega)), ?_⟩
  rw [e1, e2]
  refine ⟨by simp only [List.length_cons, List.length_nil, maxLen]; omega, ?_⟩
  exact ⟨rfl, rfl⟩

theorem xl2_eq {n n' : Nat} {cs cs' : List TU} (h1 : n = n') (h2 : cs = cs') : xl 0 2 n cs = xl 0 2 n' cs' := by rw [h1, h2]

theorem with_s {l : Env} {g : Nat} {a b : Nm} {cs : List TU} (hc : cs = prs l) (hk : l.length ≤ 4194304) : RT 44 [xl (g + 1) 2 l.length cs, xs a, xs b] [] = some (xl 0 2 (l ++ [(a, b)]).length (prs (l ++ [(a, b)])), []) := by
  subst hc
  refine fn_is (fn := Tryd.f44) rfl rfl rfl rfl ?_
  refine ⟨⟨by simp only [maxLen]; omega, by show (0 + l.length) * 32 ≤ _; omega⟩, ?_⟩
  refine ⟨⟨by simp only [maxLen]; omega, by show (_ + 1) * 32 ≤ _; omega⟩, ?_⟩
  have e : ([] ++ prs l ++ [.str a, .str b] : List TU) = prs (l ++ [(a, b)]) := by rw [List.nil_append, prs_append]; rfl
  refine ⟨?_, ?_⟩
  · refine Nat.le_trans ?_ (Nat.le_of_eq (congrArg List.length e.symm))
    rw [prs_len, List.length_append]; show 0 + (0 + l.length + 1) * 2 ≤ (l.length + 1) * 2; omega
  refine ⟨?_, rfl⟩
  refine xl2_eq (by simp) ?_
  refine Eq.trans ?_ (congrArg (fun x => (List.drop 0 x).take ((0 + l.length + 1) * 2)) e.symm)
  exact (take_all (by rw [prs_len, List.length_append]; show (l.length + 1) * 2 ≤ _; omega)).symm
end Go.Proofs.YtlkjnlfddadlmaaDoor.V

namespace Go.Proofs.YtlkjnlfddadlmaaDoor.V
set_option maxRecDepth 100000

def cnN (op : Int) : Nat := if op == 3 || op == 5 then 1 else if op == 6 then 2 else 0
def newS (op : Int) (s : Nm) (k : Nat) (env : Env) : Nm := if op == 2 then lkF env s env.length else if op == 3 || op == 5 || op == 6 then vn k else []
def newT (op : Int) (k : Nat) : Nm := if op == 6 then vn (k + 1) else []
def cenv (op : Int) (s t s' t' : Nm) (i : Nat) (env : Env) : Env := env ++ (envS op s t i).zip (envS op s' t' i)

mutual
def can : Nat → Env → Co → Nat × Co
  | k, env, .mk op n s t ks =>
    ((cans op s t (newS op s k env) (newT op k) env 0 (k + cnN op) ks).1, .mk op n (newS op s k env) (newT op k) (cans op s t (newS op s k env) (newT op k) env 0 (k + cnN op) ks).2)
def cans : Int → Nm → Nm → Nm → Nm → Env → Nat → Nat → List Co → Nat × List Co
  | _, _, _, _, _, _, _, k, [] => (k, [])
  | op, s, t, s', t', env, i, k, c :: l =>
    ((cans op s t s' t' env (i + 1) (can k (cenv op s t s' t' i env) c).1 l).1, (can k (cenv op s t s' t' i env) c).2 :: (cans op s t s' t' env (i + 1) (can k (cenv op s t s' t' i env) c).1 l).2)
end

theorem cnN_le (op : Int) : cnN op ≤ 2 := by unfold cnN; split <;> (try split) <;> omega

mutual
theorem can_le : ∀ (k : Nat) (env : Env) (c : Co), (can k env c).1 ≤ k + 2 * szC c + 2
  | k, env, .mk op n s t ks => by
    have := cans_le op s t (newS op s k env) (newT op k) env 0 (k + cnN op) ks
    have := cnN_le op
    simp only [can, szC]; omega
theorem cans_le : ∀ (op : Int) (s t s' t' : Nm) (env : Env) (i k : Nat) (l : List Co), (cans op s t s' t' env i k l).1 ≤ k + 2 * szCs l
  | _, _, _, _, _, _, _, k, [] => by simp [cans, szCs]
  | op, s, t, s', t', env, i, k, c :: l => by
    have h1 := can_le k (cenv op s t s' t' i env) c
    have h2 := cans_le op s t s' t' env (i + 1) (can k (cenv op s t s' t' i env) c).1 l
    simp only [cans, szCs]; omega
end

theorem cenv_len {op : Int} {s t s' t' : Nm} {i : Nat} {env : Env} : (cenv op s t s' t' i env).length ≤ env.length + 2 := by
  have := envS_le (op := op) (s := s) (t := t) (i := i)
  simp only [cenv, List.length_append, List.length_zip]; omega

theorem downs_t {a b : List TU} (h : downs a = some b) : downCs (a.map .t) = some (b.map .t) := by
  induction a generalizing b with
  | nil => simp only [downs, Option.some.injEq] at h; subst h; rfl
  | cons x a ih =>
    simp only [downs, Option.bind_eq_some_iff, Option.map_eq_some_iff] at h
    obtain ⟨y, h1, z, h2, rfl⟩ := h
    simp only [List.map_cons, downCs, downC, h1, Option.map_some, ih h2, Option.bind_some]

theorem retCE {g : Nat} {a : List XU} {e : List (List CU)} {c : Co} {k : Nat} (h : RT g a e = some (xc (enc c), [[.t (.int .i64 k)]])) : RetE RT g a e (xc (enc c)) [[.t (.int .i64 k)]] := by
  refine ⟨_, h, ?_, rfl⟩
  simp only [xc, downX, downs_t (enc_down c), Option.map_some]

def S27 (c : Co) : Prop := ∀ us (k : Nat) (env : Env) g cs, arOk c = true → szC c ≤ 1048576 → k + 2 * szC c + 2 ≤ 4194300 → env.length + 2 * szC c ≤ 4194300 → cs = prs env → Rd c us →
  RT 24 [.c (.ptr () (.ex 0) [] 0), xc us, xl (g + 1) 2 env.length cs] [[.t (.int .i64 k)]] = some (xc (enc (can k env c).2), [[.t (.int .i64 (can k env c).1)]])

theorem enc_snoc {done : List Co} {i : Nat} {c : Co} (h : done.length = i) : ((encs done).drop 0).take (i * 5) ++ enc c = encs (done ++ [c]) := by
  rw [take_all (by rw [encs_len]; omega)]
  simp only [encs_append, encs, List.append_nil]

set_option maxHeartbeats 4000000 in
theorem lcn {ks : List Co} {cs : List TU} {g g2 g8 g9 : Nat} {op n : Int} {s t s' t' : Nm} {env E8 E9 : Env} {K : Ex → StA → Prop} (H : ∀ c ∈ ks, S27 c) (hz : szCs ks ≤ 1048576) (ha : arOks ks = true) (hr : Rds ks cs)
    (h8 : g8 = 0 ∨ g8 = g2 + 1) (h9 : g9 = 0 ∨ g9 = g2 + 1) (hE : ∀ i, i < ks.length → (if i = 0 then E8 else E9) = cenv op s t s' t' i env) (hen : env.length + 2 * szCs ks ≤ 4194300) :
    ∀ (l : List Co) (i : Nat), ks.drop i = l → i ≤ ks.length → ∀ (k : Nat) (done : List Co), done.length = i → k + 2 * szCs l ≤ 4194300 →
    (∀ jk j, K (.exit 1) ⟨[(10, xi j), (7, .box () ((core op n s' t' 0 ks.length (encs (done ++ (cans op s t s' t' env i k l).2))).map .t)), (0, .c (.ptr () (.ex 0) [] 0)), (8, xl g8 2 E8.length (prs E8)), (9, xl g9 2 E9.length (prs E9)), (4, .box () ((core op n s t (g + 1) ks.length cs).map .t)), (6, .box () (zC.map .t))], jk, [[.t (.int .i64 (cans op s t s' t' env i k l).1)]]⟩) →
    ∀ jk, sem cx0 24 RT (.loop (lp Tryd.f24 0)) ⟨[(10, xi i), (7, .box () ((core op n s' t' 0 i (encs done)).map .t)), (0, .c (.ptr () (.ex 0) [] 0)), (8, xl g8 2 E8.length (prs E8)), (9, xl g9 2 E9.length (prs E9)), (4, .box () ((core op n s t (g + 1) ks.length cs).map .t)), (6, .box () (zC.map .t))], jk, [[.t (.int .i64 k)]]⟩ K := by
  have hk := szCs_le hz
  refine drop_ind ?_ ?_
  · intro k done hd hkk k1 jk
    refine loop_step cx0 _ RT [10, 7, 0, 8, 9, 4, 6] ⟨fun h => (lt_no h (by omega)).elim, fun h => ?_⟩
    intro jk
    have := k1 jk ks.length
    rw [show cans op s t s' t' env ks.length k [] = (k, []) by simp only [cans], List.append_nil] at this
    exact this
  · intro i c l hi hil ih k done hd hkk k1 jk
    have hm := List.mem_of_getElem? hi
    have hzc := szCs_mem hz hm
    have hz1 := szCs_mem1 hm
    have hac := arOks_mem ha c hm
    cases c with
    | mk op' n' s'' t'' kk =>
    obtain ⟨g', cs', e1, e2⟩ := Rds_get hr hi
    have hcl := cenv_len (op := op) (s := s) (t := t) (s' := s') (t' := t') (i := i) (env := env)
    have hEi := hE i hil
    have hc2 := fun E (gg : Nat) (hEE : E = cenv op s t s' t' i env) => H _ hm (core op' n' s'' t'' (g' + 2) kk.length (retags cs')) k E gg _ hac hzc (by simp only [szCs] at hkk; omega) (by rw [hEE]; omega) (prs_retag E) ⟨_, _, rfl, e2.retag⟩
    have hb := can_le k (cenv op s t s' t' i env) (.mk op' n' s'' t'' kk)
    simp only [cans] at k1
    simp only [szCs] at hkk
    generalize hP : can k (cenv op s t s' t' i env) (.mk op' n' s'' t'' kk) = P at k1 hb
    obtain ⟨k', po, pn, ps, pt, pk⟩ := P
    simp only at k1 hb
    have hq := enc_snoc (c := .mk po pn ps pt pk) hd
    have hdl : (done ++ [Co.mk po pn ps pt pk]).length = i + 1 := by simp [hd]
    have e0 : done ++ (Co.mk po pn ps pt pk :: (cans op s t s' t' env (i + 1) k' l).2) = (done ++ [Co.mk po pn ps pt pk]) ++ (cans op s t s' t' env (i + 1) k' l).2 := by simp
    rw [e0] at k1
    have ih := ih k' _ hdl (by omega) k1
    rw [← hq] at ih
    have hc3 := fun E (gg : Nat) (hEE : E = cenv op s t s' t' i env) => (by have h := hc2 E gg hEE; rw [hEE, hP] at h; rw [hEE]; exact h : RT 24 [.c (.ptr () (.ex 0) [] 0), xc (core op' n' s'' t'' (g' + 2) kk.length (retags cs')), xl (gg + 1) 2 E.length (retags (prs E))] [[.t (.int .i64 k)]] = some (xc (enc (.mk po pn ps pt pk)), [[.t (.int .i64 k')]]))
    clear hc2
    have hc4 := fun E (hEE : E = cenv op s t s' t' i env) => (by rw [prs_whole]; exact hc3 E 0 hEE : RT 24 [.c (.ptr () (.ex 0) [] 0), xc (core op' n' s'' t'' (g' + 2) kk.length (retags cs')), xl 1 2 E.length (retags (((prs E).drop 0).take (E.length * 2)))] [[.t (.int .i64 k)]] = some (xc (enc (.mk po pn ps pt pk)), [[.t (.int .i64 k')]]))
    rcases h8 with rfl | rfl
    · rcases h9 with rfl | rfl
      · refine loop_step cx0 _ RT [10, 7, 0, 8, 9, 4, 6] ⟨fun h => ?_, fun h => (lt_yes h (by omega)).elim⟩
        refine ⟨fun h0 => ?_, fun h0 => ?_⟩
        · refine ⟨⟨by omega, by omega⟩, ?_⟩
          refine ⟨op', n', s'', t'', g' + 1, kk.length, cs', ⟨e1, rfl⟩, ?_⟩
          have hi0 : i = 0 := by have := eq_of_beq h0; omega
          rw [if_pos hi0] at hEi
          refine ⟨by rw [prs_len]; omega, ?_⟩
          refine ⟨_, _, retCE (hc4 E8 hEi), ?_⟩
          refine ⟨⟨rfl, rfl⟩, ?_⟩
          refine ⟨⟨rfl, rfl⟩, ?_⟩
          refine ⟨by rw [encs_len, hd]; omega, ?_⟩
          refine ⟨⟨by simp only [maxLen]; omega, by show (i + 1) * 72 ≤ _; omega⟩, ?_⟩
          intro jk
          have ih := ih jk
          rw [wrapS hil (by simp only [maxLen]; omega)]
          exact ih
        · refine ⟨⟨by omega, by omega⟩, ?_⟩
          refine ⟨op', n', s'', t'', g' + 1, kk.length, cs', ⟨e1, rfl⟩, ?_⟩
          have hi0 : ¬ i = 0 := by have := ne_of_beq_false h0; omega
          rw [if_neg hi0] at hEi
          refine ⟨by rw [prs_len]; omega, ?_⟩
          refine ⟨_, _, retCE (hc4 E9 hEi), ?_⟩
          refine ⟨⟨rfl, rfl⟩, ?_⟩
          refine ⟨⟨rfl, rfl⟩, ?_⟩
          refine ⟨by rw [encs_len, hd]; omega, ?_⟩
          refine ⟨⟨by simp only [maxLen]; omega, by show (i + 1) * 72 ≤ _; omega⟩, ?_⟩
          intro jk
          have ih := ih jk
          rw [wrapS hil (by simp only [maxLen]; omega)]
          exact ih
      · refine loop_step cx0 _ RT [10, 7, 0, 8, 9, 4, 6] ⟨fun h => ?_, fun h => (lt_yes h (by omega)).elim⟩
        refine ⟨fun h0 => ?_, fun h0 => ?_⟩
        · refine ⟨⟨by omega, by omega⟩, ?_⟩
          refine ⟨op', n', s'', t'', g' + 1, kk.length, cs', ⟨e1, rfl⟩, ?_⟩
          have hi0 : i = 0 := by have := eq_of_beq h0; omega
          rw [if_pos hi0] at hEi
          refine ⟨by rw [prs_len]; omega, ?_⟩
          refine ⟨_, _, retCE (hc4 E8 hEi), ?_⟩
          refine ⟨⟨rfl, rfl⟩, ?_⟩
          refine ⟨⟨rfl, rfl⟩, ?_⟩
          refine ⟨by rw [encs_len, hd]; omega, ?_⟩
          refine ⟨⟨by simp only [maxLen]; omega, by show (i + 1) * 72 ≤ _; omega⟩, ?_⟩
          intro jk
          have ih := ih jk
          rw [wrapS hil (by simp only [maxLen]; omega)]
          exact ih
        · refine ⟨⟨by omega, by omega⟩, ?_⟩
          refine ⟨op', n', s'', t'', g' + 1, kk.length, cs', ⟨e1, rfl⟩, ?_⟩
          have hi0 : ¬ i = 0 := by have := ne_of_beq_false h0; omega
          rw [if_neg hi0] at hEi
          refine ⟨_, _, retCE (hc3 E9 (g2 + 1) hEi), ?_⟩
          refine ⟨⟨rfl, rfl⟩, ?_⟩
          refine ⟨⟨rfl, rfl⟩, ?_⟩
          refine ⟨by rw [encs_len, hd]; omega, ?_⟩
          refine ⟨⟨by simp only [maxLen]; omega, by show (i + 1) * 72 ≤ _; omega⟩, ?_⟩
          intro jk
          have ih := ih jk
          rw [wrapS hil (by simp only [maxLen]; omega)]
          exact ih
    · rcases h9 with rfl | rfl
      · refine loop_step cx0 _ RT [10, 7, 0, 8, 9, 4, 6] ⟨fun h => ?_, fun h => (lt_yes h (by omega)).elim⟩
        refine ⟨fun h0 => ?_, fun h0 => ?_⟩
        · refine ⟨⟨by omega, by omega⟩, ?_⟩
          refine ⟨op', n', s'', t'', g' + 1, kk.length, cs', ⟨e1, rfl⟩, ?_⟩
          have hi0 : i = 0 := by have := eq_of_beq h0; omega
          rw [if_pos hi0] at hEi
          refine ⟨_, _, retCE (hc3 E8 (g2 + 1) hEi), ?_⟩
          refine ⟨⟨rfl, rfl⟩, ?_⟩
          refine ⟨⟨rfl, rfl⟩, ?_⟩
          refine ⟨by rw [encs_len, hd]; omega, ?_⟩
          refine ⟨⟨by simp only [maxLen]; omega, by show (i + 1) * 72 ≤ _; omega⟩, ?_⟩
          intro jk
          have ih := ih jk
          rw [wrapS hil (by simp only [maxLen]; omega)]
          exact ih
        · refine ⟨⟨by omega, by omega⟩, ?_⟩
          refine ⟨op', n', s'', t'', g' + 1, kk.length, cs', ⟨e1, rfl⟩, ?_⟩
          have hi0 : ¬ i = 0 := by have := ne_of_beq_false h0; omega
          rw [if_neg hi0] at hEi
          refine ⟨by rw [prs_len]; omega, ?_⟩
          refine ⟨_, _, retCE (hc4 E9 hEi), ?_⟩
          refine ⟨⟨rfl, rfl⟩, ?_⟩
          refine ⟨⟨rfl, rfl⟩, ?_⟩
          refine ⟨by rw [encs_len, hd]; omega, ?_⟩
          refine ⟨⟨by simp only [maxLen]; omega, by show (i + 1) * 72 ≤ _; omega⟩, ?_⟩
          intro jk
          have ih := ih jk
          rw [wrapS hil (by simp only [maxLen]; omega)]
          exact ih
      · refine loop_step cx0 _ RT [10, 7, 0, 8, 9, 4, 6] ⟨fun h => ?_, fun h => (lt_yes h (by omega)).elim⟩
        refine ⟨fun h0 => ?_, fun h0 => ?_⟩
        · refine ⟨⟨by omega, by omega⟩, ?_⟩
          refine ⟨op', n', s'', t'', g' + 1, kk.length, cs', ⟨e1, rfl⟩, ?_⟩
          have hi0 : i = 0 := by have := eq_of_beq h0; omega
          rw [if_pos hi0] at hEi
          refine ⟨_, _, retCE (hc3 E8 (g2 + 1) hEi), ?_⟩
          refine ⟨⟨rfl, rfl⟩, ?_⟩
          refine ⟨⟨rfl, rfl⟩, ?_⟩
          refine ⟨by rw [encs_len, hd]; omega, ?_⟩
          refine ⟨⟨by simp only [maxLen]; omega, by show (i + 1) * 72 ≤ _; omega⟩, ?_⟩
          intro jk
          have ih := ih jk
          rw [wrapS hil (by simp only [maxLen]; omega)]
          exact ih
        · refine ⟨⟨by omega, by omega⟩, ?_⟩
          refine ⟨op', n', s'', t'', g' + 1, kk.length, cs', ⟨e1, rfl⟩, ?_⟩
          have hi0 : ¬ i = 0 := by have := ne_of_beq_false h0; omega
          rw [if_neg hi0] at hEi
          refine ⟨_, _, retCE (hc3 E9 (g2 + 1) hEi), ?_⟩
          refine ⟨⟨rfl, rfl⟩, ?_⟩
          refine ⟨⟨rfl, rfl⟩, ?_⟩
          refine ⟨by rw [encs_len, hd]; omega, ?_⟩
          refine ⟨⟨by simp only [maxLen]; omega, by show (i + 1) * 72 ≤ _; omega⟩, ?_⟩
          intro jk
          have ih := ih jk
          rw [wrapS hil (by simp only [maxLen]; omega)]
          exact ih
end Go.Proofs.YtlkjnlfddadlmaaDoor.V
