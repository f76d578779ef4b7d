/-
  Functions are copied; whether they are right. No conditions.
-/
import Derived.Test.YtlkjnlfddadlmaaMPPeepFunsa
set_option linter.unusedVariables false
set_option linter.unusedSimpArgs false
namespace Go.Proofs.Ytlkjnlfddadlmaa.V
set_option maxRecDepth 100000

theorem fc_put {fs : List FN} {i : Nat} {f : FN} (hi : fs[i]? = some f) : ((fc (fs.take i)).drop 0).take (i * 2) ++ [.int .i64 f.1, .sl () 0 3 f.2.length (oc f.2)] = fc (fs.take (i + 1)) := by
  have hil : i < fs.length := (List.getElem?_eq_some_iff.1 hi).1
  rw [take_all (by rw [fc_len, List.length_take]; omega), List.take_add_one, hi]
  simp only [Option.toList_some, fc_append, fc]

theorem lcpS {fs : List FN} {cs : List TU} {g : Nat} {K : Ex → StA → Prop} (hz : szFs fs ≤ 1048576) (hr : Rf fs cs) : ∀ (l : List FN) (i : Nat), fs.drop i = l → i ≤ fs.length →
    (∀ jk i, K (.exit 0) ⟨[(4, xi i), (3, xl 0 2 fs.length (fc fs)), (0, xl (g + 1) 2 fs.length cs), (2, xl 0 2 0 [])], jk, []⟩) →
    ∀ jk, sem cx0 32 RT (.loop (lp Try.f32 0)) ⟨[(4, xi i), (3, xl 0 2 i (fc (fs.take i))), (0, xl (g + 1) 2 fs.length cs), (2, xl 0 2 0 [])], jk, []⟩ K := by
  have hz' := hz
  simp only [szFs] at hz'
  refine drop_ind ?_ ?_
  · intro k1 jk
    refine loop_step cx0 _ RT [4, 3, 0, 2] ⟨fun h => (lt_no h (by omega)).elim, fun h => ?_⟩
    intro jk
    have := k1 jk fs.length
    rw [List.take_length]
    exact this
  · intro i f l hi hil ih k1 jk
    have hkf := lszF_mem (List.mem_of_getElem? hi)
    obtain ⟨g', r, e1⟩ := Rf_at hr hi
    have hti : (fs.take i).length = i := by rw [List.length_take]; omega
    refine loop_step cx0 _ RT [4, 3, 0, 2] ⟨fun h => ?_, fun h => (lt_yes h (by omega)).elim⟩
    refine ⟨⟨by omega, by omega⟩, ?_⟩
    refine ⟨Nat.zero_le _, ?_⟩
    refine ⟨f.1, ⟨?_, rfl⟩, ?_⟩
    · show ((cs.drop (i * 2)).drop 0).take 1 = _
      rw [e1]; rfl
    refine ⟨⟨by omega, by omega⟩, ?_⟩
    refine ⟨?_, ?_⟩
    · show 1 ≤ (cs.drop (i * 2)).length
      rw [e1]; simp
    refine ⟨g' + 1, f.2.length, oc f.2, ⟨?_, rfl⟩, ?_⟩
    · show ((cs.drop (i * 2)).drop 1).take 1 = _
      rw [e1]; rfl
    refine ⟨⟨by simp only [maxLen]; omega, by show (0 + f.2.length) * 24 ≤ _; omega⟩, ?_⟩
    refine ⟨by rw [fc_len, hti]; omega, ?_⟩
    refine ⟨⟨by simp only [maxLen]; omega, by show (i + 1) * 32 ≤ _; omega⟩, ?_⟩
    have hq := fc_put (i := i) hi
    intro jk
    have ih := ih k1 jk
    rw [← hq] at ih
    rw [wrapS hil (by simp only [maxLen]; omega)]
    simp only [Nat.zero_add]
    exact ih

theorem cpS {fs : List FN} {cs : List TU} {g : Nat} (hz : szFs fs ≤ 1048576) (hr : Rf fs cs) : RT 32 [xl (g + 1) 2 fs.length cs] [] = some (xl 0 2 fs.length (fc fs), []) := by
  refine fn_is (fn := Try.f32) rfl rfl rfl rfl ?_
  refine sem_in cx0 _ RT [4, 3, 0, 2] fun jk => ?_
  refine lcpS (g := g) hz hr fs 0 rfl (by omega) (fun jk i => ?_) jk
  refine ⟨by rw [fc_len]; omega, ?_⟩
  refine ⟨?_, rfl⟩
  exact congrArg (xl 0 2 fs.length) (fc_whole fs).symm

theorem lcpI {fs : List FN} {cs : List TU} {g : Nat} {K : Ex → StA → Prop} (hz : szFs fs ≤ 1048576) (hr : Rf fs cs) : ∀ (l : List FN) (i : Nat), fs.drop i = l → i ≤ fs.length →
    (∀ jk i, K (.exit 0) ⟨[(8, xi i), (7, xi fs.length), (6, xl (g + 1) 2 fs.length cs), (3, xl 0 2 fs.length (fc fs)), (2, xl 0 2 0 [])], jk, []⟩) →
    ∀ jk, sem cx0 36 RT (.loop (lp Try.f36 0)) ⟨[(8, xi i), (7, xi fs.length), (6, xl (g + 1) 2 fs.length cs), (3, xl 0 2 i (fc (fs.take i))), (2, xl 0 2 0 [])], jk, []⟩ K := by
  have hz' := hz
  simp only [szFs] at hz'
  refine drop_ind ?_ ?_
  · intro k1 jk
    refine loop_step cx0 _ RT [8, 7, 6, 3, 2] ⟨fun h => (lt_no h (by omega)).elim, fun h => ?_⟩
    intro jk
    have := k1 jk fs.length
    rw [List.take_length]
    exact this
  · intro i f l hi hil ih k1 jk
    have hkf := lszF_mem (List.mem_of_getElem? hi)
    obtain ⟨g', r, e1⟩ := Rf_at hr hi
    have hti : (fs.take i).length = i := by rw [List.length_take]; omega
    refine loop_step cx0 _ RT [8, 7, 6, 3, 2] ⟨fun h => ?_, fun h => (lt_yes h (by omega)).elim⟩
    refine ⟨⟨by omega, by omega⟩, ?_⟩
    refine ⟨f.1, g' + 1, f.2.length, oc f.2, ⟨?_, rfl⟩, ?_⟩
    · show (cs.drop (i * 2)).take 2 = _
      rw [e1]; rfl
    refine ⟨⟨by simp only [maxLen]; omega, by show (0 + f.2.length) * 24 ≤ _; omega⟩, ?_⟩
    refine ⟨by rw [fc_len, hti]; omega, ?_⟩
    refine ⟨⟨by simp only [maxLen]; omega, by show (i + 1) * 32 ≤ _; omega⟩, ?_⟩
    have hq := fc_put (i := i) hi
    intro jk
    have ih := ih k1 jk
    rw [← hq] at ih
    rw [wrapS hil (by simp only [maxLen]; omega)]
    simp only [Nat.zero_add]
    exact ih

theorem cpI {fs : List FN} {cs : List TU} {g : Nat} (hz : szFs fs ≤ 1048576) (hr : Rf fs cs) : RT 36 [xl (g + 1) 2 fs.length cs] [] = some (xl 0 2 fs.length (fc fs), []) := by
  refine fn_is (fn := Try.f36) rfl rfl rfl rfl ?_
  refine sem_in cx0 _ RT [8, 7, 6, 3, 2] fun jk => ?_
  refine lcpI (g := g) hz hr fs 0 rfl (by omega) (fun jk i => ?_) jk
  refine ⟨by rw [fc_len]; omega, ?_⟩
  refine ⟨?_, rfl⟩
  exact congrArg (xl 0 2 fs.length) (fc_whole fs).symm

def wit (a lo hi : Int) : Bool := decide (a ≥ lo) && decide (a ≤ hi)
def frA (fs : List FN) (x : Int) : Int := match fs[x.toNat]? with | some f => f.1 | none => 0
/-- An op is right. -/
def okOp (fs : List FN) (i n : Nat) (free : Int) (o : O3) : Bool :=
  if o.1 = 1 then wordOk o.2.1 && o.2.2 == 0
  else if o.1 = 2 then wit o.2.1 0 2999 && o.2.2 == 0
  else if o.1 = 3 then wit o.2.1 0 (free - 1) && o.2.2 == 0
  else if o.1 = 4 then decide ((i : Int) > 0) && o.2.1 == 0 && o.2.2 == 0
  else if o.1 = 5 then wit o.2.1 1 ((fs.length : Int) - 1) && o.2.2 == frA fs o.2.1
  else if o.1 = 8 then wit o.2.1 0 19 && wit o.2.2 0 20
  else if o.1 = 9 then wit o.2.1 0 19 && o.2.2 == 0
  else if o.1 = 10 then wit o.2.1 0 19 && wit o.2.2 0 ((n : Int) - 1)
  else if o.1 = 11 then wordOk o.2.1 && wit o.2.2 0 ((n : Int) - 1)
  else if o.1 = 18 ∨ o.1 = 19 then wit o.2.1 0 ((n : Int) - 1) && o.2.2 == 0
  else wit o.1 1 21 && o.2.1 == 0 && o.2.2 == 0

theorem tag_s (n : Int) : RT 105 [xi n] [] = some (xb (wit n 0 19), []) := by
  refine fn_is (fn := Try.f105) rfl rfl rfl rfl ?_
  refine ⟨_, retB (in50 n 0 19), ?_⟩
  exact ⟨rfl, rfl⟩

theorem pickA {a b : Bool} (h : a = true) : (a && b) = b := by rw [h, Bool.true_and]
theorem pickF {a b : Bool} (h : a = false) : (a && b) = false := by rw [h, Bool.false_and]

theorem inbF {fs : List FN} {a : Int} (h : (decide (a ≥ 1) && decide (a ≤ (fs.length : Int) - 1)) = true) : ∃ (k : Nat) (o : FN), a = k ∧ k < fs.length ∧ fs[k]? = some o := by
  simp only [Bool.and_eq_true, decide_eq_true_eq] at h
  refine ⟨a.toNat, fs[a.toNat]'(by omega), by omega, by omega, List.getElem?_eq_getElem _⟩

set_option maxHeartbeats 4000000 in
theorem op_s {fs : List FN} {cs : List TU} {g i : Nat} {f : FN} {o : O3} (hw : Wl fs) (hr : Rf fs cs) (hi : fs[i]? = some f) (hn : fs.length ≤ 1048576) (hf : f.2.length ≤ 1048576) (h0 : 0 ≤ f.1 ∧ f.1 ≤ 20) :
    RT 72 [xl (g + 1) 2 fs.length cs, xi i, xc [.int .i64 o.1, .int .i64 o.2.1, .int .i64 o.2.2]] [] = some (xb (okOp fs i f.2.length f.1 o), []) := by
  obtain ⟨c, x, m⟩ := o
  have hil : i < fs.length := (List.getElem?_eq_some_iff.1 hi).1
  obtain ⟨g', r, e1⟩ := Rf_at hr hi
  have wn : IntKind.wrap .i64 ((f.2.length : Int) - 1) = (f.2.length : Int) - 1 := wrap64 (by omega) (by omega)
  have wl : IntKind.wrap .i64 ((fs.length : Int) - 1) = (fs.length : Int) - 1 := wrap64 (by omega) (by omega)
  have wf : IntKind.wrap .i64 (f.1 - 1) = f.1 - 1 := wrap64 (by omega) (by omega)
  refine fn_is (fn := Try.f72) rfl rfl rfl rfl ?_
  refine ⟨⟨by omega, by omega⟩, ?_⟩
  refine ⟨?_, ?_⟩
  · show 1 ≤ (cs.drop (i * 2)).length
    rw [e1]; simp
  refine ⟨g' + 1, f.2.length, oc f.2, ⟨?_, rfl⟩, ?_⟩
  · show ((cs.drop (i * 2)).drop 1).take 1 = _
    rw [e1]; rfl
  simp only [okOp]
  refine ⟨fun h => ?_, fun h => ?_⟩
  · rw [if_pos (eq_of_beq h)]
    refine ⟨_, retB (word_s x), ?_⟩
    exact ⟨fun h => ⟨congrArg xb (pickA h), rfl⟩, fun h => ⟨congrArg xb (pickF h), rfl⟩⟩
  rw [if_neg (ne_of_beq_false h)]
  refine ⟨fun h => ?_, fun h => ?_⟩
  · rw [if_pos (eq_of_beq h)]
    refine ⟨_, retB (in50 x 0 2999), ?_⟩
    exact ⟨fun h => ⟨congrArg xb (pickA h), rfl⟩, fun h => ⟨congrArg xb (pickF h), rfl⟩⟩
  rw [if_neg (ne_of_beq_false h)]
  refine ⟨fun h => ?_, fun h => ?_⟩
  · rw [if_pos (eq_of_beq h)]
    refine ⟨⟨by omega, by omega⟩, ?_⟩
    refine ⟨Nat.zero_le _, ?_⟩
    refine ⟨f.1, ⟨?_, rfl⟩, ?_⟩
    · show ((cs.drop (i * 2)).drop 0).take 1 = _
      rw [e1]; rfl
    refine ⟨_, retB (by rw [wf]; exact in50 x 0 (f.1 - 1)), ?_⟩
    exact ⟨fun h => ⟨congrArg xb (pickA h), rfl⟩, fun h => ⟨congrArg xb (pickF h), rfl⟩⟩
  rw [if_neg (ne_of_beq_false h)]
  refine ⟨fun h => ?_, fun h => ?_⟩
  · rw [if_pos (eq_of_beq h)]
    refine ⟨fun h => ?_, fun h => ?_⟩
    · rw [pickA (a := decide ((i : Int) > 0)) h]
      exact ⟨fun h => ⟨congrArg xb (pickA h), rfl⟩, fun h => ⟨congrArg xb (pickF h), rfl⟩⟩
    · rw [pickF (a := decide ((i : Int) > 0)) h]
      exact ⟨rfl, rfl⟩
  rw [if_neg (ne_of_beq_false h)]
  refine ⟨fun h => ?_, fun h => ?_⟩
  · rw [if_pos (eq_of_beq h)]
    refine ⟨_, retB (by rw [wl]; exact in50 x 1 ((fs.length : Int) - 1)), ?_⟩
    refine ⟨fun h => ?_, fun h => ⟨congrArg xb (pickF h), rfl⟩⟩
    obtain ⟨k, f2, rfl, hkl, hf2⟩ := inbF h
    obtain ⟨g2, r2, e2⟩ := Rf_at hr hf2
    refine ⟨⟨by omega, by omega⟩, ?_⟩
    refine ⟨Nat.zero_le _, ?_⟩
    refine ⟨f2.1, ⟨?_, rfl⟩, ?_⟩
    · show ((cs.drop (k * 2)).drop 0).take 1 = _
      rw [e2]; rfl
    refine ⟨congrArg xb ?_, rfl⟩
    rw [show wit (k : Int) 1 ((fs.length : Int) - 1) = true from h]
    simp only [frA, Int.toNat_natCast, hf2, Bool.true_and]
  rw [if_neg (ne_of_beq_false h)]
  refine ⟨fun h => ?_, fun h => ?_⟩
  · rw [if_pos (eq_of_beq h)]
    refine ⟨_, retB (tag_s x), ?_⟩
    refine ⟨fun h => ?_, fun h => ⟨congrArg xb (pickF h), rfl⟩⟩
    refine ⟨_, retB (in50 m 0 20), ?_⟩
    exact ⟨congrArg xb (pickA h), rfl⟩
  rw [if_neg (ne_of_beq_false h)]
  refine ⟨fun h => ?_, fun h => ?_⟩
  · rw [if_pos (eq_of_beq h)]
    refine ⟨_, retB (tag_s x), ?_⟩
    exact ⟨fun h => ⟨congrArg xb (pickA h), rfl⟩, fun h => ⟨congrArg xb (pickF h), rfl⟩⟩
  rw [if_neg (ne_of_beq_false h)]
  refine ⟨fun h => ?_, fun h => ?_⟩
  · rw [if_pos (eq_of_beq h)]
    refine ⟨_, retB (tag_s x), ?_⟩
    refine ⟨fun h => ?_, fun h => ⟨congrArg xb (pickF h), rfl⟩⟩
    refine ⟨_, retB (by rw [wn]; exact in50 m 0 ((f.2.length : Int) - 1)), ?_⟩
    exact ⟨congrArg xb (pickA h), rfl⟩
  rw [if_neg (ne_of_beq_false h)]
  refine ⟨fun h => ?_, fun h => ?_⟩
  · rw [if_pos (eq_of_beq h)]
    refine ⟨_, retB (word_s x), ?_⟩
    refine ⟨fun h => ?_, fun h => ⟨congrArg xb (pickF h), rfl⟩⟩
    refine ⟨_, retB (by rw [wn]; exact in50 m 0 ((f.2.length : Int) - 1)), ?_⟩
    exact ⟨congrArg xb (pickA h), rfl⟩
  rw [if_neg (ne_of_beq_false h)]
  refine ⟨fun h => ?_, fun h => ?_⟩
  · rw [if_pos (Or.inl (eq_of_beq h))]
    refine ⟨_, retB (by rw [wn]; exact in50 x 0 ((f.2.length : Int) - 1)), ?_⟩
    exact ⟨fun h => ⟨congrArg xb (pickA h), rfl⟩, fun h => ⟨congrArg xb (pickF h), rfl⟩⟩
  refine ⟨fun h2 => ?_, fun h2 => ?_⟩
  · rw [if_pos (Or.inr (eq_of_beq h2))]
    refine ⟨_, retB (by rw [wn]; exact in50 x 0 ((f.2.length : Int) - 1)), ?_⟩
    exact ⟨fun h => ⟨congrArg xb (pickA h), rfl⟩, fun h => ⟨congrArg xb (pickF h), rfl⟩⟩
  rw [if_neg (fun hh => hh.elim (ne_of_beq_false h) (ne_of_beq_false h2))]
  refine ⟨_, retB (in50 c 1 21), ?_⟩
  refine ⟨fun h => ?_, fun h => ?_⟩
  · rw [pickA (a := wit c 1 21) h]
    exact ⟨fun h => ⟨congrArg xb (pickA h), rfl⟩, fun h => ⟨congrArg xb (pickF h), rfl⟩⟩
  · rw [pickF (a := wit c 1 21) h]
    exact ⟨rfl, rfl⟩

/-- A place is right (the program's way). -/
theorem place_i {a : Int} {n : Nat} {cs : List TU} {g : Nat} {x : Int} (hn : n ≤ 1048576) : RT 107 [xi x, .c (.ptr () (.ex 0) [] 0)] [[.t (.int .i64 a), .t (.sl () (g + 1) 3 n cs)]] = some (xb (wit x 0 ((n : Int) - 1)), [[.t (.int .i64 a), .t (.sl () (g + 1) 3 n cs)]]) := by
  have wn : IntKind.wrap .i64 ((n : Int) - 1) = (n : Int) - 1 := wrap64 (by omega) (by omega)
  refine fn_isE (fn := Try.f107) rfl rfl rfl rfl ?_
  refine ⟨_, retB (by rw [wn]; exact in52 x 0 ((n : Int) - 1)), ?_⟩
  exact ⟨rfl, rfl⟩

abbrev telP : XU := .c (.fn 107 [.ptr () (.ex 0) [] 0])

theorem pick3 {w n m : Bool} (h : w = true) (h2 : n = true) : (w && n && m) = m := by rw [h, h2]; rfl
theorem pick3f {w n m : Bool} (h2 : n = false) : (w && n && m) = false := by rw [h2]; simp
theorem pick3n {w n m : Bool} (h : w = false) : (w && n && m) = false := by rw [h]; rfl

/-- A place is right, told by a function value. -/
theorem placeE {a : Int} {ops : List O3} {g : Nat} {x : Int} (hn : ops.length ≤ 1048576) :
    RetE RT 107 [xi x, .c (.ptr () (.ex 0) [] 0)] [[.t (.int .i64 a), .t (.sl () (g + 2) 3 ops.length (oc ops))]] (xb (wit x 0 ((ops.length : Int) - 1))) [[.t (.int .i64 a), .t (.sl () (g + 1) 3 ops.length (oc ops))]] := by
  refine ⟨_, place_i hn, rfl, ?_⟩
  simp only [List.mapM_cons, List.mapM_nil, downCs, downC, down, oc_down, Option.map_some, Option.bind_some]
  rfl

set_option maxHeartbeats 4000000 in
theorem op_i {fs : List FN} {cs : List TU} {g g2 i : Nat} {f : FN} {o : O3} (hr : Rf fs cs) (hn : fs.length ≤ 1048576) (hf : f.2.length ≤ 1048576) (h0 : 0 ≤ f.1 ∧ f.1 ≤ 20) :
    RT 75 [xl (g + 1) 2 fs.length cs, xc (fn2 f.1 (g2 + 1) f.2), xi i, xc [.int .i64 o.1, .int .i64 o.2.1, .int .i64 o.2.2]] [] = some (xb (okOp fs i f.2.length f.1 o), []) := by
  obtain ⟨c, x, m⟩ := o
  obtain ⟨a, ops⟩ := f
  have wl : IntKind.wrap .i64 ((fs.length : Int) - 1) = (fs.length : Int) - 1 := wrap64 (by omega) (by omega)
  have wf : IntKind.wrap .i64 (a - 1) = a - 1 := wrap64 (by simp only at h0; omega) (by simp only at h0; omega)
  have wt : ∀ {n m : Bool}, (wit c 1 21) = true → (n && m) = (wit c 1 21 && n && m) := fun h => by rw [h, Bool.true_and]
  have wc : ∀ {k : Int}, c = k → 1 ≤ k → k ≤ 21 → wit c 1 21 = true := fun h h1 h2 => by subst h; simp [wit, h1, h2]
  refine fn_is (fn := Try.f75) rfl rfl rfl rfl ?_
  refine ⟨⟨rfl, rfl⟩, ⟨rfl, rfl⟩, ⟨rfl, rfl⟩, ?_⟩
  simp only [okOp]
  refine ⟨fun h => ?_, fun h => ?_⟩
  · rw [if_pos (eq_of_beq h), wt (wc (eq_of_beq h) (by omega) (by omega))]
    refine ⟨_, retB (word_i x), ?_⟩
    refine ⟨_, retB (in52 c 1 21), ?_⟩
    exact ⟨fun h => ⟨fun h2 => ⟨congrArg xb (pick3 h h2), rfl⟩, fun h2 => ⟨congrArg xb (pick3f h2), rfl⟩⟩, fun h => ⟨congrArg xb (pick3n h), rfl⟩⟩
  rw [if_neg (ne_of_beq_false h)]
  refine ⟨fun h => ?_, fun h => ?_⟩
  · rw [if_pos (eq_of_beq h), wt (wc (eq_of_beq h) (by omega) (by omega))]
    refine ⟨_, retB (in52 x 0 2999), ?_⟩
    refine ⟨_, retB (in52 c 1 21), ?_⟩
    exact ⟨fun h => ⟨fun h2 => ⟨congrArg xb (pick3 h h2), rfl⟩, fun h2 => ⟨congrArg xb (pick3f h2), rfl⟩⟩, fun h => ⟨congrArg xb (pick3n h), rfl⟩⟩
  rw [if_neg (ne_of_beq_false h)]
  refine ⟨fun h => ?_, fun h => ?_⟩
  · rw [if_pos (eq_of_beq h), wt (wc (eq_of_beq h) (by omega) (by omega))]
    refine ⟨_, retB (by rw [wf]; exact in52 x 0 (a - 1)), ?_⟩
    refine ⟨_, retB (in52 c 1 21), ?_⟩
    exact ⟨fun h => ⟨fun h2 => ⟨congrArg xb (pick3 h h2), rfl⟩, fun h2 => ⟨congrArg xb (pick3f h2), rfl⟩⟩, fun h => ⟨congrArg xb (pick3n h), rfl⟩⟩
  rw [if_neg (ne_of_beq_false h)]
  refine ⟨fun h => ?_, fun h => ?_⟩
  · rw [if_pos (eq_of_beq h), Bool.and_comm (decide ((i : Int) > 0)), wt (wc (eq_of_beq h) (by omega) (by omega))]
    refine ⟨fun h => ?_, fun h => ?_⟩
    · rw [pickA (a := x == 0) h]
      refine ⟨_, retB (in52 c 1 21), ?_⟩
      exact ⟨fun h => ⟨fun h2 => ⟨congrArg xb (pick3 h h2), rfl⟩, fun h2 => ⟨congrArg xb (pick3f h2), rfl⟩⟩, fun h => ⟨congrArg xb (pick3n h), rfl⟩⟩
    · rw [pickF (a := x == 0) h]
      refine ⟨_, retB (in52 c 1 21), ?_⟩
      exact ⟨fun h => ⟨congrArg xb (pick3f rfl), rfl⟩, fun h => ⟨congrArg xb (pick3n h), rfl⟩⟩
  rw [if_neg (ne_of_beq_false h)]
  refine ⟨fun h => ?_, fun h => ?_⟩
  · rw [if_pos (eq_of_beq h), wt (wc (eq_of_beq h) (by omega) (by omega))]
    refine ⟨_, retB (by rw [wl]; exact in52 x 1 ((fs.length : Int) - 1)), ?_⟩
    refine ⟨fun h => ?_, fun hb => ?_⟩
    · obtain ⟨k, f2, rfl, hkl, hf2⟩ := inbF h
      obtain ⟨g2, r2, e2⟩ := Rf_at hr hf2
      refine ⟨⟨by omega, by omega⟩, ?_⟩
      refine ⟨Nat.zero_le _, ?_⟩
      refine ⟨f2.1, ⟨?_, rfl⟩, ?_⟩
      · show ((cs.drop (k * 2)).drop 0).take 1 = _
        rw [e2]; rfl
      rw [show frA fs (k : Int) = f2.1 by simp only [frA, Int.toNat_natCast, hf2]]
      refine ⟨_, retB (in52 c 1 21), ?_⟩
      exact ⟨fun h => ⟨fun h2 => ⟨congrArg xb (pick3 h h2), rfl⟩, fun h2 => ⟨congrArg xb (pick3f h2), rfl⟩⟩, fun h => ⟨congrArg xb (pick3n h), rfl⟩⟩
    · refine ⟨_, retB (in52 c 1 21), ?_⟩
      exact ⟨fun h => ⟨fun h2 => absurd (hb.symm.trans h2) (by decide), fun h2 => ⟨congrArg xb (pick3f h2), rfl⟩⟩, fun h => ⟨congrArg xb (pick3n h), rfl⟩⟩
  rw [if_neg (ne_of_beq_false h)]
  refine ⟨fun h => ?_, fun h => ?_⟩
  · rw [if_pos (eq_of_beq h), wt (wc (eq_of_beq h) (by omega) (by omega))]
    refine ⟨_, retB (in52 x 0 19), ?_⟩
    refine ⟨_, retB (in52 m 0 20), ?_⟩
    refine ⟨_, retB (in52 c 1 21), ?_⟩
    exact ⟨fun h => ⟨fun h2 => ⟨congrArg xb (pick3 h h2), rfl⟩, fun h2 => ⟨congrArg xb (pick3f h2), rfl⟩⟩, fun h => ⟨congrArg xb (pick3n h), rfl⟩⟩
  rw [if_neg (ne_of_beq_false h)]
  refine ⟨fun h => ?_, fun h => ?_⟩
  · rw [if_pos (eq_of_beq h), wt (wc (eq_of_beq h) (by omega) (by omega))]
    refine ⟨_, retB (in52 x 0 19), ?_⟩
    refine ⟨_, retB (in52 c 1 21), ?_⟩
    exact ⟨fun h => ⟨fun h2 => ⟨congrArg xb (pick3 h h2), rfl⟩, fun h2 => ⟨congrArg xb (pick3f h2), rfl⟩⟩, fun h => ⟨congrArg xb (pick3n h), rfl⟩⟩
  rw [if_neg (ne_of_beq_false h)]
  refine ⟨fun h => ?_, fun h => ?_⟩
  · rw [if_pos (eq_of_beq h), wt (wc (eq_of_beq h) (by omega) (by omega))]
    refine ⟨_, retB (in52 x 0 19), ?_⟩
    refine ⟨_, _, by rw [oc_ups]; exact placeE hf, ?_⟩
    refine ⟨_, retB (in52 c 1 21), ?_⟩
    exact ⟨fun h => ⟨fun h2 => ⟨congrArg xb (pick3 h h2), rfl⟩, fun h2 => ⟨congrArg xb (pick3f h2), rfl⟩⟩, fun h => ⟨congrArg xb (pick3n h), rfl⟩⟩
  rw [if_neg (ne_of_beq_false h)]
  refine ⟨fun h => ?_, fun h => ?_⟩
  · rw [if_pos (eq_of_beq h), wt (wc (eq_of_beq h) (by omega) (by omega))]
    refine ⟨_, retB (word_i x), ?_⟩
    refine ⟨_, _, by rw [oc_ups]; exact placeE hf, ?_⟩
    refine ⟨_, retB (in52 c 1 21), ?_⟩
    exact ⟨fun h => ⟨fun h2 => ⟨congrArg xb (pick3 h h2), rfl⟩, fun h2 => ⟨congrArg xb (pick3f h2), rfl⟩⟩, fun h => ⟨congrArg xb (pick3n h), rfl⟩⟩
  rw [if_neg (ne_of_beq_false h)]
  refine ⟨fun h => ?_, fun h => ?_⟩
  · rw [if_pos (Or.inl (eq_of_beq h)), wt (wc (eq_of_beq h) (by omega) (by omega))]
    refine ⟨_, _, by rw [oc_ups]; exact placeE hf, ?_⟩
    refine ⟨_, retB (in52 c 1 21), ?_⟩
    exact ⟨fun h => ⟨fun h2 => ⟨congrArg xb (pick3 h h2), rfl⟩, fun h2 => ⟨congrArg xb (pick3f h2), rfl⟩⟩, fun h => ⟨congrArg xb (pick3n h), rfl⟩⟩
  refine ⟨fun h2 => ?_, fun h2 => ?_⟩
  · rw [if_pos (Or.inr (eq_of_beq h2)), wt (wc (eq_of_beq h2) (by omega) (by omega))]
    refine ⟨_, _, by rw [oc_ups]; exact placeE hf, ?_⟩
    refine ⟨_, retB (in52 c 1 21), ?_⟩
    exact ⟨fun h => ⟨fun h2 => ⟨congrArg xb (pick3 h h2), rfl⟩, fun h2 => ⟨congrArg xb (pick3f h2), rfl⟩⟩, fun h => ⟨congrArg xb (pick3n h), rfl⟩⟩
  rw [if_neg (fun hh => hh.elim (ne_of_beq_false h) (ne_of_beq_false h2))]
  · skip
    refine ⟨_, retB (in52 c 1 21), ?_⟩
    exact ⟨fun h => ⟨fun h2 => ⟨congrArg xb (pick3 h h2), rfl⟩, fun h2 => ⟨congrArg xb (pick3f h2), rfl⟩⟩, fun h => ⟨congrArg xb (pick3n h), rfl⟩⟩

end Go.Proofs.Ytlkjnlfddadlmaa.V
