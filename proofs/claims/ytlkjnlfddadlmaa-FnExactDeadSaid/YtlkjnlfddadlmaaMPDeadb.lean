/-
  Functions are copied; whether they are right. No conditions.
-/
import Derived.Test.YtlkjnlfddadlmaaMPDeada
set_option linter.unusedVariables false
set_option linter.unusedSimpArgs false
namespace Go.Proofs.Ytlkjnlfddadlmaa.V
set_option maxRecDepth 100000

theorem fc_put {fs : List FN} {i : Nat} {f : FN} (hi : fs[i]? = some f) : ((fc (fs.take i)).drop 0).take (i * 2) ++ [.int .i64 f.1, .sl () 0 3 f.2.length (oc f.2)] = fc (fs.take (i + 1)) := by
  have hil : i < fs.length := (List.getElem?_eq_some_iff.1 hi).1
  rw [take_all (by rw [fc_len, List.length_take]; omega), List.take_add_one, hi]
  simp only [Option.toList_some, fc_append, fc]

theorem lcpS {fs : List FN} {cs : List TU} {g : Nat} {K : Ex → StA → Prop} (hz : szFs fs ≤ 1048576) (hr : Rf fs cs) : ∀ (l : List FN) (i : Nat), fs.drop i = l → i ≤ fs.length →
    (∀ jk i, K (.exit 0) ⟨[(4, xi i), (3, xl 0 2 fs.length (fc fs)), (0, xl (g + 1) 2 fs.length cs), (2, xl 0 2 0 [])], jk, []⟩) →
    ∀ jk, sem cx0 32 RT (.loop (lp Try.f32 0)) ⟨[(4, xi i), (3, xl 0 2 i (fc (fs.take i))), (0, xl (g + 1) 2 fs.length cs), (2, xl 0 2 0 [])], jk, []⟩ K := by
  have hz' := hz
  simp only [szFs] at hz'
  refine drop_ind ?_ ?_
  · intro k1 jk
    refine loop_step cx0 _ RT [4, 3, 0, 2] ⟨fun h => (lt_no h (by omega)).elim, fun h => ?_⟩
    intro jk
    have := k1 jk fs.length
    rw [List.take_length]
    exact this
  · intro i f l hi hil ih k1 jk
    have hkf := lszF_mem (List.mem_of_getElem? hi)
    obtain ⟨g', r, e1⟩ := Rf_at hr hi
    have hti : (fs.take i).length = i := by rw [List.length_take]; omega
    refine loop_step cx0 _ RT [4, 3, 0, 2] ⟨fun h => ?_, fun h => (lt_yes h (by omega)).elim⟩
    refine ⟨⟨by omega, by omega⟩, ?_⟩
    refine ⟨Nat.zero_le _, ?_⟩
    refine ⟨f.1, ⟨?_, rfl⟩, ?_⟩
    · show ((cs.drop (i * 2)).drop 0).take 1 = _
      rw [e1]; rfl
    refine ⟨⟨by omega, by omega⟩, ?_⟩
    refine ⟨?_, ?_⟩
    · show 1 ≤ (cs.drop (i * 2)).length
      rw [e1]; simp
    refine ⟨g' + 1, f.2.length, oc f.2, ⟨?_, rfl⟩, ?_⟩
    · show ((cs.drop (i * 2)).drop 1).take 1 = _
      rw [e1]; rfl
    refine ⟨⟨by simp only [maxLen]; omega, by show (0 + f.2.length) * 24 ≤ _; omega⟩, ?_⟩
    refine ⟨by rw [fc_len, hti]; omega, ?_⟩
    refine ⟨⟨by simp only [maxLen]; omega, by show (i + 1) * 32 ≤ _; omega⟩, ?_⟩
    have hq := fc_put (i := i) hi
    intro jk
    have ih := ih k1 jk
    rw [← hq] at ih
    rw [wrapS hil (by simp only [maxLen]; omega)]
    simp only [Nat.zero_add]
    exact ih

theorem cpS {fs : List FN} {cs : List TU} {g : Nat} (hz : szFs fs ≤ 1048576) (hr : Rf fs cs) : RT 32 [xl (g + 1) 2 fs.length cs] [] = some (xl 0 2 fs.length (fc fs), []) := by
  refine fn_is (fn := Try.f32) rfl rfl rfl rfl ?_
  refine sem_in cx0 _ RT [4, 3, 0, 2] fun jk => ?_
  refine lcpS (g := g) hz hr fs 0 rfl (by omega) (fun jk i => ?_) jk
  refine ⟨by rw [fc_len]; omega, ?_⟩
  refine ⟨?_, rfl⟩
  exact congrArg (xl 0 2 fs.length) (fc_whole fs).symm

theorem lcpI {fs : List FN} {cs : List TU} {g : Nat} {K : Ex → StA → Prop} (hz : szFs fs ≤ 1048576) (hr : Rf fs cs) : ∀ (l : List FN) (i : Nat), fs.drop i = l → i ≤ fs.length →
    (∀ jk i, K (.exit 0) ⟨[(8, xi i), (7, xi fs.length), (6, xl (g + 1) 2 fs.length cs), (3, xl 0 2 fs.length (fc fs)), (2, xl 0 2 0 [])], jk, []⟩) →
    ∀ jk, sem cx0 36 RT (.loop (lp Try.f36 0)) ⟨[(8, xi i), (7, xi fs.length), (6, xl (g + 1) 2 fs.length cs), (3, xl 0 2 i (fc (fs.take i))), (2, xl 0 2 0 [])], jk, []⟩ K := by
  have hz' := hz
  simp only [szFs] at hz'
  refine drop_ind ?_ ?_
  · intro k1 jk
    refine loop_step cx0 _ RT [8, 7, 6, 3, 2] ⟨fun h => (lt_no h (by omega)).elim, fun h => ?_⟩
    intro jk
    have := k1 jk fs.length
    rw [List.take_length]
    exact this
  · intro i f l hi hil ih k1 jk
    have hkf := lszF_mem (List.mem_of_getElem? hi)
    obtain ⟨g', r, e1⟩ := Rf_at hr hi
    have hti : (fs.take i).length = i := by rw [List.length_take]; omega
    refine loop_step cx0 _ RT [8, 7, 6, 3, 2] ⟨fun h => ?_, fun h => (lt_yes h (by omega)).elim⟩
    refine ⟨⟨by omega, by omega⟩, ?_⟩
    refine ⟨f.1, g' + 1, f.2.length, oc f.2, ⟨?_, rfl⟩, ?_⟩
    · show (cs.drop (i * 2)).take 2 = _
      rw [e1]; rfl
    refine ⟨⟨by simp only [maxLen]; omega, by show (0 + f.2.length) * 24 ≤ _; omega⟩, ?_⟩
    refine ⟨by rw [fc_len, hti]; omega, ?_⟩
    refine ⟨⟨by simp only [maxLen]; omega, by show (i + 1) * 32 ≤ _; omega⟩, ?_⟩
    have hq := fc_put (i := i) hi
    intro jk
    have ih := ih k1 jk
    rw [← hq] at ih
    rw [wrapS hil (by simp only [maxLen]; omega)]
    simp only [Nat.zero_add]
    exact ih

theorem cpI {fs : List FN} {cs : List TU} {g : Nat} (hz : szFs fs ≤ 1048576) (hr : Rf fs cs) : RT 36 [xl (g + 1) 2 fs.length cs] [] = some (xl 0 2 fs.length (fc fs), []) := by
  refine fn_is (fn := Try.f36) rfl rfl rfl rfl ?_
  refine sem_in cx0 _ RT [8, 7, 6, 3, 2] fun jk => ?_
  refine lcpI (g := g) hz hr fs 0 rfl (by omega) (fun jk i => ?_) jk
  refine ⟨by rw [fc_len]; omega, ?_⟩
  refine ⟨?_, rfl⟩
  exact congrArg (xl 0 2 fs.length) (fc_whole fs).symm

def wit (a lo hi : Int) : Bool := decide (a ≥ lo) && decide (a ≤ hi)
def frA (fs : List FN) (x : Int) : Int := match fs[x.toNat]? with | some f => f.1 | none => 0
/-- An op is right. -/
def okOp (fs : List FN) (i n : Nat) (free : Int) (o : O3) : Bool :=
  if o.1 = 1 then wordOk o.2.1 && o.2.2 == 0
  else if o.1 = 2 then wit o.2.1 0 2999 && o.2.2 == 0
  else if o.1 = 3 then wit o.2.1 0 (free - 1) && o.2.2 == 0
  else if o.1 = 4 then decide ((i : Int) > 0) && o.2.1 == 0 && o.2.2 == 0
  else if o.1 = 5 then wit o.2.1 1 ((fs.length : Int) - 1) && o.2.2 == frA fs o.2.1
  else if o.1 = 8 then wit o.2.1 0 19 && wit o.2.2 0 20
  else if o.1 = 9 then wit o.2.1 0 19 && o.2.2 == 0
  else if o.1 = 10 then wit o.2.1 0 19 && wit o.2.2 0 ((n : Int) - 1)
  else if o.1 = 11 then wordOk o.2.1 && wit o.2.2 0 ((n : Int) - 1)
  else if o.1 = 18 ∨ o.1 = 19 then wit o.2.1 0 ((n : Int) - 1) && o.2.2 == 0
  else wit o.1 1 21 && o.2.1 == 0 && o.2.2 == 0

theorem tag_s (n : Int) : RT 105 [xi n] [] = some (xb (wit n 0 19), []) := by
  refine fn_is (fn := Try.f105) rfl rfl rfl rfl ?_
  refine ⟨_, retB (in50 n 0 19), ?_⟩
  exact ⟨rfl, rfl⟩

theorem pickA {a b : Bool} (h : a = true) : (a && b) = b := by rw [h, Bool.true_and]
theorem pickF {a b : Bool} (h : a = false) : (a && b) = false := by rw [h, Bool.false_and]

theorem inbF {fs : List FN} {a : Int} (h : (decide (a ≥ 1) && decide (a ≤ (fs.length : Int) - 1)) = true) : ∃ (k : Nat) (o : FN), a = k ∧ k < fs.length ∧ fs[k]? = some o := by
  simp only [Bool.and_eq_true, decide_eq_true_eq] at h
  refine ⟨a.toNat, fs[a.toNat]'(by omega), by omega, by omega, List.getElem?_eq_getElem _⟩

set_option maxHeartbeats 4000000 in
theorem op_s {fs : List FN} {cs : List TU} {g i : Nat} {f : FN} {o : O3} (hw : Wl fs) (hr : Rf fs cs) (hi : fs[i]? = some f) (hn : fs.length ≤ 1048576) (hf : f.2.length ≤ 1048576) (h0 : 0 ≤ f.1 ∧ f.1 ≤ 20) :
    RT 72 [xl (g + 1) 2 fs.length cs, xi i, xc [.int .i64 o.1, .int .i64 o.2.1, .int .i64 o.2.2]] [] = some (xb (okOp fs i f.2.length f.1 o), []) := by
  obtain ⟨c, x, m⟩ := o
  have hil : i < fs.length := (List.getElem?_eq_some_iff.1 hi).1
  obtain ⟨g', r, e1⟩ := Rf_at hr hi
  have wn : IntKind.wrap .i64 ((f.2.length : Int) - 1) = (f.2.length : Int) - 1 := wrap64 (by omega) (by omega)
  have wl : IntKind.wrap .i64 ((fs.length : Int) - 1) = (fs.length : Int) - 1 := wrap64 (by omega) (by omega)
  have wf : IntKind.wrap .i64 (f.1 - 1) = f.1 - 1 := wrap64 (by omega) (by omega)
  refine fn_is (fn := Try.f72) rfl rfl rfl rfl ?_
  refine ⟨⟨by omega, by omega⟩, ?_⟩
  refine ⟨?_, ?_⟩
  · show 1 ≤ (cs.drop (i * 2)).length
    rw [e1]; simp
  refine ⟨g' + 1, f.2.length, oc f.2, ⟨?_, rfl⟩, ?_⟩
  · show ((cs.drop (i * 2)).drop 1).take 1 = _
    rw [e1]; rfl
  simp only [okOp]
  refine ⟨fun h => ?_, fun h => ?_⟩
  · rw [if_pos (eq_of_beq h)]
    refine ⟨_, retB (word_s x), ?_⟩
    exact ⟨fun h => ⟨congrArg xb (pickA h), rfl⟩, fun h => ⟨congrArg xb (pickF h), rfl⟩⟩
  rw [if_neg (ne_of_beq_false h)]
  refine ⟨fun h => ?_, fun h => ?_⟩
  · rw [if_pos (eq_of_beq h)]
    refine ⟨_, retB (in50 x 0 2999), ?_⟩
    exact ⟨fun h => ⟨congrArg xb (pickA h), rfl⟩, fun h => ⟨congrArg xb (pickF h), rfl⟩⟩
  rw [if_neg (ne_of_beq_false h)]
  refine ⟨fun h => ?_, fun h => ?_⟩
  · rw [if_pos (eq_of_beq h)]
    refine ⟨⟨by omega, by omega⟩, ?_⟩
    refine ⟨Nat.zero_le _, ?_⟩
    refine ⟨f.1, ⟨?_, rfl⟩, ?_⟩
    · show ((cs.drop (i * 2)).drop 0).take 1 = _
      rw [e1]; rfl
    refine ⟨_, retB (by rw [wf]; exact in50 x 0 (f.1 - 1)), ?_⟩
    exact ⟨fun h => ⟨congrArg xb (pickA h), rfl⟩, fun h => ⟨congrArg xb (pickF h), rfl⟩⟩
  rw [if_neg (ne_of_beq_false h)]
  refine ⟨fun h => ?_, fun h => ?_⟩
  · rw [if_pos (eq_of_beq h)]
    refine ⟨fun h => ?_, fun h => ?_⟩
    · rw [pickA (a := decide ((i : Int) > 0)) h]
      exact ⟨fun h => ⟨congrArg xb (pickA h), rfl⟩, fun h => ⟨congrArg xb (pickF h), rfl⟩⟩
    · rw [pickF (a := decide ((i : Int) > 0)) h]
      exact ⟨rfl, rfl⟩
  rw [if_neg (ne_of_beq_false h)]
  refine ⟨fun h => ?_, fun h => ?_⟩
  · rw [if_pos (eq_of_beq h)]
    refine ⟨_, retB (by rw [wl]; exact in50 x 1 ((fs.length : Int) - 1)), ?_⟩
    refine ⟨fun h => ?_, fun h => ⟨congrArg xb (pickF h), rfl⟩⟩
    obtain ⟨k, f2, rfl, hkl, hf2⟩ := inbF h
    obtain ⟨g2, r2, e2⟩ := Rf_at hr hf2
    refine ⟨⟨by omega, by omega⟩, ?_⟩
    refine ⟨Nat.zero_le _, ?_⟩
    refine ⟨f2.1, ⟨?_, rfl⟩, ?_⟩
    · show ((cs.drop (k * 2)).drop 0).take 1 = _
      rw [e2]; rfl
    refine ⟨congrArg xb ?_, rfl⟩
    rw [show wit (k : Int) 1 ((fs.length : Int) - 1) = true from h]
    simp only [frA, Int.toNat_natCast, hf2, Bool.true_and]
  rw [if_neg (ne_of_beq_false h)]
  refine ⟨fun h => ?_, fun h => ?_⟩
  · rw [if_pos (eq_of_beq h)]
    refine ⟨_, retB (tag_s x), ?_⟩
    refine ⟨fun h => ?_, fun h => ⟨congrArg xb (pickF h), rfl⟩⟩
    refine ⟨_, retB (in50 m 0 20), ?_⟩
    exact ⟨congrArg xb (pickA h), rfl⟩
  rw [if_neg (ne_of_beq_false h)]
  refine ⟨fun h => ?_, fun h => ?_⟩
  · rw [if_pos (eq_of_beq h)]
    refine ⟨_, retB (tag_s x), ?_⟩
    exact ⟨fun h => ⟨congrArg xb (pickA h), rfl⟩, fun h => ⟨congrArg xb (pickF h), rfl⟩⟩
  rw [if_neg (ne_of_beq_false h)]
  refine ⟨fun h => ?_, fun h => ?_⟩
  · rw [if_pos (eq_of_beq h)]
    refine ⟨_, retB (tag_s x), ?_⟩
    refine ⟨fun h => ?_, fun h => ⟨congrArg xb (pickF h), rfl⟩⟩
    refine ⟨_, retB (by rw [wn]; exact in50 m 0 ((f.2.length : Int) - 1)), ?_⟩
    exact ⟨congrArg xb (pickA h), rfl⟩
  rw [if_neg (ne_of_beq_false h)]
  refine ⟨fun h => ?_, fun h => ?_⟩
  · rw [if_pos (eq_of_beq h)]
    refine ⟨_, retB (word_s x), ?_⟩
    refine ⟨fun h => ?_, fun h => ⟨congrArg xb (pickF h), rfl⟩⟩
    refine ⟨_, retB (by rw [wn]; exact in50 m 0 ((f.2.length : Int) - 1)), ?_⟩
    exact ⟨congrArg xb (pickA h), rfl⟩
  rw [if_neg (ne_of_beq_false h)]
  refine ⟨fun h => ?_, fun h => ?_⟩
  · rw [if_pos (Or.inl (eq_of_beq h))]
    refine ⟨_, retB (by rw [wn]; exact in50 x 0 ((f.2.length : Int) - 1)), ?_⟩
    exact ⟨fun h => ⟨congrArg xb (pickA h), rfl⟩, fun h => ⟨congrArg xb (pickF h), rfl⟩⟩
  refine ⟨fun h2 => ?_, fun h2 => ?_⟩
  · rw [if_pos (Or.inr (eq_of_beq h2))]
    refine ⟨_, retB (by rw [wn]; exact in50 x 0 ((f.2.length : Int) - 1)), ?_⟩
    exact ⟨fun h => ⟨congrArg xb (pickA h), rfl⟩, fun h => ⟨congrArg xb (pickF h), rfl⟩⟩
  rw [if_neg (fun hh => hh.elim (ne_of_beq_false h) (ne_of_beq_false h2))]
  refine ⟨_, retB (in50 c 1 21), ?_⟩
  refine ⟨fun h => ?_, fun h => ?_⟩
  · rw [pickA (a := wit c 1 21) h]
    exact ⟨fun h => ⟨congrArg xb (pickA h), rfl⟩, fun h => ⟨congrArg xb (pickF h), rfl⟩⟩
  · rw [pickF (a := wit c 1 21) h]
    exact ⟨rfl, rfl⟩

/-- A place is right (the program's way). -/
theorem place_i {a : Int} {n : Nat} {cs : List TU} {g : Nat} {x : Int} (hn : n ≤ 1048576) : RT 107 [xi x, .c (.ptr () (.ex 0) [] 0)] [[.t (.int .i64 a), .t (.sl () (g + 1) 3 n cs)]] = some (xb (wit x 0 ((n : Int) - 1)), [[.t (.int .i64 a), .t (.sl () (g + 1) 3 n cs)]]) := by
  have wn : IntKind.wrap .i64 ((n : Int) - 1) = (n : Int) - 1 := wrap64 (by omega) (by omega)
  refine fn_isE (fn := Try.f107) rfl rfl rfl rfl ?_
  refine ⟨_, retB (by rw [wn]; exact in52 x 0 ((n : Int) - 1)), ?_⟩
  exact ⟨rfl, rfl⟩

abbrev telP : XU := .c (.fn 107 [.ptr () (.ex 0) [] 0])

theorem pick3 {w n m : Bool} (h : w = true) (h2 : n = true) : (w && n && m) = m := by rw [h, h2]; rfl
theorem pick3f {w n m : Bool} (h2 : n = false) : (w && n && m) = false := by rw [h2]; simp
theorem pick3n {w n m : Bool} (h : w = false) : (w && n && m) = false := by rw [h]; rfl

/-- A place is right, told by a function value. -/
theorem placeE {a : Int} {ops : List O3} {g : Nat} {x : Int} (hn : ops.length ≤ 1048576) :
    RetE RT 107 [xi x, .c (.ptr () (.ex 0) [] 0)] [[.t (.int .i64 a), .t (.sl () (g + 2) 3 ops.length (oc ops))]] (xb (wit x 0 ((ops.length : Int) - 1))) [[.t (.int .i64 a), .t (.sl () (g + 1) 3 ops.length (oc ops))]] := by
  refine ⟨_, place_i hn, rfl, ?_⟩
  simp only [List.mapM_cons, List.mapM_nil, downCs, downC, down, oc_down, Option.map_some, Option.bind_some]
  rfl

set_option maxHeartbeats 4000000 in
theorem op_i {fs : List FN} {cs : List TU} {g g2 i : Nat} {f : FN} {o : O3} (hr : Rf fs cs) (hn : fs.length ≤ 1048576) (hf : f.2.length ≤ 1048576) (h0 : 0 ≤ f.1 ∧ f.1 ≤ 20) :
    RT 75 [xl (g + 1) 2 fs.length cs, xc (fn2 f.1 (g2 + 1) f.2), xi i, xc [.int .i64 o.1, .int .i64 o.2.1, .int .i64 o.2.2]] [] = some (xb (okOp fs i f.2.length f.1 o), []) := by
  obtain ⟨c, x, m⟩ := o
  obtain ⟨a, ops⟩ := f
  have wl : IntKind.wrap .i64 ((fs.length : Int) - 1) = (fs.length : Int) - 1 := wrap64 (by omega) (by omega)
  have wf : IntKind.wrap .i64 (a - 1) = a - 1 := wrap64 (by simp only at h0; omega) (by simp only at h0; omega)
  have wt : ∀ {n m : Bool}, (wit c 1 21) = true → (n && m) = (wit c 1 21 && n && m) := fun h => by rw [h, Bool.true_and]
  have wc : ∀ {k : Int}, c = k → 1 ≤ k → k ≤ 21 → wit c 1 21 = true := fun h h1 h2 => by subst h; simp [wit, h1, h2]
  refine fn_is (fn := Try.f75) rfl rfl rfl rfl ?_
  refine ⟨⟨rfl, rfl⟩, ⟨rfl, rfl⟩, ⟨rfl, rfl⟩, ?_⟩
  simp only [okOp]
  refine ⟨fun h => ?_, fun h => ?_⟩
  · rw [if_pos (eq_of_beq h), wt (wc (eq_of_beq h) (by omega) (by omega))]
    refine ⟨_, retB (word_i x), ?_⟩
    refine ⟨_, retB (in52 c 1 21), ?_⟩
    exact ⟨fun h => ⟨fun h2 => ⟨congrArg xb (pick3 h h2), rfl⟩, fun h2 => ⟨congrArg xb (pick3f h2), rfl⟩⟩, fun h => ⟨congrArg xb (pick3n h), rfl⟩⟩
  rw [if_neg (ne_of_beq_false h)]
  refine ⟨fun h => ?_, fun h => ?_⟩
  · rw [if_pos (eq_of_beq h), wt (wc (eq_of_beq h) (by omega) (by omega))]
    refine ⟨_, retB (in52 x 0 2999), ?_⟩
    refine ⟨_, retB (in52 c 1 21), ?_⟩
    exact ⟨fun h => ⟨fun h2 => ⟨congrArg xb (pick3 h h2), rfl⟩, fun h2 => ⟨congrArg xb (pick3f h2), rfl⟩⟩, fun h => ⟨congrArg xb (pick3n h), rfl⟩⟩
  rw [if_neg (ne_of_beq_false h)]
  refine ⟨fun h => ?_, fun h => ?_⟩
  · rw [if_pos (eq_of_beq h), wt (wc (eq_of_beq h) (by omega) (by omega))]
    refine ⟨_, retB (by rw [wf]; exact in52 x 0 (a - 1)), ?_⟩
    refine ⟨_, retB (in52 c 1 21), ?_⟩
    exact ⟨fun h => ⟨fun h2 => ⟨congrArg xb (pick3 h h2), rfl⟩, fun h2 => ⟨congrArg xb (pick3f h2), rfl⟩⟩, fun h => ⟨congrArg xb (pick3n h), rfl⟩⟩
  rw [if_neg (ne_of_beq_false h)]
  refine ⟨fun h => ?_, fun h => ?_⟩
  · rw [if_pos (eq_of_beq h), Bool.and_comm (decide ((i : Int) > 0)), wt (wc (eq_of_beq h) (by omega) (by omega))]
    refine ⟨fun h => ?_, fun h => ?_⟩
    · rw [pickA (a := x == 0) h]
      refine ⟨_, retB (in52 c 1 21), ?_⟩
      exact ⟨fun h => ⟨fun h2 => ⟨congrArg xb (pick3 h h2), rfl⟩, fun h2 => ⟨congrArg xb (pick3f h2), rfl⟩⟩, fun h => ⟨congrArg xb (pick3n h), rfl⟩⟩
    · rw [pickF (a := x == 0) h]
      refine ⟨_, retB (in52 c 1 21), ?_⟩
      exact ⟨fun h => ⟨congrArg xb (pick3f rfl), rfl⟩, fun h => ⟨congrArg xb (pick3n h), rfl⟩⟩
  rw [if_neg (ne_of_beq_false h)]
  refine ⟨fun h => ?_, fun h => ?_⟩
  · rw [if_pos (eq_of_beq h), wt (wc (eq_of_beq h) (by omega) (by omega))]
    refine ⟨_, retB (by rw [wl]; exact in52 x 1 ((fs.length : Int) - 1)), ?_⟩
    refine ⟨fun h => ?_, fun hb => ?_⟩
    · obtain ⟨k, f2, rfl, hkl, hf2⟩ := inbF h
      obtain ⟨g2, r2, e2⟩ := Rf_at hr hf2
      refine ⟨⟨by omega, by omega⟩, ?_⟩
      refine ⟨Nat.zero_le _, ?_⟩
      refine ⟨f2.1, ⟨?_, rfl⟩, ?_⟩
      · show ((cs.drop (k * 2)).drop 0).take 1 = _
        rw [e2]; rfl
      rw [show frA fs (k : Int) = f2.1 by simp only [frA, Int.toNat_natCast, hf2]]
      refine ⟨_, retB (in52 c 1 21), ?_⟩
      exact ⟨fun h => ⟨fun h2 => ⟨congrArg xb (pick3 h h2), rfl⟩, fun h2 => ⟨congrArg xb (pick3f h2), rfl⟩⟩, fun h => ⟨congrArg xb (pick3n h), rfl⟩⟩
    · refine ⟨_, retB (in52 c 1 21), ?_⟩
      exact ⟨fun h => ⟨fun h2 => absurd (hb.symm.trans h2) (by decide), fun h2 => ⟨congrArg xb (pick3f h2), rfl⟩⟩, fun h => ⟨congrArg xb (pick3n h), rfl⟩⟩
  rw [if_neg (ne_of_beq_false h)]
  refine ⟨fun h => ?_, fun h => ?_⟩
  · rw [if_pos (eq_of_beq h), wt (wc (eq_of_beq h) (by omega) (by omega))]
    refine ⟨_, retB (in52 x 0 19), ?_⟩
    refine ⟨_, retB (in52 m 0 20), ?_⟩
    refine ⟨_, retB (in52 c 1 21), ?_⟩
    exact ⟨fun h => ⟨fun h2 => ⟨congrArg xb (pick3 h h2), rfl⟩, fun h2 => ⟨congrArg xb (pick3f h2), rfl⟩⟩, fun h => ⟨congrArg xb (pick3n h), rfl⟩⟩
  rw [if_neg (ne_of_beq_false h)]
  refine ⟨fun h => ?_, fun h => ?_⟩
  · rw [if_pos (eq_of_beq h), wt (wc (eq_of_beq h) (by omega) (by omega))]
    refine ⟨_, retB (in52 x 0 19), ?_⟩
    refine ⟨_, retB (in52 c 1 21), ?_⟩
    exact ⟨fun h => ⟨fun h2 => ⟨congrArg xb (pick3 h h2), rfl⟩, fun h2 => ⟨congrArg xb (pick3f h2), rfl⟩⟩, fun h => ⟨congrArg xb (pick3n h), rfl⟩⟩
  rw [if_neg (ne_of_beq_false h)]
  refine ⟨fun h => ?_, fun h => ?_⟩
  · rw [if_pos (eq_of_beq h), wt (wc (eq_of_beq h) (by omega) (by omega))]
    refine ⟨_, retB (in52 x 0 19), ?_⟩
    refine ⟨_, _, by rw [oc_ups]; exact placeE hf, ?_⟩
    refine ⟨_, retB (in52 c 1 21), ?_⟩
    exact ⟨fun h => ⟨fun h2 => ⟨congrArg xb (pick3 h h2), rfl⟩, fun h2 => ⟨congrArg xb (pick3f h2), rfl⟩⟩, fun h => ⟨congrArg xb (pick3n h), rfl⟩⟩
  rw [if_neg (ne_of_beq_false h)]
  refine ⟨fun h => ?_, fun h => ?_⟩
  · rw [if_pos (eq_of_beq h), wt (wc (eq_of_beq h) (by omega) (by omega))]
    refine ⟨_, retB (word_i x), ?_⟩
    refine ⟨_, _, by rw [oc_ups]; exact placeE hf, ?_⟩
    refine ⟨_, retB (in52 c 1 21), ?_⟩
    exact ⟨fun h => ⟨fun h2 => ⟨congrArg xb (pick3 h h2), rfl⟩, fun h2 => ⟨congrArg xb (pick3f h2), rfl⟩⟩, fun h => ⟨congrArg xb (pick3n h), rfl⟩⟩
  rw [if_neg (ne_of_beq_false h)]
  refine ⟨fun h => ?_, fun h => ?_⟩
  · rw [if_pos (Or.inl (eq_of_beq h)), wt (wc (eq_of_beq h) (by omega) (by omega))]
    refine ⟨_, _, by rw [oc_ups]; exact placeE hf, ?_⟩
    refine ⟨_, retB (in52 c 1 21), ?_⟩
    exact ⟨fun h => ⟨fun h2 => ⟨congrArg xb (pick3 h h2), rfl⟩, fun h2 => ⟨congrArg xb (pick3f h2), rfl⟩⟩, fun h => ⟨congrArg xb (pick3n h), rfl⟩⟩
  refine ⟨fun h2 => ?_, fun h2 => ?_⟩
  · rw [if_pos (Or.inr (eq_of_beq h2)), wt (wc (eq_of_beq h2) (by omega) (by omega))]
    refine ⟨_, _, by rw [oc_ups]; exact placeE hf, ?_⟩
    refine ⟨_, retB (in52 c 1 21), ?_⟩
    exact ⟨fun h => ⟨fun h2 => ⟨congrArg xb (pick3 h h2), rfl⟩, fun h2 => ⟨congrArg xb (pick3f h2), rfl⟩⟩, fun h => ⟨congrArg xb (pick3n h), rfl⟩⟩
  rw [if_neg (fun hh => hh.elim (ne_of_beq_false h) (ne_of_beq_false h2))]
  · skip
    refine ⟨_, retB (in52 c 1 21), ?_⟩
    exact ⟨fun h => ⟨fun h2 => ⟨congrArg xb (pick3 h h2), rfl⟩, fun h2 => ⟨congrArg xb (pick3f h2), rfl⟩⟩, fun h => ⟨congrArg xb (pick3n h), rfl⟩⟩

end Go.Proofs.Ytlkjnlfddadlmaa.V

namespace Go.Proofs.Ytlkjnlfddadlmaa.V
set_option maxRecDepth 100000

def lastO (ops : List O3) : Bool := match ops[ops.length - 1]? with | some o => o.1 == 7 || o.1 == 19 || o.1 == 21 | none => false
def okFn (fs : List FN) (i : Nat) (f : FN) : Bool := wit f.1 0 20 && wit f.2.length 1 3000 && f.2.all (okOp fs i f.2.length f.1) && lastO f.2
def okFns (fs : List FN) : Nat → List FN → Bool
  | _, [] => true
  | i, f :: l => okFn fs i f && okFns fs (i + 1) l
def okFuns (fs : List FN) : Bool := wit fs.length 1 60 && frA fs 0 == 0 && okFns fs 0 fs

theorem wit2 {a lo hi : Int} (h : (!(decide (a ≥ lo) && decide (a ≤ hi))) = false) : lo ≤ a ∧ a ≤ hi ∧ wit a lo hi = true := by
  simp only [Bool.not_eq_false'] at h
  refine ⟨?_, ?_, h⟩ <;> · simp only [Bool.and_eq_true, decide_eq_true_eq] at h; omega
theorem wit1 {a lo hi : Int} (h : (!(decide (a ≥ lo) && decide (a ≤ hi))) = true) : wit a lo hi = false := by
  simpa only [wit, Bool.not_eq_true'] using h

theorem linS {fs : List FN} {cs : List TU} {g i : Nat} {f : FN} {K : Ex → StA → Prop} (hw : Wl fs) (hr : Rf fs cs) (hi : fs[i]? = some f) (hn : fs.length ≤ 1048576) (hf : f.2.length ≤ 1048576) (h0 : 0 ≤ f.1 ∧ f.1 ≤ 20) :
    ∀ (l : List O3) (k : Nat), f.2.drop k = l → k ≤ f.2.length →
    (l.all (okOp fs i f.2.length f.1) = true → ∀ jk k, K (.exit 2) ⟨[(5, xi k), (4, xi f.2.length), (3, xi i), (0, xl (g + 1) 2 fs.length cs), (2, xb false)], jk, []⟩) →
    (l.all (okOp fs i f.2.length f.1) = false → ∀ jk k, K .ret ⟨[(5, xi k), (4, xi f.2.length), (3, xi i), (0, xl (g + 1) 2 fs.length cs), (2, xb false)], jk, []⟩) →
    ∀ jk, sem cx0 33 RT (.loop (lp Try.f33 1)) ⟨[(5, xi k), (4, xi f.2.length), (3, xi i), (0, xl (g + 1) 2 fs.length cs), (2, xb false)], jk, []⟩ K := by
  have hil : i < fs.length := (List.getElem?_eq_some_iff.1 hi).1
  obtain ⟨g', r, e1⟩ := Rf_at hr hi
  refine drop_ind ?_ ?_
  · intro k1 k2 jk
    refine loop_step cx0 _ RT [5, 4, 3, 0, 2] ⟨fun h => (lt_no h (by omega)).elim, fun h => ?_⟩
    exact fun jk => k1 rfl jk _
  · intro k o l ho hkl ih k1 k2 jk
    obtain ⟨r2, hr2⟩ := oc_at ho
    refine loop_step cx0 _ RT [5, 4, 3, 0, 2] ⟨fun h => ?_, fun h => (lt_yes h (by omega)).elim⟩
    refine ⟨⟨by omega, by omega⟩, ?_⟩
    refine ⟨?_, ?_⟩
    · show 1 ≤ (cs.drop (i * 2)).length
      rw [e1]; simp
    refine ⟨g' + 1, f.2.length, oc f.2, ⟨?_, rfl⟩, ?_⟩
    · show ((cs.drop (i * 2)).drop 1).take 1 = _
      rw [e1]; rfl
    refine ⟨⟨by omega, by omega⟩, ?_⟩
    refine ⟨o.1, o.2.1, o.2.2, ⟨?_, rfl⟩, ?_⟩
    · show ((oc f.2).drop (k * 3)).take 3 = _
      rw [hr2]; rfl
    refine ⟨_, retB (op_s (g := g + 1) hw hr.retag hi hn hf h0), ?_⟩
    refine ⟨fun h => ?_, fun h => ?_⟩
    · intro jk
      refine k2 ?_ jk _
      simp only [Bool.not_eq_true'] at h
      simp only [List.all_cons, h, Bool.false_and]
    · have h : okOp fs i f.2.length f.1 o = true := by simpa using h
      intro jk
      rw [wrapS hkl (show f.2.length ≤ maxLen by simp only [maxLen]; omega)]
      exact ih (fun hh => k1 (by simp only [List.all_cons, h, hh, Bool.true_and])) (fun hh => k2 (by simp only [List.all_cons, hh, Bool.and_false])) jk

theorem loutS {fs : List FN} {cs : List TU} {g : Nat} {K : Ex → StA → Prop} (hw : Wl fs) (hr : Rf fs cs) (hz : szFs fs ≤ 1048576) :
    ∀ (l : List FN) (i : Nat), fs.drop i = l → i ≤ fs.length →
    (okFns fs i l = true → ∀ jk i, K (.exit 0) ⟨[(3, xi i), (0, xl (g + 1) 2 fs.length cs), (2, xb false)], jk, []⟩) →
    (okFns fs i l = false → ∀ jk i, K .ret ⟨[(3, xi i), (0, xl (g + 1) 2 fs.length cs), (2, xb false)], jk, []⟩) →
    ∀ jk, sem cx0 33 RT (.loop (lp Try.f33 0)) ⟨[(3, xi i), (0, xl (g + 1) 2 fs.length cs), (2, xb false)], jk, []⟩ K := by
  have hz' := hz
  simp only [szFs] at hz'
  refine drop_ind ?_ ?_
  · intro k1 k2 jk
    refine loop_step cx0 _ RT [3, 0, 2] ⟨fun h => (lt_no h (by omega)).elim, fun h => ?_⟩
    exact fun jk => k1 rfl jk _
  · intro i f l hi hil ih k1 k2 jk
    have hkf := lszF_mem (List.mem_of_getElem? hi)
    obtain ⟨g', r, e1⟩ := Rf_at hr hi
    refine loop_step cx0 _ RT [3, 0, 2] ⟨fun h => ?_, fun h => (lt_yes h (by omega)).elim⟩
    refine ⟨⟨by omega, by omega⟩, ?_⟩
    refine ⟨?_, ?_⟩
    · show 1 ≤ (cs.drop (i * 2)).length
      rw [e1]; simp
    refine ⟨g' + 1, f.2.length, oc f.2, ⟨?_, rfl⟩, ?_⟩
    · show ((cs.drop (i * 2)).drop 1).take 1 = _
      rw [e1]; rfl
    refine ⟨⟨by omega, by omega⟩, ?_⟩
    refine ⟨Nat.zero_le _, ?_⟩
    refine ⟨f.1, ⟨?_, rfl⟩, ?_⟩
    · show ((cs.drop (i * 2)).drop 0).take 1 = _
      rw [e1]; rfl
    refine ⟨_, retB (in50 f.1 0 20), ?_⟩
    refine ⟨fun h => ?_, fun h => ?_⟩
    · intro jk
      refine k2 ?_ jk _
      simp only [okFns, okFn, wit1 h, Bool.false_and]
    obtain ⟨b1, b2, b3⟩ := wit2 h
    refine ⟨_, retB (in50 f.2.length 1 3000), ?_⟩
    refine ⟨fun h => ?_, fun h => ?_⟩
    · intro jk
      refine k2 ?_ jk _
      simp only [okFns, okFn, wit1 h, Bool.and_false, Bool.false_and]
    obtain ⟨b4, b5, b6⟩ := wit2 h
    refine sem_in cx0 _ RT [5, 4, 3, 0, 2] fun jk => ?_
    refine linS hw hr hi (by omega) (by omega) ⟨b1, b2⟩ f.2 0 rfl (by omega) (fun ha jk k => ?_) (fun ha jk k => ?_) jk
    · have wn : IntKind.wrap .i64 ((f.2.length : Int) - 1) = ((f.2.length - 1 : Nat) : Int) := by rw [wrap64 (by omega) (by omega)]; omega
      obtain ⟨o, ho⟩ : ∃ o, f.2[f.2.length - 1]? = some o := ⟨_, List.getElem?_eq_getElem (show f.2.length - 1 < f.2.length by omega)⟩
      obtain ⟨r2, hr2⟩ := oc_at ho
      have hlast : lastO f.2 = (o.1 == 7 || o.1 == 19 || o.1 == 21) := by simp only [lastO, ho]
      refine ⟨⟨by omega, by omega⟩, ?_⟩
      refine ⟨?_, ?_⟩
      · show 1 ≤ (cs.drop (i * 2)).length
        rw [e1]; simp
      refine ⟨g' + 1, f.2.length, oc f.2, ⟨?_, rfl⟩, ?_⟩
      · show ((cs.drop (i * 2)).drop 1).take 1 = _
        rw [e1]; rfl
      refine ⟨by rw [wn]; exact ⟨by omega, by omega⟩, ?_⟩
      refine ⟨Nat.zero_le _, ?_⟩
      refine ⟨o.1, ⟨?_, rfl⟩, ?_⟩
      · rw [wn]
        show (((oc f.2).drop ((f.2.length - 1) * 3)).drop 0).take 1 = _
        rw [hr2]; rfl
      have fin : ∀ (b : Bool), b = lastO f.2 → b = true → okFns fs i (f :: l) = okFns fs (i + 1) l := fun b hb h => by
        simp only [okFns, okFn, b3, b6, ha, ← hb, h, Bool.true_and]
      have bad : ∀ (b : Bool), b = lastO f.2 → b = false → okFns fs i (f :: l) = false := fun b hb h => by
        simp only [okFns, okFn, ← hb, h, Bool.and_false, Bool.false_and]
      have go : lastO f.2 = true → ∀ jk, sem cx0 33 RT (.loop (lp Try.f33 0)) ⟨[(3, xi ((i + 1 : Nat) : Int)), (0, xl (g + 1) 2 fs.length cs), (2, xb false)], jk, []⟩ K :=
        fun h => ih (fun hh => k1 (by rw [fin _ rfl h]; exact hh)) (fun hh => k2 (by rw [fin _ rfl h]; exact hh))
      have ws := wrapS hil (show fs.length ≤ maxLen by simp only [maxLen]; omega)
      refine ⟨fun h7 => ?_, fun h7 => ?_⟩
      · refine ⟨fun h19 => ?_, fun h19 => ?_⟩
        · refine ⟨fun h21 => ?_, fun h21 => ?_⟩
          · intro jk
            refine k2 (bad _ rfl ?_) jk _
            rw [hlast]
            simp only [bne, Bool.not_eq_true'] at h7 h19 h21
            simp only [h7, h19, h21, Bool.or_false]
          · intro jk
            rw [ws]
            refine go ?_ jk
            rw [hlast]
            simp only [bne, Bool.not_eq_false'] at h21
            simp only [h21, Bool.or_true]
        · intro jk
          rw [ws]
          refine go ?_ jk
          rw [hlast]
          simp only [bne, Bool.not_eq_false'] at h19
          simp only [h19, Bool.or_true, Bool.true_or]
      · intro jk
        rw [ws]
        refine go ?_ jk
        rw [hlast]
        simp only [bne, Bool.not_eq_false'] at h7
        simp only [h7, Bool.true_or]
    · intro jk
      refine k2 ?_ jk _
      simp only [okFns, okFn, ha, Bool.and_false, Bool.false_and]

theorem frA0 {fs : List FN} {f : FN} (hi : fs[0]? = some f) : frA fs 0 = f.1 := by
  show (match fs[0]? with | some f => f.1 | none => 0) = f.1
  rw [hi]

theorem oks {fs : List FN} {cs : List TU} {g : Nat} (hw : Wl fs) (hr : Rf fs cs) (hz : szFs fs ≤ 1048576) : RT 33 [xl (g + 1) 2 fs.length cs] [] = some (xb (okFuns fs), []) := by
  refine fn_is (fn := Try.f33) rfl rfl rfl rfl ?_
  refine ⟨_, retB (in50 fs.length 1 60), ?_⟩
  refine ⟨fun h => ?_, fun h => ?_⟩
  · refine ⟨?_, rfl⟩
    simp only [okFuns, wit1 h, Bool.false_and]; rfl
  obtain ⟨b1, b2, b3⟩ := wit2 h
  obtain ⟨f, hi⟩ : ∃ f, fs[0]? = some f := ⟨_, List.getElem?_eq_getElem (show 0 < fs.length by omega)⟩
  obtain ⟨g', r, e1⟩ := Rf_at hr hi
  refine ⟨⟨by omega, by omega⟩, ?_⟩
  refine ⟨Nat.zero_le _, ?_⟩
  refine ⟨f.1, ⟨?_, rfl⟩, ?_⟩
  · show ((cs.drop (0 * 2)).drop 0).take 1 = _
    rw [e1]; rfl
  refine ⟨fun h => ?_, fun h => ?_⟩
  · refine ⟨?_, rfl⟩
    simp only [bne, Bool.not_eq_true'] at h
    simp only [okFuns, frA0 hi, h, Bool.and_false, Bool.false_and]; rfl
  simp only [bne, Bool.not_eq_false'] at h
  refine sem_in cx0 _ RT [3, 0, 2] fun jk => ?_
  refine loutS hw hr hz fs 0 rfl (by omega) (fun ha jk i => ?_) (fun ha jk i => ?_) jk
  · refine ⟨?_, rfl⟩
    simp only [okFuns, b3, frA0 hi, h, ha, Bool.and_true]; rfl
  · refine ⟨?_, rfl⟩
    simp only [okFuns, ha, Bool.and_false]; rfl
end Go.Proofs.Ytlkjnlfddadlmaa.V

namespace Go.Proofs.Ytlkjnlfddadlmaa.V
set_option maxRecDepth 100000

theorem linI {fs : List FN} {cs : List TU} {g g2 g3 i : Nat} {f : FN} {K : Ex → StA → Prop} (hr : Rf fs cs) (hn : fs.length ≤ 1048576) (hf : f.2.length ≤ 1048576) (h0 : 0 ≤ f.1 ∧ f.1 ≤ 20) :
    ∀ (l : List O3) (k : Nat), f.2.drop k = l → k ≤ f.2.length →
    (l.all (okOp fs i f.2.length f.1) = true → ∀ jk k, K (.exit 2) ⟨[(39, xi k), (38, xi f.2.length), (37, xl (g2 + 1) 3 f.2.length (oc f.2)), (20, xi i), (19, xi fs.length), (18, xl (g3 + 1) 2 fs.length cs), (4, .box () ((fn2 f.1 (g2 + 1) f.2).map .t)), (3, xi i), (0, xl (g + 1) 2 fs.length cs), (2, xb false)], jk, []⟩) →
    (l.all (okOp fs i f.2.length f.1) = false → ∀ jk k, K .ret ⟨[(39, xi k), (38, xi f.2.length), (37, xl (g2 + 1) 3 f.2.length (oc f.2)), (20, xi i), (19, xi fs.length), (18, xl (g3 + 1) 2 fs.length cs), (4, .box () ((fn2 f.1 (g2 + 1) f.2).map .t)), (3, xi i), (0, xl (g + 1) 2 fs.length cs), (2, xb false)], jk, []⟩) →
    ∀ jk, sem cx0 37 RT (.loop (lp Try.f37 1)) ⟨[(39, xi k), (38, xi f.2.length), (37, xl (g2 + 1) 3 f.2.length (oc f.2)), (20, xi i), (19, xi fs.length), (18, xl (g3 + 1) 2 fs.length cs), (4, .box () ((fn2 f.1 (g2 + 1) f.2).map .t)), (3, xi i), (0, xl (g + 1) 2 fs.length cs), (2, xb false)], jk, []⟩ K := by
  refine drop_ind ?_ ?_
  · intro k1 k2 jk
    refine loop_step cx0 _ RT [39, 38, 37, 20, 19, 18, 4, 3, 0, 2] ⟨fun h => (lt_no h (by omega)).elim, fun h => ?_⟩
    exact fun jk => k1 rfl jk _
  · intro k o l ho hkl ih k1 k2 jk
    obtain ⟨r2, hr2⟩ := oc_at ho
    refine loop_step cx0 _ RT [39, 38, 37, 20, 19, 18, 4, 3, 0, 2] ⟨fun h => ?_, fun h => (lt_yes h (by omega)).elim⟩
    refine ⟨⟨by omega, by omega⟩, ?_⟩
    refine ⟨o.1, o.2.1, o.2.2, ⟨?_, rfl⟩, ?_⟩
    · show ((oc f.2).drop (k * 3)).take 3 = _
      rw [hr2]; rfl
    refine ⟨_, retB (by rw [oc_retag]; exact op_i (g := g + 1) (g2 := g2 + 1) hr.retag hn hf h0), ?_⟩
    refine ⟨fun h => ?_, fun h => ?_⟩
    · intro jk
      refine k2 ?_ jk _
      simp only [Bool.not_eq_true'] at h
      simp only [List.all_cons, h, Bool.false_and]
    · have h : okOp fs i f.2.length f.1 o = true := by simpa using h
      intro jk
      rw [wrapS hkl (show f.2.length ≤ maxLen by simp only [maxLen]; omega)]
      exact ih (fun hh => k1 (by simp only [List.all_cons, h, hh, Bool.true_and])) (fun hh => k2 (by simp only [List.all_cons, hh, Bool.and_false])) jk

theorem loutI {fs : List FN} {cs : List TU} {g g3 : Nat} {K : Ex → StA → Prop} (hr : Rf fs cs) (hz : szFs fs ≤ 1048576) :
    ∀ (l : List FN) (i : Nat), fs.drop i = l → i ≤ fs.length →
    (okFns fs i l = true → ∀ jk i, K (.exit 0) ⟨[(20, xi i), (19, xi fs.length), (18, xl (g3 + 1) 2 fs.length cs), (0, xl (g + 1) 2 fs.length cs), (2, xb false)], jk, []⟩) →
    (okFns fs i l = false → ∀ jk i, K .ret ⟨[(20, xi i), (19, xi fs.length), (18, xl (g3 + 1) 2 fs.length cs), (0, xl (g + 1) 2 fs.length cs), (2, xb false)], jk, []⟩) →
    ∀ jk, sem cx0 37 RT (.loop (lp Try.f37 0)) ⟨[(20, xi i), (19, xi fs.length), (18, xl (g3 + 1) 2 fs.length cs), (0, xl (g + 1) 2 fs.length cs), (2, xb false)], jk, []⟩ K := by
  have hz' := hz
  simp only [szFs] at hz'
  refine drop_ind ?_ ?_
  · intro k1 k2 jk
    refine loop_step cx0 _ RT [20, 19, 18, 0, 2] ⟨fun h => (lt_no h (by omega)).elim, fun h => ?_⟩
    exact fun jk => k1 rfl jk _
  · intro i f l hi hil ih k1 k2 jk
    have hkf := lszF_mem (List.mem_of_getElem? hi)
    obtain ⟨g', r, e1⟩ := Rf_at hr hi
    refine loop_step cx0 _ RT [20, 19, 18, 0, 2] ⟨fun h => ?_, fun h => (lt_yes h (by omega)).elim⟩
    refine ⟨⟨by omega, by omega⟩, ?_⟩
    refine ⟨f.1, g' + 1, f.2.length, oc f.2, ⟨?_, rfl⟩, ?_⟩
    · show (cs.drop (i * 2)).take 2 = _
      rw [e1]; rfl
    refine ⟨_, retB (in52 f.1 0 20), ?_⟩
    refine ⟨fun h => ?_, fun h => ?_⟩
    · intro jk
      refine k2 ?_ jk _
      simp only [okFns, okFn, wit1 h, Bool.false_and]
    obtain ⟨b1, b2, b3⟩ := wit2 h
    refine ⟨_, retB (in52 f.2.length 1 3000), ?_⟩
    refine ⟨fun h => ?_, fun h => ?_⟩
    · intro jk
      refine k2 ?_ jk _
      simp only [okFns, okFn, wit1 h, Bool.and_false, Bool.false_and]
    obtain ⟨b4, b5, b6⟩ := wit2 h
    refine sem_in cx0 _ RT [39, 38, 37, 20, 19, 18, 4, 3, 0, 2] fun jk => ?_
    refine linI hr (by omega) (by omega) ⟨b1, b2⟩ f.2 0 rfl (by omega) (fun ha jk k => ?_) (fun ha jk k => ?_) jk
    · have wn : IntKind.wrap .i64 ((f.2.length : Int) - 1) = ((f.2.length - 1 : Nat) : Int) := by rw [wrap64 (by omega) (by omega)]; omega
      obtain ⟨o, ho⟩ : ∃ o, f.2[f.2.length - 1]? = some o := ⟨_, List.getElem?_eq_getElem (show f.2.length - 1 < f.2.length by omega)⟩
      obtain ⟨r2, hr2⟩ := oc_at ho
      have hlast : lastO f.2 = (o.1 == 7 || o.1 == 19 || o.1 == 21) := by simp only [lastO, ho]
      refine ⟨by rw [wn]; exact ⟨by omega, by omega⟩, ?_⟩
      refine ⟨Nat.zero_le _, ?_⟩
      refine ⟨o.1, ⟨?_, rfl⟩, ?_⟩
      · rw [wn]
        show (((oc f.2).drop ((f.2.length - 1) * 3)).drop 0).take 1 = _
        rw [hr2]; rfl
      have fin : lastO f.2 = true → okFns fs i (f :: l) = okFns fs (i + 1) l := fun h => by
        simp only [okFns, okFn, b3, b6, ha, h, Bool.true_and]
      have bad : lastO f.2 = false → okFns fs i (f :: l) = false := fun h => by
        simp only [okFns, okFn, h, Bool.and_false, Bool.false_and]
      have go : lastO f.2 = true → ∀ jk, sem cx0 37 RT (.loop (lp Try.f37 0)) ⟨[(20, xi ((i + 1 : Nat) : Int)), (19, xi fs.length), (18, xl (g3 + 1) 2 fs.length cs), (0, xl (g + 1) 2 fs.length cs), (2, xb false)], jk, []⟩ K :=
        fun h => ih (fun hh => k1 (by rw [fin h]; exact hh)) (fun hh => k2 (by rw [fin h]; exact hh))
      have ws := wrapS hil (show fs.length ≤ maxLen by simp only [maxLen]; omega)
      refine ⟨fun h7 => ?_, fun h7 => ?_⟩
      · intro jk
        rw [ws]
        refine go ?_ jk
        rw [hlast]
        simp only [h7, Bool.true_or]
      refine ⟨fun h19 => ?_, fun h19 => ?_⟩
      · intro jk
        rw [ws]
        refine go ?_ jk
        rw [hlast]
        simp only [h19, Bool.true_or, Bool.or_true]
      refine ⟨fun h21 => ?_, fun h21 => ?_⟩
      · intro jk
        rw [ws]
        refine go ?_ jk
        rw [hlast]
        simp only [h21, Bool.or_true]
      · intro jk
        refine k2 (bad ?_) jk _
        rw [hlast]
        simp only [h7, h19, h21, Bool.or_false]
    · intro jk
      refine k2 ?_ jk _
      simp only [okFns, okFn, ha, Bool.and_false, Bool.false_and]

theorem oki {fs : List FN} {cs : List TU} {g : Nat} (hr : Rf fs cs) (hz : szFs fs ≤ 1048576) : RT 37 [xl (g + 1) 2 fs.length cs] [] = some (xb (okFuns fs), []) := by
  refine fn_is (fn := Try.f37) rfl rfl rfl rfl ?_
  refine ⟨_, retB (in52 fs.length 1 60), ?_⟩
  refine ⟨fun h => ?_, fun h => ?_⟩
  · refine ⟨?_, rfl⟩
    simp only [okFuns, wit1 h, Bool.false_and]; rfl
  obtain ⟨b1, b2, b3⟩ := wit2 h
  obtain ⟨f, hi⟩ : ∃ f, fs[0]? = some f := ⟨_, List.getElem?_eq_getElem (show 0 < fs.length by omega)⟩
  obtain ⟨g', r, e1⟩ := Rf_at hr hi
  refine ⟨⟨by omega, by omega⟩, ?_⟩
  refine ⟨Nat.zero_le _, ?_⟩
  refine ⟨f.1, ⟨?_, rfl⟩, ?_⟩
  · show ((cs.drop (0 * 2)).drop 0).take 1 = _
    rw [e1]; rfl
  refine ⟨fun h => ?_, fun h => ?_⟩
  · refine ⟨?_, rfl⟩
    simp only [bne, Bool.not_eq_true'] at h
    simp only [okFuns, frA0 hi, h, Bool.and_false, Bool.false_and]; rfl
  simp only [bne, Bool.not_eq_false'] at h
  refine sem_in cx0 _ RT [20, 19, 18, 0, 2] fun jk => ?_
  refine loutI hr hz fs 0 rfl (by omega) (fun ha jk i => ?_) (fun ha jk i => ?_) jk
  · refine ⟨?_, rfl⟩
    simp only [okFuns, b3, frA0 hi, h, ha, Bool.and_true]; rfl
  · refine ⟨?_, rfl⟩
    simp only [okFuns, ha, Bool.and_false]; rfl
end Go.Proofs.Ytlkjnlfddadlmaa.V

namespace Go.Proofs.Ytlkjnlfddadlmaa.V
set_option maxRecDepth 100000

def peO (ops : List O3) (o : O3) : O3 :=
  if o.1 = 19 ∨ o.1 = 18 then (o.1, fol ops ops.length o.2.1, o.2.2) else if o.1 = 10 ∨ o.1 = 11 then (o.1, o.2.1, fol ops ops.length o.2.2) else o
def peF (f : FN) : FN := (f.1, f.2.map (peO f.2))
def peep (fs : List FN) : List FN := if okFuns fs then fs.map peF else fs

/-- A list that is half gone over. -/
abbrev half (f : FN) (k : Nat) : List O3 := (f.2.map (peO f.2)).take k ++ f.2.drop k
theorem half_len {f : FN} {k : Nat} (h : k ≤ f.2.length) : (half f k).length = f.2.length := by
  simp only [half, List.length_append, List.length_take, List.length_map, List.length_drop]; omega

theorem half0 {f : FN} {k : Nat} {o : O3} (ho : f.2[k]? = some o) : oc (half f k) = oc ((f.2.map (peO f.2)).take k) ++ (.int .i64 o.1 :: .int .i64 o.2.1 :: .int .i64 o.2.2 :: oc (f.2.drop (k + 1))) := by
  obtain ⟨h, rfl⟩ := List.getElem?_eq_some_iff.1 ho
  simp only [half, oc_append]
  rw [List.drop_eq_getElem_cons h]; rfl
theorem half1 {f : FN} {k : Nat} {o : O3} (ho : f.2[k]? = some o) : oc (half f (k + 1)) = oc ((f.2.map (peO f.2)).take k) ++ (.int .i64 (peO f.2 o).1 :: .int .i64 (peO f.2 o).2.1 :: .int .i64 (peO f.2 o).2.2 :: oc (f.2.drop (k + 1))) := by
  simp only [half, List.take_add_one, List.getElem?_map, ho, Option.map_some, Option.toList_some, oc_append, List.append_assoc]; rfl

abbrev stP (N i n k : Nat) (g g' : Nat) (ops : List O3) (cs ds : List TU) (jk : Nat → XU) : StA :=
  ⟨[(6, xi k), (5, xl (g' + 1) 3 n (oc ops)), (4, xi i), (3, xl 0 2 N ds), (0, xl (g + 1) 2 N cs), (2, xl 0 2 0 [])], jk, []⟩

theorem linP {fs pre post : List FN} {cs : List TU} {g g' i : Nat} {f : FN} {K : Ex → StA → Prop} (hp : pre.length = i) (hN : pre.length + 1 + post.length = fs.length) (hn : fs.length ≤ 1048576) (hf : f.2.length ≤ 1048576) :
    ∀ (l : List O3) (k : Nat), f.2.drop k = l → k ≤ f.2.length →
    (∀ jk k, K (.exit 2) (stP fs.length i f.2.length k g g' f.2 cs (fc pre ++ .int .i64 f.1 :: .sl () 0 3 f.2.length (oc (f.2.map (peO f.2))) :: fc post) jk)) →
    ∀ jk, sem cx0 9 RT (.loop (lp Try.f9 1)) (stP fs.length i f.2.length k g g' f.2 cs (fc pre ++ .int .i64 f.1 :: .sl () 0 3 f.2.length (oc (half f k)) :: fc post) jk) K := by
  have hpl : (fc pre).length = i * 2 := by rw [fc_len, hp]
  refine drop_ind ?_ ?_
  · intro k1 jk
    refine loop_step cx0 _ RT [6, 5, 4, 3, 0, 2] ⟨fun h => (lt_no h (by omega)).elim, fun h => ?_⟩
    intro jk
    have := k1 jk f.2.length
    simp only [half, List.drop_length, List.append_nil]
    rw [List.take_of_length_le (by rw [List.length_map]; omega)]
    exact this
  · intro k o l ho hkl ih k1 jk
    obtain ⟨r2, hr2⟩ := oc_at ho
    have hql : (oc ((f.2.map (peO f.2)).take k)).length = k * 3 := by rw [oc_len, List.length_take, List.length_map, Nat.min_eq_left (by omega)]
    have ih := ih k1
    rw [half1 ho] at ih
    rw [half0 ho]
    obtain ⟨Q, hQ⟩ : ∃ Q, oc ((f.2.map (peO f.2)).take k) = Q := ⟨_, rfl⟩
    rw [hQ] at ih hql ⊢
    have ws := wrapS hkl (show f.2.length ≤ maxLen by simp only [maxLen]; omega)
    have go1 : o.1 = 19 ∨ o.1 = 18 → ∀ jk, sem cx0 9 RT (.loop (lp Try.f9 1)) (stP fs.length i f.2.length (k + 1) g g' f.2 cs (fc pre ++ .int .i64 f.1 :: .sl () 0 3 f.2.length (Q ++ .int .i64 o.1 :: .int .i64 (fol f.2 f.2.length o.2.1) :: .int .i64 o.2.2 :: oc (f.2.drop (k + 1))) :: fc post) jk) K := fun h => by
      have e : peO f.2 o = (o.1, fol f.2 f.2.length o.2.1, o.2.2) := by simp only [peO, if_pos h]
      rw [e] at ih; exact ih
    have go2 : ¬ (o.1 = 19 ∨ o.1 = 18) → o.1 = 10 ∨ o.1 = 11 → ∀ jk, sem cx0 9 RT (.loop (lp Try.f9 1)) (stP fs.length i f.2.length (k + 1) g g' f.2 cs (fc pre ++ .int .i64 f.1 :: .sl () 0 3 f.2.length (Q ++ .int .i64 o.1 :: .int .i64 o.2.1 :: .int .i64 (fol f.2 f.2.length o.2.2) :: oc (f.2.drop (k + 1))) :: fc post) jk) K := fun h0 h => by
      have e : peO f.2 o = (o.1, o.2.1, fol f.2 f.2.length o.2.2) := by simp only [peO, if_neg h0, if_pos h]
      rw [e] at ih; exact ih
    have go3 : ¬ (o.1 = 19 ∨ o.1 = 18) → ¬ (o.1 = 10 ∨ o.1 = 11) → ∀ jk, sem cx0 9 RT (.loop (lp Try.f9 1)) (stP fs.length i f.2.length (k + 1) g g' f.2 cs (fc pre ++ .int .i64 f.1 :: .sl () 0 3 f.2.length (Q ++ .int .i64 o.1 :: .int .i64 o.2.1 :: .int .i64 o.2.2 :: oc (f.2.drop (k + 1))) :: fc post) jk) K := fun h0 h => by
      have e : peO f.2 o = o := by simp only [peO, if_neg h0, if_neg h]
      rw [e] at ih; exact ih
    clear ih
    refine loop_step cx0 _ RT [6, 5, 4, 3, 0, 2] ⟨fun h => ?_, fun h => (lt_yes h (by omega)).elim⟩
    refine ⟨⟨by omega, by omega⟩, ?_⟩
    refine ⟨Nat.zero_le _, ?_⟩
    refine ⟨o.1, ⟨?_, rfl⟩, ?_⟩
    · show (((oc f.2).drop (k * 3)).drop 0).take 1 = _
      rw [hr2]; rfl
    refine ⟨fun h19 => ?_, fun h19 => ?_⟩
    · refine ⟨⟨by omega, by omega⟩, ?_⟩
      refine ⟨0, f.2.length, Q ++ .int .i64 o.1 :: .int .i64 o.2.1 :: .int .i64 o.2.2 :: oc (f.2.drop (k + 1)), ?_⟩
      refine ⟨⟨by rw [gatW hpl]; rfl, rfl⟩, ?_⟩
      refine ⟨⟨by omega, by omega⟩, ?_⟩
      refine ⟨?_, ?_⟩
      · show 1 ≤ ((oc f.2).drop (k * 3)).length
        rw [hr2]; simp
      refine ⟨o.2.1, ⟨?_, rfl⟩, ?_⟩
      · show (((oc f.2).drop (k * 3)).drop 1).take 1 = _
        rw [hr2]; rfl
      refine ⟨_, retI (by rw [oc_retag]; exact fol15 hf), ?_⟩
      refine ⟨⟨by omega, by omega⟩, ?_⟩
      refine ⟨3, f.2.length, Q ++ .int .i64 o.1 :: .int .i64 o.2.1 :: .int .i64 o.2.2 :: oc (f.2.drop (k + 1)), by rw [ggeW hpl]; rfl, ?_⟩
      refine ⟨glenW hql (by simp), ?_⟩
      rw [gputW (w := 3) (B := .int .i64 o.1 :: .int .i64 o.2.1 :: .int .i64 o.2.2 :: oc (f.2.drop (k + 1))) (ts := [.int .i64 (fol f.2 f.2.length o.2.1)]) (j := 1) (B' := .int .i64 o.1 :: .int .i64 (fol f.2 f.2.length o.2.1) :: .int .i64 o.2.2 :: oc (f.2.drop (k + 1))) hql rfl]
      intro jk
      rw [gsetW hpl]
      intro jk
      rw [ws]
      exact go1 (Or.inl (eq_of_beq h19)) jk
    refine ⟨fun h18 => ?_, fun h18 => ?_⟩
    · refine ⟨⟨by omega, by omega⟩, ?_⟩
      refine ⟨0, f.2.length, Q ++ .int .i64 o.1 :: .int .i64 o.2.1 :: .int .i64 o.2.2 :: oc (f.2.drop (k + 1)), ?_⟩
      refine ⟨⟨by rw [gatW hpl]; rfl, rfl⟩, ?_⟩
      refine ⟨⟨by omega, by omega⟩, ?_⟩
      refine ⟨?_, ?_⟩
      · show 1 ≤ ((oc f.2).drop (k * 3)).length
        rw [hr2]; simp
      refine ⟨o.2.1, ⟨?_, rfl⟩, ?_⟩
      · show (((oc f.2).drop (k * 3)).drop 1).take 1 = _
        rw [hr2]; rfl
      refine ⟨_, retI (by rw [oc_retag]; exact fol15 hf), ?_⟩
      refine ⟨⟨by omega, by omega⟩, ?_⟩
      refine ⟨3, f.2.length, Q ++ .int .i64 o.1 :: .int .i64 o.2.1 :: .int .i64 o.2.2 :: oc (f.2.drop (k + 1)), by rw [ggeW hpl]; rfl, ?_⟩
      refine ⟨glenW hql (by simp), ?_⟩
      rw [gputW (w := 3) (B := .int .i64 o.1 :: .int .i64 o.2.1 :: .int .i64 o.2.2 :: oc (f.2.drop (k + 1))) (ts := [.int .i64 (fol f.2 f.2.length o.2.1)]) (j := 1) (B' := .int .i64 o.1 :: .int .i64 (fol f.2 f.2.length o.2.1) :: .int .i64 o.2.2 :: oc (f.2.drop (k + 1))) hql rfl]
      intro jk
      rw [gsetW hpl]
      intro jk
      rw [ws]
      exact go1 (Or.inr (eq_of_beq h18)) jk
    have n1 : ¬ (o.1 = 19 ∨ o.1 = 18) := fun hh => hh.elim (ne_of_beq_false h19) (ne_of_beq_false h18)
    refine ⟨fun h10 => ?_, fun h10 => ?_⟩
    · refine ⟨⟨by omega, by omega⟩, ?_⟩
      refine ⟨0, f.2.length, Q ++ .int .i64 o.1 :: .int .i64 o.2.1 :: .int .i64 o.2.2 :: oc (f.2.drop (k + 1)), ?_⟩
      refine ⟨⟨by rw [gatW hpl]; rfl, rfl⟩, ?_⟩
      refine ⟨⟨by omega, by omega⟩, ?_⟩
      refine ⟨?_, ?_⟩
      · show 2 ≤ ((oc f.2).drop (k * 3)).length
        rw [hr2]; simp
      refine ⟨o.2.2, ⟨?_, rfl⟩, ?_⟩
      · show (((oc f.2).drop (k * 3)).drop 2).take 1 = _
        rw [hr2]; rfl
      refine ⟨_, retI (by rw [oc_retag]; exact fol15 hf), ?_⟩
      refine ⟨⟨by omega, by omega⟩, ?_⟩
      refine ⟨3, f.2.length, Q ++ .int .i64 o.1 :: .int .i64 o.2.1 :: .int .i64 o.2.2 :: oc (f.2.drop (k + 1)), by rw [ggeW hpl]; rfl, ?_⟩
      refine ⟨glenW hql (by simp), ?_⟩
      rw [gputW (w := 3) (B := .int .i64 o.1 :: .int .i64 o.2.1 :: .int .i64 o.2.2 :: oc (f.2.drop (k + 1))) (ts := [.int .i64 (fol f.2 f.2.length o.2.2)]) (j := 2) (B' := .int .i64 o.1 :: .int .i64 o.2.1 :: .int .i64 (fol f.2 f.2.length o.2.2) :: oc (f.2.drop (k + 1))) hql rfl]
      intro jk
      rw [gsetW hpl]
      intro jk
      rw [ws]
      exact go2 n1 (Or.inl (eq_of_beq h10)) jk
    refine ⟨fun h11 => ?_, fun h11 => ?_⟩
    · refine ⟨⟨by omega, by omega⟩, ?_⟩
      refine ⟨0, f.2.length, Q ++ .int .i64 o.1 :: .int .i64 o.2.1 :: .int .i64 o.2.2 :: oc (f.2.drop (k + 1)), ?_⟩
      refine ⟨⟨by rw [gatW hpl]; rfl, rfl⟩, ?_⟩
      refine ⟨⟨by omega, by omega⟩, ?_⟩
      refine ⟨?_, ?_⟩
      · show 2 ≤ ((oc f.2).drop (k * 3)).length
        rw [hr2]; simp
      refine ⟨o.2.2, ⟨?_, rfl⟩, ?_⟩
      · show (((oc f.2).drop (k * 3)).drop 2).take 1 = _
        rw [hr2]; rfl
      refine ⟨_, retI (by rw [oc_retag]; exact fol15 hf), ?_⟩
      refine ⟨⟨by omega, by omega⟩, ?_⟩
      refine ⟨3, f.2.length, Q ++ .int .i64 o.1 :: .int .i64 o.2.1 :: .int .i64 o.2.2 :: oc (f.2.drop (k + 1)), by rw [ggeW hpl]; rfl, ?_⟩
      refine ⟨glenW hql (by simp), ?_⟩
      rw [gputW (w := 3) (B := .int .i64 o.1 :: .int .i64 o.2.1 :: .int .i64 o.2.2 :: oc (f.2.drop (k + 1))) (ts := [.int .i64 (fol f.2 f.2.length o.2.2)]) (j := 2) (B' := .int .i64 o.1 :: .int .i64 o.2.1 :: .int .i64 (fol f.2 f.2.length o.2.2) :: oc (f.2.drop (k + 1))) hql rfl]
      intro jk
      rw [gsetW hpl]
      intro jk
      rw [ws]
      exact go2 n1 (Or.inr (eq_of_beq h11)) jk
    intro jk
    rw [ws]
    exact go3 n1 (fun hh => hh.elim (ne_of_beq_false h10) (ne_of_beq_false h11)) jk
end Go.Proofs.Ytlkjnlfddadlmaa.V

namespace Go.Proofs.Ytlkjnlfddadlmaa.V
set_option maxRecDepth 100000

theorem mid {fs : List FN} {i : Nat} {f : FN} (hi : fs[i]? = some f) : fc ((fs.map peF).take i ++ fs.drop i) = fc ((fs.map peF).take i) ++ .int .i64 f.1 :: .sl () 0 3 f.2.length (oc (half f 0)) :: fc (fs.drop (i + 1)) := by
  obtain ⟨h, rfl⟩ := List.getElem?_eq_some_iff.1 hi
  rw [List.drop_eq_getElem_cons h, fc_append]
  simp only [fc, half, List.take_zero, List.drop_zero, List.nil_append]
theorem mid2 {fs : List FN} {i : Nat} {f : FN} (hi : fs[i]? = some f) : fc ((fs.map peF).take (i + 1) ++ fs.drop (i + 1)) = fc ((fs.map peF).take i) ++ .int .i64 f.1 :: .sl () 0 3 f.2.length (oc (f.2.map (peO f.2))) :: fc (fs.drop (i + 1)) := by
  rw [List.take_add_one, List.getElem?_map, hi, fc_append, Option.map_some, Option.toList_some, fc_append]
  simp only [fc, peF, List.length_map, List.append_assoc, List.cons_append, List.nil_append]

theorem loutP {fs : List FN} {cs : List TU} {g : Nat} {K : Ex → StA → Prop} (hw : Wl fs) (hr : Rf fs cs) (hz : szFs fs ≤ 1048576) (hok : okFuns fs = true) :
    ∀ (l : List FN) (i : Nat), fs.drop i = l → i ≤ fs.length →
    (∀ jk i, K (.exit 0) ⟨[(4, xi i), (3, xl 0 2 fs.length (fc (fs.map peF))), (0, xl (g + 1) 2 fs.length cs), (2, xl 0 2 0 [])], jk, []⟩) →
    ∀ jk, sem cx0 9 RT (.loop (lp Try.f9 0)) ⟨[(4, xi i), (3, xl 0 2 fs.length (fc ((fs.map peF).take i ++ fs.drop i))), (0, xl (g + 1) 2 fs.length cs), (2, xl 0 2 0 [])], jk, []⟩ K := by
  have hz' := hz
  simp only [szFs] at hz'
  refine drop_ind ?_ ?_
  · intro k1 jk
    refine loop_step cx0 _ RT [4, 3, 0, 2] ⟨fun h => (lt_no h (by omega)).elim, fun h => ?_⟩
    intro jk
    have := k1 jk fs.length
    rw [List.drop_length, List.append_nil, List.take_of_length_le (by rw [List.length_map]; omega)]
    exact this
  · intro i f l hi hil ih k1 jk
    have hkf := lszF_mem (List.mem_of_getElem? hi)
    obtain ⟨g', r, e1⟩ := Rf_at hr hi
    have ih := ih k1
    rw [mid2 hi] at ih
    rw [mid hi]
    have hpl : ((fs.map peF).take i).length = i := by rw [List.length_take, List.length_map]; omega
    refine loop_step cx0 _ RT [4, 3, 0, 2] ⟨fun h => ?_, fun h => (lt_yes h (by omega)).elim⟩
    refine ⟨_, retB (oks (g := g + 1) hw hr.retag hz), ?_⟩
    refine ⟨fun h => ?_, fun h => absurd (hok.symm.trans h) (by decide)⟩
    refine ⟨⟨by omega, by omega⟩, ?_⟩
    refine ⟨?_, ?_⟩
    · show 1 ≤ (cs.drop (i * 2)).length
      rw [e1]; simp
    refine ⟨g' + 1, f.2.length, oc f.2, ⟨?_, rfl⟩, ?_⟩
    · show ((cs.drop (i * 2)).drop 1).take 1 = _
      rw [e1]; rfl
    refine sem_in cx0 _ RT [6, 5, 4, 3, 0, 2] fun jk => ?_
    refine linP (g := g) (g' := g') (fs := fs) (pre := (fs.map peF).take i) (post := fs.drop (i + 1)) (f := f) hpl (by rw [hpl, List.length_drop]; omega) (by omega) (by omega) f.2 0 rfl (by omega) (fun jk k => ?_) jk
    intro jk
    rw [wrapS hil (by simp only [maxLen]; omega)]
    exact ih jk

theorem peS {fs : List FN} {cs : List TU} {g : Nat} (hw : Wl fs) (hr : Rf fs cs) (hz : szFs fs ≤ 1048576) : RT 9 [xl (g + 1) 2 fs.length cs] [] = some (xl 0 2 fs.length (fc (peep fs)), []) := by
  have hpl : (peep fs).length = fs.length := by simp only [peep]; split <;> simp
  have hz' := hz
  simp only [szFs] at hz'
  refine fn_is (fn := Try.f9) rfl rfl rfl rfl ?_
  refine ⟨_, retF (cpS (g := g + 1) hz hr.retag), ?_⟩
  refine sem_in cx0 _ RT [4, 3, 0, 2] fun jk => ?_
  cases hok : okFuns fs with
  | true =>
    have e : peep fs = fs.map peF := by simp only [peep, hok, if_true]
    refine loutP (g := g) hw hr hz hok fs 0 rfl (by omega) (fun jk i => ?_) jk
    refine ⟨by rw [fc_len, List.length_map]; omega, ?_⟩
    refine ⟨?_, rfl⟩
    rw [e]
    have := fc_whole (fs.map peF)
    rw [List.length_map] at this
    exact congrArg (xl 0 2 fs.length) this.symm
  | false =>
    have e : peep fs = fs := by simp only [peep, hok, Bool.false_eq_true, if_false]
    refine loop_step cx0 _ RT [4, 3, 0, 2] ⟨fun h => ?_, fun h => ?_⟩
    · refine ⟨_, retB (oks (g := g + 1) hw hr.retag hz), ?_⟩
      refine ⟨fun h => absurd (hok.symm.trans h) (by decide), fun h => ?_⟩
      intro jk
      refine ⟨by rw [fc_len]; omega, ?_⟩
      refine ⟨?_, rfl⟩
      rw [e]
      exact congrArg (xl 0 2 fs.length) (fc_whole fs).symm
    · intro jk
      refine ⟨by rw [fc_len]; omega, ?_⟩
      refine ⟨?_, rfl⟩
      rw [e]
      exact congrArg (xl 0 2 fs.length) (fc_whole fs).symm
end Go.Proofs.Ytlkjnlfddadlmaa.V

namespace Go.Proofs.Ytlkjnlfddadlmaa.V
set_option maxRecDepth 100000

abbrev stI (N i n k : Nat) (a : Int) (ops : List O3) (ds : List TU) (jk : Nat → XU) : StA :=
  ⟨[(26, xi k), (25, xi n), (24, .c (.bor () (.sl 6) [] 0 0 3 n)), (17, xi i), (16, xi N), (15, .c (.bor () (.sl 3) [] 0 0 2 N)), (6, xl 0 3 n (oc ops)), (5, .box () [.t (.int .i64 a), .bor () (.sl 3) [0] (0 + (i : Int).toNat * 2 + 1) 0 3 n]), (3, xl 0 2 N ds), (2, xl 0 2 0 [])], jk, []⟩

theorem leads_i (c : Int) : RT 38 [xi c] [] = some (xi (if c = 18 ∨ c = 19 then 1 else if c = 10 ∨ c = 11 then 2 else 0), []) := by
  refine fn_is (fn := Try.f38) rfl rfl rfl rfl ?_
  refine ⟨fun h => ?_, fun h => ?_⟩
  · rw [if_pos (Or.inl (eq_of_beq h))]; exact ⟨rfl, rfl⟩
  refine ⟨fun h2 => ?_, fun h2 => ?_⟩
  · rw [if_pos (Or.inr (eq_of_beq h2))]; exact ⟨rfl, rfl⟩
  rw [if_neg (fun hh => hh.elim (ne_of_beq_false h) (ne_of_beq_false h2))]
  refine ⟨fun h3 => ?_, fun h3 => ?_⟩
  · rw [if_pos (Or.inl (eq_of_beq h3))]; exact ⟨rfl, rfl⟩
  refine ⟨fun h4 => ?_, fun h4 => ?_⟩
  · rw [if_pos (Or.inr (eq_of_beq h4))]; exact ⟨rfl, rfl⟩
  rw [if_neg (fun hh => hh.elim (ne_of_beq_false h3) (ne_of_beq_false h4))]
  exact ⟨rfl, rfl⟩

theorem pe1 {ops : List O3} {o : O3} (h : ((if o.1 = 18 ∨ o.1 = 19 then 1 else if o.1 = 10 ∨ o.1 = 11 then 2 else 0 : Int) == 1) = true) : peO ops o = (o.1, fol ops ops.length o.2.1, o.2.2) := by
  by_cases h1 : o.1 = 18 ∨ o.1 = 19
  · simp only [peO, if_pos h1.symm]
  · rw [if_neg h1] at h
    split at h <;> simp at h
theorem pe2 {ops : List O3} {o : O3} (h : ((if o.1 = 18 ∨ o.1 = 19 then 1 else if o.1 = 10 ∨ o.1 = 11 then 2 else 0 : Int) == 1) = false) (h2 : ((if o.1 = 18 ∨ o.1 = 19 then 1 else if o.1 = 10 ∨ o.1 = 11 then 2 else 0 : Int) == 2) = true) : peO ops o = (o.1, o.2.1, fol ops ops.length o.2.2) := by
  by_cases h1 : o.1 = 18 ∨ o.1 = 19
  · rw [if_pos h1] at h; simp at h
  · rw [if_neg h1] at h2
    by_cases h3 : o.1 = 10 ∨ o.1 = 11
    · simp only [peO, if_neg (fun hh : o.1 = 19 ∨ o.1 = 18 => h1 hh.symm), if_pos h3]
    · rw [if_neg h3] at h2; simp at h2
theorem pe3 {ops : List O3} {o : O3} (h : ((if o.1 = 18 ∨ o.1 = 19 then 1 else if o.1 = 10 ∨ o.1 = 11 then 2 else 0 : Int) == 1) = false) (h2 : ((if o.1 = 18 ∨ o.1 = 19 then 1 else if o.1 = 10 ∨ o.1 = 11 then 2 else 0 : Int) == 2) = false) : peO ops o = o := by
  by_cases h1 : o.1 = 18 ∨ o.1 = 19
  · rw [if_pos h1] at h; simp at h
  · rw [if_neg h1] at h2
    by_cases h3 : o.1 = 10 ∨ o.1 = 11
    · rw [if_pos h3] at h2; simp at h2
    · simp only [peO, if_neg (fun hh : o.1 = 19 ∨ o.1 = 18 => h1 hh.symm), if_neg h3]

theorem linQ {fs pre post : List FN} {i : Nat} {f : FN} {K : Ex → StA → Prop} (hp : pre.length = i) (hN : pre.length + 1 + post.length = fs.length) (hn : fs.length ≤ 1048576) (hf : f.2.length ≤ 1048576) :
    ∀ (l : List O3) (k : Nat), f.2.drop k = l → k ≤ f.2.length →
    (∀ jk k, K (.exit 2) (stI fs.length i f.2.length k f.1 f.2 (fc pre ++ .int .i64 f.1 :: .sl () 0 3 f.2.length (oc (f.2.map (peO f.2))) :: fc post) jk)) →
    ∀ jk, sem cx0 11 RT (.loop (lp Try.f11 1)) (stI fs.length i f.2.length k f.1 f.2 (fc pre ++ .int .i64 f.1 :: .sl () 0 3 f.2.length (oc (half f k)) :: fc post) jk) K := by
  have hpl : (fc pre).length = i * 2 := by rw [fc_len, hp]
  refine drop_ind ?_ ?_
  · intro k1 jk
    refine loop_step cx0 _ RT [26, 25, 24, 17, 16, 15, 6, 5, 3, 2] ⟨fun h => (lt_no h (by omega)).elim, fun h => ?_⟩
    intro jk
    have := k1 jk f.2.length
    simp only [half, List.drop_length, List.append_nil]
    rw [List.take_of_length_le (by rw [List.length_map]; omega)]
    exact this
  · intro k o l ho hkl ih k1 jk
    obtain ⟨r2, hr2⟩ := oc_at ho
    have hql : (oc ((f.2.map (peO f.2)).take k)).length = k * 3 := by rw [oc_len, List.length_take, List.length_map, Nat.min_eq_left (by omega)]
    have ih := ih k1
    rw [half1 ho] at ih
    rw [half0 ho]
    obtain ⟨Q, hQ⟩ : ∃ Q, oc ((f.2.map (peO f.2)).take k) = Q := ⟨_, rfl⟩
    rw [hQ] at ih hql ⊢
    have ws := wrapS hkl (show f.2.length ≤ maxLen by simp only [maxLen]; omega)
    refine loop_step cx0 _ RT [26, 25, 24, 17, 16, 15, 6, 5, 3, 2] ⟨fun h => ?_, fun h => (lt_yes h (by omega)).elim⟩
    refine ⟨⟨by omega, by omega⟩, ?_⟩
    refine ⟨o.1, o.2.1, o.2.2, ⟨?_, rfl⟩, ?_⟩
    · show ((oc f.2).drop (0 + k * 3)).take 3 = _
      rw [Nat.zero_add, hr2]; rfl
    refine ⟨_, retI (leads_i o.1), ?_⟩
    refine ⟨fun h1 => ?_, fun h1 => ?_⟩
    · have e : peO f.2 o = (o.1, fol f.2 f.2.length o.2.1, o.2.2) := pe1 h1
      rw [e] at ih
      refine ⟨by rw [oc_len]; omega, ?_⟩
      refine ⟨_, retI (by rw [oc_whole, oc_retag]; exact fol17 hf), ?_⟩
      refine ⟨⟨by omega, by omega⟩, ?_⟩
      refine ⟨3, f.2.length, Q ++ .int .i64 o.1 :: .int .i64 o.2.1 :: .int .i64 o.2.2 :: oc (f.2.drop (k + 1)), by rw [ggeW hpl]; rfl, ?_⟩
      refine ⟨glenW hql (by simp), ?_⟩
      rw [gputW (w := 3) (B := .int .i64 o.1 :: .int .i64 o.2.1 :: .int .i64 o.2.2 :: oc (f.2.drop (k + 1))) (ts := [.int .i64 (fol f.2 f.2.length o.2.1)]) (j := 1) (B' := .int .i64 o.1 :: .int .i64 (fol f.2 f.2.length o.2.1) :: .int .i64 o.2.2 :: oc (f.2.drop (k + 1))) hql rfl]
      intro jk
      rw [gsetW hpl]
      intro jk
      rw [ws]
      exact ih jk
    refine ⟨fun h2 => ?_, fun h2 => ?_⟩
    · have e : peO f.2 o = (o.1, o.2.1, fol f.2 f.2.length o.2.2) := pe2 h1 h2
      rw [e] at ih
      refine ⟨by rw [oc_len]; omega, ?_⟩
      refine ⟨_, retI (by rw [oc_whole, oc_retag]; exact fol17 hf), ?_⟩
      refine ⟨⟨by omega, by omega⟩, ?_⟩
      refine ⟨3, f.2.length, Q ++ .int .i64 o.1 :: .int .i64 o.2.1 :: .int .i64 o.2.2 :: oc (f.2.drop (k + 1)), by rw [ggeW hpl]; rfl, ?_⟩
      refine ⟨glenW hql (by simp), ?_⟩
      rw [gputW (w := 3) (B := .int .i64 o.1 :: .int .i64 o.2.1 :: .int .i64 o.2.2 :: oc (f.2.drop (k + 1))) (ts := [.int .i64 (fol f.2 f.2.length o.2.2)]) (j := 2) (B' := .int .i64 o.1 :: .int .i64 o.2.1 :: .int .i64 (fol f.2 f.2.length o.2.2) :: oc (f.2.drop (k + 1))) hql rfl]
      intro jk
      rw [gsetW hpl]
      intro jk
      rw [ws]
      exact ih jk
    rw [pe3 h1 h2] at ih
    intro jk
    rw [ws]
    exact ih jk

theorem oc_flat : ∀ l : List O3, (oc l).all flatT = true
  | [] => rfl
  | o :: l => by simp only [oc, List.all_cons, oc_flat l]; rfl

abbrev stI2 (N i : Nat) (ds : List TU) (jk : Nat → XU) : StA := ⟨[(17, xi i), (16, xi N), (15, .c (.bor () (.sl 3) [] 0 0 2 N)), (3, xl 0 2 N ds), (2, xl 0 2 0 [])], jk, []⟩

theorem loutQ {fs : List FN} {K : Ex → StA → Prop} (hz : szFs fs ≤ 1048576) :
    ∀ (l : List FN) (i : Nat), fs.drop i = l → i ≤ fs.length →
    (∀ jk i, K (.exit 0) (stI2 fs.length i (fc (fs.map peF)) jk)) →
    ∀ jk, sem cx0 11 RT (.loop (lp Try.f11 0)) (stI2 fs.length i (fc ((fs.map peF).take i ++ fs.drop i)) jk) K := by
  have hz' := hz
  simp only [szFs] at hz'
  refine drop_ind ?_ ?_
  · intro k1 jk
    refine loop_step cx0 _ RT [17, 16, 15, 3, 2] ⟨fun h => (lt_no h (by omega)).elim, fun h => ?_⟩
    intro jk
    have := k1 jk fs.length
    rw [List.drop_length, List.append_nil, List.take_of_length_le (by rw [List.length_map]; omega)]
    exact this
  · intro i f l hi hil ih k1 jk
    have hkf := lszF_mem (List.mem_of_getElem? hi)
    have ih := ih k1
    rw [mid2 hi] at ih
    rw [mid hi]
    have hpl : ((fs.map peF).take i).length = i := by rw [List.length_take, List.length_map]; omega
    have hql : (fc ((fs.map peF).take i)).length = i * 2 := by rw [fc_len, hpl]
    refine loop_step cx0 _ RT [17, 16, 15, 3, 2] ⟨fun h => ?_, fun h => (lt_yes h (by omega)).elim⟩
    refine ⟨⟨by omega, by omega⟩, ?_⟩
    refine ⟨f.1, 0, f.2.length, oc (half f 0), ⟨?_, rfl⟩, ?_⟩
    · show ((fc ((fs.map peF).take i) ++ _).drop (0 + (i : Int).toNat * 2)).take 2 = _
      rw [show 0 + (i : Int).toNat * 2 = 0 + (i : Int).toNat * 2 + 0 from rfl, gatW hql]; rfl
    refine ⟨by rw [ggeW hql]; rfl, ?_⟩
    refine ⟨.sl () 0 3 f.2.length (oc (half f 0)), by rw [ggeW hql]; rfl, ?_⟩
    have hh : half f 0 = f.2 := by simp only [half, List.take_zero, List.drop_zero, List.nil_append]
    refine ⟨by rw [oc_len, hh]; omega, ?_⟩
    rw [hh, oc_whole]
    refine ⟨oc_flat f.2, ?_⟩
    refine ⟨⟨by simp only [maxLen]; omega, by show (0 + f.2.length) * 24 ≤ _; omega⟩, ?_⟩
    refine sem_in cx0 _ RT [26, 25, 24, 17, 16, 15, 6, 5, 3, 2] fun jk => ?_
    rw [Nat.zero_add f.2.length]
    refine linQ (fs := fs) (pre := (fs.map peF).take i) (post := fs.drop (i + 1)) (f := f) hpl (by rw [hpl, List.length_drop]; omega) (by omega) (by omega) f.2 0 rfl (by omega) (fun jk k => ?_) jk
    intro jk
    rw [wrapS hil (by simp only [maxLen]; omega)]
    exact ih jk
end Go.Proofs.Ytlkjnlfddadlmaa.V

namespace Go.Proofs.Ytlkjnlfddadlmaa.V
set_option maxRecDepth 100000

theorem peep_len (fs : List FN) : (peep fs).length = fs.length := by simp only [peep]; split <;> simp

theorem peI {fs : List FN} {cs : List TU} {g : Nat} (hr : Rf fs cs) (hz : szFs fs ≤ 1048576) : RT 11 [xl (g + 1) 2 fs.length cs] [] = some (xl 0 2 fs.length (fc (peep fs)), []) := by
  have hz' := hz
  simp only [szFs] at hz'
  refine fn_is (fn := Try.f11) rfl rfl rfl rfl ?_
  refine ⟨_, retF (cpI (g := g + 1) hz hr.retag), ?_⟩
  refine ⟨_, retB (oki (g := g + 1) hr.retag hz), ?_⟩
  cases hok : okFuns fs with
  | true =>
    have e : peep fs = fs.map peF := by simp only [peep, hok, if_true]
    refine ⟨(fun h => by cases h), fun h => ?_⟩
    refine sem_in cx0 _ RT [17, 16, 15, 3, 2] fun jk => ?_
    refine loutQ hz fs 0 rfl (by omega) (fun jk i => ?_) jk
    refine ⟨by rw [fc_len, List.length_map]; omega, ?_⟩
    refine ⟨?_, rfl⟩
    rw [e]
    have := fc_whole (fs.map peF)
    rw [List.length_map] at this
    exact congrArg (xl 0 2 fs.length) this.symm
  | false =>
    have e : peep fs = fs := by simp only [peep, hok, Bool.false_eq_true, if_false]
    refine ⟨fun h => ?_, (fun h => by cases h)⟩
    refine ⟨by rw [fc_len]; omega, ?_⟩
    refine ⟨?_, rfl⟩
    rw [e]
    exact congrArg (xl 0 2 fs.length) (fc_whole fs).symm

theorem Wl_peep {fs : List FN} (hw : Wl fs) : Wl (peep fs) := by
  refine ⟨by rw [peep_len]; exact hw.1, fun f hf => ?_⟩
  simp only [peep] at hf
  split at hf
  · obtain ⟨f0, h1, rfl⟩ := List.mem_map.1 hf
    simp only [peF, List.length_map]
    exact hw.2 f0 h1
  · exact hw.2 f hf
theorem szMF_peep (fs : List FN) : szMF (peep fs) = szMF fs := by
  simp only [peep]
  split
  · induction fs with
    | nil => rfl
    | cons f l ih =>
      have : ∀ l : List FN, szMF (l.map peF) = szMF l := by
        intro l
        induction l with
        | nil => rfl
        | cons f l ih => simp only [List.map_cons, szMF, ih, peF, List.length_map]
      exact this _
  · rfl

theorem sh_funs {k : Nat} {us : List TU} (h : Sh Try.prog k 22 us) : ∃ (fs : List FN) (cs : List TU), us = [.sl () 1 2 fs.length cs] ∧ Rf fs cs ∧ Wl fs := by
  cases k with
  | zero => exact h.elim
  | succ k =>
    have hu : Try.prog.underlying 22 = some (.slice 52) := by kernel_rfl
    simp only [Sh, hu] at h
    obtain ⟨cs, rfl, l1, l2, l3⟩ := h
    have key : ∀ cs : List (List TU), (∀ c ∈ cs, Sh Try.prog k 52 c) → ∃ fs : List FN, fs.length = cs.length ∧ Rf fs cs.flatten ∧ ∀ f ∈ fs, f.2.length ≤ maxLen := by
      intro cs
      induction cs with
      | nil => intro _; exact ⟨[], rfl, rfl, fun f h => by cases h⟩
      | cons c cs ihc =>
        intro h
        obtain ⟨fs, k1, k2, k3⟩ := ihc fun y hy => h y (List.mem_cons_of_mem _ hy)
        have hc := h c List.mem_cons_self
        cases k with
        | zero => exact hc.elim
        | succ k =>
          obtain ⟨fl, hu, hf⟩ := fieldTys_ok (P := Try.prog) (t := 52) (l := [3, 50]) (by kernel_rfl)
          simp only [Sh, hu] at hc
          have hc := ShF_L hc
          rw [hf] at hc
          obtain ⟨a1, b1, rfl, c1, a2, b2, rfl, c2, rfl⟩ := hc
          obtain ⟨x, rfl, _⟩ := sh_int c1
          obtain ⟨ops, rfl, ho⟩ := sh_ops c2
          refine ⟨(x, ops) :: fs, by simp [k1], ⟨0, cs.flatten, by simp, k2⟩, fun f hf => ?_⟩
          rcases List.mem_cons.1 hf with rfl | hf
          · exact ho
          · exact k3 f hf
    obtain ⟨fs, k1, k2, k3⟩ := key cs l3
    have e : Try.prog.cellsOf 52 = 2 := by kernel_rfl
    exact ⟨fs, cs.flatten, by rw [e, k1], k2, by omega, k3⟩

set_option maxHeartbeats 4000000 in
theorem lawPeepFuns {fs : List FN} {cs : List TU} (hw : Wl fs) (hr : Rf fs cs) : RT 3 [xl 1 2 fs.length cs] [] = some (xb true, []) := by
  have s1 := szFS (g := 1) hw hr.retag
  refine fn_is (fn := Try.f3) rfl rfl rfl rfl ?_
  refine ⟨_, retI s1, ?_⟩
  refine ⟨fun h => ⟨rfl, rfl⟩, fun h => ?_⟩
  obtain ⟨h1, _⟩ := szR_yes h
  have hz : szFs fs ≤ 1048576 := by omega
  have hz' := hz
  simp only [szFs] at hz'
  have hm := szMF_le fs
  have s2 := toFS (g := 1) hz hr.retag
  have ho := fc_retag fs
  have s3 := peS (g := 0) hw ho hz
  have i1 := peI (g := 0) ho hz
  have hpl := peep_len fs
  have hpw := Wl_peep hw
  have hpm := szMF_peep fs
  generalize peep fs = F at s3 i1 hpl hpw hpm
  have W : ∀ L : List FN, L.length = fs.length → 0 + fs.length * 2 ≤ (fc L).length := fun L h => by rw [fc_len, h]; omega
  have wh : ∀ L : List FN, L.length = fs.length → ((fc L).drop 0).take (fs.length * 2) = fc L := fun L h => by rw [← h]; exact fc_whole L
  have eF := eqFS (g := 0) (h := 0) hpw (fc_retag F) (fc_retag F)
  have eX := eqFS (g := 0) (h := 0) hw (fc_retag fs) (fc_retag fs)
  rw [hpl] at eF
  have mX := markF (k := 1) hw (by omega) (by omega)
  have mF := markF (k := 1) hpw (by omega) (by omega)
  have hF := heldF (g := 0) (k := 1) hpw (fc_retag _) (by omega) (by omega)
  rw [hpl] at mF hF
  have hml : (mkF F 1).length = fs.length := by rw [mkF_len, hpl]
  refine ⟨_, retF s2, ?_⟩
  refine ⟨_, retF s3, ?_⟩
  refine ⟨_, retF s2, ?_⟩
  refine ⟨W _ rfl, ?_⟩
  refine ⟨_, retF (by rw [wh _ rfl]; exact i1), ?_⟩
  refine ⟨W _ hpl, ?_⟩
  refine ⟨W _ hpl, ?_⟩
  refine ⟨_, retB (by rw [wh _ hpl]; exact eF), ?_⟩
  refine ⟨(fun h => by cases h), fun _ => ?_⟩
  refine ⟨_, retF s2, ?_⟩
  refine ⟨W _ rfl, ?_⟩
  refine ⟨_, retB (by rw [wh _ rfl]; exact eX), ?_⟩
  refine ⟨(fun h => by cases h), fun _ => ?_⟩
  refine ⟨_, _, retMF (by rw [fc_ups]; exact mX), ?_⟩
  refine ⟨fun h => (by simp at h; omega), fun _ => ?_⟩
  refine ⟨W _ hpl, ?_⟩
  refine ⟨W _ hpl, ?_⟩
  refine ⟨_, retB (by rw [wh _ hpl]; exact eF), ?_⟩
  refine ⟨(fun h => by cases h), fun _ => ?_⟩
  refine ⟨_, _, retMF (by rw [fc_ups]; exact mF), ?_⟩
  refine ⟨W _ hml, ?_⟩
  refine ⟨_, retI (by rw [wh _ hml]; exact hF), ?_⟩
  refine ⟨fun h => (by simp at h; omega), fun _ => ?_⟩
  refine ⟨fun h => by simp at h, fun _ => ?_⟩
  refine ⟨_, retF s2, ?_⟩
  refine ⟨_, retF i1, ?_⟩
  refine ⟨W _ hpl, ?_⟩
  refine ⟨W _ hpl, ?_⟩
  refine ⟨_, retB (by rw [wh _ hpl]; exact eF), ?_⟩
  refine ⟨(fun h => by cases h), fun _ => ?_⟩
  refine ⟨W _ hml, ?_⟩
  refine ⟨_, retI (by rw [wh _ hml]; exact hF), ?_⟩
  refine ⟨fun h => (by simp at h; omega), fun _ => ?_⟩
  refine ⟨fun h => by simp at h, fun _ => ?_⟩
  exact ⟨rfl, rfl⟩

end Go.Proofs.Ytlkjnlfddadlmaa.V
