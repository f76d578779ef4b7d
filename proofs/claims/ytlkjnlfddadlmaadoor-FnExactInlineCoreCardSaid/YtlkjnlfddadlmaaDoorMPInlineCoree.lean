/-
  Names given anew: the reference's, told. No conditions.
-/
import Derived.Test.YtlkjnlfddadlmaaDoorMPInlineCored
set_option linter.unusedVariables false
set_option linter.unusedSimpArgs false
namespace Go.Proofs.YtlkjnlfddadlmaaDoor.V
set_option maxRecDepth 100000

theorem newE {k : Nat} (hk : k ≤ 8388608) : RetE RT 43 [.c (.ptr () (.ex 0) [] 0)] [[.t (.int .i64 k)]] (xs (vn k)) [[.t (.int .i64 ((k + 1 : Nat) : Int))]] := ⟨_, new_s hk, rfl, rfl⟩

theorem cans_len {op : Int} {s t s' t' : Nm} {env : Env} : ∀ (l : List Co) (i k : Nat), (cans op s t s' t' env i k l).2.length = l.length
  | [], i, k => by simp only [cans]
  | c :: l, i, k => by simp only [cans, List.length_cons, cans_len l]

abbrev stC (n : Int) (g1 g8 g9 : Nat) (op : Int) (s t s' t' : Nm) (ks : List Co) (cs : List TU) (E8 E9 : Env) (j : Int) (R : List Co) (k : Nat) (jk : Nat → XU) : StA :=
  ⟨[(10, xi j), (7, .box () ((core op n s' t' 0 R.length (encs R)).map .t)), (0, .c (.ptr () (.ex 0) [] 0)), (8, xl g8 2 E8.length (prs E8)), (9, xl g9 2 E9.length (prs E9)), (4, .box () ((core op n s t (g1 + 1) ks.length cs).map .t)), (6, .box () (zC.map .t))], jk, [[.t (.int .i64 k)]]⟩

set_option maxHeartbeats 8000000 in
theorem can_s : ∀ c : Co, S27 c := by
  refine Co.ind fun op n s t ks ih => ?_
  intro us k env g cs ha hz hk he hcs hr
  subst hcs
  obtain ⟨g1, cs, rfl, hr⟩ := hr
  have hz' : szCs ks ≤ 1048576 := by simp only [szC] at hz; omega
  simp only [szC] at hk he
  simp only [arOk, Bool.and_eq_true] at ha
  obtain ⟨hop, hks⟩ := ha
  have hop : arC op = ks.length := eq_of_beq hop
  have fin : ∀ (s' t' : Nm) (k0 g8 g9 : Nat) (E8 E9 : Env), newS op s k env = s' → newT op k = t' → k + cnN op = k0 → (g8 = 0 ∨ g8 = g + 1) → (g9 = 0 ∨ g9 = g + 1) →
      (∀ i, i < ks.length → (if i = 0 then E8 else E9) = cenv op s t s' t' i env) → k0 + 2 * szCs ks ≤ 4194300 → ∀ (K : Ex → StA → Prop),
      (∀ jk j, K (.exit 1) (stC n g1 g8 g9 op s t s' t' ks cs E8 E9 j (cans op s t s' t' env 0 k0 ks).2 (cans op s t s' t' env 0 k0 ks).1 jk)) →
      ∀ jk, sem cx0 24 RT (.loop (lp Tryd.f24 0)) (stC n g1 g8 g9 op s t s' t' ks cs E8 E9 (0 : Nat) [] k0 jk) K := by
    intro s' t' k0 g8 g9 E8 E9 h1 h2 h3 h8 h9 hE hk0 K k1 jk
    refine lcn (g := g1) (g2 := g) (n := n) ih hz' hks hr h8 h9 hE (by omega) ks 0 rfl (by omega) k0 [] rfl hk0 (fun jk j => ?_) jk
    have := k1 jk j
    simp only [stC, cans_len] at this
    exact this
  clear ih
  have goal : can k env (.mk op n s t ks) = ((cans op s t (newS op s k env) (newT op k) env 0 (k + cnN op) ks).1, .mk op n (newS op s k env) (newT op k) (cans op s t (newS op s k env) (newT op k) env 0 (k + cnN op) ks).2) := by rw [can]
  rw [goal]
  have hRl := fun s' t' => cans_len (op := op) (s := s) (t := t) (s' := s') (t' := t') (env := env) ks 0 (k + cnN op)
  have hself : ∀ (s' t' : Nm) (R : List Co), xc (enc (.mk op n s' t' R)) = xc (core op n s' t' 0 R.length (((encs R).drop 0).take (R.length * 5))) := by
    intro s' t' R
    rw [encs_whole R]; rfl
  refine fn_isE (fn := Tryd.f24) rfl rfl rfl rfl ?_
  refine ⟨fun h2 => ?_, fun h2 => ?_⟩
  · refine ⟨_, retX (look_s (g := g + 1) (prs_retag env) (by omega)), ?_⟩
    have h2' := eq_of_beq h2
    subst h2'
    have hk0 : ks.length = 0 := by have : arC 2 = 0 := by decide
                                   omega
    refine sem_in cx0 _ RT [10, 7, 0, 8, 9, 4, 6] fun jk => ?_
    refine fin (lkF env s env.length) [] k (g + 1) (g + 1) env env rfl rfl rfl (.inr rfl) (.inr rfl) (fun i hi => by omega) (by omega) _ (fun jk j => ?_) jk
    refine ⟨inV _, ?_⟩
    exact ⟨hself _ _ _, rfl⟩
  refine ⟨fun h3 => ?_, fun h3 => ?_⟩
  · have h3' := eq_of_beq h3
    subst h3'
    have hk0 : ks.length = 1 := by have : arC 3 = 1 := by decide
                                   omega
    have hc0 : cenv 3 s t (vn k) [] 0 env = env ++ [(s, vn k)] := rfl
    have hcs : cnN 3 = 1 := rfl
    refine ⟨_, _, newE (by omega), ?_⟩
    refine ⟨_, retP (with_s (g := g + 1) (prs_retag env) (by omega)), ?_⟩
    refine sem_in cx0 _ RT [10, 7, 0, 8, 9, 4, 6] fun jk => ?_
    refine fin (vn k) [] (k + 1) 0 (g + 1) (env ++ [(s, vn k)]) env rfl rfl rfl (.inl rfl) (.inr rfl) (fun i hi => by rw [show i = 0 by omega]; exact hc0.symm) (by omega) _ (fun jk j => ?_) jk
    refine ⟨inV _, ?_⟩
    exact ⟨hself _ _ _, rfl⟩
  refine ⟨fun h5 => ?_, fun h5 => ?_⟩
  · have h5' := eq_of_beq h5
    subst h5'
    have hk0 : ks.length = 2 := by have : arC 5 = 2 := by decide
                                   omega
    have hc0 : cenv 5 s t (vn k) [] 0 env = env := List.append_nil env
    have hc1 : cenv 5 s t (vn k) [] 1 env = env ++ [(s, vn k)] := rfl
    refine ⟨_, _, newE (by omega), ?_⟩
    refine ⟨_, retP (with_s (g := g + 1) (prs_retag env) (by omega)), ?_⟩
    refine sem_in cx0 _ RT [10, 7, 0, 8, 9, 4, 6] fun jk => ?_
    refine fin (vn k) [] (k + 1) (g + 1) 0 env (env ++ [(s, vn k)]) rfl rfl rfl (.inr rfl) (.inl rfl) (fun i hi => by
      by_cases h : i = 0
      · rw [h, if_pos rfl]; exact hc0.symm
      · rw [if_neg h, show i = 1 by omega]; exact hc1.symm) (by omega) _ (fun jk j => ?_) jk
    refine ⟨inV _, ?_⟩
    exact ⟨hself _ _ _, rfl⟩
  refine ⟨fun h6 => ?_, fun h6 => ?_⟩
  · have h6' := eq_of_beq h6
    subst h6'
    have hk0 : ks.length = 2 := by have : arC 6 = 2 := by decide
                                   omega
    have hc0 : cenv 6 s t (vn k) (vn (k + 1)) 0 env = (env ++ [(s, vn k)]) ++ [(t, vn (k + 1))] := by rw [List.append_assoc]; rfl
    have hc1 : cenv 6 s t (vn k) (vn (k + 1)) 1 env = env ++ [(s, vn k)] := rfl
    refine ⟨_, _, newE (by omega), ?_⟩
    refine ⟨_, _, newE (by omega), ?_⟩
    refine ⟨_, retP (with_s (g := g + 1) (prs_retag env) (by omega)), ?_⟩
    refine ⟨by rw [prs_len]; omega, ?_⟩
    refine ⟨_, retP (with_s (l := env ++ [(s, vn k)]) (g := 0) (by rw [prs_whole, prs_retag]) (by simp; omega)), ?_⟩
    refine sem_in cx0 _ RT [10, 7, 0, 8, 9, 4, 6] fun jk => ?_
    refine fin (vn k) (vn (k + 1)) (k + 2) 0 0 ((env ++ [(s, vn k)]) ++ [(t, vn (k + 1))]) (env ++ [(s, vn k)]) rfl rfl rfl (.inl rfl) (.inl rfl) (fun i hi => by
      by_cases h : i = 0
      · rw [h, if_pos rfl]; exact hc0.symm
      · rw [if_neg h, show i = 1 by omega]; exact hc1.symm) (by omega) _ (fun jk j => ?_) jk
    refine ⟨inV _, ?_⟩
    exact ⟨hself _ _ _, rfl⟩
  have e2 : newS op s k env = [] := by simp [newS, h2, h3, h5, h6]
  have e3 : newT op k = [] := by simp [newT, h6]
  have e4 : cnN op = 0 := by simp [cnN, h3, h5, h6]
  have ee : ∀ (s t : Nm) (i : Nat), envS op s t i = [] := by intro s t i; simp [envS, h3, h5, h6]
  refine sem_in cx0 _ RT [10, 7, 0, 8, 9, 4, 6] fun jk => ?_
  refine fin [] [] k (g + 1) (g + 1) env env e2 e3 (by rw [e4]; rfl) (.inr rfl) (.inr rfl) (fun i hi => by simp only [cenv, ee, List.zip_nil_left, List.append_nil, ite_self]) (by omega) _ (fun jk j => ?_) jk
  refine ⟨inV _, ?_⟩
  rw [e2, e3, e4]
  exact ⟨hself _ _ _, rfl⟩
end Go.Proofs.YtlkjnlfddadlmaaDoor.V

namespace Go.Proofs.YtlkjnlfddadlmaaDoor.V
set_option maxRecDepth 100000

mutual
def zOk : Co → Bool
  | .mk op _ s t ks => (op == 6 || t == []) && (namC op || s == []) && zOks ks
def zOks : List Co → Bool
  | [] => true
  | c :: l => zOk c && zOks l
end
mutual
theorem right_z : ∀ (env : List Nm) (c : Co), rightC env c = true → zOk c = true
  | env, .mk op n s t ks, h => by
    simp only [rightC, hdOk, Bool.and_eq_true] at h
    obtain ⟨⟨⟨⟨⟨⟨h0, h1⟩, h2⟩, h3⟩, h4⟩, h5⟩, h6⟩ := h
    have h1 := eq_of_beq h1
    have h2 := eq_of_beq h2
    have := right_zs op s t env 0 ks h6
    simp only [zOk, this, Bool.and_true, Bool.and_eq_true]
    rw [h1, h2]
    constructor
    · cases t == [] <;> rfl
    · cases s == [] <;> rfl
theorem right_zs : ∀ (op : Int) (s t : Nm) (env : List Nm) (i : Nat) (l : List Co), rightL op s t env i l = true → zOks l = true
  | op, s, t, env, i, [], h => rfl
  | op, s, t, env, i, c :: l, h => by
    simp only [rightL, Bool.and_eq_true] at h
    simp only [zOks, Bool.and_eq_true]
    exact ⟨right_z _ c h.1, right_zs op s t env (i + 1) l h.2⟩
end
theorem zOks_mem : ∀ {l : List Co}, zOks l = true → ∀ c ∈ l, zOk c = true
  | c :: l, h, x, hx => by
    simp only [zOks, Bool.and_eq_true] at h
    rcases List.mem_cons.1 hx with rfl | hx
    · exact h.1
    · exact zOks_mem h.2 x hx

abbrev olds (env : Env) : List Nm := env.map (·.1)
abbrev nows (env : Env) : List Nm := env.map (·.2)

theorem pl_lk (env : Env) (s : Nm) : ∀ k, k ≤ env.length → (plF (olds env) s k = -1 ∧ lkF env s k = s) ∨ ∃ i : Nat, plF (olds env) s k = i ∧ (nows env)[i]? = some (lkF env s k)
  | 0, _ => .inl ⟨rfl, rfl⟩
  | k + 1, h => by
    have hk : env[k]? = some env[k] := List.getElem?_eq_getElem (by omega)
    generalize env[k] = p at hk
    have ho : (olds env)[k]? = some p.1 := by rw [List.getElem?_map, hk]; rfl
    have hn : (nows env)[k]? = some p.2 := by rw [List.getElem?_map, hk]; rfl
    by_cases hp : p.1 = s
    · right
      refine ⟨k, ?_, ?_⟩
      · simp only [plF, ho]; simp [hp]
      · rw [hn]; simp only [lkF, hk]; simp [hp]
    · have e1 : plF (olds env) s (k + 1) = plF (olds env) s k := by simp only [plF, ho]; simp [hp]
      have e2 : lkF env s (k + 1) = lkF env s k := by simp only [lkF, hk]; simp [hp]
      rw [e1, e2]
      exact pl_lk env s k (by omega)

theorem next_i {k : Nat} (hk : k ≤ 8388608) : RT 46 [.c (.ptr () (.ex 0) [] 0)] [[.ptr () (.ex 1) [] 0], [.t (.int .i64 k)]] = some (xs (vn k), [[.ptr () (.ex 1) [] 0], [.t (.int .i64 ((k + 1 : Nat) : Int))]]) := by
  refine fn_isE (fn := Tryd.f46) rfl rfl rfl rfl ?_
  have e1 : IntKind.wrap .i64 ((k : Int) + 1) = ((k + 1 : Nat) : Int) := by rw [wrap64 (by omega) (by omega)]; omega
  have e2 : IntKind.wrap .i64 (((k + 1 : Nat) : Int) - 1) = (k : Int) := by rw [wrap64 (by omega) (by omega)]; omega
  have hl := itoa_len k (by omega) (by omega)
  refine ⟨_, retX (dig_i (n := IntKind.wrap .i64 (IntKind.wrap .i64 ((k : Int) + 1) - 1)) (by rw [e1, e2]; omega) (by rw [e1, e2]; omega)), ?_⟩
  rw [e1, e2]
  refine ⟨by simp only [List.length_cons, List.length_nil, maxLen]; omega, ?_⟩
  exact ⟨rfl, rfl⟩

def Sri (c : Co) : Prop := ∀ us (k : Nat) (env : Env) g h cs ds, arOk c = true → zOk c = true → szC c ≤ 1048576 → k + 2 * szC c + 2 ≤ 4194300 → env.length + 2 * szC c ≤ 4194300 → cs = nm (olds env) → ds = nm (nows env) → Rd c us →
  RT 27 [xc us, xl (g + 1) 1 env.length cs, xl (h + 1) 1 env.length ds, .c (.ptr () (.ex 0) [] 0)] [[.t (.int .i64 k)]] = some (xc (enc (can k env c).2), [[.t (.int .i64 (can k env c).1)]])

theorem envS_two {op : Int} {s t s' t' : Nm} {i : Nat} : (envS op s t i).length = (envS op s' t' i).length := by
  unfold envS; split
  · rfl
  · split <;> rfl

theorem olds_c {op : Int} {s t s' t' : Nm} {i : Nat} {env : Env} : olds (cenv op s t s' t' i env) = olds env ++ envS op s t i := by
  have h := envS_two (op := op) (s := s) (t := t) (s' := s') (t' := t') (i := i)
  simp only [olds, cenv, List.map_append]
  rw [List.map_fst_zip (by omega)]
theorem nows_c {op : Int} {s t s' t' : Nm} {i : Nat} {env : Env} : nows (cenv op s t s' t' i env) = nows env ++ envS op s' t' i := by
  have h := envS_two (op := op) (s := s) (t := t) (s' := s') (t' := t') (i := i)
  simp only [nows, cenv, List.map_append]
  rw [List.map_snd_zip (by omega)]

abbrev stI (n : Int) (g1 g h N : Nat) (op : Int) (s t s' t' : Nm) (ks : List Co) (cs : List TU) (env : Env) (j : Int) (R : List Co) (k : Nat) (jk : Nat → XU) : StA :=
  ⟨[(55, xi j), (54, xi N), (53, xl (g1 + 1) 5 ks.length cs), (9, .box () ((core op n s' t' 0 R.length (encs R)).map .t)), (1, xl (g + 1) 1 env.length (nm (olds env))), (2, xl (h + 1) 1 env.length (nm (nows env))), (4, .box () ((core op n s t (g1 + 1) ks.length cs).map .t)), (7, .box () [.ptr () (.ex 0) [] 0]), (8, .box () (zC.map .t))], jk, [[.t (.int .i64 k)]]⟩

set_option maxHeartbeats 4000000 in
theorem lri {ks : List Co} {cs : List TU} {g1 g h : Nat} {op n : Int} {s t s' t' : Nm} {env : Env} {K : Ex → StA → Prop} (H : ∀ c ∈ ks, Sri c) (hz : szCs ks ≤ 1048576) (ha : arOks ks = true) (hzz : zOks ks = true) (hr : Rds ks cs) (hen : env.length + 2 * szCs ks ≤ 4194300) :
    ∀ (l : List Co) (i : Nat), ks.drop i = l → i ≤ ks.length → ∀ (k : Nat) (done : List Co), done.length = i → k + 2 * szCs l ≤ 4194300 →
    (∀ jk j, K (.exit 1) (stI n g1 g h ks.length op s t s' t' ks cs env j (done ++ (cans op s t s' t' env i k l).2) (cans op s t s' t' env i k l).1 jk)) →
    ∀ jk, sem cx0 27 RT (.loop (lp Tryd.f27 0)) (stI n g1 g h ks.length op s t s' t' ks cs env i done k jk) K := by
  have hk := szCs_le hz
  refine drop_ind ?_ ?_
  · intro k done hd hkk k1 jk
    refine loop_step cx0 _ RT [55, 54, 53, 9, 1, 2, 4, 7, 8] ⟨fun h => (lt_no h (by omega)).elim, fun h => ?_⟩
    intro jk
    have := k1 jk ks.length
    rw [show cans op s t s' t' env ks.length k [] = (k, []) by simp only [cans], List.append_nil] at this
    exact this
  · intro i c l hi hil ih k done hd hkk k1 jk
    have hm := List.mem_of_getElem? hi
    have hzc := szCs_mem hz hm
    have hz1 := szCs_mem1 hm
    have hac := arOks_mem ha c hm
    have hzzc := zOks_mem hzz c hm
    have hel := envS_le (op := op) (s := s) (t := t) (i := i)
    have hel2 := envS_le (op := op) (s := s') (t := t') (i := i)
    have h2l := envS_two (op := op) (s := s) (t := t) (s' := s') (t' := t') (i := i)
    cases c with
    | mk op' n' s'' t'' kk =>
    obtain ⟨g', cs', e1, e2⟩ := Rds_get hr hi
    have hcl : (cenv op s t s' t' i env).length = env.length + (envS op s t i).length := by simp only [cenv, List.length_append, List.length_zip]; omega
    have hc2 := H _ hm (core op' n' s'' t'' (g' + 2) kk.length (retags cs')) k (cenv op s t s' t' i env) 0 0 _ _ hac hzzc hzc (by simp only [szCs] at hkk; omega) (by omega) (nm_retag _) (nm_retag _) ⟨_, _, rfl, e2.retag⟩
    have hb := can_le k (cenv op s t s' t' i env) (.mk op' n' s'' t'' kk)
    simp only [cans] at k1
    simp only [szCs] at hkk
    generalize hP : can k (cenv op s t s' t' i env) (.mk op' n' s'' t'' kk) = P at k1 hb hc2
    obtain ⟨k', po, pn, ps, pt, pk⟩ := P
    simp only at k1 hb hc2
    rw [olds_c, nows_c] at hc2
    have hq := enc_snoc (c := .mk po pn ps pt pk) hd
    have hdl : (done ++ [Co.mk po pn ps pt pk]).length = i + 1 := by simp [hd]
    have e0 : done ++ (Co.mk po pn ps pt pk :: (cans op s t s' t' env (i + 1) k' l).2) = (done ++ [Co.mk po pn ps pt pk]) ++ (cans op s t s' t' env (i + 1) k' l).2 := by simp
    rw [e0] at k1
    have ih := ih k' _ hdl (by omega) k1
    simp only [stI, hdl] at ih
    rw [← hq] at ih
    simp only [stI, hd]
    have lo : (olds env).length = env.length := List.length_map _
    have ln : (nows env).length = env.length := List.length_map _
    refine loop_step cx0 _ RT [55, 54, 53, 9, 1, 2, 4, 7, 8] ⟨fun hx => ?_, fun hx => (lt_yes hx (by omega)).elim⟩
    refine ⟨⟨by omega, by omega⟩, ?_⟩
    refine ⟨op', n', s'', t'', g' + 1, kk.length, cs', ⟨e1, rfl⟩, ?_⟩
    refine ⟨_, retN (binds74 (show Rd (.mk op n s t ks) (core op n s t (g1 + 2) ks.length (retags cs)) from ⟨_, _, rfl, hr.retag⟩)), ?_⟩
    have c1 := cat85 (l := olds env) (m := envS op s t i) (g := g + 1) (h := 0) (nm_retag _) (nm_retag _) (by omega) (by omega)
    have c2 := cat85 (l := nows env) (m := envS op s' t' i) (g := h + 1) (h := 0) (nm_retag _) (nm_retag _) (by omega) (by omega)
    rw [lo] at c1
    rw [ln] at c2
    refine ⟨_, retN c1, ?_⟩
    refine ⟨by rw [encs_len, hd]; omega, ?_⟩
    have b2 := binds74 (i := i) (by have := rdV op n s' t' done; rw [hd] at this; exact this)
    refine ⟨_, retN b2, ?_⟩
    refine ⟨_, retN c2, ?_⟩
    have l1 : (olds env ++ envS op s t i).length = (cenv op s t s' t' i env).length := by rw [List.length_append, lo, hcl]
    have l2 : (nows env ++ envS op s' t' i).length = (cenv op s t s' t' i env).length := by rw [List.length_append, ln, hcl]; omega
    have hc3 : RT 27 [xc (core op' n' s'' t'' (g' + 2) kk.length (retags cs')), xl 1 1 (olds env ++ envS op s t i).length (retags (nm (olds env ++ envS op s t i))), xl 1 1 (nows env ++ envS op s' t' i).length (retags (nm (nows env ++ envS op s' t' i))), .c (.ptr () (.ex 0) [] 0)] [[.t (.int .i64 k)]] = some (xc (enc (.mk po pn ps pt pk)), [[.t (.int .i64 k')]]) := by
      rw [l1, l2]; exact hc2
    refine ⟨_, _, retCE hc3, ?_⟩
    refine ⟨⟨rfl, rfl⟩, ?_⟩
    refine ⟨⟨rfl, rfl⟩, ?_⟩
    refine ⟨by rw [encs_len, hd]; omega, ?_⟩
    refine ⟨⟨by simp only [maxLen]; omega, by show (i + 1) * 72 ≤ _; omega⟩, ?_⟩
    intro jk
    have ih := ih jk
    rw [wrapS hil (by simp only [maxLen]; omega)]
    exact ih
end Go.Proofs.YtlkjnlfddadlmaaDoor.V

namespace Go.Proofs.YtlkjnlfddadlmaaDoor.V
set_option maxRecDepth 100000

theorem nextE {k : Nat} (hk : k ≤ 8388608) : RetE RT 46 [.c (.ptr () (.ex 0) [] 0)] [[.ptr () (.ex 1) [] 0], [.t (.int .i64 k)]] (xs (vn k)) [[.ptr () (.ex 1) [] 0], [.t (.int .i64 ((k + 1 : Nat) : Int))]] := ⟨_, next_i hk, rfl, rfl⟩

set_option maxHeartbeats 8000000 in
theorem ren_i : ∀ c : Co, Sri c := by
  refine Co.ind fun op n s t ks ih => ?_
  intro us k env g h cs ds ha hzz hz hk he hcs hds hr
  subst hcs hds
  obtain ⟨g1, cs, rfl, hr⟩ := hr
  have hz' : szCs ks ≤ 1048576 := by simp only [szC] at hz; omega
  simp only [szC] at hk he
  simp only [arOk, Bool.and_eq_true] at ha
  obtain ⟨hop, hks⟩ := ha
  simp only [zOk, Bool.and_eq_true] at hzz
  obtain ⟨⟨hzt, hzs⟩, hzk⟩ := hzz
  have fin : ∀ (s' t' : Nm) (k0 : Nat), newS op s k env = s' → newT op k = t' → k + cnN op = k0 → k0 + 2 * szCs ks ≤ 4194300 → ∀ (K : Ex → StA → Prop),
      (∀ jk j, K (.exit 1) (stI n g1 g h ks.length op s t s' t' ks cs env j (cans op s t s' t' env 0 k0 ks).2 (cans op s t s' t' env 0 k0 ks).1 jk)) →
      ∀ jk, sem cx0 27 RT (.loop (lp Tryd.f27 0)) (stI n g1 g h ks.length op s t s' t' ks cs env (0 : Nat) [] k0 jk) K := by
    intro s' t' k0 h1 h2 h3 hk0 K k1 jk
    exact lri (g1 := g1) (g := g) (h := h) (n := n) ih hz' hks hzk hr (by omega) ks 0 rfl (by omega) k0 [] rfl hk0 (fun jk j => k1 jk j) jk
  clear ih
  have goal : can k env (.mk op n s t ks) = ((cans op s t (newS op s k env) (newT op k) env 0 (k + cnN op) ks).1, .mk op n (newS op s k env) (newT op k) (cans op s t (newS op s k env) (newT op k) env 0 (k + cnN op) ks).2) := by rw [can]
  rw [goal]
  have hself : ∀ (s' t' : Nm) (R : List Co), xc (enc (.mk op n s' t' R)) = xc (core op n s' t' 0 R.length (((encs R).drop 0).take (R.length * 5))) := by
    intro s' t' R
    rw [encs_whole R]; rfl
  have lo : (olds env).length = env.length := List.length_map _
  have ln : (nows env).length = env.length := List.length_map _
  have ht0 : op ≠ 6 → t = [] := fun hx => by
    rcases Bool.or_eq_true _ _ |>.mp hzt with hh | hh
    · exact absurd (eq_of_beq hh) hx
    · exact eq_of_beq hh
  refine fn_isE (fn := Tryd.f27) rfl rfl rfl rfl ?_
  refine ⟨fun h2 => ?_, fun h2 => ?_⟩
  · have h2' := eq_of_beq h2
    subst h2'
    obtain rfl := ht0 (by decide)
    have hp := pl_i (l := olds env) (s := s) (g := g + 1) (nm_retag _) (by omega)
    rw [lo] at hp
    refine ⟨_, retI hp, ?_⟩
    rcases pl_lk env s env.length (Nat.le_refl _) with ⟨p1, p2⟩ | ⟨i, p1, p2⟩
    · rw [p1]
      refine ⟨fun hx => by simp at hx, fun hx => ?_⟩
      refine sem_in cx0 _ RT [55, 54, 53, 9, 1, 2, 4, 7, 8] fun jk => ?_
      refine fin s [] k p2 rfl rfl (by omega) _ (fun jk j => ?_) jk
      refine ⟨inV _, ?_⟩
      rw [show newS 2 s k env = s from p2]
      exact ⟨hself _ _ _, rfl⟩
    · rw [p1]
      have hi : i < env.length := by rw [← ln]; exact (List.getElem?_eq_some_iff.1 p2).1
      refine ⟨fun hx => ?_, fun hx => by simp at hx⟩
      refine ⟨⟨by omega, by omega⟩, ?_⟩
      refine ⟨lkF env s env.length, ⟨nm_at p2, rfl⟩, ?_⟩
      refine sem_in cx0 _ RT [55, 54, 53, 9, 1, 2, 4, 7, 8] fun jk => ?_
      refine fin (lkF env s env.length) [] k rfl rfl rfl (by omega) _ (fun jk j => ?_) jk
      refine ⟨inV _, ?_⟩
      exact ⟨hself _ _ _, rfl⟩
  refine ⟨fun h3 => ?_, fun h3 => ?_⟩
  · have h3' := eq_of_beq h3
    subst h3'
    obtain rfl := ht0 (by decide)
    refine ⟨_, _, nextE (by omega), ?_⟩
    refine ⟨fun h6 => absurd h6 (by decide), fun _ => ?_⟩
    refine sem_in cx0 _ RT [55, 54, 53, 9, 1, 2, 4, 7, 8] fun jk => ?_
    refine fin (vn k) [] (k + 1) rfl rfl rfl (by omega) _ (fun jk j => ?_) jk
    refine ⟨inV _, ?_⟩
    exact ⟨hself _ _ _, rfl⟩
  refine ⟨fun h5 => ?_, fun h5 => ?_⟩
  · have h5' := eq_of_beq h5
    subst h5'
    obtain rfl := ht0 (by decide)
    refine ⟨_, _, nextE (by omega), ?_⟩
    refine ⟨fun h6 => absurd h6 (by decide), fun _ => ?_⟩
    refine sem_in cx0 _ RT [55, 54, 53, 9, 1, 2, 4, 7, 8] fun jk => ?_
    refine fin (vn k) [] (k + 1) rfl rfl rfl (by omega) _ (fun jk j => ?_) jk
    refine ⟨inV _, ?_⟩
    exact ⟨hself _ _ _, rfl⟩
  refine ⟨fun h6 => ?_, fun h6 => ?_⟩
  · have h6' := eq_of_beq h6
    subst h6'
    refine ⟨_, _, nextE (by omega), ?_⟩
    refine ⟨fun _ => ?_, fun h6 => absurd h6 (by decide)⟩
    refine ⟨_, _, nextE (by omega), ?_⟩
    refine sem_in cx0 _ RT [55, 54, 53, 9, 1, 2, 4, 7, 8] fun jk => ?_
    refine fin (vn k) (vn (k + 1)) (k + 2) rfl rfl rfl (by omega) _ (fun jk j => ?_) jk
    refine ⟨inV _, ?_⟩
    exact ⟨hself _ _ _, rfl⟩
  have e2 : newS op s k env = [] := by simp [newS, h2, h3, h5, h6]
  have e3 : newT op k = [] := by simp [newT, h6]
  have e4 : cnN op = 0 := by simp [cnN, h3, h5, h6]
  obtain rfl := ht0 (fun e => by rw [e] at h6; cases h6)
  have e5 : namC op = false := by unfold namC; rw [h2, h3, h5, h6]; rfl
  rw [e5] at hzs
  obtain rfl : s = [] := by simpa using hzs
  refine sem_in cx0 _ RT [55, 54, 53, 9, 1, 2, 4, 7, 8] fun jk => ?_
  refine fin [] [] k e2 e3 (by rw [e4]; rfl) (by omega) _ (fun jk j => ?_) jk
  refine ⟨inV _, ?_⟩
  rw [e2, e3, e4]
  exact ⟨hself _ _ _, rfl⟩
end Go.Proofs.YtlkjnlfddadlmaaDoor.V
