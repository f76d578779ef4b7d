/-
  The law FnExactInlineCore holds for every input: the call returns true, and the input reads as it did. No conditions but the tables that the row lists, which are tied.
-/
import Derived.Test.YtlkjnlfddadlmaaDoorMPInlineCoree
import Derived.Test.YtlkjnlfddadlmaaDoorMPInlineCorec
import Derived.Test.YtlkjnlfddadlmaaDoorRows
import Derived.Test.YtlkjnlfddadlmaaDoorCards
import Derived.Test.YtlkjnlfddadlmaaDoorTie
import Derived.WalkKit
import Derived.ProofKit
import Derived.OpenShut
import Derived.ChangeOld
import Derived.Below
import Derived.LaidMore
import Derived.Stop.Joined
import Derived.Stop.LaidErr
import Derived.Lib.LaidTab
import Derived.SevenTiedAt
set_option linter.unusedVariables false
set_option linter.unusedSimpArgs false
namespace Go.Proofs.YtlkjnlfddadlmaaDoor.V
set_option maxRecDepth 100000

def canF (c : Co) : Co := if okCo c then (can 0 [] c).2 else .mk 0 0 [] [] []

theorem cn_s {c : Co} {us : List TU} (hz : szC c ≤ 1048576) (hr : Rd c us) : RT 11 [xc us] [] = some (xc (enc (canF c)), []) := by
  cases c with
  | mk op n s t ks =>
  obtain ⟨g, cs, rfl, hr⟩ := hr
  have rd : ∀ g, Rd (.mk op n s t ks) (core op n s t (g + 2) ks.length (retags cs)) := fun g => ⟨_, _, rfl, hr.retag⟩
  refine fn_is (fn := Tryd.f11) rfl rfl rfl rfl ?_
  refine ⟨_, retB (ok_s hz (rd g)), ?_⟩
  cases hok : okCo (.mk op n s t ks) with
  | true =>
    refine ⟨(fun h => by cases h), fun _ => ?_⟩
    have := can_s (.mk op n s t ks) _ 0 [] 0 _ (okCo_ar hok) hz (by omega) (by simp; omega) rfl (rd g)
    simp only [canF, hok, if_true]
    generalize can 0 [] (.mk op n s t ks) = P at this
    obtain ⟨k', po, pn, ps, pt, pk⟩ := P
    refine ⟨_, _, retCE this, ?_⟩
    refine ⟨inV pk, ?_⟩
    refine ⟨?_, rfl⟩
    show _ = xc (core po pn ps pt 0 pk.length (((encs pk).drop 0).take (pk.length * 5)))
    rw [encs_whole]; rfl
  | false =>
    refine ⟨fun _ => ?_, (fun h => by cases h)⟩
    simp only [canF, hok]
    first
      | exact ⟨rfl, rfl⟩
      | (refine ⟨inV [], ?_⟩; exact ⟨rfl, rfl⟩)

theorem cn_i {c : Co} {us : List TU} (hz : szC c ≤ 1048576) (hr : Rd c us) : RT 13 [xc us] [] = some (xc (enc (canF c)), []) := by
  cases c with
  | mk op n s t ks =>
  obtain ⟨g, cs, rfl, hr⟩ := hr
  have rd : ∀ g, Rd (.mk op n s t ks) (core op n s t (g + 2) ks.length (retags cs)) := fun g => ⟨_, _, rfl, hr.retag⟩
  refine fn_is (fn := Tryd.f13) rfl rfl rfl rfl ?_
  refine ⟨_, retB (ok_i hz (rd g)), ?_⟩
  cases hok : okCo (.mk op n s t ks) with
  | true =>
    refine ⟨(fun h => by cases h), fun _ => ?_⟩
    have := ren_i (.mk op n s t ks) _ 0 [] 0 0 _ _ (okCo_ar hok) (right_z _ _ (okCo_right hok)) hz (by omega) (by simp; omega) rfl rfl (rd g)
    simp only [canF, hok, if_true]
    generalize can 0 [] (.mk op n s t ks) = P at this
    obtain ⟨k', po, pn, ps, pt, pk⟩ := P
    refine ⟨_, _, retCE this, ?_⟩
    refine ⟨inV pk, ?_⟩
    refine ⟨?_, rfl⟩
    show _ = xc (core po pn ps pt 0 pk.length (((encs pk).drop 0).take (pk.length * 5)))
    rw [encs_whole]; rfl
  | false =>
    refine ⟨fun _ => ?_, (fun h => by cases h)⟩
    simp only [canF, hok]
    first
      | exact ⟨rfl, rfl⟩
      | (refine ⟨inV [], ?_⟩; exact ⟨rfl, rfl⟩)

theorem lkF_le {env : Env} {s : Nm} {M : Nat} (hs : s.length ≤ M) (he : ∀ p ∈ env, p.2.length ≤ M) : ∀ k, (lkF env s k).length ≤ M
  | 0 => hs
  | k + 1 => by
    simp only [lkF]
    split
    · next p hp =>
      split
      · exact he p (List.mem_of_getElem? hp)
      · exact lkF_le hs he k
    · exact lkF_le hs he k

theorem vn_le {k : Nat} (hk : k ≤ 8388608) : (vn k).length ≤ maxLen := by
  have := itoa_len k (by omega) (by omega)
  simp only [vn, List.length_cons, maxLen]; omega

theorem envS_mem {op : Int} {s t : Nm} {i : Nat} {x : Nm} (h : x ∈ envS op s t i) : x = s ∨ x = t := by
  unfold envS at h
  split at h
  · left; simpa using h
  · split at h
    · simpa using h
    · cases h

mutual
theorem can_wf : ∀ (k : Nat) (env : Env) (c : Co), Wf c → k + 2 * szC c + 2 ≤ 4194300 → (∀ p ∈ env, p.2.length ≤ maxLen) → Wf (can k env c).2
  | k, env, .mk op n s t ks, hw, hk, he => by
    simp only [Wf] at hw
    obtain ⟨w1, w2, w3, w4, w5, w6⟩ := hw
    simp only [szC] at hk
    have hc := cnN_le op
    have hs : (newS op s k env).length ≤ maxLen := by
      unfold newS
      split
      · exact lkF_le w3 he _
      · split
        · exact vn_le (by omega)
        · simp
    have ht : (newT op k).length ≤ maxLen := by
      unfold newT
      split
      · exact vn_le (by omega)
      · simp
    simp only [can, Wf]
    exact ⟨w1, w2, hs, ht, by rw [cans_len]; exact w5, cans_wf op s t _ _ env 0 _ ks w6 (by omega) he hs ht⟩
theorem cans_wf : ∀ (op : Int) (s t s' t' : Nm) (env : Env) (i k : Nat) (l : List Co), Wfs l → k + 2 * szCs l ≤ 4194300 → (∀ p ∈ env, p.2.length ≤ maxLen) → s'.length ≤ maxLen → t'.length ≤ maxLen → Wfs (cans op s t s' t' env i k l).2
  | _, _, _, _, _, _, _, k, [], _, _, _, _, _ => by simp only [cans, Wfs]
  | op, s, t, s', t', env, i, k, c :: l, hw, hk, he, hs, ht => by
    simp only [Wfs] at hw
    simp only [szCs] at hk
    have h1 := can_le k (cenv op s t s' t' i env) c
    simp only [cans, Wfs]
    refine ⟨can_wf k _ c hw.1 (by omega) (fun p hp => ?_), cans_wf op s t s' t' env (i + 1) _ l hw.2 (by omega) he hs ht⟩
    simp only [cenv, List.mem_append] at hp
    rcases hp with hp | hp
    · exact he p hp
    · have := (List.of_mem_zip (show (p.1, p.2) ∈ _ from hp)).2
      rcases envS_mem this with h | h
      · rw [h]; exact hs
      · rw [h]; exact ht
end

mutual
theorem can_szM : ∀ (k : Nat) (env : Env) (c : Co), szM (can k env c).2 = szM c
  | k, env, .mk op n s t ks => by simp only [can, szM, cans_szM op s t _ _ env 0 _ ks]
theorem cans_szM : ∀ (op : Int) (s t s' t' : Nm) (env : Env) (i k : Nat) (l : List Co), szMs (cans op s t s' t' env i k l).2 = szMs l
  | _, _, _, _, _, _, _, k, [] => by simp only [cans, szMs]
  | op, s, t, s', t', env, i, k, c :: l => by simp only [cans, szMs, can_szM k _ c, cans_szM op s t s' t' env (i + 1) _ l]
end

theorem canF_wf {c : Co} (hw : Wf c) (hz : szC c ≤ 1048576) : Wf (canF c) := by
  unfold canF; split
  · exact can_wf 0 [] c hw (by omega) (fun p hp => by cases hp)
  · simp [Wf, Wfs]
theorem canF_szM {c : Co} (_ : szC c ≤ 1048576) : szM (canF c) ≤ szM c := by
  unfold canF; split
  · exact Nat.le_of_eq (can_szM 0 [] c)
  · cases c with
    | mk op n s t ks => simp only [szM, szMs]; omega
end Go.Proofs.YtlkjnlfddadlmaaDoor.V

namespace Go.Proofs.YtlkjnlfddadlmaaDoor.V
set_option maxRecDepth 100000

mutual
theorem can_ar : ∀ (k : Nat) (env : Env) (c : Co), arOk c = true → arOk (can k env c).2 = true
  | k, env, .mk op n s t ks, h => by
    simp only [arOk, Bool.and_eq_true] at h
    simp only [can, arOk, cans_len, Bool.and_eq_true]
    exact ⟨h.1, cans_ar op s t _ _ env 0 _ ks h.2⟩
theorem cans_ar : ∀ (op : Int) (s t s' t' : Nm) (env : Env) (i k : Nat) (l : List Co), arOks l = true → arOks (cans op s t s' t' env i k l).2 = true
  | _, _, _, _, _, _, _, k, [], _ => by simp only [cans, arOks]
  | op, s, t, s', t', env, i, k, c :: l, h => by
    simp only [arOks, Bool.and_eq_true] at h
    simp only [cans, arOks, Bool.and_eq_true]
    exact ⟨can_ar k _ c h.1, cans_ar op s t s' t' env (i + 1) _ l h.2⟩
end

theorem lkF_in {env : Env} {s : Nm} : ∀ k, s ∈ olds (env.take k) → ∃ p ∈ env, lkF env s k = p.2
  | 0, h => by simp at h
  | k + 1, h => by
    simp only [lkF]
    split
    · next p hp =>
      split
      · exact ⟨p, List.mem_of_getElem? hp, rfl⟩
      · next hne =>
        refine lkF_in k ?_
        have hl := (List.getElem?_eq_some_iff.1 hp).1
        have e : env.take (k + 1) = env.take k ++ [p] := by
          rw [List.take_add_one, hp]; rfl
        rw [e] at h
        simp only [olds, List.map_append, List.map_cons, List.map_nil, List.mem_append, List.mem_singleton] at h
        rcases h with h | h
        · exact h
        · exact absurd (by simp [h]) hne
    · next hp =>
      refine lkF_in k ?_
      have hl := List.getElem?_eq_none_iff.1 hp
      rw [List.take_of_length_le (by omega)] at h ⊢
      exact h

theorem lkF_short {env : Env} {s : Nm} {M : Nat} (hs : s ∈ olds env) (he : ∀ p ∈ env, p.2.length ≤ M) : (lkF env s env.length).length ≤ M := by
  obtain ⟨p, hp, e⟩ := lkF_in (env := env) (s := s) env.length (by rw [List.take_length]; exact hs)
  rw [e]; exact he p hp

theorem vn_22 {k : Nat} (hk : k ≤ 8388608) : (vn k).length ≤ 22 := by
  have := itoa_len k (by omega) (by omega)
  simp only [vn, List.length_cons]; omega

mutual
theorem can_nmx : ∀ (k : Nat) (env : Env) (c : Co), rightC (olds env) c = true → k + 2 * szC c + 2 ≤ 4194300 → (∀ p ∈ env, p.2.length ≤ 22) → nmx 22 (can k env c).2
  | k, env, .mk op n s t ks, h, hk, he => by
    simp only [rightC, Bool.and_eq_true] at h
    simp only [szC] at hk
    have hc := cnN_le op
    have hs : (newS op s k env).length ≤ 22 := by
      unfold newS
      split
      · next h2 =>
        have h1 := h.1
        simp only [hdOk, Bool.and_eq_true, h2] at h1
        refine lkF_short ?_ he
        have := h1.2
        simpa using this
      · split
        · exact vn_22 (by omega)
        · simp
    have ht : (newT op k).length ≤ 22 := by
      unfold newT
      split
      · exact vn_22 (by omega)
      · simp
    simp only [can, nmx]
    exact ⟨hs, ht, cans_nmx op s t _ _ env 0 _ ks h.2 (by omega) he hs ht⟩
theorem cans_nmx : ∀ (op : Int) (s t s' t' : Nm) (env : Env) (i k : Nat) (l : List Co), rightL op s t (olds env) i l = true → k + 2 * szCs l ≤ 4194300 → (∀ p ∈ env, p.2.length ≤ 22) → s'.length ≤ 22 → t'.length ≤ 22 → nmxs 22 (cans op s t s' t' env i k l).2
  | _, _, _, _, _, _, _, k, [], _, _, _, _, _ => by simp only [cans, nmxs]
  | op, s, t, s', t', env, i, k, c :: l, h, hk, he, hs, ht => by
    simp only [rightL, Bool.and_eq_true] at h
    simp only [szCs] at hk
    have h1 := can_le k (cenv op s t s' t' i env) c
    have ho := olds_c (op := op) (s := s) (t := t) (s' := s') (t' := t') (i := i) (env := env)
    simp only [cans, nmxs]
    refine ⟨can_nmx k _ c (by rw [ho]; exact h.1) (by omega) (fun p hp => ?_), cans_nmx op s t s' t' env (i + 1) _ l h.2 (by omega) he hs ht⟩
    simp only [cenv, List.mem_append] at hp
    rcases hp with hp | hp
    · exact he p hp
    · have := (List.of_mem_zip (show (p.1, p.2) ∈ _ from hp)).2
      rcases envS_mem this with h | h
      · rw [h]; exact hs
      · rw [h]; exact ht
end

theorem nds_ndC (c : Co) : nds c = ndC c := by
  have h1 := szM_nds c
  have h2 := szM_nd c
  omega

theorem okCo_nd {c : Co} (h : okCo c = true) : ndC c ≤ 3000 := by
  simp only [okCo, Bool.and_eq_true, decide_eq_true_eq] at h
  exact h.1.1

theorem GoodI_can {c : Co} (hok : okCo c = true) (hz : szC c ≤ 1048576) (hw : Wf c) : GoodI (canF c) := by
  have hr := okCo_right hok
  have hm := can_szM 0 [] c
  have h1 := szM_nds (can 0 [] c).2
  have h2 := szM_nd c
  have h3 := okCo_nd hok
  simp only [canF, hok, if_true]
  exact ⟨⟨can_ar 0 [] c (okCo_ar hok), can_nmx 0 [] c hr (by omega) (fun p hp => by cases hp), can_wf 0 [] c hw (by omega) (fun p hp => by cases hp)⟩, by omega⟩
end Go.Proofs.YtlkjnlfddadlmaaDoor.V

namespace Go.Proofs.YtlkjnlfddadlmaaDoor.V
set_option maxRecDepth 100000

def inlF (c : Co) : Co := if okCo c then inl (canF c) else c

theorem ic_s {c : Co} {us : List TU} (hw : Wf c) (hz : szC c ≤ 1048576) (hr : Rd c us) : RT 17 [xc us] [] = some (xc (enc (inlF c)), []) := by
  cases c with
  | mk op n s t ks =>
  obtain ⟨g, cs, rfl, hr⟩ := hr
  have rd : ∀ g, Rd (.mk op n s t ks) (core op n s t (g + 2) ks.length (retags cs)) := fun g => ⟨_, _, rfl, hr.retag⟩
  refine fn_is (fn := Tryd.f17) rfl rfl rfl rfl ?_
  refine ⟨_, retB (ok_s hz (rd g)), ?_⟩
  cases hok : okCo (.mk op n s t ks) with
  | true =>
    refine ⟨(fun h => by cases h), fun _ => ?_⟩
    have h1 := cn_s hz (rd g)
    have hG := GoodI_can hok hz hw
    simp only [inlF, hok, if_true]
    generalize canF (.mk op n s t ks) = P at h1 hG
    cases P with
    | mk po pn ps pt pk =>
    refine ⟨_, retC h1, ?_⟩
    have h2 := inl_s (.mk po pn ps pt pk) _ hG (rdO po pn ps pt pk)
    generalize inl (.mk po pn ps pt pk) = Q at h2
    cases Q with
    | mk qo qn qs qt qk =>
    refine ⟨_, retC h2, ?_⟩
    refine ⟨inV qk, ?_⟩
    refine ⟨?_, rfl⟩
    show _ = xc (core qo qn qs qt 0 qk.length (((encs qk).drop 0).take (qk.length * 5)))
    rw [encs_whole]; rfl
  | false =>
    refine ⟨fun _ => ?_, (fun h => by cases h)⟩
    refine ⟨_, retC (copy86 (.mk op n s t ks) _ hz (rd g)), ?_⟩
    refine ⟨inV ks, ?_⟩
    refine ⟨?_, rfl⟩
    simp only [inlF, hok]
    show _ = xc (core op n s t 0 ks.length (((encs ks).drop 0).take (ks.length * 5)))
    rw [encs_whole]; rfl

theorem ic_i {c : Co} {us : List TU} (hw : Wf c) (hz : szC c ≤ 1048576) (hr : Rd c us) : RT 18 [xc us] [] = some (xc (enc (inlF c)), []) := by
  cases c with
  | mk op n s t ks =>
  obtain ⟨g, cs, rfl, hr⟩ := hr
  have rd : ∀ g, Rd (.mk op n s t ks) (core op n s t (g + 2) ks.length (retags cs)) := fun g => ⟨_, _, rfl, hr.retag⟩
  refine fn_is (fn := Tryd.f18) rfl rfl rfl rfl ?_
  refine ⟨_, retB (ok_i hz (rd g)), ?_⟩
  cases hok : okCo (.mk op n s t ks) with
  | true =>
    refine ⟨(fun h => by cases h), fun _ => ?_⟩
    have h1 := cn_i hz (rd g)
    have hG := GoodI_can hok hz hw
    simp only [inlF, hok, if_true]
    generalize canF (.mk op n s t ks) = P at h1 hG
    cases P with
    | mk po pn ps pt pk =>
    refine ⟨_, retC h1, ?_⟩
    have h2 := inl_i (.mk po pn ps pt pk) _ hG (rdO po pn ps pt pk)
    generalize inl (.mk po pn ps pt pk) = Q at h2
    cases Q with
    | mk qo qn qs qt qk =>
    refine ⟨_, retC h2, ?_⟩
    refine ⟨inV qk, ?_⟩
    refine ⟨?_, rfl⟩
    show _ = xc (core qo qn qs qt 0 qk.length (((encs qk).drop 0).take (qk.length * 5)))
    rw [encs_whole]; rfl
  | false =>
    refine ⟨fun _ => ?_, (fun h => by cases h)⟩
    refine ⟨_, retC (copy72 (.mk op n s t ks) _ hz (rd g)), ?_⟩
    refine ⟨inV ks, ?_⟩
    refine ⟨?_, rfl⟩
    simp only [inlF, hok]
    show _ = xc (core op n s t 0 ks.length (((encs ks).drop 0).take (ks.length * 5)))
    rw [encs_whole]; rfl

theorem inlF_wf {c : Co} (hw : Wf c) (hz : szC c ≤ 1048576) : Wf (inlF c) := by
  unfold inlF; split
  · next hok => exact (GoodI_inl (GoodI_can hok hz hw)).1.2.2
  · exact hw
theorem inlF_szM {c : Co} (hw : Wf c) (hz : szC c ≤ 1048576) : szM (inlF c) ≤ szM c := by
  unfold inlF; split
  · next hok =>
    have hG := GoodI_can hok hz hw
    have h1 := (inl_all _ hG.1).2
    have h2 := szM_nds (inl (canF c))
    have h3 := szM_nds (canF c)
    have h4 := canF_szM hz
    omega
  · exact Nat.le_refl _
end Go.Proofs.YtlkjnlfddadlmaaDoor.V

namespace Go.Proofs.YtlkjnlfddadlmaaDoor.V
set_option maxRecDepth 100000

set_option maxHeartbeats 8000000 in
theorem lawInlineCore {c : Co} {us : List TU} (hr : Rd c us) (hw : Wf c) : RT 5 [xc us] [] = some (xb true, []) := by
  cases c with
  | mk op n s t ks =>
  obtain ⟨g, cs, rfl, hr⟩ := hr
  have rd : ∀ g, Rd (.mk op n s t ks) (core op n s t (g + 2) ks.length (retags cs)) := fun g => ⟨_, _, rfl, hr.retag⟩
  refine fn_is (fn := Tryd.f5) rfl rfl rfl rfl ?_
  refine ⟨_, retI (sz19 _ _ 1048576 hw (rd g) (by omega) (by omega)), ?_⟩
  refine ⟨fun h => ⟨rfl, rfl⟩, fun h => ?_⟩
  obtain ⟨h1, _⟩ := szR_yes h
  have hz : szC (.mk op n s t ks) ≤ 1048576 := by omega
  have hkl : ks.length ≤ 1048576 := szCs_le (by simp only [szC] at hz; omega)
  have hsm := szMs_le ks
  have hzk : szCs ks ≤ 1048576 := by simp only [szC] at hz; omega
  have hwk : Wfs ks := by simp only [Wf] at hw; exact hw.2.2.2.2.2
  have ps := ic_s hw hz (rdO op n s t ks)
  have pi := ic_i hw hz (rdV op n s t ks)
  have pi2 := ic_i hw hz (rdO op n s t ks)
  have hpm := inlF_szM hw hz
  have hpw := inlF_wf hw hz
  generalize inlF (.mk op n s t ks) = P at ps pi pi2 hpm hpw
  cases P with
  | mk po pn p3 p4 pk =>
  have hpk : Wfs pk := by simp only [Wf] at hpw; exact hpw.2.2.2.2.2
  have hpl : pk.length ≤ maxLen := by simp only [Wf] at hpw; exact hpw.2.2.2.2.1
  simp only [szM] at hpm
  refine ⟨_, retC (to21 _ _ hz (rd g)), ?_⟩
  refine ⟨_, retC ps, ?_⟩
  refine ⟨_, retC (to21 _ _ hz (rd g)), ?_⟩
  refine ⟨inV ks, ?_⟩
  refine ⟨_, retC pi, ?_⟩
  refine ⟨inV pk, ?_⟩
  refine ⟨inV pk, ?_⟩
  refine ⟨_, retB (eq23 _ _ _ hpw (rdV po pn p3 p4 pk) (rdV po pn p3 p4 pk)), ?_⟩
  refine ⟨(fun h => by cases h), fun _ => ?_⟩
  refine ⟨_, retC (to21 _ _ hz (rd g)), ?_⟩
  refine ⟨inV ks, ?_⟩
  refine ⟨_, retB (eq23 _ _ _ hw (rdV op n s t ks) (rdO op n s t ks)), ?_⟩
  refine ⟨(fun h => by cases h), fun _ => ?_⟩
  refine ⟨_, _, retM (by rw [encs_ups]; exact mark37 hwk (by omega) (by omega) (by simp only [maxLen]; omega)), ?_⟩
  refine ⟨fun h => (by simp at h; omega), fun _ => ?_⟩
  refine ⟨inV pk, ?_⟩
  refine ⟨inV pk, ?_⟩
  refine ⟨_, retB (eq23 _ _ _ hpw (rdV po pn p3 p4 pk) (rdV po pn p3 p4 pk)), ?_⟩
  refine ⟨(fun h => by cases h), fun _ => ?_⟩
  refine ⟨_, _, retM (by rw [encs_ups]; exact mark37 hpk (by omega) (by omega) hpl), ?_⟩
  refine ⟨inM pk 1, ?_⟩
  refine ⟨_, retI (held44 hpk (by omega) (by omega) hpl (rdM po pn p3 p4 pk 1)), ?_⟩
  refine ⟨fun h => (by simp at h; omega), fun _ => ?_⟩
  refine ⟨fun h => by simp at h, fun _ => ?_⟩
  refine ⟨_, retC (to21 _ _ hz (rd g)), ?_⟩
  refine ⟨_, retC pi2, ?_⟩
  refine ⟨inV pk, ?_⟩
  refine ⟨inV pk, ?_⟩
  refine ⟨_, retB (eq23 _ _ _ hpw (rdV po pn p3 p4 pk) (rdV po pn p3 p4 pk)), ?_⟩
  refine ⟨(fun h => by cases h), fun _ => ?_⟩
  refine ⟨inM pk 1, ?_⟩
  refine ⟨_, retI (held44 hpk (by omega) (by omega) hpl (rdM po pn p3 p4 pk 1)), ?_⟩
  refine ⟨fun h => (by simp at h; omega), fun _ => ?_⟩
  refine ⟨fun h => by simp at h, fun _ => ?_⟩
  exact ⟨rfl, rfl⟩
end Go.Proofs.YtlkjnlfddadlmaaDoor.V

namespace Go.Proofs.YtlkjnlfddadlmaaDoor.fnExactInlineCore
open Go.ChangeShapes Go.WideShapes Go.ChangeAt Go.RowKit
set_option linter.unusedVariables false
set_option maxRecDepth 100000

theorem own : ownKnob Tryd.prog.godebug = none := by kernel_rfl
theorem laidOut : laidOutB Tryd.prog = true := by kernel_rfl
def G : List Nat := [3, 9, 29, 27]
theorem hG : V.plainTys Tryd.prog G = true := by kernel_rfl
theorem st : ∃ fs, Tryd.prog.underlying 29 = some (.struct fs) := by
  obtain ⟨fs, h, _⟩ := V.fieldTys_ok (P := Tryd.prog) (t := 29) (l := [3, 3, 9, 9, 27]) (by kernel_rfl)
  exact ⟨fs, h⟩

theorem of_laid {W : World} (h : laidMetH Tryd.prog Rows.fnExactInlineCoreRow.laid W) : Lib.TabIs Tryd.prog W "internal/strconv.uint64pow10" .u64 Lib.pow10Tab := by
  rw [MakeChecks.laidMetH_plain _ _ _ (by kernel_rfl)] at h
  have e : (Rows.laid_internal_strconv_uint64pow10 : DataW Unit) = Lib.tabData .u64 Lib.pow10Tab := by kernel_rfl
  have h1 : laidMet Tryd.prog [("math/bits.deBruijn32tab", Rows.laid_math_bits_deBruijn32tab), ("math/bits.deBruijn64tab", Rows.laid_math_bits_deBruijn64tab), ("internal/strconv.uint64pow10", Rows.laid_internal_strconv_uint64pow10)] W := h
  rw [e] at h1
  exact Lib.tabIs_of_head (g := (Tryd.prog.globalNamed "internal/strconv.uint64pow10").getD 0) (t := 102) (e := 97) (n := 20) (by kernel_rfl) (by kernel_rfl) (by kernel_rfl) (by kernel_rfl) (by kernel_rfl) (by kernel_rfl) h1.tail.tail

theorem door_met (os : Os) (args : Array Value) : laidMetH Tryd.prog Rows.fnExactInlineCoreRow.laid ((World.doorLaid Tryd.prog 400 os).forCall (fun _ _ => 0) ⟨#[], args, []⟩).memory :=
  laidMetH_of_parts3 (fuel := 8) (laidMet_of_run' 8 (by kernel_rfl) (by kernel_rfl)) (by kernel_rfl) (by kernel_rfl)

theorem tab_frm {W : World} (h : Lib.TabIs Tryd.prog W "internal/strconv.uint64pow10" .u64 Lib.pow10Tab) : V.TabOk V.T0 W (fun _ => False) := by
  intro w' hf
  show w'.var? Tryd.prog "internal/strconv.uint64pow10" = _
  unfold Lib.TabIs at h
  rw [← h]
  have hg : Tryd.prog.globalNamed "internal/strconv.uint64pow10" = some ((Tryd.prog.globalNamed "internal/strconv.uint64pow10").getD 0) := by kernel_rfl
  unfold World.var? at h ⊢
  rw [hg] at h ⊢
  simp only [Option.bind_some] at h ⊢
  rcases Nat.lt_or_ge ((Tryd.prog.globalNamed "internal/strconv.uint64pow10").getD 0) W.heap.size with hl | hl
  · rw [hf.block _ hl (fun x => x)]
  · rw [Array.getElem?_eq_none hl] at h; cases h

theorem lifted (os : Os) (started : os.Started) (H : Type) (enc : TypeId × Value → H) :
    ReturnsInHanded {} Tryd.checked os 5 .any (fun w args => (Rows.fnExactInlineCoreSpec.pre enc Tryd.prog Tryd.f5 [] false w args ∧ laidMetH Tryd.prog Rows.fnExactInlineCoreRow.laid w) ∧ sizedMet enc Tryd.prog Tryd.f5 (OpenSpec.ofChange Rows.fnExactInlineCoreSpec) false w args)
      (Rows.fnExactInlineCoreSpec.post enc Tryd.prog Tryd.f5 false true false false) := by
  refine returnsInHanded_of_change_and (C := Tryd.checked) (X := fun w _ => laidMetH Tryd.prog Rows.fnExactInlineCoreRow.laid w) (fun _ _ _ hh h => h.of_heap hh) own started (by kernel_rfl) Tryd.func5
    (ChangeSpec.witness_shaped (enc := enc) (C := Tryd.checked) (os := os) (X := fun w _ => laidMetH Tryd.prog Rows.fnExactInlineCoreRow.laid w) false (World.doorLaid Tryd.prog 400 os) #[.agg #[.int .i64 0, .int .i64 0, .string "".toUTF8, .string "".toUTF8, .slice none 0 0]] 8 rfl (World.shaped_of_RefB (by kernel_rfl) (by kernel_rfl)) (by kernel_rfl) (by kernel_rfl) (by kernel_rfl) (door_met os _)) ?_
  intro W base args ds gs before hval0 hW _ _ hL _
  have hval : ∀ (j : Nat) t v, Tryd.f5.params[j]? = some t → args[j]? = some v → Value.okWide Tryd.prog W .any base t v := hval0
  have hW' := hW
  obtain ⟨p, q, hA0, hV, rfl, hfz, hnd⟩ := hW
  have hA : DataW.TrodAll enc Tryd.prog W 0 (fun _ => true) true Tryd.f5.params.toList args.toList ds p := hA0
  rw [Tryd.params5] at hA hval
  obtain ⟨v0, vs0, d0, ds0, p0, q0, hargs, rfl, rfl, h0, r0⟩ := trodAll_cons hA
  obtain ⟨rfl, rfl, rfl⟩ := trodAll_nil r0
  obtain rfl : args = #[v0] := by cases args; simp_all
  obtain ⟨rfl, rfl⟩ := trodVars_none hV
  have k0 := h0
  have lt0 : ∀ x ∈ p0, x.block < W.heap.size := by obtain ⟨m, hm⟩ := k0; exact DataW.trod_lt m _ _ _ hm
  obtain ⟨fs, hu⟩ := st
  obtain ⟨k, us, hsh, hx⟩ := V.arg_struct hG (t := 29) (by decide) hu (hval 0 29 v0 rfl rfl) h0
  obtain ⟨c, hr, hw⟩ := V.sh_core k us hsh
  obtain ⟨n, hrun⟩ := V.run_of (V.lawInlineCore hr hw)
  clear hA0 hval0
  refine (V.law_calls V.cxOk (tab_frm (of_laid hL)) (vs := [v0]) (xs := [V.xc us]) ⟨rfl, fun i v x hv hx' => ?_⟩ hrun).mono fun e W' ⟨he, bel⟩ => ?_
  · cases i with
    | zero => simp only [List.getElem?_cons_zero, Option.some.injEq] at hv hx'; subst hv hx'; exact hx
    | succ i => simp at hv
  subst he
  exact ⟨_, rfl, _, _, _, [], _, [], hW', trodAll_mk1 (shut_bool Tryd.underlying4 _), (trodAll_cons_mk (Below.trod laidOut (by kernel_rfl) (of_decide_eq_true (by kernel_rfl)) k0 bel lt0) trodAll_mk0), rfl, bel.frame _, fun h => by cases h⟩

theorem over : Rows.FnExactInlineCoreSaid :=
  OpenClaim.holds_of_wide 5 Tryd.f5 rfl rfl rfl rfl rfl rfl rfl ⟨rfl, rfl, rfl, rfl, rfl⟩ rfl rfl rfl rfl rfl (by kernel_rfl) Tryd.func5 (by kernel_rfl)
    (of_decide_eq_true (by kernel_rfl)) (by unfold Func.isWrapper; first | (rw [if_pos (by decide +kernel)]; kernel_rfl) | (rw [if_neg (by decide +kernel)]; exact ⟨rfl, rfl⟩))
    (fun os started H enc _ => lifted os started H enc)

theorem proved : Rows.FnExactInlineCoreCardSaid :=
  Claim7.holds_tied_plain_at .later [] [.data, .data, .data] true (true, "5ebdaaf86a3b2c463874f02eb807602eeddab681ce332714020823e834f7944b") false
    over (fun _ h => by cases h) (by kernel_rfl) (fun _ h => by cases h) fnExactInlineCore_row_tie rfl ⟨rfl, rfl⟩ (by kernel_rfl) rfl
    (fun f fn hf hfn => by
      obtain rfl : f = 5 := Option.some.inj ((show Tryd.prog.funcNamed "loop.example/g00396/laws.FnExactInlineCore" = some 5 by kernel_rfl).symm.trans hf) |>.symm
      obtain rfl : fn = Tryd.f5 := (Option.some.inj (Tryd.func5.symm.trans hfn)).symm
      exact ⟨by kernel_rfl, fun j t ht => by
        rw [Tryd.params5] at ht
        have h3 : t = 29 := by
          rcases j with _ | j
          · simpa using ht.symm
          · simp at ht
        subst h3
        exact (show Tryd.prog.wantsStandIn 29 = false by kernel_rfl)⟩)
    (by kernel_rfl)
#print axioms proved
end Go.Proofs.YtlkjnlfddadlmaaDoor.fnExactInlineCore
