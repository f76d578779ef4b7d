/-
  Cores reckoned ahead by the program: all of it. No conditions.
-/
import Derived.Test.YtlkjnlfddadlmaaMPFoldablec
set_option linter.unusedVariables false
set_option linter.unusedSimpArgs false
namespace Go.Proofs.Ytlkjnlfddadlmaa.V
set_option maxRecDepth 100000

theorem numE {op n : Int} {s t : Nm} {R : List Co} {i k : Nat} {o m : Int} {s' t' : Nm} {kk : List Co} (hi : i < k) (hl : R.length = k) (hR : k ≤ maxLen) (hq : kid R i = .mk o m s' t' kk) :
    RetE RT 86 [xi i, .c (.ptr () (.ex 0) [] 0)] [(core op n s t 0 k (encs R)).map .t] (xb (o == 1)) [(core op n s t 0 k (encs R)).map .t] := by
  subst hl
  have h := num_i (op := op) (n := n) (s := s) (t := t) hi hR
  rw [show coOp (kid R i) = o by rw [hq]; rfl] at h
  refine ⟨_, h, rfl, ?_⟩
  simp only [List.mapM_cons, List.mapM_nil, List.map_cons, List.map_nil, downCs, downC, down, encs_down, Option.map_some, Option.bind_some]
  rfl

set_option maxHeartbeats 4000000 in
theorem fold_i : ∀ c : Co, Sfi c := by
  refine Co.ind fun op n s t ks ih => ?_
  intro us hz ha hr
  obtain ⟨g1, cs, rfl, hr⟩ := hr
  have hz' : szCs ks ≤ 1048576 := by simp only [szC] at hz; omega
  have hkm := szCs_le hz'
  simp only [arOk, Bool.and_eq_true] at ha
  obtain ⟨ha1, ha2⟩ := ha
  have ha1 : arC op = ks.length := eq_of_beq ha1
  have hl := fun K => lfi (K := K) (g := g1) (op := op) (n := n) (s := s) (t := t) ih hz' ha2 hr ks 0 rfl (by omega)
  clear ih
  have hRl := folds_len ks
  show RT _ _ _ = some (xc (enc (foldH op n s t (folds ks))), [])
  generalize folds ks = R at hl hRl
  have el : ∀ i, i < ks.length → ∃ o m s' t' kk, kid R i = .mk o m s' t' kk ∧ ((encs R).drop (i * 5)).take 5 = core o m s' t' 0 kk.length (encs kk) := by
    intro i hi
    have := kid_at (l := R) (i := i) (by omega)
    cases hk : kid R i with
    | mk o m s' t' kk => rw [hk] at this; exact ⟨o, m, s', t', kk, rfl, encs_el this⟩
  have hW : 0 + ks.length * 5 ≤ (encs R).length := by rw [encs_len, hRl]; omega
  have hself : xc (enc (.mk op n s t R)) = xc (core op n s t 0 ks.length (((encs R).drop 0).take (ks.length * 5))) := by
    have := encs_whole R
    rw [hRl] at this
    rw [this]
    simp only [enc, hRl]
  have hmx : ks.length ≤ maxLen := by simp only [maxLen]; omega
  have nE : ∀ {i : Nat} {o m : Int} {s' t' : Nm} {kk : List Co}, i < ks.length → kid R i = .mk o m s' t' kk → RetE RT 86 [xi i, .c (.ptr () (.ex 0) [] 0)] [(core op n s t 0 ks.length (ups (encs R))).map .t] (xb (o == 1)) [(core op n s t 0 ks.length (encs R)).map .t] := fun h1 h2 => by rw [encs_ups]; exact numE h1 hRl hmx h2
  refine fn_is (fn := Try.f55) rfl rfl rfl rfl ?_
  refine sem_in cx0 _ RT [12, 11, 10, 3, 1, 2] fun jk => ?_
  refine hl _ (fun jk j => ?_) jk
  refine ⟨_, retB (in52 op 8 12), ?_⟩
  have c0 : ∀ {o m s' t' kk}, kid R 0 = .mk o m s' t' kk → coOp (kid R 0) = o ∧ coN (kid R 0) = m := fun h => by rw [h]; exact ⟨rfl, rfl⟩
  have c1 : ∀ {o m s' t' kk}, kid R 1 = .mk o m s' t' kk → coOp (kid R 1) = o ∧ coN (kid R 1) = m := fun h => by rw [h]; exact ⟨rfl, rfl⟩
  refine ⟨fun h1 => ?_, fun h1 => ?_⟩
  · have hk2 := ar2 h1 ha1
    obtain ⟨o0, m0, s0, t0, kk0, q0, w0⟩ := el 0 (by omega)
    obtain ⟨o1, m1, s1, t1, kk1, q1, w1⟩ := el 1 (by omega)
    refine ⟨_, _, nE (i := 0) (by omega) q0, ?_⟩
    refine ⟨fun h2 => ?_, fun h2 => ?_⟩
    · refine ⟨_, _, nE (i := 1) (by omega) q1, ?_⟩
      refine ⟨fun h3 => ?_, fun h3 => ?_⟩
      · refine ⟨⟨by omega, by omega⟩, ?_⟩
        refine ⟨m0, ⟨(take1 w0).2.1, rfl⟩, ?_⟩
        refine ⟨⟨by omega, by omega⟩, ?_⟩
        refine ⟨m1, ⟨(take1 w1).2.1, rfl⟩, ?_⟩
        refine ⟨_, retV (rec_i _ _ _), ?_⟩
        refine ⟨Nat.le_refl _, ?_⟩
        refine ⟨?_, rfl⟩
        rw [fH1 h1 (by rw [(c0 q0).1]; exact h2) (by rw [(c1 q1).1]; exact h3), (c0 q0).2, (c1 q1).2]
        rfl
      · have hnm : ((decide (op ≥ 8) && decide (op ≤ 12)) && coOp (kid R 0) == 1 && coOp (kid R 1) == 1) = false := by rw [(c1 q1).1, h3]; simp
        have n7 : (op == 7) = true → False := fun h => by have := ar7 h ha1; omega
        have n17 : (op == 17) = true → False := fun h => by have := ar17 h ha1; omega
        refine ⟨fun h => (n7 h).elim, fun h7 => ?_⟩
        refine ⟨fun h => (n17 h).elim, fun h17 => ?_⟩
        refine ⟨hW, ?_⟩
        exact ⟨by rw [fH4 hnm (by rw [h7]; rfl) (by rw [h17]; rfl)]; exact hself, rfl⟩
    · have hnm : ((decide (op ≥ 8) && decide (op ≤ 12)) && coOp (kid R 0) == 1 && coOp (kid R 1) == 1) = false := by rw [(c0 q0).1, h2]; simp
      have n7 : (op == 7) = true → False := fun h => by have := ar7 h ha1; omega
      have n17 : (op == 17) = true → False := fun h => by have := ar17 h ha1; omega
      refine ⟨fun h => (n7 h).elim, fun h7 => ?_⟩
      refine ⟨fun h => (n17 h).elim, fun h17 => ?_⟩
      refine ⟨hW, ?_⟩
      exact ⟨by rw [fH4 hnm (by rw [h7]; rfl) (by rw [h17]; rfl)]; exact hself, rfl⟩
  · have hnm : ((decide (op ≥ 8) && decide (op ≤ 12)) && coOp (kid R 0) == 1 && coOp (kid R 1) == 1) = false := by rw [h1]; rfl
    refine ⟨fun h4 => ?_, fun h4 => ?_⟩
    · have hk3 := ar7 h4 ha1
      obtain ⟨o0, m0, s0, t0, kk0, q0, w0⟩ := el 0 (by omega)
      refine ⟨_, _, nE (i := 0) (by omega) q0, ?_⟩
      refine ⟨fun h5 => ?_, fun h5 => ?_⟩
      · have hf := fH2 (n := n) (s := s) (t := t) hnm h4 (by rw [(c0 q0).1]; exact h5)
        rw [(c0 q0).2] at hf
        refine ⟨⟨by omega, by omega⟩, ?_⟩
        refine ⟨m0, ⟨(take1 w0).2.1, rfl⟩, ?_⟩
        refine ⟨fun h6 => ?_, fun h6 => ?_⟩
        · obtain ⟨o2, m2, s2, t2, kk2, q2, w2⟩ := el 2 (by omega)
          refine ⟨⟨by omega, by omega⟩, ?_⟩
          refine ⟨o2, m2, s2, t2, 0, kk2.length, encs kk2, ⟨w2, rfl⟩, ?_⟩
          refine ⟨isLT5 w2, ?_⟩
          refine ⟨5, kk2.length, encs kk2, el4 w2, ?_⟩
          refine ⟨inV kk2, ?_⟩
          refine ⟨?_, rfl⟩
          rw [hf, h6]
          exact enc_k q2
        · obtain ⟨o1, m1, s1, t1, kk1, q1, w1⟩ := el 1 (by omega)
          refine ⟨⟨by omega, by omega⟩, ?_⟩
          refine ⟨o1, m1, s1, t1, 0, kk1.length, encs kk1, ⟨w1, rfl⟩, ?_⟩
          refine ⟨isLT5 w1, ?_⟩
          refine ⟨5, kk1.length, encs kk1, el4 w1, ?_⟩
          refine ⟨inV kk1, ?_⟩
          refine ⟨?_, rfl⟩
          rw [hf, h6]
          exact enc_k q1
      · have hn2 : (op == 7 && coOp (kid R 0) == 1) = false := by rw [(c0 q0).1, h5]; simp
        have n17 : (op == 17) = true → False := fun h => by have := ar17 h ha1; omega
        refine ⟨fun h => (n17 h).elim, fun h17 => ?_⟩
        refine ⟨hW, ?_⟩
        exact ⟨by rw [fH4 hnm hn2 (by rw [h17]; rfl)]; exact hself, rfl⟩
    · have hn2 : (op == 7 && coOp (kid R 0) == 1) = false := by rw [h4]; rfl
      refine ⟨fun h17 => ?_, fun h17 => ?_⟩
      · have hk1 := ar17 h17 ha1
        obtain ⟨o0, m0, s0, t0, kk0, q0, w0⟩ := el 0 (by omega)
        refine ⟨_, _, nE (i := 0) (by omega) q0, ?_⟩
        refine ⟨fun h8 => ?_, fun h8 => ?_⟩
        · refine ⟨Nat.le_refl _, ?_⟩
          exact ⟨by rw [fH3 hnm hn2 h17 (by rw [(c0 q0).1, h8]; rfl)]; rfl, rfl⟩
        · refine ⟨⟨by omega, by omega⟩, ?_⟩
          refine ⟨o0, ⟨(take1 w0).1, rfl⟩, ?_⟩
          refine ⟨fun h9 => ?_, fun h9 => ?_⟩
          · refine ⟨Nat.le_refl _, ?_⟩
            exact ⟨by rw [fH3 hnm hn2 h17 (by rw [(c0 q0).1, h8, h9]; rfl)]; rfl, rfl⟩
          · refine ⟨hW, ?_⟩
            exact ⟨by rw [fH4 hnm hn2 (by rw [(c0 q0).1, h8, h9]; simp)]; exact hself, rfl⟩
      · refine ⟨hW, ?_⟩
        exact ⟨by rw [fH4 hnm hn2 (by rw [h17]; rfl)]; exact hself, rfl⟩
end Go.Proofs.Ytlkjnlfddadlmaa.V

namespace Go.Proofs.Ytlkjnlfddadlmaa.V
set_option maxRecDepth 100000

def foldF (c : Co) : Co := if okCo c then fold c else c

theorem fc_s {c : Co} {us : List TU} (_ : Wf c) (hz : szC c ≤ 1048576) (hr : Rd c us) : RT 18 [xc us] [] = some (xc (enc (foldF c)), []) := by
  cases c with
  | mk op n s t ks =>
  obtain ⟨g, cs, rfl, hr⟩ := hr
  have rd : ∀ g, Rd (.mk op n s t ks) (core op n s t (g + 2) ks.length (retags cs)) := fun g => ⟨_, _, rfl, hr.retag⟩
  refine fn_is (fn := Try.f18) rfl rfl rfl rfl ?_
  refine ⟨_, retB (ok_s hz (rd g)), ?_⟩
  cases hok : okCo (.mk op n s t ks) with
  | true =>
    refine ⟨(fun h => by cases h), fun _ => ?_⟩
    have := fold_s (.mk op n s t ks) _ hz (okCo_ar hok) (rd g)
    simp only [foldF, hok, if_true]
    generalize fold (.mk op n s t ks) = P at this
    cases P with
    | mk po pn ps pt pk =>
    refine ⟨_, retC this, ?_⟩
    refine ⟨inV pk, ?_⟩
    refine ⟨?_, rfl⟩
    show _ = xc (core po pn ps pt 0 pk.length (((encs pk).drop 0).take (pk.length * 5)))
    rw [encs_whole]; rfl
  | false =>
    refine ⟨fun _ => ?_, (fun h => by cases h)⟩
    refine ⟨_, retC (copy86 (.mk op n s t ks) _ hz (rd g)), ?_⟩
    refine ⟨inV ks, ?_⟩
    refine ⟨?_, rfl⟩
    simp only [foldF, hok]
    show _ = xc (core op n s t 0 ks.length (((encs ks).drop 0).take (ks.length * 5)))
    rw [encs_whole]; rfl

theorem fc_i {c : Co} {us : List TU} (_ : Wf c) (hz : szC c ≤ 1048576) (hr : Rd c us) : RT 20 [xc us] [] = some (xc (enc (foldF c)), []) := by
  cases c with
  | mk op n s t ks =>
  obtain ⟨g, cs, rfl, hr⟩ := hr
  have rd : ∀ g, Rd (.mk op n s t ks) (core op n s t (g + 2) ks.length (retags cs)) := fun g => ⟨_, _, rfl, hr.retag⟩
  refine fn_is (fn := Try.f20) rfl rfl rfl rfl ?_
  refine ⟨_, retB (ok_i hz (rd g)), ?_⟩
  cases hok : okCo (.mk op n s t ks) with
  | true =>
    refine ⟨(fun h => by cases h), fun _ => ?_⟩
    have := fold_i (.mk op n s t ks) _ hz (okCo_ar hok) (rd g)
    simp only [foldF, hok, if_true]
    generalize fold (.mk op n s t ks) = P at this
    cases P with
    | mk po pn ps pt pk =>
    refine ⟨_, retC this, ?_⟩
    refine ⟨inV pk, ?_⟩
    refine ⟨?_, rfl⟩
    show _ = xc (core po pn ps pt 0 pk.length (((encs pk).drop 0).take (pk.length * 5)))
    rw [encs_whole]; rfl
  | false =>
    refine ⟨fun _ => ?_, (fun h => by cases h)⟩
    refine ⟨_, retC (copy72 (.mk op n s t ks) _ hz (rd g)), ?_⟩
    refine ⟨inV ks, ?_⟩
    refine ⟨?_, rfl⟩
    simp only [foldF, hok]
    show _ = xc (core op n s t 0 ks.length (((encs ks).drop 0).take (ks.length * 5)))
    rw [encs_whole]; rfl

theorem foldF_wf {c : Co} (hw : Wf c) (_ : szC c ≤ 1048576) : Wf (foldF c) := by
  unfold foldF; split
  · exact fold_wf c hw
  · exact hw
theorem foldF_szM {c : Co} (_ : szC c ≤ 1048576) : szM (foldF c) ≤ szM c := by
  unfold foldF; split
  · rw [szM_nd, szM_nd]; have := fold_nd c; omega
  · exact Nat.le_refl _
end Go.Proofs.Ytlkjnlfddadlmaa.V
