/-
  The law FnExactFoldCore holds for every input: the call returns true, and the input reads as it did. No conditions.
-/
import Derived.Test.YtlkjnlfddadlmaaMPFoldCorec
import Derived.Test.YtlkjnlfddadlmaaRows
import Derived.WalkKit
import Derived.ProofKit
import Derived.OpenShut
import Derived.ChangeOld
import Derived.Below
set_option linter.unusedVariables false
set_option linter.unusedSimpArgs false
namespace Go.Proofs.Ytlkjnlfddadlmaa.V
set_option maxRecDepth 100000

theorem numE {op n : Int} {s t : Nm} {R : List Co} {i k : Nat} {o m : Int} {s' t' : Nm} {kk : List Co} (hi : i < k) (hl : R.length = k) (hR : k ≤ maxLen) (hq : kid R i = .mk o m s' t' kk) :
    RetE RT 86 [xi i, .c (.ptr () (.ex 0) [] 0)] [(core op n s t 0 k (encs R)).map .t] (xb (o == 1)) [(core op n s t 0 k (encs R)).map .t] := by
  subst hl
  have h := num_i (op := op) (n := n) (s := s) (t := t) hi hR
  rw [show coOp (kid R i) = o by rw [hq]; rfl] at h
  refine ⟨_, h, rfl, ?_⟩
  simp only [List.mapM_cons, List.mapM_nil, List.map_cons, List.map_nil, downCs, downC, down, encs_down, Option.map_some, Option.bind_some]
  rfl

set_option maxHeartbeats 4000000 in
theorem fold_i : ∀ c : Co, Sfi c := by
  refine Co.ind fun op n s t ks ih => ?_
  intro us hz ha hr
  obtain ⟨g1, cs, rfl, hr⟩ := hr
  have hz' : szCs ks ≤ 1048576 := by simp only [szC] at hz; omega
  have hkm := szCs_le hz'
  simp only [arOk, Bool.and_eq_true] at ha
  obtain ⟨ha1, ha2⟩ := ha
  have ha1 : arC op = ks.length := eq_of_beq ha1
  have hl := fun K => lfi (K := K) (g := g1) (op := op) (n := n) (s := s) (t := t) ih hz' ha2 hr ks 0 rfl (by omega)
  clear ih
  have hRl := folds_len ks
  show RT _ _ _ = some (xc (enc (foldH op n s t (folds ks))), [])
  generalize folds ks = R at hl hRl
  have el : ∀ i, i < ks.length → ∃ o m s' t' kk, kid R i = .mk o m s' t' kk ∧ ((encs R).drop (i * 5)).take 5 = core o m s' t' 0 kk.length (encs kk) := by
    intro i hi
    have := kid_at (l := R) (i := i) (by omega)
    cases hk : kid R i with
    | mk o m s' t' kk => rw [hk] at this; exact ⟨o, m, s', t', kk, rfl, encs_el this⟩
  have hW : 0 + ks.length * 5 ≤ (encs R).length := by rw [encs_len, hRl]; omega
  have hself : xc (enc (.mk op n s t R)) = xc (core op n s t 0 ks.length (((encs R).drop 0).take (ks.length * 5))) := by
    have := encs_whole R
    rw [hRl] at this
    rw [this]
    simp only [enc, hRl]
  have hmx : ks.length ≤ maxLen := by simp only [maxLen]; omega
  have nE : ∀ {i : Nat} {o m : Int} {s' t' : Nm} {kk : List Co}, i < ks.length → kid R i = .mk o m s' t' kk → RetE RT 86 [xi i, .c (.ptr () (.ex 0) [] 0)] [(core op n s t 0 ks.length (ups (encs R))).map .t] (xb (o == 1)) [(core op n s t 0 ks.length (encs R)).map .t] := fun h1 h2 => by rw [encs_ups]; exact numE h1 hRl hmx h2
  refine fn_is (fn := Try.f55) rfl rfl rfl rfl ?_
  refine sem_in cx0 _ RT [12, 11, 10, 3, 1, 2] fun jk => ?_
  refine hl _ (fun jk j => ?_) jk
  refine ⟨_, retB (in52 op 8 12), ?_⟩
  have c0 : ∀ {o m s' t' kk}, kid R 0 = .mk o m s' t' kk → coOp (kid R 0) = o ∧ coN (kid R 0) = m := fun h => by rw [h]; exact ⟨rfl, rfl⟩
  have c1 : ∀ {o m s' t' kk}, kid R 1 = .mk o m s' t' kk → coOp (kid R 1) = o ∧ coN (kid R 1) = m := fun h => by rw [h]; exact ⟨rfl, rfl⟩
  refine ⟨fun h1 => ?_, fun h1 => ?_⟩
  · have hk2 := ar2 h1 ha1
    obtain ⟨o0, m0, s0, t0, kk0, q0, w0⟩ := el 0 (by omega)
    obtain ⟨o1, m1, s1, t1, kk1, q1, w1⟩ := el 1 (by omega)
    refine ⟨_, _, nE (i := 0) (by omega) q0, ?_⟩
    refine ⟨fun h2 => ?_, fun h2 => ?_⟩
    · refine ⟨_, _, nE (i := 1) (by omega) q1, ?_⟩
      refine ⟨fun h3 => ?_, fun h3 => ?_⟩
      · refine ⟨⟨by omega, by omega⟩, ?_⟩
        refine ⟨m0, ⟨(take1 w0).2.1, rfl⟩, ?_⟩
        refine ⟨⟨by omega, by omega⟩, ?_⟩
        refine ⟨m1, ⟨(take1 w1).2.1, rfl⟩, ?_⟩
        refine ⟨_, retV (rec_i _ _ _), ?_⟩
        refine ⟨Nat.le_refl _, ?_⟩
        refine ⟨?_, rfl⟩
        rw [fH1 h1 (by rw [(c0 q0).1]; exact h2) (by rw [(c1 q1).1]; exact h3), (c0 q0).2, (c1 q1).2]
        rfl
      · have hnm : ((decide (op ≥ 8) && decide (op ≤ 12)) && coOp (kid R 0) == 1 && coOp (kid R 1) == 1) = false := by rw [(c1 q1).1, h3]; simp
        have n7 : (op == 7) = true → False := fun h => by have := ar7 h ha1; omega
        have n17 : (op == 17) = true → False := fun h => by have := ar17 h ha1; omega
        refine ⟨fun h => (n7 h).elim, fun h7 => ?_⟩
        refine ⟨fun h => (n17 h).elim, fun h17 => ?_⟩
        refine ⟨hW, ?_⟩
        exact ⟨by rw [fH4 hnm (by rw [h7]; rfl) (by rw [h17]; rfl)]; exact hself, rfl⟩
    · have hnm : ((decide (op ≥ 8) && decide (op ≤ 12)) && coOp (kid R 0) == 1 && coOp (kid R 1) == 1) = false := by rw [(c0 q0).1, h2]; simp
      have n7 : (op == 7) = true → False := fun h => by have := ar7 h ha1; omega
      have n17 : (op == 17) = true → False := fun h => by have := ar17 h ha1; omega
      refine ⟨fun h => (n7 h).elim, fun h7 => ?_⟩
      refine ⟨fun h => (n17 h).elim, fun h17 => ?_⟩
      refine ⟨hW, ?_⟩
      exact ⟨by rw [fH4 hnm (by rw [h7]; rfl) (by rw [h17]; rfl)]; exact hself, rfl⟩
  · have hnm : ((decide (op ≥ 8) && decide (op ≤ 12)) && coOp (kid R 0) == 1 && coOp (kid R 1) == 1) = false := by rw [h1]; rfl
    refine ⟨fun h4 => ?_, fun h4 => ?_⟩
    · have hk3 := ar7 h4 ha1
      obtain ⟨o0, m0, s0, t0, kk0, q0, w0⟩ := el 0 (by omega)
      refine ⟨_, _, nE (i := 0) (by omega) q0, ?_⟩
      refine ⟨fun h5 => ?_, fun h5 => ?_⟩
      · have hf := fH2 (n := n) (s := s) (t := t) hnm h4 (by rw [(c0 q0).1]; exact h5)
        rw [(c0 q0).2] at hf
        refine ⟨⟨by omega, by omega⟩, ?_⟩
        refine ⟨m0, ⟨(take1 w0).2.1, rfl⟩, ?_⟩
        refine ⟨fun h6 => ?_, fun h6 => ?_⟩
        · obtain ⟨o2, m2, s2, t2, kk2, q2, w2⟩ := el 2 (by omega)
          refine ⟨⟨by omega, by omega⟩, ?_⟩
          refine ⟨o2, m2, s2, t2, 0, kk2.length, encs kk2, ⟨w2, rfl⟩, ?_⟩
          refine ⟨isLT5 w2, ?_⟩
          refine ⟨5, kk2.length, encs kk2, el4 w2, ?_⟩
          refine ⟨inV kk2, ?_⟩
          refine ⟨?_, rfl⟩
          rw [hf, h6]
          exact enc_k q2
        · obtain ⟨o1, m1, s1, t1, kk1, q1, w1⟩ := el 1 (by omega)
          refine ⟨⟨by omega, by omega⟩, ?_⟩
          refine ⟨o1, m1, s1, t1, 0, kk1.length, encs kk1, ⟨w1, rfl⟩, ?_⟩
          refine ⟨isLT5 w1, ?_⟩
          refine ⟨5, kk1.length, encs kk1, el4 w1, ?_⟩
          refine ⟨inV kk1, ?_⟩
          refine ⟨?_, rfl⟩
          rw [hf, h6]
          exact enc_k q1
      · have hn2 : (op == 7 && coOp (kid R 0) == 1) = false := by rw [(c0 q0).1, h5]; simp
        have n17 : (op == 17) = true → False := fun h => by have := ar17 h ha1; omega
        refine ⟨fun h => (n17 h).elim, fun h17 => ?_⟩
        refine ⟨hW, ?_⟩
        exact ⟨by rw [fH4 hnm hn2 (by rw [h17]; rfl)]; exact hself, rfl⟩
    · have hn2 : (op == 7 && coOp (kid R 0) == 1) = false := by rw [h4]; rfl
      refine ⟨fun h17 => ?_, fun h17 => ?_⟩
      · have hk1 := ar17 h17 ha1
        obtain ⟨o0, m0, s0, t0, kk0, q0, w0⟩ := el 0 (by omega)
        refine ⟨_, _, nE (i := 0) (by omega) q0, ?_⟩
        refine ⟨fun h8 => ?_, fun h8 => ?_⟩
        · refine ⟨Nat.le_refl _, ?_⟩
          exact ⟨by rw [fH3 hnm hn2 h17 (by rw [(c0 q0).1, h8]; rfl)]; rfl, rfl⟩
        · refine ⟨⟨by omega, by omega⟩, ?_⟩
          refine ⟨o0, ⟨(take1 w0).1, rfl⟩, ?_⟩
          refine ⟨fun h9 => ?_, fun h9 => ?_⟩
          · refine ⟨Nat.le_refl _, ?_⟩
            exact ⟨by rw [fH3 hnm hn2 h17 (by rw [(c0 q0).1, h8, h9]; rfl)]; rfl, rfl⟩
          · refine ⟨hW, ?_⟩
            exact ⟨by rw [fH4 hnm hn2 (by rw [(c0 q0).1, h8, h9]; simp)]; exact hself, rfl⟩
      · refine ⟨hW, ?_⟩
        exact ⟨by rw [fH4 hnm hn2 (by rw [h17]; rfl)]; exact hself, rfl⟩
end Go.Proofs.Ytlkjnlfddadlmaa.V

namespace Go.Proofs.Ytlkjnlfddadlmaa.V
set_option maxRecDepth 100000

def foldF (c : Co) : Co := if okCo c then fold c else c

theorem fc_s {c : Co} {us : List TU} (_ : Wf c) (hz : szC c ≤ 1048576) (hr : Rd c us) : RT 18 [xc us] [] = some (xc (enc (foldF c)), []) := by
  cases c with
  | mk op n s t ks =>
  obtain ⟨g, cs, rfl, hr⟩ := hr
  have rd : ∀ g, Rd (.mk op n s t ks) (core op n s t (g + 2) ks.length (retags cs)) := fun g => ⟨_, _, rfl, hr.retag⟩
  refine fn_is (fn := Try.f18) rfl rfl rfl rfl ?_
  refine ⟨_, retB (ok_s hz (rd g)), ?_⟩
  cases hok : okCo (.mk op n s t ks) with
  | true =>
    refine ⟨(fun h => by cases h), fun _ => ?_⟩
    have := fold_s (.mk op n s t ks) _ hz (okCo_ar hok) (rd g)
    simp only [foldF, hok, if_true]
    generalize fold (.mk op n s t ks) = P at this
    cases P with
    | mk po pn ps pt pk =>
    refine ⟨_, retC this, ?_⟩
    refine ⟨inV pk, ?_⟩
    refine ⟨?_, rfl⟩
    show _ = xc (core po pn ps pt 0 pk.length (((encs pk).drop 0).take (pk.length * 5)))
    rw [encs_whole]; rfl
  | false =>
    refine ⟨fun _ => ?_, (fun h => by cases h)⟩
    refine ⟨_, retC (copy86 (.mk op n s t ks) _ hz (rd g)), ?_⟩
    refine ⟨inV ks, ?_⟩
    refine ⟨?_, rfl⟩
    simp only [foldF, hok]
    show _ = xc (core op n s t 0 ks.length (((encs ks).drop 0).take (ks.length * 5)))
    rw [encs_whole]; rfl

theorem fc_i {c : Co} {us : List TU} (_ : Wf c) (hz : szC c ≤ 1048576) (hr : Rd c us) : RT 20 [xc us] [] = some (xc (enc (foldF c)), []) := by
  cases c with
  | mk op n s t ks =>
  obtain ⟨g, cs, rfl, hr⟩ := hr
  have rd : ∀ g, Rd (.mk op n s t ks) (core op n s t (g + 2) ks.length (retags cs)) := fun g => ⟨_, _, rfl, hr.retag⟩
  refine fn_is (fn := Try.f20) rfl rfl rfl rfl ?_
  refine ⟨_, retB (ok_i hz (rd g)), ?_⟩
  cases hok : okCo (.mk op n s t ks) with
  | true =>
    refine ⟨(fun h => by cases h), fun _ => ?_⟩
    have := fold_i (.mk op n s t ks) _ hz (okCo_ar hok) (rd g)
    simp only [foldF, hok, if_true]
    generalize fold (.mk op n s t ks) = P at this
    cases P with
    | mk po pn ps pt pk =>
    refine ⟨_, retC this, ?_⟩
    refine ⟨inV pk, ?_⟩
    refine ⟨?_, rfl⟩
    show _ = xc (core po pn ps pt 0 pk.length (((encs pk).drop 0).take (pk.length * 5)))
    rw [encs_whole]; rfl
  | false =>
    refine ⟨fun _ => ?_, (fun h => by cases h)⟩
    refine ⟨_, retC (copy72 (.mk op n s t ks) _ hz (rd g)), ?_⟩
    refine ⟨inV ks, ?_⟩
    refine ⟨?_, rfl⟩
    simp only [foldF, hok]
    show _ = xc (core op n s t 0 ks.length (((encs ks).drop 0).take (ks.length * 5)))
    rw [encs_whole]; rfl

theorem foldF_wf {c : Co} (hw : Wf c) (_ : szC c ≤ 1048576) : Wf (foldF c) := by
  unfold foldF; split
  · exact fold_wf c hw
  · exact hw
theorem foldF_szM {c : Co} (_ : szC c ≤ 1048576) : szM (foldF c) ≤ szM c := by
  unfold foldF; split
  · rw [szM_nd, szM_nd]; have := fold_nd c; omega
  · exact Nat.le_refl _
end Go.Proofs.Ytlkjnlfddadlmaa.V

namespace Go.Proofs.Ytlkjnlfddadlmaa.V
set_option maxRecDepth 100000

set_option maxHeartbeats 8000000 in
theorem lawFoldCore {c : Co} {us : List TU} (hr : Rd c us) (hw : Wf c) : RT 5 [xc us] [] = some (xb true, []) := by
  cases c with
  | mk op n s t ks =>
  obtain ⟨g, cs, rfl, hr⟩ := hr
  have rd : ∀ g, Rd (.mk op n s t ks) (core op n s t (g + 2) ks.length (retags cs)) := fun g => ⟨_, _, rfl, hr.retag⟩
  refine fn_is (fn := Try.f5) rfl rfl rfl rfl ?_
  refine ⟨_, retI (sz19 _ _ 1048576 hw (rd g) (by omega) (by omega)), ?_⟩
  refine ⟨fun h => ⟨rfl, rfl⟩, fun h => ?_⟩
  obtain ⟨h1, _⟩ := szR_yes h
  have hz : szC (.mk op n s t ks) ≤ 1048576 := by omega
  have hkl : ks.length ≤ 1048576 := szCs_le (by simp only [szC] at hz; omega)
  have hsm := szMs_le ks
  have hzk : szCs ks ≤ 1048576 := by simp only [szC] at hz; omega
  have hwk : Wfs ks := by simp only [Wf] at hw; exact hw.2.2.2.2.2
  have ps := fc_s hw hz (rdO op n s t ks)
  have pi := fc_i hw hz (rdV op n s t ks)
  have pi2 := fc_i hw hz (rdO op n s t ks)
  have hpm := foldF_szM hz
  have hpw := foldF_wf hw hz
  generalize foldF (.mk op n s t ks) = P at ps pi pi2 hpm hpw
  cases P with
  | mk po pn p3 p4 pk =>
  have hpk : Wfs pk := by simp only [Wf] at hpw; exact hpw.2.2.2.2.2
  have hpl : pk.length ≤ maxLen := by simp only [Wf] at hpw; exact hpw.2.2.2.2.1
  simp only [szM] at hpm
  refine ⟨_, retC (to21 _ _ hz (rd g)), ?_⟩
  refine ⟨_, retC ps, ?_⟩
  refine ⟨_, retC (to21 _ _ hz (rd g)), ?_⟩
  refine ⟨inV ks, ?_⟩
  refine ⟨_, retC pi, ?_⟩
  refine ⟨inV pk, ?_⟩
  refine ⟨inV pk, ?_⟩
  refine ⟨_, retB (eq23 _ _ _ hpw (rdV po pn p3 p4 pk) (rdV po pn p3 p4 pk)), ?_⟩
  refine ⟨(fun h => by cases h), fun _ => ?_⟩
  refine ⟨_, retC (to21 _ _ hz (rd g)), ?_⟩
  refine ⟨inV ks, ?_⟩
  refine ⟨_, retB (eq23 _ _ _ hw (rdV op n s t ks) (rdO op n s t ks)), ?_⟩
  refine ⟨(fun h => by cases h), fun _ => ?_⟩
  refine ⟨_, _, retM (by rw [encs_ups]; exact mark37 hwk (by omega) (by omega) (by simp only [maxLen]; omega)), ?_⟩
  refine ⟨fun h => (by simp at h; omega), fun _ => ?_⟩
  refine ⟨inV pk, ?_⟩
  refine ⟨inV pk, ?_⟩
  refine ⟨_, retB (eq23 _ _ _ hpw (rdV po pn p3 p4 pk) (rdV po pn p3 p4 pk)), ?_⟩
  refine ⟨(fun h => by cases h), fun _ => ?_⟩
  refine ⟨_, _, retM (by rw [encs_ups]; exact mark37 hpk (by omega) (by omega) hpl), ?_⟩
  refine ⟨inM pk 1, ?_⟩
  refine ⟨_, retI (held44 hpk (by omega) (by omega) hpl (rdM po pn p3 p4 pk 1)), ?_⟩
  refine ⟨fun h => (by simp at h; omega), fun _ => ?_⟩
  refine ⟨fun h => by simp at h, fun _ => ?_⟩
  refine ⟨_, retC (to21 _ _ hz (rd g)), ?_⟩
  refine ⟨_, retC pi2, ?_⟩
  refine ⟨inV pk, ?_⟩
  refine ⟨inV pk, ?_⟩
  refine ⟨_, retB (eq23 _ _ _ hpw (rdV po pn p3 p4 pk) (rdV po pn p3 p4 pk)), ?_⟩
  refine ⟨(fun h => by cases h), fun _ => ?_⟩
  refine ⟨inM pk 1, ?_⟩
  refine ⟨_, retI (held44 hpk (by omega) (by omega) hpl (rdM po pn p3 p4 pk 1)), ?_⟩
  refine ⟨fun h => (by simp at h; omega), fun _ => ?_⟩
  refine ⟨fun h => by simp at h, fun _ => ?_⟩
  exact ⟨rfl, rfl⟩
end Go.Proofs.Ytlkjnlfddadlmaa.V

namespace Go.Proofs.Ytlkjnlfddadlmaa.fnExactFoldCore
open Go.ChangeShapes Go.WideShapes Go.ChangeAt Go.RowKit
set_option linter.unusedVariables false
set_option maxRecDepth 100000

theorem own : ownKnob Try.prog.godebug = none := by kernel_rfl
theorem laidOut : laidOutB Try.prog = true := by kernel_rfl

def G : List Nat := [3, 9, 33, 31]
theorem hG : V.plainTys Try.prog G = true := by kernel_rfl
theorem st : ∃ fs, Try.prog.underlying 33 = some (.struct fs) := by
  obtain ⟨fs, h, _⟩ := V.fieldTys_ok (P := Try.prog) (t := 33) (l := [3, 3, 9, 9, 31]) (by kernel_rfl)
  exact ⟨fs, h⟩

theorem lifted (os : Os) (started : os.Started) (H : Type) (enc : TypeId × Value → H) :
    ReturnsInHanded {} Try.checked os 5 .any (Rows.fnExactFoldCoreSpec.pre6 enc Try.prog Try.f5 Rows.fnExactFoldCoreRow.domain false) (Rows.fnExactFoldCoreSpec.post enc Try.prog Try.f5 false true false false) := by
  refine returnsInHanded_of_change (C := Try.checked) own started (by kernel_rfl) Try.func5
    (ChangeSpec.witness6 (enc := enc) (C := Try.checked) false ⟨#[], #[.agg #[.int .i64 0, .int .i64 0, .string "".toUTF8, .string "".toUTF8, .slice none 0 0]], []⟩ 8 (by kernel_rfl) (by kernel_rfl) (by kernel_rfl) (by kernel_rfl)) ?_
  intro W base args ds gs before hval0 hW hcnd _
  have hval : ∀ (j : Nat) t v, Try.f5.params[j]? = some t → args[j]? = some v → Value.okWide Try.prog W .any base t v := hval0
  have hW' := hW
  obtain ⟨p, q, hA0, hV, rfl, hfz, hnd⟩ := hW
  have hA : DataW.TrodAll enc Try.prog W 0 (fun _ => true) true Try.f5.params.toList args.toList ds p := hA0
  rw [Try.params5] at hA hval
  obtain ⟨v0, vs0, d0, ds0, p0, q0, hargs, rfl, rfl, h0, r0⟩ := trodAll_cons hA
  obtain ⟨rfl, rfl, rfl⟩ := trodAll_nil r0
  obtain rfl : args = #[v0] := by cases args; simp_all
  obtain ⟨rfl, rfl⟩ := trodVars_none hV
  have k0 := h0
  have lt0 : ∀ x ∈ p0, x.block < W.heap.size := by obtain ⟨m, hm⟩ := k0; exact DataW.trod_lt m _ _ _ hm
  obtain ⟨fs, hu⟩ := st
  obtain ⟨k, us, hsh, hx⟩ := V.arg_struct hG (t := 33) (by decide) hu (hval 0 33 v0 rfl rfl) h0
  obtain ⟨c, hr, hw⟩ := V.sh_core k us hsh
  obtain ⟨n, hrun⟩ := V.run_of (V.lawFoldCore hr hw)
  clear hA0 hval0
  refine (V.law_calls V.cxOk (fun _ _ => trivial) (vs := [v0]) (xs := [V.xc us]) ⟨rfl, fun i v x hv hx' => ?_⟩ hrun).mono fun e W' ⟨he, bel⟩ => ?_
  · cases i with
    | zero => simp only [List.getElem?_cons_zero, Option.some.injEq] at hv hx'; subst hv hx'; exact hx
    | succ i => simp at hv
  subst he
  exact ⟨_, rfl, _, _, _, [], _, [], hW', trodAll_mk1 (shut_bool Try.underlying4 _), (trodAll_cons_mk (Below.trod laidOut (by kernel_rfl) (of_decide_eq_true (by kernel_rfl)) k0 bel lt0) trodAll_mk0), rfl, bel.frame _, fun h => by cases h⟩

theorem over : Rows.fnExactFoldCoreRow.holds Try.pinned (OpenSpec.ofChange Rows.fnExactFoldCoreSpec) :=
  OpenClaim.holds_of_wide 5 Try.f5 rfl rfl rfl rfl rfl rfl rfl ⟨rfl, rfl, rfl, rfl, rfl⟩ rfl rfl rfl rfl rfl (by kernel_rfl) Try.func5 (by kernel_rfl)
    (of_decide_eq_true (by kernel_rfl)) (by unfold Func.isWrapper; first | (rw [if_pos (by decide +kernel)]; kernel_rfl) | (rw [if_neg (by decide +kernel)]; exact ⟨rfl, rfl⟩))
    (fun os started H enc _ => lifted os started H enc)

theorem proved : Rows.FnExactFoldCoreSaid := over
#print axioms proved
end Go.Proofs.Ytlkjnlfddadlmaa.fnExactFoldCore
