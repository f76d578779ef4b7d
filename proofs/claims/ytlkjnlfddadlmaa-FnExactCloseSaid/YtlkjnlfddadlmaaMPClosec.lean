/-
  Closing, by the reference: functions. No conditions.
-/
import Derived.Test.YtlkjnlfddadlmaaMPCloseb
set_option linter.unusedVariables false
set_option linter.unusedSimpArgs false
namespace Go.Proofs.Ytlkjnlfddadlmaa.V
set_option maxRecDepth 100000
def SE (c : Co) : Prop := ∀ us top slf (env : Loc) (deep : Nat) bs ok kept u, (u = .nilp ∨ u = .t (.dead ())) → wR c = true → szC c ≤ 1048576 → env.length + ndC c ≤ 100000 → kept.length + ndC c ≤ 100000 → bs.length + ndC c ≤ 100000 → deep + ndC c ≤ 100000 → Rd c us →
 RT 63 [p0, p1, xc us, xi deep] [wC bs ok, vI top u (lc env) (ks0 kept) slf] =
  some (xc (irE (sE c top slf env deep ⟨bs, ok, kept⟩).1), [wC (sE c top slf env deep ⟨bs, ok, kept⟩).2.bs (sE c top slf env deep ⟨bs, ok, kept⟩).2.ok, vI top u (lc env) (ks0 (sE c top slf env deep ⟨bs, ok, kept⟩).2.kept) slf])
theorem zV0 {l : List Blk} {i : Nat} {f o n : Int} {ks : List Ir} (h : i < l.length) : ((blE l).take (i * 4) ++ blc f o n 0 ks.length (yP ks)) ++ (blE l).drop (i * 4 + 4) = blE (l.set i (f, .mk o n ks)) := by
 induction l generalizing i with
 | nil => simp at h
 | cons b l ih =>
  have hb : ((.int .i64 b.1 : TU) :: irE b.2).length = 4 := by simp only [List.length_cons, aO]
  cases i with
  | zero =>
   have e : (blE (b :: l)).drop 4 = blE l := by
    show ((.int .i64 b.1 :: irE b.2) ++ blE l).drop 4 = _
    rw [← hb, List.drop_left]
   rw [Nat.zero_mul, Nat.zero_add, e]
   rfl
  | succ i =>
   have ih := ih (i := i) (by simpa using h)
   have e1 : (blE (b :: l)).take ((i + 1) * 4) = (.int .i64 b.1 :: irE b.2) ++ (blE l).take (i * 4) := by
    show ((.int .i64 b.1 :: irE b.2) ++ blE l).take ((i + 1) * 4) = _
    rw [show (i + 1) * 4 = ((.int .i64 b.1 : TU) :: irE b.2).length + i * 4 by rw [hb]; omega, List.take_length_add_append]
   have e2 : (blE (b :: l)).drop ((i + 1) * 4 + 4) = (blE l).drop (i * 4 + 4) := by
    show ((.int .i64 b.1 :: irE b.2) ++ blE l).drop ((i + 1) * 4 + 4) = _
    rw [show (i + 1) * 4 + 4 = ((.int .i64 b.1 : TU) :: irE b.2).length + (i * 4 + 4) by rw [hb]; omega, List.drop_length_add_append]
   rw [e1, e2, List.set_cons_succ]
   show _ = (.int .i64 b.1 :: irE b.2) ++ blE (l.set i (f, .mk o n ks))
   rw [← ih]
   simp only [List.append_assoc]
theorem zSo {l : List Blk} {i : Nat} {f o n : Int} {ks : List Ir} (h : i < l.length) : (blE l).take (0 + i * 4) ++ [.int .i64 f, .int .i64 o, .int .i64 n, .sl () 0 3 ks.length (((yP ks).drop 0).take (ks.length * 3))] ++ (blE l).drop (0 + i * 4 + 4) = blE (l.set i (f, .mk o n ks)) := by
 rw [q5, Nat.zero_add]; exact zV0 h
theorem cI {g : Nat} {a : List XU} {e : List (List CU)} {c : Ir} {bs : List Blk} {ok top : Bool} {u : CU} {env kept : List Pl} {slf : Nm} (hu : u = .nilp ∨ u = .t (.dead ())) (h : RT g a e = some (xc (irE c), [wC bs ok, vI top u env kept slf])) :
  zBd RT g a e (xc (irE c)) [wC bs ok, vI top u env kept slf] := by
 rcases hu with rfl | rfl
 all_goals
  refine ⟨_, h, by simp only [j7, aB (lB c), Option.map_some], ?_⟩
  simp only [List.mapM_cons, List.mapM_nil, y8, qC, down, dH, a0, Option.map_some, Option.bind_some]
  rfl
theorem zX1 {g : Nat} {a : List XU} {e : List (List CU)} {nm : Nm} {o n : Int} {bs : List Blk} {ok top : Bool} {u : CU} {env kept : List Pl} {slf : Nm} (hu : u = .nilp ∨ u = .t (.dead ())) (h : RT g a e = some (.agg [.t (.str nm), .t (ii o), .t (ii n)], [wC bs ok, vI top u env kept slf])) :
  zBd RT g a e (.agg [.t (.str nm), .t (ii o), .t (ii n)]) [wC bs ok, vI top u env kept slf] := by
 rcases hu with rfl | rfl
 all_goals
  refine ⟨_, h, rfl, ?_⟩
  simp only [List.mapM_cons, List.mapM_nil, y8, qC, down, dH, a0, Option.map_some, Option.bind_some]
  rfl
abbrev gbox (arg self : Nm) (ks : List Nm) : XU := .box () [.t (.bool false), .t (.dead ()), .t (.sl () 0 3 1 [.str arg, .int .i64 2, .int .i64 0]), .t (.sl () 0 3 (ks0 ks).length (plE (ks0 ks))), .t (.str self)]
theorem gel {arg self slf : Nm} {top : Bool} {env : Loc} {u : CU} {ks : List Nm} {w : Nat} {K : Ex → StA → Prop} (hu : u = .nilp ∨ u = .t (.dead ())) (hk : ks.length ≤ 200000) (hE : env.length ≤ 200000) :
  ∀ (l : List Nm) (i : Nat), ks.drop i = l → i ≤ ks.length → ∀ (done : List Ir) (bs : List Blk) (ok : Bool) (kept : List Nm), done.length = i → kept.length + l.length ≤ 400000 →
  (∀ jk j, K (.exit 0) ⟨[(15, xi j), (14, .box () ((irc 5 w 0 ks.length (yP (done ++ (kR top slf env l ⟨bs, ok, kept⟩).1))).map .t)), (12, .c (.ptr () (.sl 43) [] 0)), (43, gbox arg self ks), (0, p0), (1, p1), (10, .box () ((irc 0 0 0 0 []).map .t))], jk,
   [wC (kR top slf env l ⟨bs, ok, kept⟩).2.bs (kR top slf env l ⟨bs, ok, kept⟩).2.ok, vI top u (lc env) (ks0 (kR top slf env l ⟨bs, ok, kept⟩).2.kept) slf]⟩) →
  ∀ jk, sem cx0 93 RT (.loop (lp Try.f93 0)) ⟨[(15, xi i), (14, .box () ((irc 5 w 0 i (yP done)).map .t)), (12, .c (.ptr () (.sl 43) [] 0)), (43, gbox arg self ks), (0, p0), (1, p1), (10, .box () ((irc 0 0 0 0 []).map .t))], jk,
   [wC bs ok, vI top u (lc env) (ks0 kept) slf]⟩ K := by
 have hkl := zAz ks
 have hu0 := hu
 rcases hu with rfl | rfl
 all_goals
  refine xE ?_ ?_
  ·intro done bs ok kept hd hkk k1 jk
   refine zK cx0 _ RT [15, 14, 12, 43, 0, 1, 10] ⟨fun h => (jZ h (by omega)).elim, fun h => ?_⟩
   intro jk
   have := k1 jk ks.length
   rw [show kR top slf env [] ⟨bs, ok, kept⟩ = ([], ⟨bs, ok, kept⟩) from rfl, List.append_nil] at this
   exact this
  ·intro i x l hi hil ih done bs ok kept hd hkk k1 jk
   simp only [List.length_cons] at hkk
   refine zK cx0 _ RT [15, 14, 12, 43, 0, 1, 10] ⟨fun h => ?_, fun h => (qL h (by omega)).elim⟩
   refine ⟨⟨by omega, by omega⟩, ?_⟩
   refine ⟨x, ⟨zPw (zTy hi), rfl⟩, ?_⟩
   obtain ⟨nm, o, n, g1, g2⟩ := zXx (top := top) (slf := slf) (s := x) (env := env) (bs := bs) (ok := ok) (kept := kept) hu0 (by omega) (by omega)
   have hgk := (zAv (top := top) (slf := slf) (env := env) (s := x) (w := ⟨bs, ok, kept⟩)).2.1
   have e1 : kR top slf env (x :: l) ⟨bs, ok, kept⟩ = ((gU top slf env x ⟨bs, ok, kept⟩).1 :: (kR top slf env l (gU top slf env x ⟨bs, ok, kept⟩).2).1, (kR top slf env l (gU top slf env x ⟨bs, ok, kept⟩).2).2) := rfl
   rw [e1] at k1
   generalize gU top slf env x ⟨bs, ok, kept⟩ = R at g1 g2 hgk k1
   obtain ⟨r, rb, rok, rkept⟩ := R
   simp only at g1 hgk
   subst g1
   refine ⟨_, _, zX1 hu0 (by rw [j1, jX, jX]; exact g2), ?_⟩
   refine ⟨⟨rfl, rfl⟩, ?_⟩
   refine ⟨⟨rfl, rfl⟩, ?_⟩
   refine ⟨_, zP4 (ir_s (nm := nm) (o := o) (n := n)), ?_⟩
   refine ⟨by rw [qO]; omega, ?_⟩
   refine ⟨⟨by simp only [maxLen]; omega, by show (_ + 1) * 40 ≤ _; omega⟩, ?_⟩
   intro jk
   have hq : ((yP done).drop 0).take (i * 3) ++ irE (.mk o n []) = yP (done ++ [.mk o n []]) := by
    rw [kT, uZ (by rw [qO]; omega)]
    simp only [yP, List.append_nil]
   have ih := ih (done ++ [.mk o n []]) rb rok rkept (by simp [hd]) (by omega) (fun jk j => by
    have := k1 jk j
    rw [List.append_assoc]
    exact this) jk
   rw [← hq] at ih
   rw [q8 hil (by simp only [maxLen]; omega)]
   exact ih
set_option maxHeartbeats 4000000 in
theorem zXo {body : Co} (H : SE body) {us : List TU} {arg self slf : Nm} {top ok : Bool} {env : Loc} {deep : Nat} {bs : List Blk} {kept : List Nm} {u : CU} (hu : u = .nilp ∨ u = .t (.dead ())) (ha : wR body = true) (hz : szC body ≤ 1048576)
  (hE : env.length + ndC body ≤ 100000) (hK : kept.length + ndC body ≤ 100000) (hB : bs.length + ndC body + 1 ≤ 100000) (hr : Rd body us) :
  RT 93 [p0, p1, xs arg, xs self, xc us] [wC bs ok, vI top u (lc env) (ks0 kept) slf] =
   some (xc (irE (vY arg self (sE body) top slf env deep ⟨bs, ok, kept⟩).1), [wC (vY arg self (sE body) top slf env deep ⟨bs, ok, kept⟩).2.bs (vY arg self (sE body) top slf env deep ⟨bs, ok, kept⟩).2.ok, vI top u (lc env) (ks0 (vY arg self (sE body) top slf env deep ⟨bs, ok, kept⟩).2.kept) slf]) := by
 cases body with
 | mk op n s t ks =>
 obtain ⟨g1, cs, rfl, hr⟩ := hr
 have rd : ∀ g, Rd (.mk op n s t ks) (xJ op n s t (g + 2) ks.length (zI cs)) := fun g => ⟨_, _, rfl, hr.retag⟩
 by_cases hb : bs.length ≥ 60
 ·have e : vY arg self (sE (.mk op n s t ks)) top slf env deep ⟨bs, ok, kept⟩ = (zIr, ⟨bs, false, kept⟩) := by unfold vY; rw [if_pos hb]
  rw [e]
  rcases hu with rfl | rfl
  all_goals
   refine x8 (fn := Try.f93) rfl rfl rfl rfl ?_
   refine ⟨fun h => ?_, fun h => by simp at h; omega⟩
   first
    | exact ⟨rfl, rfl⟩
    | (refine ⟨inI [], ?_⟩; exact ⟨rfl, rfl⟩)
 ·have hl : (bs ++ [((0 : Int), zIr)]).length = bs.length + 1 := by simp
  have hc := H (xJ op n s t (g1 + 2) ks.length (zI cs)) false self [(arg, 0)] 1 (bs ++ [(0, zIr)]) ok [] (.t (.dead ())) (.inr rfl) ha hz (by simp; omega) (by simp; omega) (by rw [hl]; omega) (by omega) (rd g1)
  have hbd := (zDx _ ha).1 false self [(arg, 0)] 1 ⟨bs ++ [(0, zIr)], ok, []⟩
  have hq : ((blE bs).drop 0).take (bs.length * 4) ++ [.int .i64 0, .int .i64 0, .int .i64 0, .sl () 0 3 0 []] = blE (bs ++ [((0 : Int), zIr)]) := by rw [gP, mC]; rfl
  have hw : wC (bs ++ [((0 : Int), zIr)]) ok = [.t (.sl () 0 4 (bs.length + 1) (ups (((blE bs).drop 0).take (bs.length * 4) ++ [.int .i64 0, .int .i64 0, .int .i64 0, .sl () 0 3 0 []]))), .t (.bool ok)] := by rw [hq, j1, ← hl]
  rw [hw] at hc
  have e : vY arg self (sE (.mk op n s t ks)) top slf env deep ⟨bs, ok, kept⟩ = (.mk 5 bs.length (kR top slf env (sE (.mk op n s t ks) false self [(arg, 0)] 1 ⟨bs ++ [(0, zIr)], ok, []⟩).2.kept ⟨(sE (.mk op n s t ks) false self [(arg, 0)] 1 ⟨bs ++ [(0, zIr)], ok, []⟩).2.bs.set bs.length ((sE (.mk op n s t ks) false self [(arg, 0)] 1 ⟨bs ++ [(0, zIr)], ok, []⟩).2.kept.length, (sE (.mk op n s t ks) false self [(arg, 0)] 1 ⟨bs ++ [(0, zIr)], ok, []⟩).1), (sE (.mk op n s t ks) false self [(arg, 0)] 1 ⟨bs ++ [(0, zIr)], ok, []⟩).2.ok, kept⟩).1, (kR top slf env (sE (.mk op n s t ks) false self [(arg, 0)] 1 ⟨bs ++ [(0, zIr)], ok, []⟩).2.kept ⟨(sE (.mk op n s t ks) false self [(arg, 0)] 1 ⟨bs ++ [(0, zIr)], ok, []⟩).2.bs.set bs.length ((sE (.mk op n s t ks) false self [(arg, 0)] 1 ⟨bs ++ [(0, zIr)], ok, []⟩).2.kept.length, (sE (.mk op n s t ks) false self [(arg, 0)] 1 ⟨bs ++ [(0, zIr)], ok, []⟩).1), (sE (.mk op n s t ks) false self [(arg, 0)] 1 ⟨bs ++ [(0, zIr)], ok, []⟩).2.ok, kept⟩).2) := by
   unfold vY; rw [if_neg hb]
  rw [e]
  clear e
  generalize sE (.mk op n s t ks) false self [(arg, 0)] 1 ⟨bs ++ [(0, zIr)], ok, []⟩ = R at hc hbd ⊢
  obtain ⟨⟨ro, rn, rk⟩, rb, rok, rkept⟩ := R
  simp only [List.length_nil, hl] at hbd
  obtain ⟨b1, b2, b3⟩ := hbd
  dsimp only at hc ⊢
  have hkl := zAz rkept
  have hu0 := hu
  rcases hu with rfl | rfl
  all_goals
   refine x8 (fn := Try.f93) rfl rfl rfl rfl ?_
   refine ⟨fun h => by simp at h; omega, fun h => ?_⟩
   refine ⟨rJ bs, ?_⟩
   refine ⟨⟨by simp only [maxLen]; omega, by show (bs.length + 1) * 48 ≤ _; omega⟩, ?_⟩
   refine ⟨_, _, cI (.inr rfl) hc, ?_⟩
   refine ⟨⟨by omega, by omega⟩, ?_⟩
   refine ⟨inI rk, ?_⟩
   refine ⟨by rw [kM]; show 0 + bs.length * 4 + 4 ≤ _; omega, ?_⟩
   intro jk
   refine yE cx0 _ RT [15, 14, 12, 43, 0, 1, 10] fun jk => ?_
   have hs := zSo (l := rb) (i := bs.length) (f := ((ks0 rkept).length : Int)) (o := ro) (n := rn) (ks := rk) (by omega)
   rw [show rb.set bs.length (((ks0 rkept).length : Int), Ir.mk ro rn rk) = rb.set bs.length ((rkept.length : Int), .mk ro rn rk) by rw [hkl]] at hs
   have hl' : (rb.set bs.length ((rkept.length : Int), .mk ro rn rk)).length = rb.length := by simp
   generalize rb.set bs.length ((rkept.length : Int), Ir.mk ro rn rk) = rb' at hs hl' ⊢
   obtain ⟨q1, q2, q3, q4⟩ := aH (top := top) (slf := slf) (env := env) rkept ⟨rb', rok, kept⟩
   have hg := fun K => gel (K := K) (arg := arg) (self := self) (slf := slf) (top := top) (env := env) (ks := rkept) (w := bs.length) hu0 (by omega) (by omega) rkept 0 rfl (by omega) [] rb' rok kept rfl (by omega)
   have hw2 : wC rb' rok = [.t (.sl () 0 4 rb.length ((blE rb).take (0 + bs.length * 4) ++ [.int .i64 (ks0 rkept).length, .int .i64 ro, .int .i64 rn, .sl () 0 3 rk.length (((yP rk).drop 0).take (rk.length * 3))] ++ (blE rb).drop (0 + bs.length * 4 + 4))), .t (.bool rok)] := by rw [hs, ← hl']
   rw [hw2] at hg
   generalize kR top slf env rkept ⟨rb', rok, kept⟩ = G at hg q3 ⊢
   obtain ⟨gk, gb, gok, gkept⟩ := G
   dsimp only at hg q3 ⊢
   refine hg _ (fun jk j => ?_) jk
   refine ⟨by show 0 + rkept.length * 3 ≤ (yP ([] ++ gk)).length; rw [List.nil_append, qO, q3]; omega, ?_⟩
   refine ⟨?_, rfl⟩
   show xc (irc 5 bs.length 0 gk.length (yP gk)) = xc (irc 5 bs.length 0 rkept.length (((yP ([] ++ gk)).drop 0).take (rkept.length * 3)))
   rw [← q3, List.nil_append, q5]
end Go.Proofs.Ytlkjnlfddadlmaa.V
namespace Go.Proofs.Ytlkjnlfddadlmaa.V
set_option maxRecDepth 100000
theorem bC {o n : Int} {ks : List Ir} : xc (irE (.mk o n ks)) = xc (irc o n 0 ks.length (((yP ks).drop 0).take (ks.length * 3))) := by rw [q5]; rfl
theorem zKu : ∀ l : List Pl, (plE l).all zO3 = true
 | [] => rfl
 | p :: l => by simp only [plE, List.all_cons, zKu l]; rfl
set_option maxHeartbeats 4000000 in
theorem in_s {c : Co} (H : SE c) {us : List TU} {nm slf : Nm} {top ok : Bool} {env : Loc} {d deep : Nat} {bs : List Blk} {kept : List Nm} {u : CU} (hu : u = .nilp ∨ u = .t (.dead ())) (ha : wR c = true) (hz : szC c ≤ 1048576)
  (hE : env.length + 1 + ndC c ≤ 100000) (hK : kept.length + ndC c ≤ 100000) (hB : bs.length + ndC c ≤ 100000) (hD : deep + ndC c ≤ 100000) (hr : Rd c us) :
  RT 94 [p0, p1, xc us, xi deep, .agg [.t (.str nm), .t (ii 2), .t (ii d)]] [wC bs ok, vI top u (lc env) (ks0 kept) slf] =
   some (xc (irE (sE c top slf (env ++ [(nm, d)]) deep ⟨bs, ok, kept⟩).1), [wC (sE c top slf (env ++ [(nm, d)]) deep ⟨bs, ok, kept⟩).2.bs (sE c top slf (env ++ [(nm, d)]) deep ⟨bs, ok, kept⟩).2.ok, vI top u (lc env) (ks0 (sE c top slf (env ++ [(nm, d)]) deep ⟨bs, ok, kept⟩).2.kept) slf]) := by
 cases c with
 | mk op n s t ks =>
 obtain ⟨g1, cs, rfl, hr⟩ := hr
 have rd : ∀ g, Rd (.mk op n s t ks) (xJ op n s t (g + 2) ks.length (zI cs)) := fun g => ⟨_, _, rfl, hr.retag⟩
 have hlc : (lc env).length = env.length := by simp [lc]
 have hc := H (xJ op n s t (g1 + 2) ks.length (zI cs)) top slf (env ++ [(nm, d)]) deep bs ok kept u hu ha hz (by simp; omega) (by omega) (by omega) (by omega) (rd g1)
 rw [zT0] at hc
 generalize sE (.mk op n s t ks) top slf (env ++ [(nm, d)]) deep ⟨bs, ok, kept⟩ = R at hc ⊢
 obtain ⟨⟨ro, rn, rk⟩, rb, rok, rkept⟩ := R
 dsimp only at hc ⊢
 have hu0 := hu
 have hw1 : wC bs ok = [.t (.sl () 0 4 bs.length (ups (blE bs))), .t (.bool ok)] := by rw [j1]
 have hw2 : vI top u (lc env ++ [(nm, 2, (d : Int))]) (ks0 kept) slf = [.t (.bool top), u, .t (.sl () 0 3 (0 + (lc env).length + 1) (ups ([] ++ ((plE (lc env)).drop 0).take ((lc env).length * 3) ++ [.str nm, .int .i64 2, .int .i64 d]))), .t (.sl () 0 3 (ks0 kept).length (ups (plE (ks0 kept)))), .t (.str slf)] := by
  have := n9 (l := lc env) (p := (nm, 2, (d : Int)))
  rw [List.nil_append, this, jX, jX, Nat.zero_add]
  simp
 rw [hw1, hw2] at hc
 rcases hu with rfl | rfl
 all_goals
  refine x8 (fn := Try.f94) rfl rfl rfl rfl ?_
  refine ⟨inP (lc env), ?_⟩
  refine ⟨by rw [j4]; exact inP (lc env), ?_⟩
  rw [j4]
  refine ⟨by rw [j4]; exact zKu _, ?_⟩
  refine ⟨⟨by simp only [maxLen]; omega, by show (0 + (lc env).length) * 32 ≤ _; omega⟩, ?_⟩
  refine ⟨⟨by simp only [maxLen]; omega, by show (_ + 1) * 32 ≤ _; omega⟩, ?_⟩
  refine ⟨_, _, cI hu0 hc, ?_⟩
  refine ⟨inP (lc env), ?_⟩
  refine ⟨inI rk, ?_⟩
  refine ⟨bC, ?_⟩
  first
   | rfl
   | (show [wC rb rok, [_, _, .t (.sl () 0 3 (lc env).length (plE (lc env))), .t (.sl () 0 3 (ks0 rkept).length (plE (ks0 rkept))), _]] = [wC rb rok, [.t (.bool top), _, .t (.sl () 0 3 (lc env).length (((plE (lc env)).drop 0).take ((lc env).length * 3))), .t (.sl () 0 3 (ks0 rkept).length (plE (ks0 rkept))), .t (.str slf)]]; rw [j4])
theorem soml {ks : List Co} {cs : List TU} {g deep : Nat} {op n : Int} {s t slf : Nm} {top : Bool} {env : Loc} {u : CU} {K : Ex → StA → Prop} (hu : u = .nilp ∨ u = .t (.dead ())) (H : ∀ c ∈ ks, SE c) (ha : fW ks = true) (hz : x0 ks ≤ 1048576) (hr : Rds ks cs)
  (hE : env.length + y7 ks ≤ 100000) (hD : deep + y7 ks ≤ 100000) :
  ∀ (l : List Co) (i : Nat), ks.drop i = l → i ≤ ks.length → ∀ (done : List Ir) (bs : List Blk) (ok : Bool) (kept : List Nm), done.length = i → kept.length + y7 l ≤ 100000 → bs.length + y7 l ≤ 100000 →
  (∀ jk j, K (.exit 0) ⟨[(10, xi j), (9, xl 0 3 ks.length (yP (done ++ (qS top slf env deep (sEs l) ⟨bs, ok, kept⟩).1))), (8, xl 0 3 0 []), (0, p0), (1, p1), (3, xi deep), (6, .box () ((xJ op n s t (g + 1) ks.length cs).map .t))], jk,
   [wC (qS top slf env deep (sEs l) ⟨bs, ok, kept⟩).2.bs (qS top slf env deep (sEs l) ⟨bs, ok, kept⟩).2.ok, vI top u (lc env) (ks0 (qS top slf env deep (sEs l) ⟨bs, ok, kept⟩).2.kept) slf]⟩) →
  ∀ jk, sem cx0 96 RT (.loop (lp Try.f96 0)) ⟨[(10, xi i), (9, xl 0 3 i (yP done)), (8, xl 0 3 0 []), (0, p0), (1, p1), (3, xi deep), (6, .box () ((xJ op n s t (g + 1) ks.length cs).map .t))], jk,
   [wC bs ok, vI top u (lc env) (ks0 kept) slf]⟩ K := by
 have hk := uM hz
 have hu0 := hu
 rcases hu with rfl | rfl
 all_goals
  refine xE ?_ ?_
  ·intro done bs ok kept hd h1 h2 k1 jk
   refine zK cx0 _ RT [10, 9, 8, 0, 1, 3, 6] ⟨fun h => (jZ h (by omega)).elim, fun h => ?_⟩
   intro jk
   have := k1 jk ks.length
   rw [show qS top slf env deep (sEs []) ⟨bs, ok, kept⟩ = ([], ⟨bs, ok, kept⟩) from rfl, List.append_nil] at this
   exact this
  ·intro i c l hi hil ih done bs ok kept hd h1 h2 k1 jk
   have hm := List.mem_of_getElem? hi
   have hzc := w7 hz hm
   have hac := xO ha _ hm
   have hnc := uR hm
   have hbd := (zDx c hac).1 top slf env deep ⟨bs, ok, kept⟩
   simp only [y7] at h1 h2
   cases c with
   | mk op' n' s' t' kk =>
   obtain ⟨g', cs', e1, e2⟩ := qV hr hi
   refine zK cx0 _ RT [10, 9, 8, 0, 1, 3, 6] ⟨fun h => ?_, fun h => (qL h (by omega)).elim⟩
   refine ⟨⟨by omega, by omega⟩, ?_⟩
   refine ⟨op', n', s', t', g' + 1, kk.length, cs', ⟨e1, rfl⟩, ?_⟩
   have hc := H _ hm (xJ op' n' s' t' (g' + 2) kk.length (zI cs')) top slf env deep bs ok kept _ hu0 hac hzc (by omega) (by omega) (by omega) (by omega) ⟨_, _, rfl, e2.retag⟩
   have es : qS top slf env deep (sEs (.mk op' n' s' t' kk :: l)) ⟨bs, ok, kept⟩ = ((sE (.mk op' n' s' t' kk) top slf env deep ⟨bs, ok, kept⟩).1 :: (qS top slf env deep (sEs l) (sE (.mk op' n' s' t' kk) top slf env deep ⟨bs, ok, kept⟩).2).1, (qS top slf env deep (sEs l) (sE (.mk op' n' s' t' kk) top slf env deep ⟨bs, ok, kept⟩).2).2) := rfl
   rw [es] at k1
   generalize sE (.mk op' n' s' t' kk) top slf env deep ⟨bs, ok, kept⟩ = R at hc hbd k1
   obtain ⟨⟨ro, rn, rk⟩, rb, rok, rkept⟩ := R
   dsimp only at hc hbd k1
   obtain ⟨b1, b2, b3⟩ := hbd
   refine ⟨_, _, cI hu0 (by rw [j1, jX, jX]; exact hc), ?_⟩
   refine ⟨by rw [qO]; omega, ?_⟩
   refine ⟨⟨by simp only [maxLen]; omega, by show (_ + 1) * 40 ≤ _; omega⟩, ?_⟩
   intro jk
   have hq : ((yP done).drop 0).take (i * 3) ++ irE (.mk ro rn rk) = yP (done ++ [.mk ro rn rk]) := by
    rw [kT, uZ (by rw [qO]; omega)]
    simp only [yP, List.append_nil]
   have ih := ih (done ++ [.mk ro rn rk]) rb rok rkept (by simp [hd]) (by omega) (by omega) (fun jk j => by
    have := k1 jk j
    rw [List.append_assoc]
    exact this) jk
   rw [← hq] at ih
   rw [q8 hil (by simp only [maxLen]; omega)]
   exact ih
theorem retS5 {g : Nat} {a : List XU} {e : List (List CU)} {n : Nat} {l : List Ir} {bs : List Blk} {ok top : Bool} {u : CU} {env kept : List Pl} {slf : Nm} (hu : u = .nilp ∨ u = .t (.dead ())) (h : RT g a e = some (xl 0 3 n (yP l), [wC bs ok, vI top u env kept slf])) :
  zBd RT g a e (xl 0 3 n (yP l)) [wC bs ok, vI top u env kept slf] := by
 rcases hu with rfl | rfl
 all_goals
  refine ⟨_, h, by simp only [j7, qC, down, pZ, Option.map_some]; rfl, ?_⟩
  simp only [List.mapM_cons, List.mapM_nil, y8, qC, down, dH, a0, Option.map_some, Option.bind_some]
  rfl
set_option maxHeartbeats 4000000 in
theorem zZn {op n : Int} {s t : Nm} {ks : List Co} {us : List TU} {deep : Nat} {slf : Nm} {top ok : Bool} {env : Loc} {bs : List Blk} {kept : List Nm} {u : CU} (hu : u = .nilp ∨ u = .t (.dead ())) (H : ∀ c ∈ ks, SE c) (ha : fW ks = true) (hz : x0 ks ≤ 1048576)
  (hE : env.length + y7 ks ≤ 100000) (hD : deep + y7 ks ≤ 100000) (hK : kept.length + y7 ks ≤ 100000) (hB : bs.length + y7 ks ≤ 100000) (hr : Rd (.mk op n s t ks) us) :
  RT 96 [p0, p1, xc us, xi deep] [wC bs ok, vI top u (lc env) (ks0 kept) slf] =
   some (xl 0 3 ks.length (yP (qS top slf env deep (sEs ks) ⟨bs, ok, kept⟩).1), [wC (qS top slf env deep (sEs ks) ⟨bs, ok, kept⟩).2.bs (qS top slf env deep (sEs ks) ⟨bs, ok, kept⟩).2.ok, vI top u (lc env) (ks0 (qS top slf env deep (sEs ks) ⟨bs, ok, kept⟩).2.kept) slf]) := by
 obtain ⟨g1, cs, rfl, hr⟩ := hr
 have hl := fun K => soml (K := K) (g := g1) (op := op) (n := n) (s := s) (t := t) (slf := slf) (top := top) hu H ha hz hr hE hD ks 0 rfl (by omega) [] bs ok kept rfl hK hB
 have hlen := (cQ (top := top) (slf := slf) (env := env) (deep := deep) ks (fun c hc => (zDx c (xO ha _ hc)).1) ⟨bs, ok, kept⟩).2.2.2
 generalize qS top slf env deep (sEs ks) ⟨bs, ok, kept⟩ = R at hl hlen ⊢
 obtain ⟨rl, rb, rok, rkept⟩ := R
 dsimp only at hl hlen ⊢
 have hu0 := hu
 rcases hu with rfl | rfl
 all_goals
  refine x8 (fn := Try.f96) rfl rfl rfl rfl ?_
  refine yE cx0 _ RT [10, 9, 8, 0, 1, 3, 6] fun jk => ?_
  refine hl _ (fun jk j => ?_) jk
  refine ⟨by rw [List.nil_append, qO]; omega, ?_⟩
  refine ⟨?_, rfl⟩
  show xl 0 3 ks.length (yP rl) = xl 0 3 ks.length (((yP ([] ++ rl)).drop 0).take (ks.length * 3))
  rw [List.nil_append, ← hlen, q5]
end Go.Proofs.Ytlkjnlfddadlmaa.V
namespace Go.Proofs.Ytlkjnlfddadlmaa.V
set_option maxRecDepth 100000
set_option maxHeartbeats 4000000 in
theorem zW3 {op : Int} {ks : List Ir} (h0 : 1 ≤ op) (h1 : op ≤ 18) (h17 : op = 17 → ks.length = 1) : RT 95 [xi op, xl 0 3 ks.length (yP ks)] [] = some (xc (irE (plI op ks)), []) := by
 have hk := inI ks
 refine x8 (fn := Try.f95) rfl rfl rfl rfl ?_
 refine ⟨fun h => ?_, fun ha => ?_⟩
 ·have h := eq_of_beq h
  subst h
  refine ⟨inI [], ?_⟩
  exact ⟨rfl, rfl⟩
 refine ⟨fun h => ?_, fun hb => ?_⟩
 ·have h := eq_of_beq h
  subst h
  refine ⟨inI ks, ?_⟩
  exact ⟨bC (o := 14) (n := 1), rfl⟩
 refine ⟨fun h => ?_, fun hc => ?_⟩
 ·have h := eq_of_beq h
  subst h
  refine ⟨inI ks, ?_⟩
  exact ⟨bC (o := 16) (n := 0), rfl⟩
 refine ⟨fun h => ?_, fun hd => ?_⟩
 ·have h := eq_of_beq h
  subst h
  refine ⟨inI ks, ?_⟩
  exact ⟨bC (o := 16) (n := 1), rfl⟩
 refine ⟨fun h => ?_, fun he => ?_⟩
 ·have h := eq_of_beq h
  subst h
  have h17 := h17 rfl
  obtain ⟨o, n, kk, rfl⟩ : ∃ o n kk, ks = [.mk o n kk] := by
   match ks, h17 with
   | [.mk o n kk], _ => exact ⟨o, n, kk, rfl⟩
  refine ⟨⟨by simp, by simp⟩, ?_⟩
  refine ⟨o, n, 0, kk.length, yP kk, ⟨rfl, rfl⟩, ?_⟩
  refine ⟨3, kk.length, yP kk, rfl, ?_⟩
  refine ⟨inI kk, ?_⟩
  refine ⟨by show 0 + 3 * 3 ≤ 9; omega, ?_⟩
  refine ⟨?_, rfl⟩
  rw [q5 kk]
  rfl
 refine ⟨fun h => ?_, fun hf => ?_⟩
 ·have h := eq_of_beq h
  subst h
  refine ⟨inI ks, ?_⟩
  exact ⟨bC (o := 15) (n := 0), rfl⟩
 refine ⟨fun h => ?_, fun hg => ?_⟩
 ·have h := eq_of_beq h
  subst h
  refine ⟨inI ks, ?_⟩
  exact ⟨bC (o := 6) (n := 0), rfl⟩
 refine ⟨fun h => ?_, fun hh => ?_⟩
 ·have h := eq_of_beq h
  subst h
  refine ⟨inI ks, ?_⟩
  exact ⟨bC (o := 8) (n := 0), rfl⟩
 have e1 : IntKind.wrap .i64 (9 + op) = 9 + op := wrap64 (by omega) (by omega)
 have e2 : IntKind.wrap .i64 (9 + op - 8) = 9 + op - 8 := wrap64 (by omega) (by omega)
 have ep : plI op ks = .mk (9 + op - 8) 0 ks := by
  unfold plI
  rw [if_neg (by simp [ha]), if_neg (by simp [hb]), if_neg (by simp [hc]), if_neg (by simp [hd]), if_neg (by simp [he]), if_neg (by simp [hf]), if_neg (by simp [hg]), if_neg (by simp [hh])]
 rw [ep]
 refine ⟨inI ks, ?_⟩
 refine ⟨?_, rfl⟩
 rw [bC]
 show _ = xc (irc (IntKind.wrap .i64 (IntKind.wrap .i64 (9 + op) - 8)) 0 0 ks.length (((yP ks).drop 0).take (ks.length * 3)))
 rw [e1, e2]
theorem retPE {g : Nat} {a : List XU} {c : Ir} (h : RT g a [] = some (xc (irE c), [])) : zBd RT g a [] (xc (irE c)) [] := ⟨_, h, by simp only [j7, aB (lB c), Option.map_some], rfl⟩
theorem zEv {op : Int} {k : Nat} (h : arC op = (k : Int)) : 1 ≤ op ∧ op ≤ 18 := by
 unfold arC at h
 by_cases c1 : (op == 1 || op == 2 || op == 13) = true
 ·simp only [Bool.or_eq_true, beq_iff_eq] at c1; omega
 rw [if_neg c1] at h
 by_cases c2 : (op == 3 || op == 15 || op == 16 || op == 17 || op == 18) = true
 ·simp only [Bool.or_eq_true, beq_iff_eq] at c2; omega
 rw [if_neg c2] at h
 by_cases c3 : (op == 4 || op == 5 || op == 6 || op == 8 || op == 9 || op == 10 || op == 11 || op == 12 || op == 14) = true
 ·simp only [Bool.or_eq_true, beq_iff_eq] at c3; omega
 rw [if_neg c3] at h
 by_cases c4 : (op == 7) = true
 ·simp only [beq_iff_eq] at c4; omega
 rw [if_neg c4] at h
 omega
set_option maxHeartbeats 16000000 in
theorem sE_s : ∀ c : Co, SE c := by
 refine Co.ind fun op n s t ks ih => ?_
 intro us top slf env deep bs ok kept u hu ha hz hE hK hB hD hr
 have ha' := ha
 simp only [wR, Bool.and_eq_true] at ha
 obtain ⟨ha1, ha2⟩ := ha
 have ha1 : arC op = (ks.length : Int) := eq_of_beq ha1
 have hzk : x0 ks ≤ 1048576 := by simp only [szC] at hz; omega
 simp only [ndC] at hE hK hB hD
 have A : ∀ i, i < ks.length → wR (kid ks i) = true ∧ SE (kid ks i) ∧ szC (kid ks i) ≤ 1048576 ∧ Bd (sE (kid ks i)) (ndC (kid ks i)) ∧ ks[i]? = some (kid ks i) ∧ fF (sEs ks) i = sE (kid ks i) := by
  intro i hi
  have h0 : ks[i]? = some (kid ks i) := by
   unfold kid
   rw [List.getD_eq_getElem?_getD, List.getElem?_eq_getElem hi]; rfl
  have hm := List.mem_of_getElem? h0
  exact ⟨xO ha2 _ hm, ih _ hm, w7 hzk hm, (zDx _ (xO ha2 _ hm)).1, h0, iB hi⟩
 have hu0 := hu
 have hrd := hr
 obtain ⟨g1, cs, rfl, hr⟩ := hr
 have eS : sE (.mk op n s t ks) top slf env deep ⟨bs, ok, kept⟩ = sH op n s t (sEs ks) top slf env deep ⟨bs, ok, kept⟩ := rfl
 rw [eS]
 clear eS
 cases ok with
 | false =>
  have e : sH op n s t (sEs ks) top slf env deep ⟨bs, false, kept⟩ = (zIr, ⟨bs, false, kept⟩) := rfl
  rw [e]
  rcases hu with rfl | rfl
  all_goals
   refine x8 (fn := Try.f63) rfl rfl rfl rfl ?_
   refine ⟨fun _ => ?_, fun h => by cases h⟩
   refine ⟨inI [], ?_⟩
   exact ⟨rfl, rfl⟩
 | true =>
  by_cases h1 : op = 1
  ·subst h1
   have e : sH 1 n s t (sEs ks) top slf env deep ⟨bs, true, kept⟩ = (.mk 1 n [], ⟨bs, true, kept⟩) := rfl
   rw [e]
   rcases hu with rfl | rfl
   all_goals
    refine x8 (fn := Try.f63) rfl rfl rfl rfl ?_
    refine ⟨(fun h => by cases h), fun _ => ?_⟩
    refine ⟨fun _ => ?_, (fun h => by cases h)⟩
    refine ⟨inI [], ?_⟩
    exact ⟨rfl, rfl⟩
  by_cases h2 : op = 2
  ·subst h2
   have e : sH 2 n s t (sEs ks) top slf env deep ⟨bs, true, kept⟩ = gU top slf env s ⟨bs, true, kept⟩ := rfl
   rw [e]
   obtain ⟨nm, o, m, q1, q2⟩ := zXx (top := top) (slf := slf) (s := s) (env := env) (bs := bs) (ok := true) (kept := kept) hu0 (by omega) (by omega)
   generalize gU top slf env s ⟨bs, true, kept⟩ = R at q1 q2 ⊢
   obtain ⟨r, rb, rok, rkept⟩ := R
   dsimp only at q1 q2 ⊢
   subst q1
   rcases hu with rfl | rfl
   all_goals
    refine x8 (fn := Try.f63) rfl rfl rfl rfl ?_
    refine ⟨(fun h => by cases h), fun _ => ?_⟩
    refine ⟨(fun h => by cases h), fun _ => ?_⟩
    refine ⟨fun _ => ?_, (fun h => by cases h)⟩
    refine ⟨_, _, zX1 hu0 (by rw [j1, jX, jX]; exact q2), ?_⟩
    refine ⟨_, zP4 (ir_s (nm := nm) (o := o) (n := m)), ?_⟩
    refine ⟨inI [], ?_⟩
    exact ⟨rfl, rfl⟩
  by_cases h3 : op = 3
  ·subst h3
   have hk := qI ha1 (k := 1) (by decide)
   obtain ⟨a1, a2, a3, a4, a5, a6⟩ := A 0 (by omega)
   have e : sH 3 n s t (sEs ks) top slf env deep ⟨bs, true, kept⟩ = vY s [] (fF (sEs ks) 0) top slf env deep ⟨bs, true, kept⟩ := rfl
   rw [e, a6]
   have hnk : y7 ks = ndC (kid ks 0) := by
    conv => lhs; rw [zCt hk]
    simp [y7]
   cases hkd : kid ks 0 with
   | mk op' n' s' t' kk =>
   rw [hkd] at a1 a2 a3 a4 a5 hnk
   obtain ⟨g', cs', e1, e2⟩ := qV hr a5
   have hc := zXo (top := top) (slf := slf) (deep := deep) (env := env) (bs := bs) (ok := true) (kept := kept) (arg := s) (self := []) a2 hu0 a1 a3 (by omega) (by omega) (by omega) (show Rd _ (xJ op' n' s' t' (g' + 2) kk.length (zI cs')) from ⟨_, _, rfl, e2.retag⟩)
   generalize vY s [] (sE (.mk op' n' s' t' kk)) top slf env deep ⟨bs, true, kept⟩ = R at hc ⊢
   obtain ⟨⟨ro, rn, rk⟩, rb, rok, rkept⟩ := R
   dsimp only at hc ⊢
   rcases hu with rfl | rfl
   all_goals
    refine x8 (fn := Try.f63) rfl rfl rfl rfl ?_
    refine ⟨(fun h => by cases h), fun _ => ?_⟩
    refine ⟨(fun h => by cases h), fun _ => ?_⟩
    refine ⟨(fun h => by cases h), fun _ => ?_⟩
    refine ⟨fun _ => ?_, (fun h => by cases h)⟩
    refine ⟨⟨by omega, by omega⟩, ?_⟩
    refine ⟨op', n', s', t', g' + 1, kk.length, cs', ⟨e1, rfl⟩, ?_⟩
    refine ⟨_, _, cI hu0 (by rw [j1, jX, jX]; exact hc), ?_⟩
    refine ⟨inI rk, ?_⟩
    exact ⟨bC, rfl⟩
  by_cases h5 : op = 5
  ·subst h5
   have hk := qI ha1 (k := 2) (by decide)
   obtain ⟨a1, a2, a3, a4, a5, a6⟩ := A 0 (by omega)
   obtain ⟨c1, c2, c3, c4, c5, c6⟩ := A 1 (by omega)
   have e : sH 5 n s t (sEs ks) top slf env deep ⟨bs, true, kept⟩ = ((.mk 7 0 [(fF (sEs ks) 0 top slf env deep ⟨bs, true, kept⟩).1, (fF (sEs ks) 1 top slf (env ++ [(s, deep)]) (deep + 1) (fF (sEs ks) 0 top slf env deep ⟨bs, true, kept⟩).2).1], (fF (sEs ks) 1 top slf (env ++ [(s, deep)]) (deep + 1) (fF (sEs ks) 0 top slf env deep ⟨bs, true, kept⟩).2).2) : Ir × Wt) := rfl
   rw [e, a6, c6]
   have hnk : y7 ks = ndC (kid ks 0) + ndC (kid ks 1) := by
    conv => lhs; rw [u9 hk]
    simp [y7]
   cases hkd : kid ks 0 with
   | mk op' n' s' t' kk =>
   cases hkd2 : kid ks 1 with
   | mk op2 n2 s2 t2 kk2 =>
   rw [hkd] at a1 a2 a3 a4 a5 hnk
   rw [hkd2] at c1 c2 c3 c4 c5 hnk
   have hp1 := bL (.mk op' n' s' t' kk)
   have hp2 := bL (.mk op2 n2 s2 t2 kk2)
   obtain ⟨g', cs', e1, e2⟩ := qV hr a5
   obtain ⟨g2, cs2, f1, f2⟩ := qV hr c5
   have hc0 := a2 (xJ op' n' s' t' (g' + 2) kk.length (zI cs')) top slf env deep bs true kept u hu0 a1 a3 (by omega) (by omega) (by omega) (by omega) ⟨_, _, rfl, e2.retag⟩
   have hbd := a4 top slf env deep ⟨bs, true, kept⟩
   generalize sE (.mk op' n' s' t' kk) top slf env deep ⟨bs, true, kept⟩ = R at hc0 hbd ⊢
   obtain ⟨⟨ro, rn, rk⟩, rb, rok, rkept⟩ := R
   dsimp only at hc0 hbd ⊢
   obtain ⟨b1, b2, b3⟩ := hbd
   have hc1 := in_s c2 (nm := s) (d := deep) (deep := deep + 1) (top := top) (slf := slf) (env := env) (bs := rb) (ok := rok) (kept := rkept) hu0 c1 c3 (by omega) (by omega) (by omega) (by omega) (show Rd _ (xJ op2 n2 s2 t2 (g2 + 2) kk2.length (zI cs2)) from ⟨_, _, rfl, f2.retag⟩)
   generalize sE (.mk op2 n2 s2 t2 kk2) top slf (env ++ [(s, deep)]) (deep + 1) ⟨rb, rok, rkept⟩ = Q at hc1 ⊢
   obtain ⟨⟨qo, qn, qk⟩, qb, qok, qkept⟩ := Q
   dsimp only at hc1 ⊢
   have hdp : IntKind.wrap .i64 ((deep : Int) + 1) = ((deep + 1 : Nat) : Int) := by rw [wrap64 (by omega) (by omega)]; omega
   rcases hu with rfl | rfl
   all_goals
    refine x8 (fn := Try.f63) rfl rfl rfl rfl ?_
    refine ⟨(fun h => by cases h), fun _ => ?_⟩
    refine ⟨(fun h => by cases h), fun _ => ?_⟩
    refine ⟨(fun h => by cases h), fun _ => ?_⟩
    refine ⟨(fun h => by cases h), fun _ => ?_⟩
    refine ⟨fun _ => ?_, (fun h => by cases h)⟩
    refine ⟨⟨by omega, by omega⟩, ?_⟩
    refine ⟨op', n', s', t', g' + 1, kk.length, cs', ⟨e1, rfl⟩, ?_⟩
    refine ⟨_, _, cI hu0 (by rw [j1, jX, jX]; exact hc0), ?_⟩
    refine ⟨⟨by omega, by omega⟩, ?_⟩
    refine ⟨op2, n2, s2, t2, g2 + 1, kk2.length, cs2, ⟨f1, rfl⟩, ?_⟩
    refine ⟨_, _, cI hu0 (by rw [j1, jX, jX, hdp]; exact hc1), ?_⟩
    refine ⟨inI rk, ?_⟩
    refine ⟨inI qk, ?_⟩
    refine ⟨by show 0 + 2 * 3 ≤ 6; omega, ?_⟩
    refine ⟨?_, rfl⟩
    rw [q5 rk, q5 qk]; rfl
  by_cases h6 : op = 6
  ·subst h6
   have hk := qI ha1 (k := 2) (by decide)
   obtain ⟨a1, a2, a3, a4, a5, a6⟩ := A 0 (by omega)
   obtain ⟨c1, c2, c3, c4, c5, c6⟩ := A 1 (by omega)
   have e : sH 6 n s t (sEs ks) top slf env deep ⟨bs, true, kept⟩ = ((.mk 7 0 [(vY t s (fF (sEs ks) 0) top slf env deep ⟨bs, true, kept⟩).1, (fF (sEs ks) 1 top slf (env ++ [(s, deep)]) (deep + 1) (vY t s (fF (sEs ks) 0) top slf env deep ⟨bs, true, kept⟩).2).1], (fF (sEs ks) 1 top slf (env ++ [(s, deep)]) (deep + 1) (vY t s (fF (sEs ks) 0) top slf env deep ⟨bs, true, kept⟩).2).2) : Ir × Wt) := rfl
   rw [e, a6, c6]
   have hnk : y7 ks = ndC (kid ks 0) + ndC (kid ks 1) := by
    conv => lhs; rw [u9 hk]
    simp [y7]
   cases hkd : kid ks 0 with
   | mk op' n' s' t' kk =>
   cases hkd2 : kid ks 1 with
   | mk op2 n2 s2 t2 kk2 =>
   rw [hkd] at a1 a2 a3 a4 a5 hnk
   rw [hkd2] at c1 c2 c3 c4 c5 hnk
   have hp1 := bL (.mk op' n' s' t' kk)
   have hp2 := bL (.mk op2 n2 s2 t2 kk2)
   obtain ⟨g', cs', e1, e2⟩ := qV hr a5
   obtain ⟨g2, cs2, f1, f2⟩ := qV hr c5
   have hc0 := zXo (top := top) (slf := slf) (deep := deep) (env := env) (bs := bs) (ok := true) (kept := kept) (arg := t) (self := s) a2 hu0 a1 a3 (by omega) (by omega) (by omega) (show Rd _ (xJ op' n' s' t' (g' + 2) kk.length (zI cs')) from ⟨_, _, rfl, e2.retag⟩)
   have hbd := zG9 (arg := t) (self := s) a4 top slf env deep ⟨bs, true, kept⟩
   generalize vY t s (sE (.mk op' n' s' t' kk)) top slf env deep ⟨bs, true, kept⟩ = R at hc0 hbd ⊢
   obtain ⟨⟨ro, rn, rk⟩, rb, rok, rkept⟩ := R
   dsimp only at hc0 hbd ⊢
   obtain ⟨b1, b2, b3⟩ := hbd
   have hc1 := in_s c2 (nm := s) (d := deep) (deep := deep + 1) (top := top) (slf := slf) (env := env) (bs := rb) (ok := rok) (kept := rkept) hu0 c1 c3 (by omega) (by omega) (by omega) (by omega) (show Rd _ (xJ op2 n2 s2 t2 (g2 + 2) kk2.length (zI cs2)) from ⟨_, _, rfl, f2.retag⟩)
   generalize sE (.mk op2 n2 s2 t2 kk2) top slf (env ++ [(s, deep)]) (deep + 1) ⟨rb, rok, rkept⟩ = Q at hc1 ⊢
   obtain ⟨⟨qo, qn, qk⟩, qb, qok, qkept⟩ := Q
   dsimp only at hc1 ⊢
   have hdp : IntKind.wrap .i64 ((deep : Int) + 1) = ((deep + 1 : Nat) : Int) := by rw [wrap64 (by omega) (by omega)]; omega
   rcases hu with rfl | rfl
   all_goals
    refine x8 (fn := Try.f63) rfl rfl rfl rfl ?_
    refine ⟨(fun h => by cases h), fun _ => ?_⟩
    refine ⟨(fun h => by cases h), fun _ => ?_⟩
    refine ⟨(fun h => by cases h), fun _ => ?_⟩
    refine ⟨(fun h => by cases h), fun _ => ?_⟩
    refine ⟨(fun h => by cases h), fun _ => ?_⟩
    refine ⟨fun _ => ?_, (fun h => by cases h)⟩
    refine ⟨⟨by omega, by omega⟩, ?_⟩
    refine ⟨op', n', s', t', g' + 1, kk.length, cs', ⟨e1, rfl⟩, ?_⟩
    refine ⟨_, _, cI hu0 (by rw [j1, jX, jX]; exact hc0), ?_⟩
    refine ⟨⟨by omega, by omega⟩, ?_⟩
    refine ⟨op2, n2, s2, t2, g2 + 1, kk2.length, cs2, ⟨f1, rfl⟩, ?_⟩
    refine ⟨_, _, cI hu0 (by rw [j1, jX, jX, hdp]; exact hc1), ?_⟩
    refine ⟨inI rk, ?_⟩
    refine ⟨inI qk, ?_⟩
    refine ⟨by show 0 + 2 * 3 ≤ 6; omega, ?_⟩
    refine ⟨?_, rfl⟩
    rw [q5 rk, q5 qk]; rfl
  ·have e : sH op n s t (sEs ks) top slf env deep ⟨bs, true, kept⟩ = (plI op (qS top slf env deep (sEs ks) ⟨bs, true, kept⟩).1, (qS top slf env deep (sEs ks) ⟨bs, true, kept⟩).2) := by
    simp only [sH]
    simp [h1, h2, h3, h5, h6]
   rw [e]
   obtain ⟨r1, r2⟩ := zEv ha1
   have hc := zZn (n := n) (s := s) (t := t) (deep := deep) (slf := slf) (top := top) (ok := true) (env := env) (bs := bs) (kept := kept) hu0 ih ha2 hzk (by omega) (by omega) (by omega) (by omega) (show Rd (.mk op n s t ks) (xJ op n s t (g1 + 2) ks.length (zI cs)) from ⟨_, _, rfl, hr.retag⟩)
   have hlen := (cQ (top := top) (slf := slf) (env := env) (deep := deep) ks (fun c hc => (zDx c (xO ha2 _ hc)).1) ⟨bs, true, kept⟩).2.2.2
   generalize qS top slf env deep (sEs ks) ⟨bs, true, kept⟩ = R at hc hlen ⊢
   obtain ⟨rl, rb, rok, rkept⟩ := R
   dsimp only at hc hlen ⊢
   have hp := zW3 (op := op) (ks := rl) r1 r2 (fun h => by subst h; rw [hlen]; exact qI ha1 (by decide))
   generalize plI op rl = P at hp ⊢
   obtain ⟨po, pn, pk⟩ := P
   rcases hu with rfl | rfl
   all_goals
    refine x8 (fn := Try.f63) rfl rfl rfl rfl ?_
    refine ⟨(fun h => by cases h), fun _ => ?_⟩
    refine ⟨fun h => absurd (eq_of_beq h) h1, fun _ => ?_⟩
    refine ⟨fun h => absurd (eq_of_beq h) h2, fun _ => ?_⟩
    refine ⟨fun h => absurd (eq_of_beq h) h3, fun _ => ?_⟩
    refine ⟨fun h => absurd (eq_of_beq h) h5, fun _ => ?_⟩
    refine ⟨fun h => absurd (eq_of_beq h) h6, fun _ => ?_⟩
    refine ⟨_, _, retS5 hu0 (by rw [j1, jX, jX]; exact hc), ?_⟩
    refine ⟨⟨rfl, rfl⟩, ?_⟩
    refine ⟨⟨rfl, rfl⟩, ?_⟩
    refine ⟨_, _, retPE (by rw [aP, ← hlen]; exact hp), ?_⟩
    refine ⟨inI pk, ?_⟩
    refine ⟨bC, ?_⟩
    rfl
end Go.Proofs.Ytlkjnlfddadlmaa.V
