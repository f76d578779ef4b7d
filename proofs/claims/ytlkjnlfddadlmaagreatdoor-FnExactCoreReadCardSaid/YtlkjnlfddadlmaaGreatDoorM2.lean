/-
  Quiet operations, fifth part: new boxes, lengths, parts of lists and texts, new lists. No conditions.
-/
import Derived.Test.YtlkjnlfddadlmaaGreatDoorM1
import Derived.Orders
set_option linter.unusedVariables false
set_option linter.unusedSimpArgs false
namespace Go.Proofs.YtlkjnlfddadlmaaGreatDoor.V
open Go.RowKit
section
variable {cx : Ctx} {f : Nat} {w0 : World} {E0 : Nat → Prop} {P : Nat → Nat → Prop} {R : Nat → Prop} {ea : List EA} {w w' : World} {S : SV} {tmps : Array Value} {Pr : Program} {a : Act} {call : zX}
theorem Rel.fresh (h : Rel (zB cx f) w0 E0 P R ea w S tmps) (r : Root) : w.heap.size ∉ zL S ea r := fun hb => Nat.lt_irrefl _ (h.lt r _ hb)
theorem Rel.freshOwn (h : Rel (zB cx f) w0 E0 P R ea w S tmps) : w0.heap.size ≤ w.heap.size := h.frm.size
theorem Rel.freshR (h : Rel (zB cx f) w0 E0 P R ea w S tmps) : ¬ R w.heap.size := fun hb => Nat.lt_irrefl _ (h.ltR _ hb)
theorem zT6 (w : World) (cs : List CV) (e : TypeId) : vA (w.alloc (.cells (yC cs).toArray e)) ⟨w.heap.size, 0, none⟩ cs :=
 ⟨rfl, rfl, (yC cs).toArray, e, heap_alloc_new w _, by simp⟩
theorem New.box (h : Rel (zB cx f) w0 E0 P R ea w S tmps) {cs : List CV} {e : TypeId} (hn : New (zB cx f) w0 E0 P R ea w S (.agg cs)) :
  Rel (zB cx f) w0 E0 P R ea (w.alloc (.cells (yC cs).toArray e)) S tmps ∧
  New (zB cx f) w0 E0 P R ea (w.alloc (.cells (yC cs).toArray e)) S (.box (.pointer (some ⟨w.heap.size, 0, none⟩)) cs) := by
 have hg := Grow.alloc w (.cells (yC cs).toArray e)
 have hr := h.grow hg
 refine ⟨hr, ?_⟩
 have hok := hn.ok
 simp only [okX] at hok
 have hnb : w.heap.size ∉ zH cs := fun hb => Nat.lt_irrefl _ (hn.lt _ (by simpa [zE] using hb))
 constructor
 ·simp only [okX]
  exact ⟨qT (fun _ b hb => hg.block b (h.ltP _ b hb)) (fun b hb => hg.block b (h.ltR b hb)) hok (fun b hb => hg.block b (hn.lt b (by simpa [zE] using hb))) (fun _ _ => ⟨rfl, rfl⟩), _, rfl, zT6 w cs e⟩
 ·exact fun d' hd' => hn.refs d' (by simpa [zD] using hd')
 ·simp only [zE, hdr, List.cons_append, List.nil_append, List.nodup_cons]
  exact ⟨hnb, by simpa [zE] using hn.nd⟩
 ·intro r b hb
  simp only [zE, hdr, List.cons_append, List.nil_append, List.mem_cons] at hb
  rcases hb with rfl | hb
  ·exact h.fresh r
  ·exact hn.sep r b (by simpa [zE] using hb)
 ·intro b hb
  simp only [zE, hdr, List.cons_append, List.nil_append, List.mem_cons] at hb
  rcases hb with rfl | hb
  ·simp
  ·exact Nat.lt_of_lt_of_le (hn.lt b (by simpa [zE] using hb)) hg.size
 ·intro b hb
  simp only [zE, hdr, List.cons_append, List.nil_append, List.mem_cons] at hb
  rcases hb with rfl | hb
  ·exact .inr h.freshOwn
  ·exact hn.own b (by simpa [zE] using hb)
 ·intro b hb
  simp only [zE, hdr, List.cons_append, List.nil_append, List.mem_cons] at hb
  rcases hb with rfl | hb
  ·exact h.freshR
  ·exact hn.notR b (by simpa [zE] using hb)
theorem zQy {x : XV} {cs : List CU} (hc : jN (erX x) = some cs) : ∃ ds, ds.map erC = cs ∧ (zQ x).cells.toList = ds.map zJ ∧ (x = .agg ds ∨ ∃ c, x = .c c ∧ ds = [c]) ∨ ∃ c, x = .c c ∧ aX (zJ c) = true := by
 cases x with
 | c c =>
  by_cases h : aX (zJ c) = true
  ·exact ⟨[], .inr ⟨c, rfl, h⟩⟩
  ·refine ⟨[c], .inl ⟨?_, ?_, .inr ⟨c, rfl, rfl⟩⟩⟩
   ·simp only [erX, zW, jN, Option.some.injEq] at hc
    simpa [erC] using hc
   ·simp only [zQ, List.map_cons, List.map_nil]
    cases hv : zJ c <;> simp [Value.cells] <;> simp [hv, aX] at h
 | agg ds =>
  refine ⟨ds, .inl ⟨?_, by simp [zQ, z8, Value.cells], .inl rfl⟩⟩
  simp only [erX, zW, zR, jN, Option.some.injEq] at hc
  exact hc
 | _ => simp [erX, zW, jN] at hc
theorem pI {c : CV} (h : okC w P R S ea c) : (zJ c).oneCell' = true := by
 cases c with
 | t x =>
  cases x with
  | sl v tag sz n cs => simp only [okC] at h; exact zK7 h
  | dead v => simp only [okC, okT] at h; rcases h with ⟨_, _, _, rfl⟩ | ⟨_, rfl⟩ <;> rfl
  | ifc v => simp only [okC, okT] at h; obtain ⟨_, _, rfl⟩ := h; rfl
  | _ => rfl
 | ptr v r p off => simp only [okC, vB] at h; obtain ⟨_, _, rfl⟩ := h; rfl
 | bor v r p i off sz n =>
  simp only [okC, wD] at h
  obtain ⟨b, m, ds, _, _, hh⟩ := h
  rcases hh with ⟨_, rfl, _⟩ | ⟨_, _, _, _, _, rfl, _⟩ <;> rfl
 | rptr v cs => simp only [okC] at h; obtain ⟨_, _, _, rfl, _⟩ := h; rfl
 | nilp => rfl
 | fn g caps => rfl
 | nilf => rfl
 | lst v sz n cs => simp only [okC] at h; exact zIi h.2.2
theorem eX {x : XV} {cs : List CU} (hok : okX w P R S ea x) (hc : jN (erX x) = some cs) :
  ∃ ds, ds.map erC = cs ∧ (zQ x).cells.toList = ds.map zJ ∧ yF w P R S ea ds ∧ zH ds = zE x ∧ zK ds = zD x ∧ ∀ c ∈ ds, (zJ c).oneCell' = true := by
 obtain ⟨ds, hd⟩ := zQy hc
 rcases hd with ⟨h1, h2, h3⟩ | ⟨c, rfl, hv⟩
 ·refine ⟨ds, h1, h2, ?_⟩
  rcases h3 with rfl | ⟨c, rfl, rfl⟩
  ·simp only [okX] at hok
   exact ⟨hok, by simp [zE], by simp [zD], fun c hc => pI (zY.1 hok c hc)⟩
  ·simp only [okX] at hok
   exact ⟨⟨hok, trivial⟩, by simp [zE, zH], by simp [zD, zK], fun c hc => by simp only [List.mem_singleton] at hc; subst hc; exact pI hok⟩
 ·simp only [okX] at hok
  have := pI hok
  cases h : zJ c <;> simp [h, aX] at hv
  simp [h, Value.oneCell'] at this
theorem New.agg_of {x : XV} {ds : List CV} (hn : New (zB cx f) w0 E0 P R ea w S x) (hok : yF w P R S ea ds) (hb : zH ds = zE x) (hr : zK ds = zD x) : New (zB cx f) w0 E0 P R ea w S (.agg ds) := by
 constructor
 ·simpa [okX] using hok
 ·intro d' hd'; exact hn.refs d' (by simpa [zD, hr] using hd')
 ·simpa [zE, hb] using hn.nd
 ·intro r b h; exact hn.sep r b (by simpa [zE, hb] using h)
 ·intro b h; exact hn.lt b (by simpa [zE, hb] using h)
 ·intro b h; exact hn.own b (by simpa [zE, hb] using h)
 ·intro b h; exact hn.notR b (by simpa [zE, hb] using h)
theorem zQm (hty : jB Pr cx.ty) (h : Rel (zB cx f) w0 E0 P R ea w S tmps) {o : Oper} {e : Nat} (ho : o.op = .alloc e) {z : XU} {Su : SU}
  (hq : qval cx f call (V.erS S) o.type (.alloc e) = some (z, Su)) : QOk cx f w0 E0 P R ea w tmps Pr a o z Su := by
 simp only [qval] at hq
 split at hq
 ·rename_i hok
  simp only [Option.some.injEq, Prod.mk.injEq] at hq
  obtain ⟨rfl, rfl⟩ := hq
  obtain ⟨ti, d, zz, hf⟩ := hty.facts hok
  obtain ⟨z1, z2, z3, z4, z5⟩ := kW hf.zs
  have hn : New (zB cx f) w0 E0 P R ea w S (.agg ((cx.ty e).zs.map zG)) := New.plain (by simpa [okX] using z5 w P R S ea) (by simpa [zE] using z3) (by simpa [zD] using z4)
  obtain ⟨k1, k2⟩ := New.box (e := e) h hn
  have hzc : zz.cells = (yC ((cx.ty e).zs.map zG)).toArray := by
   rw [z8, z1]
  refine ⟨_, S, _, ⟨Grow.alloc w _, by simp [erX, zW, zR, er0]; simpa [erC] using z2, rfl, k1, k2⟩, ?_⟩
  rw [← hzc]
  simp [execOp, ho, Instr.alloc, zeroValue, typeInfo, hf.info, hf.zero, newVar, newRow, zQ]
 ·cases hq
theorem zWb (h : Rel (zB cx f) w0 E0 P R ea w S tmps) (ha : a.tmps = tmps) {o : Oper} {e : Nat} {x : Operand} (ho : o.op = .box e x) {z : XU} {Su : SU}
  (hq : qval cx f call (V.erS S) o.type (.box e x) = some (z, Su)) : QOk cx f w0 E0 P R ea w tmps Pr a o z Su := by
 simp only [qval] at hq
 cases hx : opv cx f (V.erS S) e x with
 | none => simp [hx] at hq
 | some y =>
  simp only [hx, Option.bind_some] at hq
  cases hc : jN y with
  | none => simp [hc] at hq
  | some cs =>
   simp only [hc, Option.bind_some] at hq
   split at hq
   ·simp only [Option.some.injEq, Prod.mk.injEq] at hq
    obtain ⟨rfl, rfl⟩ := hq
    obtain ⟨xG, hxG⟩ := h.opv ha hx
    have hrc := h.clr x
    obtain ⟨ds, d1, d2, d3, d4, d5, _⟩ := eX hxG.new.ok (by rw [hxG.er]; exact hc)
    have hn := New.agg_of hxG.new d3 d4 d5
    obtain ⟨k1, k2⟩ := New.box (e := e) hrc hn
    refine ⟨_, _, _, ⟨Grow.alloc w _, by simp [erX, zW, zR, er0]; simpa [erC] using d1, gT x, k1, k2⟩, ?_⟩
    have hzc : (zQ xG).cells = (yC ds).toArray := by
     rw [z8, ← d2]
    rw [← hzc]
    simp [execOp, ho, hxG.val, Instr.box, newVar, newRow, zQ]
   ·cases hq
theorem zUs {c : CV} {n : Int} (hok : okC w P R S ea c) (hn : rR (erC c) = some n) : (∃ s : List UInt8, zJ c = .string ⟨s.toArray⟩ ∧ n = s.length) ∨ ∃ A m cap, zJ c = .slice A m cap ∧ n = m := by
 cases c with
 | t x =>
  cases x with
  | str s => simp only [erC, zI, yA, rR, Option.some.injEq] at hn; exact .inl ⟨s, rfl, hn.symm⟩
  | sl v tag sz m cs =>
   simp only [erC, zI, yA, rR, Option.some.injEq] at hn
   simp only [okC, okT] at hok
   refine .inr ?_
   obtain ⟨_, _, h⟩ := hok
   split at h
   ·rcases h with ⟨rfl, rfl⟩ | ⟨b, o, cur, e, ⟨ad, cap, rfl, _⟩, _⟩
    ·exact ⟨none, 0, 0, rfl, hn.symm⟩
    ·exact ⟨some ad, m, cap, rfl, hn.symm⟩
   ·obtain ⟨⟨A, cap, rfl, _⟩, _⟩ := h
    exact ⟨A, m, cap, rfl, hn.symm⟩
  | _ => simp [erC, zI, yA, rR] at hn
 | bor v r p i off sz m =>
  simp only [erC, zI, rR, Option.some.injEq] at hn
  simp only [okC, wD] at hok
  obtain ⟨b, m', ds, _, _, hh⟩ := hok
  rcases hh with ⟨_, rfl, rfl⟩ | ⟨_, _, _, ad, cap, rfl, _⟩
  ·exact .inr ⟨none, 0, 0, rfl, hn.symm⟩
  ·exact .inr ⟨some ad, m, cap, rfl, hn.symm⟩
 | lst v sz m cs =>
  simp only [erC, zI, rR, Option.some.injEq] at hn
  simp only [okC] at hok
  rcases hok.2.2 with ⟨rfl, rfl⟩ | ⟨b, o, cur, e, ⟨ad, cap, rfl, _⟩, _⟩
  ·exact .inr ⟨none, 0, 0, rfl, hn.symm⟩
  ·exact .inr ⟨some ad, m, cap, rfl, hn.symm⟩
 | _ => simp [erC, zI, rR] at hn
theorem sG {c : CV} {s : ByteArray} (hok : okC w P R S ea c) (hv : zJ c = .string s) : ∃ l, c = .t (.str l) := by
 cases c with
 | t x =>
  cases x with
  | str l => exact ⟨l, rfl⟩
  | sl v tag sz m cs =>
   simp only [zJ, zV] at hv
   simp only [okC, okT] at hok
   obtain ⟨_, _, h'⟩ := hok
   split at h'
   ·rcases h' with ⟨rfl, _⟩ | ⟨b, o, cur, e, ⟨ad, cap, rfl, _⟩, _⟩ <;> cases hv
   ·obtain ⟨⟨A, cap, rfl, _⟩, _⟩ := h'; cases hv
  | dead v => simp only [okC, okT] at hok; simp only [zJ, zV] at hv; rcases hok with ⟨_, _, _, rfl⟩ | ⟨_, rfl⟩ <;> cases hv
  | ifc v => simp only [okC, okT] at hok; obtain ⟨_, _, rfl⟩ := hok; cases hv
  | _ => cases hv
 | ptr v r p off => simp only [okC, vB] at hok; obtain ⟨_, _, rfl⟩ := hok; cases hv
 | bor v r p i off sz m =>
  simp only [okC, wD] at hok
  obtain ⟨b, m', ds, _, _, hh⟩ := hok
  simp only [zJ] at hv
  rcases hh with ⟨_, rfl, _⟩ | ⟨_, _, _, ad, cap, rfl, _⟩ <;> cases hv
 | rptr v cs => simp only [okC] at hok; obtain ⟨_, _, _, rfl, _⟩ := hok; cases hv
 | lst v sz m cs =>
  simp only [okC] at hok
  simp only [zJ] at hv
  rcases hok.2.2 with ⟨rfl, _⟩ | ⟨b, o, cur, e, ⟨ad, cap, rfl, _⟩, _⟩ <;> cases hv
 | _ => cases hv
theorem args1 {c : Call} {x : Operand} (hx : c.args.toList = [x]) : c.args.map a.eval = #[a.eval x] := by
 apply Array.ext'
 simp [hx]
theorem zMn {c : Call} {x y : Operand} (hx : c.args.toList = [x, y]) : c.args.map a.eval = #[a.eval x, a.eval y] := by
 apply Array.ext'
 simp [hx]
theorem zR1 (hty : jB Pr cx.ty) (h : Rel (zB cx f) w0 E0 P R ea w S tmps) (ha : a.tmps = tmps) {o : Oper} {c : Call} (ho : o.op = .call c) (hb : c.callee = .builtin .len) {x : Operand} {t : Nat} (hx : c.args.toList = [x]) (ht : c.argTypes.toList = [t]) {z : XU} {Su : SU}
  (hq : qcall cx f call (V.erS S) o.type c = some (z, Su)) : lI cx f w0 E0 P R ea w tmps Pr a o z Su := by
 simp only [qcall, hb, hx, ht] at hq
 have hta : c.argTypes = #[t] := by apply Array.ext'; simp [ht]
 split at hq
 ·rename_i zc hy
  obtain ⟨cG, hcG, hv, hok, _⟩ := kA h ha hy
  subst hcG
  split at hq
  ·rename_i hlo
   cases hn : rR (erC cG) with
   | none => simp [hn] at hq
   | some n =>
    simp only [hn, Option.map_some, Option.some.injEq, Prod.mk.injEq] at hq
    obtain ⟨rfl, rfl⟩ := hq
    refine ⟨S, _, QRes.scal h rfl, ?_⟩
    have hrun : (Builtin.len_ c.argTypes o.type #[a.eval x]).run Pr w = .ok (.int .i64 n) w := by
     rw [hv, hta]
     rcases zUs hok hn with ⟨s, hs, rfl⟩ | ⟨A, m, cap, hs, rfl⟩
     ·have hk : jC cx t = 3 := by
       cases cG with
       | t u =>
        cases u with
        | str s' => simpa [erC, zI, yA, zD2] using hlo
        | sl v tag sz m cs => obtain ⟨l, hl⟩ := sG hok hs; cases hl
        | _ => simp [erC, zI, yA, rR] at hn
       | bor v r p i off sz m => obtain ⟨l, hl⟩ := sG hok hs; cases hl
       | lst v sz m cs => obtain ⟨l, hl⟩ := sG hok hs; cases hl
       | _ => simp [erC, zI, rR] at hn
      obtain ⟨d, hd, hkd⟩ := xV hty (by omega) hk
      have hds : d = .string := by cases d <;> simp [j5] at hkd <;> rfl
      subst hds
      have hbs : (⟨s.toArray⟩ : ByteArray).size = s.length := by simp [ByteArray.size]
      simp [Builtin.len_, run_underlying hd, hs, goInt, hbs]
     ·have hk : (cx.ty t).ok = true ∧ (cx.ty t).el.isSome = true := by
       cases cG with
       | t u =>
        cases u with
        | str s' => simp [zJ, zV] at hs
        | sl v tag sz m cs => simpa [erC, zI, yA, zD2] using hlo
        | _ => simp [erC, zI, yA, rR] at hn
       | bor v r p i off sz m => simpa [erC, zI, zD2] using hlo
       | lst v sz m cs => simpa [erC, zI, zD2] using hlo
       | _ => simp [erC, zI, rR] at hn
      obtain ⟨hk1, hk2⟩ := hk
      obtain ⟨ti, d, zz, hf⟩ := hty.facts hk1
      obtain ⟨el, hel⟩ := Option.isSome_iff_exists.mp hk2
      have hd := hf.slice hel
      subst hd
      simp [Builtin.len_, run_underlying hf.und, hs, goInt]
    simp [execOp, ho, resolve, hb, invoke, builtin, args1 hx, hrun, zQ, zJ, jA, zV]
  ·cases hq
 ·cases hq
theorem zFz (h : Rel (zB cx f) w0 E0 P R ea w S tmps) (ha : a.tmps = tmps) {t : Nat} {o : Operand} {n : Int} (hy : j8 (opv cx f (V.erS S) t o) = some n) : a.eval o = .int .i64 n := by
 cases ho : opv cx f (V.erS S) t o with
 | none => simp [ho, j8] at hy
 | some x =>
  obtain ⟨xG, hx⟩ := h.opv ha ho
  rw [ho] at hy
  unfold j8 at hy
  split at hy
  ·rename_i m heq
   simp only [Option.some.injEq] at hy heq
   subst hy; subst heq
   obtain ⟨cG, rfl, hc⟩ := aR hx.er
   obtain ⟨y, rfl, hy⟩ := k9 hc
   have := mY hy
   subst this
   simpa [zQ, zJ, zV] using hx.val
  ·cases hy
theorem zVu (h : Rel (zB cx f) w0 E0 P R ea w S tmps) (ha : a.tmps = tmps) {o : Oper} {c : Call} (ho : o.op = .call c) {b : Builtin} (hb : c.callee = .builtin b) {x y : Operand} (hx : c.args.toList = [x, y]) {z : XU} {Su : SU}
  (hq : mmV b (j8 (opv cx f (V.erS S) o.type x)) (j8 (opv cx f (V.erS S) o.type y)) (V.erS S) = some (z, Su)) : lI cx f w0 E0 P R ea w tmps Pr a o z Su := by
 unfold mmV at hq
 split at hq
 ·rename_i n m hn hm
  have hk := zFz h ha hn
  have hk' := zFz h ha hm
  cases hmm : mm b n m with
  | none => simp [hmm] at hq
  | some r =>
   simp only [hmm, Option.map_some, Option.some.injEq, Prod.mk.injEq] at hq
   obtain ⟨rfl, rfl⟩ := hq
   refine ⟨S, _, QRes.scal h rfl, ?_⟩
   cases b <;> simp [mm] at hmm
   ·subst hmm
    have : (if n < m then m else n) = max n m := by omega
    simp [execOp, ho, resolve, hb, invoke, builtin, zMn hx, hk, hk', Builtin.max_, Builtin.max2, zQ, zJ, jA, zV, this]
   ·subst hmm
    have : (if m < n then m else n) = min n m := by omega
    simp [execOp, ho, resolve, hb, invoke, builtin, zMn hx, hk, hk', Builtin.min_, Builtin.min2, zQ, zJ, jA, zV, this]
 ·cases hq
end
end Go.Proofs.YtlkjnlfddadlmaaGreatDoor.V
namespace Go.Proofs.YtlkjnlfddadlmaaGreatDoor.V
open Go.RowKit
section
variable {cx : Ctx} {f : Nat} {w0 : World} {E0 : Nat → Prop} {P : Nat → Nat → Prop} {R : Nat → Prop} {ea : List EA} {w w' : World} {S : SV} {tmps : Array Value} {Pr : Program} {a : Act} {call : zX}
theorem mE (isS : Bool) (len cap : Nat) {lo hi : Option Value} {l h : Int} (hlo : (lo = none ∧ l = 0) ∨ ∃ k, lo = some (.int k l)) (hhi : (hi = none ∧ h = len) ∨ ∃ k, hi = some (.int k h))
  (h0 : 0 ≤ l) (h1 : l ≤ h) (h2 : h ≤ cap) : (Instr.sliceBounds isS len cap lo hi none).run Pr w = .ok (l.toNat, h.toNat, cap) w := by
 have e2 : h ≤ (cap : Int) := h2
 have e3 : 0 ≤ h := by omega
 have e4 : l ≤ (h.toNat : Int) := by omega
 rcases hlo with ⟨rfl, rfl⟩ | ⟨k, rfl⟩ <;> rcases hhi with ⟨rfl, rfl⟩ | ⟨k', rfl⟩
 ·simp [Instr.sliceBounds]
 ·simp [Instr.sliceBounds, Instr.sliceBound, asIntOf, e2, e3]
 ·simp [Instr.sliceBounds, Instr.sliceBound, asIntOf, h0, h1]
 ·simp [Instr.sliceBounds, Instr.sliceBound, asIntOf, e2, e3, h0, e4, show ¬ (max h 0 < l) by omega]
theorem zEa (h : Rel (zB cx f) w0 E0 P R ea w S tmps) (ha : a.tmps = tmps) {o : Option Operand} {v : Option Int} (hv : dN cx f (V.erS S) o = some v) :
  (o.map a.eval = none ∧ v = none) ∨ ∃ k n, o.map a.eval = some (.int k n) ∧ v = some n := by
 cases o with
 | none => simp only [dN, Option.some.injEq] at hv; exact .inl ⟨rfl, hv.symm⟩
 | some o =>
  simp only [dN] at hv
  cases hn : dE (opv cx f (V.erS S) 0 o) with
  | none => simp [hn] at hv
  | some n =>
   simp only [hn, Option.map_some, Option.some.injEq] at hv
   obtain ⟨k, hk⟩ := pJ h ha hn
   exact .inr ⟨k, n, by simp [hk], hv.symm⟩
theorem sT {o : Option Value} {v : Option Int} (h : (o = none ∧ v = none) ∨ ∃ k n, o = some (.int k n) ∧ v = some n) : (o = none ∧ v.getD 0 = 0) ∨ ∃ k, o = some (.int k (v.getD 0)) := by
 rcases h with ⟨rfl, rfl⟩ | ⟨k, n, rfl, rfl⟩
 ·exact .inl ⟨rfl, rfl⟩
 ·exact .inr ⟨k, rfl⟩
theorem sS {o : Option Value} {v : Option Int} {n : Int} (h : (o = none ∧ v = none) ∨ ∃ k n, o = some (.int k n) ∧ v = some n) : (o = none ∧ v.getD n = n) ∨ ∃ k, o = some (.int k (v.getD n)) := by
 rcases h with ⟨rfl, rfl⟩ | ⟨k, m, rfl, rfl⟩
 ·exact .inl ⟨rfl, rfl⟩
 ·exact .inr ⟨k, rfl⟩
theorem zKr (s : List UInt8) (l h : Nat) : (⟨s.toArray⟩ : ByteArray).extract l h = ⟨((s.drop l).take (h - l)).toArray⟩ := by
 apply ByteArray.ext
 apply Array.ext'
 rw [Lib.extract_data]
theorem zAh (hty : jB Pr cx.ty) {t sz : Nat} (h : elOk cx t sz = true) : ∃ el, Pr.underlying t = some (.slice el) ∧ (cx.ty t).el = some el ∧ (cx.ty el).ok = true ∧ (cx.ty el).sz = sz ∧ ∀ w, (sizeOf el).run Pr w = .ok sz w := by
 simp only [elOk, Bool.and_eq_true] at h
 obtain ⟨h1, h2⟩ := h
 split at h2
 ·rename_i el hel
  simp only [Bool.and_eq_true, beq_iff_eq] at h2
  obtain ⟨ti, d, zz, hf⟩ := hty.facts h1
  have hd := hf.slice hel
  subst hd
  obtain ⟨ti2, d2, zz2, hf2⟩ := hty.facts h2.1
  exact ⟨el, hf.und, hel, h2.1, h2.2, fun w => by simp [sizeOf, typeInfo, hf2.info, hf2.size, h2.2]⟩
 ·cases h2
theorem Win.sub {b o lim sz n l h' : Nat} {v : Value} (hw : Win b o lim sz n v) (hl : l ≤ h') (hh : h' ≤ n) :
  ∃ ad cap, v = .slice (some ad) n cap ∧ n ≤ cap ∧ Win b (o + l * sz) lim sz (h' - l) (.slice (some (if cap = l then ad else ad.add (l * sz))) (h' - l) (cap - l)) := by
 obtain ⟨ad, cap, rfl, h1, h2, h3, h4⟩ := hw
 refine ⟨ad, cap, rfl, h1, _, _, rfl, by omega, ?_, ?_, ?_⟩
 ·split
  ·exact h2
  ·rw [uG h2]
 ·split
  ·exact h3
  ·rw [uG h2]; exact h3
 ·by_cases e : cap = l
  ·exact .inl (by omega)
  ·rw [if_neg e]
   obtain ⟨h5, h6⟩ := h4.resolve_left (by omega)
   refine .inr ⟨by rw [uG h2, h5], ?_⟩
   have : l * sz + (cap - l) * sz = cap * sz := by rw [← Nat.add_mul]; congr 1; omega
   omega
theorem cY {t el : Nat} {A : Option Addr} {n cap l h' : Nat} {lo hi : Option Value} {sz : Nat} (hu : Pr.underlying t = some (.slice el)) (hsz : ∀ w, (sizeOf el).run Pr w = .ok sz w)
  (hb : (Instr.sliceBounds true n cap lo hi none).run Pr w = .ok (l, h', cap) w) :
  (Instr.sliceAt t (.slice A n cap) lo hi none).run Pr w = .ok (.slice (if cap = l then A else A.map (·.add (l * sz))) (h' - l) (cap - l)) w := by
 simp [Instr.sliceAt, run_underlying hu, Instr.slice, hb, hsz]
theorem zS6 (hty : jB Pr cx.ty) (h : Rel (zB cx f) w0 E0 P R ea w S tmps) (ha : a.tmps = tmps) {o : Oper} {e : Nat} {x : Operand} {lo hi : Option Operand} (ho : o.op = .slice e x lo hi none) {z : XU} {Su : SU}
  (hq : qval cx f call (V.erS S) o.type (.slice e x lo hi none) = some (z, Su)) : QOk cx f w0 E0 P R ea w tmps Pr a o z Su := by
 simp only [qval] at hq
 split at hq
 ·rename_i y vl vh hx hlo hhi
  split at hq
  ·rename_i hso
   obtain ⟨aG, haG, hav, haok, har⟩ := kA h ha hx
   subst haG
   have hl := zEa h ha hlo
   have hh := zEa h ha hhi
   cases hz : vU (erC aG) vl vh with
   | none => simp [hz] at hq
   | some z' =>
    simp only [hz, Option.map_some, Option.some.injEq, Prod.mk.injEq] at hq
    obtain ⟨rfl, rfl⟩ := hq
    have fin : ∀ c' : CV, erC c' = z' → okC w P R S ea c' → zP c' = [] → (∀ d', Root.sl d' ∈ zF c' → zB cx f d' = true) → (Instr.sliceAt e (zJ aG) (lo.map a.eval) (hi.map a.eval) none).run Pr w = .ok (zJ c') w → QOk cx f w0 E0 P R ea w tmps Pr a o (.c z') (V.erS S) := by
     intro c' h1 h2 h3 h4 h5
     subst h1
     exact ⟨w, S, _, QRes.ref h h2 h3 h4, by simp [execOp, ho, hav, h5, zQ]⟩
    cases aG with
    | t u =>
     cases u with
     | str s =>
      simp only [erC, zI, yA, vU] at hz
      split at hz
      ·rename_i hc
       simp only [Option.some.injEq] at hz
       subst hz
       have hk : jC cx e = 3 := by simpa [erC, zI, yA, aA] using hso
       obtain ⟨d, hd, hkd⟩ := xV hty (by omega) hk
       have hds : d = .string := by cases d <;> simp [j5] at hkd <;> rfl
       subst hds
       have hbs : (⟨s.toArray⟩ : ByteArray).size = s.length := by simp [ByteArray.size]
       have hb := mE (Pr := Pr) (w := w) false s.length s.length (sT hl) (sS (n := (s.length : Int)) hh) hc.1 hc.2.1 hc.2.2
       refine fin (.t (.str ((s.drop (vl.getD 0).toNat).take (vh.getD s.length - vl.getD 0).toNat))) (by simp [erC, zI, yA]) (by simp [okC, okT]) (by simp [zP, zU]) (by simp [zF]) ?_
       have he : (vh.getD (s.length : Int)).toNat - (vl.getD 0).toNat = (vh.getD (s.length : Int) - vl.getD 0).toNat := by omega
       simp [Instr.sliceAt, run_underlying hd, Instr.slice, zJ, zV, hbs, hb, zKr, he]
      ·cases hz
     | sl v tag sz n cs =>
      cases tag with
      | zero => simp [erC, zI, yA, vU] at hz
      | succ m =>
       simp only [erC, zI, yA, yO, vU] at hz
       split at hz
       ·rename_i hc
        simp only [Option.some.injEq] at hz
        subst hz
        obtain ⟨el, hu, _, _, _, hsz⟩ := zAh hty (by simpa [erC, zI, yA, aA] using hso)
        simp only [okC, okT, Nat.succ_ne_zero, if_false, Nat.add_eq_zero_iff, and_false] at haok
        obtain ⟨hlen, hts, ⟨A, cap, rfl, hcap, hor⟩, htag, hsh⟩ := haok
        have hb := mE (Pr := Pr) (w := w) true n cap (sT hl) (sS (n := (n : Int)) hh) hc.1 hc.2.1 (by omega)
        have hr := cY (A := A) hu hsz hb
        have he : (vh.getD (n : Int)).toNat - (vl.getD 0).toNat = (vh.getD (n : Int) - vl.getD 0).toNat := by omega
        rw [he] at hr
        refine fin (.t (.sl (.slice (if cap = (vl.getD 0).toNat then A else A.map (·.add ((vl.getD 0).toNat * sz))) (vh.getD (n : Int) - vl.getD 0).toNat (cap - (vl.getD 0).toNat)) (m + 1) sz (vh.getD (n : Int) - vl.getD 0).toNat ((cs.drop ((vl.getD 0).toNat * sz)).take ((vh.getD (n : Int) - vl.getD 0).toNat * sz))))
         (by simp [erC, zI, yA, yO, er0, List.map_take, List.map_drop]) ?_ (by simp [zP, zU]) (by simp [zF]) (by simpa [zJ, zV] using hr)
        simp only [okC, okT, Nat.succ_ne_zero, if_false, Nat.add_eq_zero_iff, and_false]
        have hmul : (vl.getD 0).toNat * sz + (vh.getD (n : Int) - vl.getD 0).toNat * sz ≤ n * sz := by rw [← Nat.add_mul]; exact Nat.mul_le_mul_right _ (by omega)
        refine ⟨?_, fU (u9 hts), ⟨_, _, rfl, by omega, ?_⟩, htag, zEv (cV hsh)⟩
        ·rw [List.length_take, List.length_drop, hlen]; omega
        ·by_cases hn0 : (vh.getD (n : Int) - vl.getD 0).toNat = 0
         ·exact .inl hn0
         ·obtain ⟨ad, rfl, hs2, hR, hcells⟩ := hor.resolve_left (by omega)
          have hne : cap ≠ (vl.getD 0).toNat := by omega
          refine .inr ⟨ad.add ((vl.getD 0).toNat * sz), by simp [hne], by rw [uG hs2], by rw [uG hs2]; exact hR, ?_⟩
          rw [uG hs2, List.map_take, List.map_drop]
          exact sV (lQ hcells _) _
       ·cases hz
     | _ => simp [erC, zI, yA, vU] at hz
    | bor v r p i off sz n =>
     simp only [erC, zI, vU] at hz
     split at hz
     ·rename_i hc
      simp only [Option.some.injEq] at hz
      subst hz
      obtain ⟨el, hu, _, _, _, hsz⟩ := zAh hty (by simpa [erC, zI, aA] using hso)
      simp only [okC, wD] at haok
      obtain ⟨b, m, ds, hat, hlen, hh2⟩ := haok
      have hmul : (vl.getD 0).toNat * sz + (vh.getD (n : Int) - vl.getD 0).toNat * sz ≤ n * sz := by rw [← Nat.add_mul]; exact Nat.mul_le_mul_right _ (by omega)
      have he : (vh.getD (n : Int)).toNat - (vl.getD 0).toNat = (vh.getD (n : Int) - vl.getD 0).toNat := by omega
      rcases hh2 with ⟨rfl, rfl, rfl⟩ | ⟨ad, cap, rfl, hw⟩
      ·have hb := mE (Pr := Pr) (w := w) true 0 0 (sT hl) (sS (n := ((0 : Nat) : Int)) hh) hc.1 hc.2.1 (by omega)
       have hr := cY (A := none) hu hsz hb
       have hz0 : (vl.getD 0).toNat = 0 := by omega
       have hz1 : (vh.getD ((0 : Nat) : Int) - vl.getD 0).toNat = 0 := by omega
       rw [he, hz0, hz1] at hr
       refine fin (.bor (.slice none 0 0) r p i (off + (vl.getD 0).toNat * sz) sz (vh.getD ((0 : Nat) : Int) - vl.getD 0).toNat) (by simp [erC, zI, er0]) ?_ (by simp [zP]) (fun d' hd' => har d' (by simpa [zF] using hd')) ?_
       ·simp only [okC]
        exact ⟨_, m, ds, hat, by omega, .inl ⟨rfl, rfl, hz1⟩⟩
       ·simpa [zJ] using hr
      ·obtain ⟨ad2, cap2, rfl, hc2, hw2⟩ := hw.sub (l := (vl.getD 0).toNat) (h' := (vh.getD (n : Int)).toNat) (by omega) (by omega)
       have hb := mE (Pr := Pr) (w := w) true n cap2 (sT hl) (sS (n := (n : Int)) hh) hc.1 hc.2.1 (by omega)
       have hr := cY (A := some ad2) hu hsz hb
       rw [he] at hr hw2
       refine fin (.bor (.slice (some (if cap2 = (vl.getD 0).toNat then ad2 else ad2.add ((vl.getD 0).toNat * sz))) (vh.getD (n : Int) - vl.getD 0).toNat (cap2 - (vl.getD 0).toNat)) r p i (off + (vl.getD 0).toNat * sz) sz (vh.getD (n : Int) - vl.getD 0).toNat)
        (by simp [erC, zI, er0]) ?_ (by simp [zP]) (fun d' hd' => har d' (by simpa [zF] using hd')) ?_
       ·simp only [okC, wD]
        refine ⟨_, m, ds, hat, by omega, .inr ⟨ad, cap, rfl, ?_⟩⟩
        rw [← Nat.add_assoc]
        exact hw2
       ·simp only [zJ]
        rw [hr]
        congr 2
        split <;> simp
     ·cases hz
    | _ => simp [erC, zI, vU] at hz
  ·cases hq
 ·cases hq
end
end Go.Proofs.YtlkjnlfddadlmaaGreatDoor.V
namespace Go.Proofs.YtlkjnlfddadlmaaGreatDoor.V
open Go.RowKit
section
variable {cx : Ctx} {f : Nat} {w0 : World} {E0 : Nat → Prop} {P : Nat → Nat → Prop} {R : Nat → Prop} {ea : List EA} {w w' : World} {S : SV} {tmps : Array Value} {Pr : Program} {a : Act} {call : zX}
theorem zB5 {β : Type} (xs : List β) : ∀ (n j : Nat), (dA n xs)[j]? = if j < n * xs.length then xs[j % xs.length]? else none
 | 0, j => by simp [dA]
 | n + 1, j => by
  have ih := zB5 xs n (j - xs.length)
  simp only [dA] at ih ⊢
  rw [List.replicate_succ, List.flatten_cons, List.getElem?_append, ih]
  have hm : (n + 1) * xs.length = n * xs.length + xs.length := Nat.succ_mul _ _
  by_cases h1 : j < xs.length
  ·rw [if_pos h1, if_pos (by omega), Nat.mod_eq_of_lt h1]
  ·rw [if_neg h1]
   have hmod : j % xs.length = (j - xs.length) % xs.length := Nat.mod_eq_sub_mod (by omega)
   by_cases h2 : j < (n + 1) * xs.length
   ·rw [if_pos h2, if_pos (by omega), hmod]
   ·rw [if_neg h2, if_neg (by omega)]
theorem nK {β γ : Type} (g : β → γ) (n : Nat) (xs : List β) : (dA n xs).map g = dA n (xs.map g) := by
 simp [dA, List.map_flatten, List.map_replicate]
theorem iC {β : Type} (n : Nat) (xs : List β) : (dA n xs).length = n * xs.length := by
 simp [dA]
theorem fQ {β : Type} {n : Nat} {xs : List β} {x : β} (h : x ∈ dA n xs) : x ∈ xs := by
 simp only [dA, List.mem_flatten, List.mem_replicate] at h
 obtain ⟨l, ⟨_, rfl⟩, h⟩ := h
 exact h
theorem zR6 (z : Array Value) (N j : Nat) (hj : j < N) (hz : 0 < z.size) : (madeCells z N)[j]? = z[j % z.size]? := by
 have hm : j % z.size < z.size := Nat.mod_lt _ hz
 simp [madeCells, hj, hm]
theorem zMf : ∀ {cs : List CU} {ts : List TU}, mQ cs = some ts → cs = ts.map .t
 | [], ts, h => by simp only [mQ, Option.some.injEq] at h; subst h; rfl
 | c :: cs, ts, h => by
  cases c with
  | t x =>
   simp only [mQ] at h
   cases hr : mQ cs with
   | none => simp [hr] at h
   | some us =>
    simp only [hr, Option.map_some, Option.some.injEq] at h
    subst h
    simp [zMf hr]
  | _ => simp [mQ] at h
theorem zE6 {cs : List CV} {ts : List TU} (h : mQ (cs.map erC) = some ts) : ∃ us : List TV, cs = us.map .t ∧ us.map erT = ts := by
 have := zMf h
 clear h
 induction cs generalizing ts with
 | nil => exact ⟨[], rfl, by simpa using this⟩
 | cons c cs ih =>
  cases ts with
  | nil => simp at this
  | cons t ts =>
   simp only [List.map_cons, List.cons.injEq] at this
   obtain ⟨y, rfl, hy⟩ := k9 this.1
   obtain ⟨us, h1, h2⟩ := ih this.2
   exact ⟨y :: us, by simp [h1], by simp [hy, h2]⟩
theorem zW2 {us : List TV} : yF w P R S ea (us.map .t) ↔ xP w P R us := by
 rw [zY, yJ]
 simp [okC]
theorem zMr {us : List TV} : zH (us.map .t) = zZ us := by
 rw [yW, xD, List.flatMap_map]
 rfl
theorem sQ {us : List TV} (h : ∀ x ∈ us, zU x = []) : zZ us = [] := by
 rw [xD, List.flatMap_eq_nil_iff]; exact h
theorem New.row (h : Rel (zB cx f) w0 E0 P R ea w S tmps) {cs : List CV} {cur : Array Value} {e : TypeId} {sz n cap : Nat} (hn : New (zB cx f) w0 E0 P R ea w S (.agg cs))
  (hl : cs.length = n * sz) (hc : n ≤ cap) (hcap : cap * sz ≤ cur.size) (hv : ∀ (j : Nat) (v : Value), (yC cs)[j]? = some v → cur[j]? = some v) :
  Rel (zB cx f) w0 E0 P R ea (w.alloc (.cells cur e)) S tmps ∧
  New (zB cx f) w0 E0 P R ea (w.alloc (.cells cur e)) S (.c (.lst (.slice (some ⟨w.heap.size, 0, none⟩) n cap) sz n cs)) := by
 have hg := Grow.alloc w (.cells cur e)
 have hr := h.grow hg
 refine ⟨hr, ?_⟩
 have hok := hn.ok
 simp only [okX] at hok
 have hnb : w.heap.size ∉ zH cs := fun hb => Nat.lt_irrefl _ (hn.lt _ (by simpa [zE] using hb))
 constructor
 ·simp only [okX, okC]
  refine ⟨hl, qT (fun _ b hb => hg.block b (h.ltP _ b hb)) (fun b hb => hg.block b (h.ltR b hb)) hok (fun b hb => hg.block b (hn.lt b (by simpa [zE] using hb))) (fun _ _ => ⟨rfl, rfl⟩), .inr ⟨w.heap.size, 0, cur, e, ?_, heap_alloc_new w _, fun j v hj => by simpa using hv j v hj⟩⟩
  exact ⟨_, cap, rfl, hc, rfl, rfl, .inr ⟨rfl, by omega⟩⟩
 ·exact fun d' hd' => hn.refs d' (by simpa [zD, zF] using hd')
 ·simp only [zE, zP, hdr, List.cons_append, List.nil_append, List.nodup_cons]
  exact ⟨hnb, by simpa [zE] using hn.nd⟩
 ·intro r b hb
  simp only [zE, zP, hdr, List.cons_append, List.nil_append, List.mem_cons] at hb
  rcases hb with rfl | hb
  ·exact h.fresh r
  ·exact hn.sep r b (by simpa [zE] using hb)
 ·intro b hb
  simp only [zE, zP, hdr, List.cons_append, List.nil_append, List.mem_cons] at hb
  rcases hb with rfl | hb
  ·simp
  ·exact Nat.lt_of_lt_of_le (hn.lt b (by simpa [zE] using hb)) hg.size
 ·intro b hb
  simp only [zE, zP, hdr, List.cons_append, List.nil_append, List.mem_cons] at hb
  rcases hb with rfl | hb
  ·exact .inr h.freshOwn
  ·exact hn.own b (by simpa [zE] using hb)
 ·intro b hb
  simp only [zE, zP, hdr, List.cons_append, List.nil_append, List.mem_cons] at hb
  rcases hb with rfl | hb
  ·exact h.freshR
  ·exact hn.notR b (by simpa [zE] using hb)
theorem New.lst_t {isv : Nat → Bool} {v : Value} {sz n : Nat} {us : List TV} (hn : New isv w0 E0 P R ea w S (.c (.lst v sz n (us.map .t)))) : New isv w0 E0 P R ea w S (.c (.t (.sl v 0 sz n us))) := by
 have hb : zE (.c (.t (.sl v 0 sz n us))) = zE (.c (.lst v sz n (us.map .t))) := by simp [zE, zP, zU, zMr]
 constructor
 ·have := hn.ok
  simp only [okX, okC, okT, if_true] at this ⊢
  refine ⟨by simpa using this.1, zW2.1 this.2.1, ?_⟩
  have h3 := this.2.2
  rw [z8, List.map_map] at h3
  exact h3
 ·intro d' hd'; simp [zD, zF] at hd'
 ·rw [hb]; exact hn.nd
 ·intro r b h; exact hn.sep r b (hb ▸ h)
 ·intro b h; exact hn.lt b (hb ▸ h)
 ·intro b h; exact hn.own b (hb ▸ h)
 ·intro b h; exact hn.notR b (hb ▸ h)
theorem zUv {isv : Nat → Bool} {v : Value} {sz n : Nat} {cs : List CV} (hn : New isv w0 E0 P R ea w S (.c (.lst v sz n cs))) : ∃ c, erC c = zR5 sz n (cs.map erC) ∧ zJ c = v ∧ New isv w0 E0 P R ea w S (.c c) := by
 unfold zR5
 cases ht : mQ (cs.map erC) with
 | none => exact ⟨.lst v sz n cs, by simp [erC, zI, zR, er0], rfl, hn⟩
 | some ts =>
  obtain ⟨us, rfl, rfl⟩ := zE6 ht
  exact ⟨.t (.sl v 0 sz n us), by simp [erC, zI, yA, yO, er0], rfl, hn.lst_t⟩
theorem zFr (hty : jB Pr cx.ty) (h : Rel (zB cx f) w0 E0 P R ea w S tmps) (ha : a.tmps = tmps) {o : Oper} {e : Nat} {l c : Operand} (ho : o.op = .makeSlice e l c) {z : XU} {Su : SU}
  (hq : qval cx f call (V.erS S) o.type (.makeSlice e l c) = some (z, Su)) : QOk cx f w0 E0 P R ea w tmps Pr a o z Su := by
 simp only [qval] at hq
 split at hq
 ·rename_i el n m hel hl hc
  split at hq
  ·rename_i hcond
   obtain ⟨h0, hnm, hby, hmax, hse, hok, hsz⟩ := hcond
   cases hts : mQ (cx.ty el).zs with
   | none => simp [hts] at hq
   | some ts =>
    simp only [hts, Option.map_some, Option.some.injEq, Prod.mk.injEq] at hq
    obtain ⟨rfl, rfl⟩ := hq
    obtain ⟨ti, d, zz, hf⟩ := hty.facts hse
    have hd := hf.slice hel
    subst hd
    obtain ⟨ti2, d2, zz2, hf2⟩ := hty.facts hok
    obtain ⟨kl, hlv⟩ := pJ h ha hl
    obtain ⟨kc, hcv⟩ := pJ h ha hc
    have h63 : m ≤ 9223372036854775807 := by unfold maxLen at hmax; omega
    have hr := run_make (P := Pr) w e el ti2 zz2 hf.und hf2.info hf2.zero kl kc n m h0 hnm (by rw [hf2.bytes, Int.mul_comm]; omega) h63
    obtain ⟨z1, z2, z3, z4, z5⟩ := kW hf2.zs
    have hn0 : New (zB cx f) w0 E0 P R ea w S (.agg (dA n.toNat ((cx.ty el).zs.map zG))) := by
     refine New.plain ?_ ?_ ?_
     ·simp only [okX]; exact zY.2 fun c hc => zY.1 (z5 w P R S ea) c (fQ hc)
     ·simp only [zE]
      rw [yW, List.flatMap_eq_nil_iff]
      intro c hc
      rw [yW, List.flatMap_eq_nil_iff] at z3
      exact z3 c (fQ hc)
     ·simp only [zD]
      rw [yI, List.flatMap_eq_nil_iff]
      intro c hc
      rw [yI, List.flatMap_eq_nil_iff] at z4
      exact z4 c (fQ hc)
    have hlen : ((cx.ty el).zs.map zG).length = (cx.ty el).sz := by rw [List.length_map, hf2.zlen]
    have hzs : zz2.cells.size = (cx.ty el).sz := by
     have := uY hf2.zs
     rw [Array.length_toList, hf2.zlen] at this
     exact this.symm
    have hmul : n.toNat * (cx.ty el).sz ≤ m.toNat * (cx.ty el).sz := Nat.mul_le_mul_right _ (by omega)
    obtain ⟨k1, k2⟩ := New.row (cur := madeCells zz2.cells (m.toNat * ti2.size)) (e := el) (sz := (cx.ty el).sz) (n := n.toNat) (cap := m.toNat) h hn0
     (by rw [iC, hlen]) (by omega) (by rw [size_madeCells, hf2.size]; exact Nat.le_refl _) (by
      intro j v hj
      rw [z8, nK, zB5, List.length_map, hlen] at hj
      split at hj
      ·rename_i hlt
       rw [zR6 _ _ _ (by rw [hf2.size]; omega) (by omega), hzs]
       rw [z1] at hj
       simpa using hj
      ·cases hj)
    obtain ⟨us, hus1, hus2⟩ := zE6 (cs := (cx.ty el).zs.map zG) (ts := ts) (by rw [z2]; exact hts)
    rw [hus1, show dA n.toNat (us.map C.t) = (dA n.toNat us).map C.t by rw [nK]] at k2
    refine ⟨_, S, _, ⟨Grow.alloc w _, ?_, rfl, k1, k2.lst_t⟩, ?_⟩
    ·simp [erX, zW, zI, yA, yO, er0, nK, ← hus2]
    ·simp [execOp, ho, hlv, hcv, hr, zQ, zJ, zV]
  ·cases hq
 ·cases hq
end
end Go.Proofs.YtlkjnlfddadlmaaGreatDoor.V
namespace Go.Proofs.YtlkjnlfddadlmaaGreatDoor.V
open Go.RowKit
section
variable {cx : Ctx} {f : Nat} {w0 : World} {E0 : Nat → Prop} {P : Nat → Nat → Prop} {R : Nat → Prop} {ea : List EA} {w w' : World} {S : SV} {tmps : Array Value} {Pr : Program} {a : Act} {call : zX} {isv : Nat → Bool}
theorem wS {α β : Type} (g : α → List β) {l1 l2 : List α} (h : l1.Sublist l2) : (l1.flatMap g).Sublist (l2.flatMap g) := by
 induction h with
 | slnil => exact List.Sublist.refl _
 | cons a _ ih => simp only [List.flatMap_cons]; exact ih.trans (List.sublist_append_right _ _)
 | cons_cons a _ ih => simp only [List.flatMap_cons]; exact List.Sublist.append (List.Sublist.refl _) ih
theorem New.some {cs ds : List CV} (hn : New isv w0 E0 P R ea w S (.agg cs)) (hs : ds.Sublist cs) : New isv w0 E0 P R ea w S (.agg ds) := by
 have hb : (zH ds).Sublist (zH cs) := by rw [yW, yW]; exact wS _ hs
 have hr : (zK ds).Sublist (zK cs) := by rw [yI, yI]; exact wS _ hs
 have hok := hn.ok
 simp only [okX] at hok
 constructor
 ·simp only [okX]; exact zY.2 fun c hc => zY.1 hok c (hs.subset hc)
 ·intro d' hd'; exact hn.refs d' (by simp only [zD] at hd' ⊢; exact hr.subset hd')
 ·exact (show (zE (.agg ds)).Sublist (zE (.agg cs)) from by simpa [zE] using hb).nodup hn.nd
 ·intro r b h; exact hn.sep r b (by simp only [zE] at h ⊢; exact hb.subset h)
 ·intro b h; exact hn.lt b (by simp only [zE] at h ⊢; exact hb.subset h)
 ·intro b h; exact hn.own b (by simp only [zE] at h ⊢; exact hb.subset h)
 ·intro b h; exact hn.notR b (by simp only [zE] at h ⊢; exact hb.subset h)
theorem New.one {c : CV} (hn : New isv w0 E0 P R ea w S (.agg [c])) : New isv w0 E0 P R ea w S (.c c) := by
 have hok := hn.ok
 simp only [okX, yF, and_true] at hok
 refine ⟨by simpa [okX] using hok, fun d' hd' => hn.refs d' (by simpa [zD, zK] using hd'), ?_, fun r b h => hn.sep r b (by simpa [zE, zH] using h), fun b h => hn.lt b (by simpa [zE, zH] using h), fun b h => hn.own b (by simpa [zE, zH] using h), fun b h => hn.notR b (by simpa [zE, zH] using h)⟩
 simpa [zE, zH] using hn.nd
theorem New.mkx {t : Nat} {cs : List CV} {xG : XV} (hn : New isv w0 E0 P R ea w S (.agg cs)) (hx : ((cx.ty t).agg = true ∧ cs.length = (cx.ty t).sz ∧ xG = .agg cs) ∨ ((cx.ty t).agg = false ∧ ∃ c, cs = [c] ∧ xG = .c c)) : New isv w0 E0 P R ea w S xG := by
 rcases hx with ⟨_, _, rfl⟩ | ⟨_, c, rfl, rfl⟩
 ·exact hn
 ·exact hn.one
theorem zSx (hty : jB Pr cx.ty) {t : Nat} (ht : (cx.ty t).ok = true) {cs ds : List CV} {off : Nat} {xG : XV} (hd : (cs.drop off).take (cx.ty t).sz = ds) (hl : off + (cx.ty t).sz ≤ cs.length)
  (hx : ((cx.ty t).agg = true ∧ ds.length = (cx.ty t).sz ∧ xG = .agg ds) ∨ ((cx.ty t).agg = false ∧ ∃ c, ds = [c] ∧ xG = .c c)) : (part t (yC cs).toArray off).run Pr w = .ok (zQ xG) w := by
 obtain ⟨ti, d, zz, hf⟩ := hty.facts ht
 have h1 := cT (Pr := Pr) (w := w) t d hf.und
 rcases hx with ⟨hagg, _, rfl⟩ | ⟨hagg, c, he, rfl⟩
 ·rw [hf.agg, hagg] at h1
  have hsz : (sizeOf t).run Pr w = .ok (cx.ty t).sz w := by simp [sizeOf, typeInfo, hf.info, hf.size]
  have he : (yC cs).toArray.extract off (off + (cx.ty t).sz) = (yC ds).toArray := by
   apply Array.ext'
   rw [← hd, z8, z8, List.map_take, List.map_drop]
   simp [List.extract_eq_take_drop]
  simp [part, h1, hsz, zQ]
  simpa using he
 ·rw [hf.agg, hagg] at h1
  have hc : (yC cs)[off]? = some (zJ c) := by
   rw [z8, List.getElem?_map]
   have : ((cs.drop off).take (cx.ty t).sz)[0]? = some c := by rw [hd, he]; rfl
   rw [List.getElem?_take, List.getElem?_drop] at this
   split at this
   ·simp only [Nat.add_zero] at this; rw [this]; rfl
   ·cases this
  simp [part, h1, hc, zQ]
theorem zRi (hty : jB Pr cx.ty) (h : Rel (zB cx f) w0 E0 P R ea w S tmps) (ha : a.tmps = tmps) {o : Oper} {e i : Nat} {x : Operand} (ho : o.op = .field e x i) {z : XU} {Su : SU}
  (hq : qval cx f call (V.erS S) o.type (.field e x i) = some (z, Su)) : QOk cx f w0 E0 P R ea w tmps Pr a o z Su := by
 simp only [qval] at hq
 split at hq
 ·rename_i off ft cs hfs hx
  split at hq
  ·rename_i hc
   obtain ⟨hse, hok, hl⟩ := hc
   obtain ⟨xG, hxG⟩ := h.opv ha hx
   obtain ⟨ds, rfl, rfl⟩ := zRf hxG.er
   rw [← List.map_drop, ← List.map_take] at hq
   cases hm : mkX cx ft (((ds.drop off).take (cx.ty ft).sz).map erC) with
   | none => rw [hm] at hq; simp at hq
   | some y =>
    rw [hm] at hq; simp only [Option.map_some, Option.some.injEq, Prod.mk.injEq] at hq
    obtain ⟨rfl, rfl⟩ := hq
    obtain ⟨yG, hy1, hy2⟩ := zFs hm
    obtain ⟨ti, d, zz, hf⟩ := hty.facts hse
    obtain ⟨fs, fd, rfl, hfd, hfo, hft⟩ := hf.field hfs
    have hn := (hxG.new.some (List.Sublist.trans (List.take_sublist _ _) (List.drop_sublist off ds) : ((ds.drop off).take (cx.ty ft).sz).Sublist ds)).mkx hy2
    simp only [List.length_map] at hl
    have hp := zSx (Pr := Pr) (w := w) hty hok rfl hl hy2
    refine ⟨w, _, yG, ⟨Grow.refl w, hy1, gT x, h.clr x, hn⟩, ?_⟩
    subst hft; subst hfo
    simp [execOp, ho, hxG.val, zQ, Instr.field, run_underlying hf.und, hfd, asAgg, hp]
  ·cases hq
 ·cases hq
theorem zMu (h : Rel (zB cx f) w0 E0 P R ea w S tmps) (ha : a.tmps = tmps) : ∀ {os : List Operand} {cs : List CU}, dB cx f (V.erS S) os = some cs →
  ∃ ds, ds.map erC = cs ∧ os.map a.eval = ds.map zJ ∧ yF w P R S ea ds ∧ zH ds = [] ∧ ∀ d', Root.sl d' ∈ zK ds → zB cx f d' = true
 | [], cs, hc => by
  simp only [dB, Option.some.injEq] at hc
  subst hc
  exact ⟨[], rfl, rfl, by simp [yF], by simp [zH], by simp [zK]⟩
 | o :: os, cs, hc => by
  simp only [dB] at hc
  cases hx : opv cx f (V.erS S) 0 o with
  | none => simp [hx] at hc
  | some x =>
   simp only [hx, Option.bind_some] at hc
   split at hc
   ·rename_i c
    split at hc
    ·cases hc
    ·rename_i hno
     cases hr : dB cx f (V.erS S) os with
     | none => simp [hr] at hc
     | some us =>
      simp only [hr, Option.map_some, Option.some.injEq] at hc
      subst hc
      obtain ⟨ds, d1, d2, d3, d4, d5⟩ := zMu h ha hr
      obtain ⟨cG, hcG, hv, hok, href⟩ := kA h ha hx
      subst hcG
      have hno' : x9 cG = false := by rw [show erC cG = zI er0 cG from rfl, fN] at hno; simpa using hno
      refine ⟨cG :: ds, by simp [d1], by simp [d2, hv], ⟨hok, d3⟩, by simp [zH, aY hok hno', d4], ?_⟩
      intro d' hd'
      simp only [zK, List.mem_append] at hd'
      exact hd'.elim (href d') (d5 d')
   ·cases hc
theorem zH8 (h : Rel (zB cx f) w0 E0 P R ea w S tmps) (ha : a.tmps = tmps) {o : Oper} {g : Nat} {first caps : Array Operand} (ho : o.op = .makeFunc (.func g) first caps) {z : XU} {Su : SU}
  (hq : qval cx f call (V.erS S) o.type (.makeFunc (.func g) first caps) = some (z, Su)) : QOk cx f w0 E0 P R ea w tmps Pr a o z Su := by
 simp only [qval] at hq
 split at hq
 ·rename_i hfirst
  cases hc : dB cx f (V.erS S) caps.toList with
  | none => simp [hc] at hq
  | some cs =>
   simp only [hc, Option.map_some, Option.some.injEq, Prod.mk.injEq] at hq
   obtain ⟨rfl, rfl⟩ := hq
   obtain ⟨ds, rfl, d2, d3, d4, d5⟩ := zMu h ha hc
   have := QRes.ref (c := .fn g ds) h (by simp only [okC]; exact ⟨d3, d4⟩) (by simp [zP]) (fun d' hd' => d5 d' (by simpa [zF] using hd'))
   refine ⟨w, S, _, by simpa [erC, zI, zR] using this, ?_⟩
   have hm : caps.map a.eval = (ds.map zJ).toArray := by
    apply Array.ext'
    simpa using d2
   simp [execOp, ho, hfirst, Instr.makeFunc, zQ, zJ, z8, hm]
 ·cases hq
theorem zM8 : ∀ {xs : List XV} {i : Nat} {y : XV}, xs[i]? = some y → ∀ (k : Nat) (c : CV), (zT [y])[k]? = some c → (zT xs)[w9 (xs.map erX) i + k]? = some c
 | [], i, y, h, _, _, _ => by simp at h
 | x :: xs, 0, y, h, k, c, hk => by
  simp only [List.getElem?_cons_zero, Option.some.injEq] at h
  subst h
  simp only [List.map_cons, w9, Nat.zero_add]
  cases x with
  | c x =>
   simp only [zT] at hk ⊢
   cases k with
   | zero => simpa using hk
   | succ k => simp at hk
  | agg cs =>
   simp only [zT, List.append_nil] at hk ⊢
   rw [List.getElem?_append_left (List.getElem?_eq_some_iff.1 hk).1]
   exact hk
  | _ => simp [zT] at hk
 | x :: xs, i + 1, y, h, k, c, hk => by
  simp only [List.getElem?_cons_succ] at h
  have ih := zM8 h k c hk
  simp only [List.map_cons, w9]
  have hlen : (zT [erX x]).length = (zT [x]).length := by
   cases x <;> simp [erX, zW, zT, zR]
  rw [hlen]
  have hsplit : zT (x :: xs) = zT [x] ++ zT xs := by cases x <;> simp [zT]
  rw [hsplit, Nat.add_assoc, List.getElem?_append_right (by omega), show (zT [x]).length + (w9 (xs.map erX) i + k) - (zT [x]).length = w9 (xs.map erX) i + k by omega]
  exact ih
theorem zAk (h : Rel (zB cx f) w0 E0 P R ea w S tmps) (ha : a.tmps = tmps) {o : Oper} {i : Nat} {x : Operand} (ho : o.op = .extract x i) {z : XU} {Su : SU}
  (hq : qval cx f call (V.erS S) o.type (.extract x i) = some (z, Su)) : lI cx f w0 E0 P R ea w tmps Pr a o z Su := by
 simp only [qval] at hq
 cases hz : vN cx f (V.erS S) x i with
 | none => simp [hz] at hq
 | some z' =>
  simp only [hz, Option.map_some, Option.some.injEq, Prod.mk.injEq] at hq
  obtain ⟨rfl, rfl⟩ := hq
  unfold vN at hz
  split at hz
  ·rename_i d
   split at hz
   ·rename_i xs hs
    have hs' : erX (S.s d) = .tup xs := hs
    obtain ⟨ys, hys, rfl⟩ : ∃ ys, S.s d = .tup ys ∧ ys.map erX = xs := by
     cases hd : S.s d <;> simp [hd, erX, zW, wH] at hs'
     exact ⟨_, rfl, hs'⟩
    have hslot := h.slot (d := d) (by rw [hys]; simp)
    have hval : a.eval (.tmp d) = .tuple (jF ys).toArray := by simp [Act.eval, ha, hslot, hys, zQ]
    cases hi : ys[i]? with
    | none => simp [List.getElem?_map, hi] at hz
    | some y =>
     simp only [List.getElem?_map, hi, Option.map_some, Option.bind_some] at hz
     have hrun : (Instr.extract (a.eval (.tmp d)) i).run Pr w = .ok (zQ y) w := by
      simp [Instr.extract, hval, aJ, hi]
     have hd := h.okS d
     rw [hys] at hd
     simp only [okX] at hd
     have hyok := nC.1 hd y (List.mem_of_getElem? hi)
     have hyref : ∀ r ∈ zD y, r ∈ zD (S.s d) := by
      intro r hr
      rw [hys]
      simp only [zD, cM, List.mem_flatMap]
      exact ⟨y, List.mem_of_getElem? hi, hr⟩
     rw [show yQ (erX y) = yQ y from zAu er0 y] at hz
     split at hz
     ·split at hz
      ·rename_i hv
       have hat : ∀ (k : Nat) (c : CV), (zT [y])[k]? = some c → at_ S (.sl d) [] (w9 (ys.map erX) i + k) = some c := fun k c hk => by
        simp only [at_, zA, hys, Option.bind_some, y9]
        exact zM8 hi k c hk
       cases y with
       | c c =>
        simp only [erX, zW, Option.some.injEq] at hz
        subst hz
        have hat0 := hat 0 c (by simp [zT])
        simp only [Nat.add_zero] at hat0
        obtain ⟨k1, k2, k3, k4⟩ := zF6 hat0 (by simpa [okX] using hyok)
        refine ⟨S, .c (rdc (.sl d) [] (w9 (ys.map erX) i) c), ?_, ?_⟩
        ·have := QRes.ref (c := rdc (.sl d) [] (w9 (ys.map erX) i) c) h k1 k3 (by
          intro d' hd'
          rcases k4 _ hd' with e | e
          ·simp only [Root.sl.injEq] at e; rw [e]; exact hv
          ·exact h.refS d d' (hyref _ (by simpa [zD] using e)))
         rw [show erC (rdc (.sl d) [] (w9 (ys.map erX) i) c) = rdc (.sl d) [] (w9 (ys.map erX) i) (erC c) from (eK er0 _ _ _ _).symm] at this
         exact this
        ·simp [execOp, ho, hrun, zQ, k2]
       | agg cs =>
        simp only [erX, zW, zR, Option.some.injEq] at hz
        subst hz
        obtain ⟨k1, k2, k3, k4⟩ := zF7 (r := .sl d) (i := w9 (ys.map erX) i) (cs := cs) (fun k c hk => hat k c (by simpa [zT] using hk)) (by simpa [okX] using hyok)
        refine ⟨S, .agg (mA (.sl d) (w9 (ys.map erX) i) cs), ⟨Grow.refl w, ?_, rfl, h, ?_⟩, ?_⟩
        ·simp only [erX, zW, zR]
         rw [zB4]
        ·refine ⟨by simpa [okX] using k1, ?_, by simp [zE, k3], fun r b hb => by simp [zE, k3] at hb, fun b hb => by simp [zE, k3] at hb, fun b hb => by simp [zE, k3] at hb, fun b hb => by simp [zE, k3] at hb⟩
         intro d' hd'
         rcases k4 _ (by simpa [zD] using hd') with e | e
         ·simp only [Root.sl.injEq] at e; rw [e]; exact hv
         ·exact h.refS d d' (hyref _ (by simpa [zD] using e))
        ·simp [execOp, ho, hrun, zQ, k2]
       | _ => simp [erX, zW] at hz
      ·cases hz
     ·rename_i hno
      simp only [Option.some.injEq] at hz
      subst hz
      have hb := rM hyok (by simpa using hno)
      exact ⟨S, y, ⟨Grow.refl w, rfl, rfl, h, hyok, fun d' hd' => h.refS d d' (hyref _ hd'), by rw [hb]; exact List.nodup_nil, fun r b hb' => by rw [hb] at hb'; simp at hb', fun b hb' => by rw [hb] at hb'; simp at hb', fun b hb' => by rw [hb] at hb'; simp at hb', fun b hb' => by rw [hb] at hb'; simp at hb'⟩, by simp [execOp, ho, hrun]⟩
   ·cases hz
  ·cases hz
end
end Go.Proofs.YtlkjnlfddadlmaaGreatDoor.V
namespace Go.Proofs.YtlkjnlfddadlmaaGreatDoor.V
open Go.RowKit
section
variable {cx : Ctx} {f : Nat} {w0 : World} {E0 : Nat → Prop} {P : Nat → Nat → Prop} {R : Nat → Prop} {ea : List EA} {w w' : World} {S : SV} {tmps : Array Value} {Pr : Program} {a : Act} {call : zX}
theorem New.clr {x : XV} (h : New (zB cx f) w0 E0 P R ea w S x) (o : Operand) : New (zB cx f) w0 E0 P R ea w (clr cx f S o) x := by
 cases o with
 | tmp d =>
  simp only [V.clr]
  split
  ·exact h
  ·rename_i hv
   split
   ·have hsub : ∀ r b, b ∈ zL { S with s := upd S.s d .undef } ea r → b ∈ zL S ea r := by
     intro r b hb
     by_cases e : r = .sl d
     ·subst e; simp [zL, upd, zE] at hb
     ·rwa [qD e] at hb
    refine ⟨jY (fun _ _ _ => rfl) (fun _ _ => rfl) h.ok (fun _ _ => rfl) (fun r hr => kT (fun e => ?_)), h.refs, h.nd, fun r b hb hb' => h.sep r b hb (hsub r b hb'), h.lt, h.own, h.notR⟩
    exact hv (h.refs d (e ▸ hr))
   ·exact h
 | _ => exact h
theorem zJn : ∀ (xs : List Value) (k off : Nat) (arr : Array Value), off + k + xs.length ≤ arr.size →
  ((xs.zipIdx k).foldl (fun cs (p : Value × Nat) => cs.setIfInBounds (off + p.2) p.1) arr).toList = arr.toList.take (off + k) ++ xs ++ arr.toList.drop (off + k + xs.length)
 | [], k, off, arr, _ => by simp
 | x :: xs, k, off, arr, h => by
  simp only [List.length_cons] at h
  simp only [List.zipIdx_cons, List.foldl_cons]
  rw [zJn xs (k + 1) off _ (by simp; omega)]
  have hlt : off + k < arr.toList.length := by simp; omega
  have h1 : (arr.toList.set (off + k) x).take (off + (k + 1)) = arr.toList.take (off + k) ++ [x] := by
   rw [List.set_eq_take_append_cons_drop, if_pos hlt, List.take_append]
   have : (List.take (off + k) arr.toList).length = off + k := by rw [List.length_take]; omega
   rw [this, List.take_of_length_le (by omega), show off + (k + 1) - (off + k) = 1 by omega]
   simp
  have h2 : (arr.toList.set (off + k) x).drop (off + (k + 1) + xs.length) = arr.toList.drop (off + k + (x :: xs).length) := by
   rw [List.drop_set_of_lt (by omega)]
   congr 1
   simp only [List.length_cons]; omega
  rw [Array.toList_setIfInBounds, h1, h2]
  simp
theorem zPa (cells : Array Value) (off : Nat) (v : Array Value) (h : off + v.size ≤ cells.size) :
  (v.zipIdx.foldl (fun cs (p : Value × Nat) => cs.setIfInBounds (off + p.2) p.1) cells).toList = cells.toList.take off ++ v.toList ++ cells.toList.drop (off + v.size) := by
 have := zJn v.toList 0 off cells (by simpa using h)
 simp only [Nat.add_zero, Array.length_toList] at this
 rw [← this, ← Array.foldl_toList, Array.toList_zipIdx]
theorem kL (xs ys : List CV) : zH (xs ++ ys) = zH xs ++ zH ys := by simp [yW]
theorem dP (xs ys : List CV) : zK (xs ++ ys) = zK xs ++ zK ys := by simp [yI]
theorem New.fill {isv : Nat → Bool} {cs ds : List CV} {off : Nat} (hc : New isv w0 E0 P R ea w S (.agg cs)) (hd : New isv w0 E0 P R ea w S (.agg ds)) (hdis : ∀ b ∈ zH cs, b ∉ zH ds) :
  New isv w0 E0 P R ea w S (.agg (cs.take off ++ ds ++ cs.drop (off + ds.length))) := by
 have hsub : (cs.take off ++ cs.drop (off + ds.length)).Sublist cs := by
  conv => rhs; rw [← List.take_append_drop off cs]
  refine List.Sublist.append (List.Sublist.refl _) ?_
  rw [← List.drop_drop]
  exact List.drop_sublist _ _
 have h1 := hc.some hsub
 have hmem : ∀ b, b ∈ zH (cs.take off ++ ds ++ cs.drop (off + ds.length)) → b ∈ zH (cs.take off ++ cs.drop (off + ds.length)) ∨ b ∈ zH ds := by
  intro b hb
  simp only [kL, List.mem_append] at hb ⊢
  rcases hb with (hb | hb) | hb
  ·exact .inl (.inl hb)
  ·exact .inr hb
  ·exact .inl (.inr hb)
 have k1 := h1.ok
 have k2 := hd.ok
 simp only [okX] at k1 k2
 constructor
 ·simp only [okX]
  refine zY.2 fun c hc' => ?_
  simp only [List.mem_append] at hc'
  rcases hc' with (hc' | hc') | hc'
  ·exact zY.1 k1 c (List.mem_append_left _ hc')
  ·exact zY.1 k2 c hc'
  ·exact zY.1 k1 c (List.mem_append_right _ hc')
 ·intro d' hd'
  simp only [zD, dP, List.mem_append] at hd'
  rcases hd' with (hd' | hd') | hd'
  ·exact h1.refs d' (by simp only [zD, dP, List.mem_append]; exact .inl hd')
  ·exact hd.refs d' (by simpa only [zD] using hd')
  ·exact h1.refs d' (by simp only [zD, dP, List.mem_append]; exact .inr hd')
 ·simp only [zE, kL]
  have n1 := h1.nd
  have n2 := hd.nd
  simp only [zE, kL] at n1 n2
  rw [List.nodup_append] at n1
  have hin : ∀ b, b ∈ zH (cs.take off) ∨ b ∈ zH (cs.drop (off + ds.length)) → b ∈ zH cs := by
   intro b hb
   have := (wS zP hsub).subset (a := b)
   rw [← yW, ← yW] at this
   exact this (by rw [kL, List.mem_append]; exact hb)
  rw [List.nodup_append, List.nodup_append]
  refine ⟨⟨n1.1, n2, ?_⟩, n1.2.1, ?_⟩
  ·intro x hx y hy e
   subst e
   exact hdis x (hin x (.inl hx)) hy
  ·intro x hx y hy e
   subst e
   rcases List.mem_append.1 hx with hx | hx
   ·exact n1.2.2 x hx x hy rfl
   ·exact hdis x (hin x (.inr hy)) hx
 ·intro r b hb
  rcases hmem b (by simpa only [zE] using hb) with hb | hb
  ·exact h1.sep r b (by simpa only [zE] using hb)
  ·exact hd.sep r b (by simpa only [zE] using hb)
 ·intro b hb
  rcases hmem b (by simpa only [zE] using hb) with hb | hb
  ·exact h1.lt b (by simpa only [zE] using hb)
  ·exact hd.lt b (by simpa only [zE] using hb)
 ·intro b hb
  rcases hmem b (by simpa only [zE] using hb) with hb | hb
  ·exact h1.own b (by simpa only [zE] using hb)
  ·exact hd.own b (by simpa only [zE] using hb)
 ·intro b hb
  rcases hmem b (by simpa only [zE] using hb) with hb | hb
  ·exact h1.notR b (by simpa only [zE] using hb)
  ·exact hd.notR b (by simpa only [zE] using hb)
theorem zFh {place : Nat → Option (Nat × Nat)} {placeP : Nat → Option (Nat × Nat)} (hp : ∀ i off t, place i = some (off, t) → placeP i = some (off, (cx.ty t).sz)) :
  ∀ {ps : List (Nat × Operand)} {S : SV} {cs : List CV} {arr : Array Value} {zs : List CU} {Su : SU}, Rel (zB cx f) w0 E0 P R ea w S tmps → a.tmps = tmps →
   New (zB cx f) w0 E0 P R ea w S (.agg cs) → arr.toList = yC cs → jU cx f place ps (cs.map erC) (V.erS S) = some (zs, Su) →
   ∃ (S' : SV) (ds : List CV) (out : Array Value), Instr.fill placeP arr (ps.map fun p => (p.1, a.eval p.2)) = some out ∧ out.toList = yC ds ∧ ds.map erC = zs ∧ V.erS S' = Su ∧ ds.length = cs.length ∧
    Rel (zB cx f) w0 E0 P R ea w S' tmps ∧ New (zB cx f) w0 E0 P R ea w S' (.agg ds)
 | [], S, cs, arr, zs, Su, h, _, hn, harr, hq => by
  simp only [jU, Option.some.injEq, Prod.mk.injEq] at hq
  obtain ⟨rfl, rfl⟩ := hq
  exact ⟨S, cs, arr, by simp [Instr.fill], harr, rfl, rfl, rfl, h, hn⟩
 | (i, o) :: ps, S, cs, arr, zs, Su, h, ha, hn, harr, hq => by
  simp only [jU] at hq
  cases hpl : place i with
  | none => simp [hpl] at hq
  | some q =>
   obtain ⟨off, t⟩ := q
   simp only [hpl, Option.bind_some] at hq
   cases hx : opv cx f (V.erS S) t o with
   | none => simp [hx] at hq
   | some x =>
    simp only [hx, Option.bind_some] at hq
    cases hcx : jN x with
    | none => simp [hcx] at hq
    | some xs =>
     simp only [hcx, Option.bind_some] at hq
     split at hq
     ·rename_i hc
      obtain ⟨hc1, hc2⟩ := hc
      obtain ⟨xG, hxG⟩ := h.opv ha hx
      obtain ⟨ds, d1, d2, d3, d4, d5, _⟩ := eX hxG.new.ok (by rw [hxG.er]; exact hcx)
      have hnd := New.agg_of hxG.new d3 d4 d5
      have hnc := hn.clr o
      have hdl : ds.length = xs.length := by rw [← d1, List.length_map]
      have hdis : ∀ b ∈ zH cs, b ∉ zH ds := by
       intro b hb hb'
       rw [d4] at hb'
       obtain ⟨r, hr⟩ := hxG.src b hb'
       exact hn.sep r b (by simpa only [zE] using hb) hr
      have hfill := hnc.fill (off := off) hnd hdis
      have hcells : (zQ xG).cells.size = ds.length := by
       rw [← Array.length_toList, d2, List.length_map]
      have hcslen : arr.size = cs.length := by
       rw [← Array.length_toList, harr, z8, List.length_map]
      simp only [List.length_map] at hc2
      have hst := zPa arr off (zQ xG).cells (by rw [hcells, hcslen]; omega)
      have hmap : (cs.take off ++ ds ++ cs.drop (off + ds.length)).map erC = zHn (cs.map erC) off xs := by
       rw [zHn, ← hdl, List.map_append, List.map_append, List.map_take, List.map_drop, d1]
      rw [← hmap, ← gT] at hq
      obtain ⟨S', es, out, e1, e2, e3, e4, e5, e6, e7⟩ := zFh hp (h.clr o) ha hfill (arr := (zQ xG).cells.zipIdx.foldl (fun cs (p : Value × Nat) => cs.setIfInBounds (off + p.2) p.1) arr)
       (by rw [hst, harr, d2, hcells]; simp only [z8, List.map_append, List.map_take, List.map_drop]) hq
      refine ⟨S', es, out, ?_, e2, e3, e4, ?_, e6, e7⟩
      ·simp only [List.map_cons, Instr.fill, hp i off t hpl, hxG.val]
       rw [if_neg (by
        rw [hcells, hcslen, hdl]
        simp only [Bool.or_eq_true, decide_eq_true_eq, not_or]
        omega)]
       exact e1
      ·rw [e5]
       simp only [List.length_append, List.length_take, List.length_drop]
       omega
     ·cases hq
theorem oX : ∀ (fs : List Go.Field) (g : Go.Field → Nat), (∀ fd ∈ fs, (sizeOf fd.type).run Pr w = .ok (g fd) w) →
  (fs.mapM fun fd => do pure (fd.offset, ← sizeOf fd.type) : Sem (List (Nat × Nat))).run Pr w = .ok (fs.map fun fd => (fd.offset, g fd)) w
 | [], g, _ => by simp [Sem.run_pure]
 | fd :: fs, g, h => by
  have ih := oX fs g (fun x hx => h x (List.mem_cons_of_mem _ hx))
  have h0 := h fd (List.mem_cons_self ..)
  simp only [List.mapM_cons, Sem.run_bind, Sem.run_pure, h0, ih, Result.andThen, List.map_cons]
theorem zQx (hty : jB Pr cx.ty) (h : Rel (zB cx f) w0 E0 P R ea w S tmps) (ha : a.tmps = tmps) {o : Oper} {e : Nat} {ps : Array (Nat × Operand)} (ho : o.op = .build e ps) {z : XU} {Su : SU}
  (hq : qval cx f call (V.erS S) o.type (.build e ps) = some (z, Su)) : QOk cx f w0 E0 P R ea w tmps Pr a o z Su := by
 simp only [qval] at hq
 split at hq
 ·rename_i hc
  obtain ⟨hok, hagg, hne, hall⟩ := hc
  obtain ⟨ti, d, zz, hf⟩ := hty.facts hok
  obtain ⟨z1, z2, z3, z4, z5⟩ := kW hf.zs
  have hn : New (zB cx f) w0 E0 P R ea w S (.agg ((cx.ty e).zs.map zG)) := New.plain (by simpa [okX] using z5 w P R S ea) (by simpa [zE] using z3) (by simpa [zD] using z4)
  cases hb : jU cx f (fun i => (cx.ty e).fs[i]?) ps.toList (cx.ty e).zs (V.erS S) with
  | none => simp [hb] at hq
  | some q =>
   obtain ⟨cs, Su'⟩ := q
   simp only [hb, Option.map_some, Option.some.injEq, Prod.mk.injEq] at hq
   obtain ⟨rfl, rfl⟩ := hq
   have hfs := hf.fs
   obtain ⟨fs, rfl⟩ : ∃ fs, d = .struct fs := by
    cases d with
    | struct fs => exact ⟨fs, rfl⟩
    | _ => simp only [zPc, beq_iff_eq] at hfs; exact absurd hfs hne
   simp only [zPc, beq_iff_eq] at hfs
   have hsz : ∀ fd ∈ fs.toList, (sizeOf fd.type).run Pr w = .ok (cx.ty fd.type).sz w := by
    intro fd hfd
    have hm : (fd.offset, fd.type) ∈ (cx.ty e).fs := by rw [← hfs]; exact List.mem_map.2 ⟨fd, hfd, rfl⟩
    obtain ⟨ti2, d2, zz2, hf2⟩ := hty.facts (List.all_eq_true.1 hall _ hm)
    simp [sizeOf, typeInfo, hf2.info, hf2.size]
   have hmap := oX fs.toList (fun fd => (cx.ty fd.type).sz) hsz
   rw [← z2] at hb
   obtain ⟨S', ds, out, e1, e2, e3, e4, e5, e6, e7⟩ := zFh (place := fun i => (cx.ty e).fs[i]?) (placeP := fun i => (fs.toList.map fun fd => (fd.offset, (cx.ty fd.type).sz))[i]?) (arr := zz.cells) (by
    intro i off t hi
    rw [← hfs, List.getElem?_map] at hi
    rw [List.getElem?_map]
    cases hj : fs.toList[i]? with
    | none => simp [hj] at hi
    | some fd =>
     simp only [hj, Option.map_some, Option.some.injEq, Prod.mk.injEq] at hi ⊢
     obtain ⟨rfl, rfl⟩ := hi
     exact ⟨rfl, rfl⟩) h ha hn (by rw [z8, z1]) hb
   refine ⟨w, S', .agg ds, ⟨Grow.refl w, by simp [erX, zW, zR]; exact e3, e4, e6, e7⟩, ?_⟩
   have hout : out = (yC ds).toArray := by rw [← e2]
   have hzv : (zeroValue e).run Pr w = .ok zz w := by simp [zeroValue, typeInfo, hf.info, hf.zero]
   have hmm : (fs.mapM fun fd => do pure (fd.offset, ← sizeOf fd.type) : Sem (Array (Nat × Nat))).run Pr w = .ok (fs.toList.map fun fd => (fd.offset, (cx.ty fd.type).sz)).toArray w := by
    rw [Array.mapM_eq_mapM_toList, Sem.run_map, hmap]
    rfl
   have hrun : (Instr.build e (ps.map fun p => (p.1, a.eval p.2))).run Pr w = .ok (.agg out) w := by
    unfold Instr.build
    simp only [Sem.run_bind, hzv, Result.andThen, run_underlying hf.und, hmm]
    have : (ps.map fun p => (p.1, a.eval p.2)).toList = ps.toList.map fun p => (p.1, a.eval p.2) := by simp
    rw [this]
    have e1' : Instr.fill (fun i => (fs.toList.map fun fd => (fd.offset, (cx.ty fd.type).sz)).toArray[i]?) zz.cells (ps.toList.map fun p => (p.1, a.eval p.2)) = some out := by
     rw [← e1]; congr 1; funext i; simp
    rw [e1']
    simp [Sem.run_pure]
   simp only [execOp, ho]
   rw [Sem.run_bind]
   have hpe : (ps.map fun x => match x with | (i, x) => (i, a.eval x)) = ps.map fun p => (p.1, a.eval p.2) := rfl
   rw [show (Instr.build e (ps.map fun x => match x with | (i, x) => (i, a.eval x))).run Pr w = .ok (.agg out) w from hrun]
   simp [zQ, hout]
 ·cases hq
theorem zCx (hty : jB Pr cx.ty) (h : Rel (zB cx f) w0 E0 P R ea w S tmps) (ha : a.tmps = tmps) {o : Oper} {e len : Nat} {ps : Array (Nat × Operand)} (ho : o.op = .buildSlice e len ps) {z : XU} {Su : SU}
  (hq : qval cx f call (V.erS S) o.type (.buildSlice e len ps) = some (z, Su)) : QOk cx f w0 E0 P R ea w tmps Pr a o z Su := by
 simp only [qval] at hq
 split at hq
 ·rename_i el hel
  split at hq
  ·rename_i hc
   obtain ⟨hok, hse, hmax⟩ := hc
   obtain ⟨ti, d, zz0, hf⟩ := hty.facts hse
   have hd := hf.slice hel
   subst hd
   obtain ⟨ti2, d2, zz, hf2⟩ := hty.facts hok
   obtain ⟨z1, z2, z3, z4, z5⟩ := kW hf2.zs
   have hlen : ((cx.ty el).zs.map zG).length = (cx.ty el).sz := by rw [List.length_map, hf2.zlen]
   have hzs : zz.cells.size = (cx.ty el).sz := by
    have := uY hf2.zs
    rw [Array.length_toList, hf2.zlen] at this
    exact this.symm
   have hn : New (zB cx f) w0 E0 P R ea w S (.agg (dA len ((cx.ty el).zs.map zG))) := by
    refine New.plain ?_ ?_ ?_
    ·simp only [okX]; exact zY.2 fun c hc => zY.1 (z5 w P R S ea) c (fQ hc)
    ·simp only [zE]
     rw [yW, List.flatMap_eq_nil_iff]
     intro c hc
     rw [yW, List.flatMap_eq_nil_iff] at z3
     exact z3 c (fQ hc)
    ·simp only [zD]
     rw [yI, List.flatMap_eq_nil_iff]
     intro c hc
     rw [yI, List.flatMap_eq_nil_iff] at z4
     exact z4 c (fQ hc)
   cases hb : jU cx f (fun i => if i < len then some (i * (cx.ty el).sz, el) else none) ps.toList (dA len (cx.ty el).zs) (V.erS S) with
   | none => simp [hb] at hq
   | some q =>
    obtain ⟨cs, Su'⟩ := q
    simp only [hb, Option.map_some, Option.some.injEq, Prod.mk.injEq] at hq
    obtain ⟨rfl, rfl⟩ := hq
    rw [← z2, ← nK] at hb
    let zc : Array Value := if len * (cx.ty el).sz = 0 then #[] else zz.cells
    have harr : ((Array.range (len * (cx.ty el).sz)).map (zc[· % zc.size]!)).toList = yC (dA len ((cx.ty el).zs.map zG)) := by
     rw [z8, nK, z1]
     apply List.ext_getElem?
     intro j
     rw [zB5, Array.length_toList, hzs]
     by_cases hj : j < len * (cx.ty el).sz
     ·have hpos : 0 < (cx.ty el).sz := by
       rcases Nat.eq_zero_or_pos (cx.ty el).sz with h0 | h0
       ·rw [h0] at hj; simp at hj
       ·exact h0
      have hzc : zc = zz.cells := by simp only [zc]; rw [if_neg (by omega)]
      have hm : j % (cx.ty el).sz < zz.cells.size := by rw [hzs]; exact Nat.mod_lt _ hpos
      rw [if_pos hj, hzc]
      have hlt : j % zz.cells.size < zz.cells.size := by rw [hzs] at *; exact hm
      simp [hj, hzs]
      rw [getElem!_pos _ _ (by rw [hzs] at hm; rw [hzs]; exact hm)]
      rw [Array.getElem?_eq_getElem]
     ·rw [if_neg hj]
      simp
      omega
    obtain ⟨S', ds, out, e1, e2, e3, e4, e5, e6, e7⟩ := zFh (place := fun i => if i < len then some (i * (cx.ty el).sz, el) else none) (placeP := fun i => some (i * (cx.ty el).sz, (cx.ty el).sz)) (arr := (Array.range (len * (cx.ty el).sz)).map (zc[· % zc.size]!)) (by
     intro i off t hi
     split at hi
     ·simp only [Option.some.injEq, Prod.mk.injEq] at hi
      obtain ⟨rfl, rfl⟩ := hi
      rfl
     ·cases hi) h ha hn harr hb
    have hdl : ds.length = len * (cx.ty el).sz := by rw [e5, iC, hlen]
    obtain ⟨k1, k2⟩ := New.row (cur := out) (e := el) (sz := (cx.ty el).sz) (n := len) (cap := len) e6 e7 hdl (Nat.le_refl _)
     (by rw [← Array.length_toList, e2, z8, List.length_map, hdl]; exact Nat.le_refl _) (by
      intro j v hj
      rw [← e2] at hj
      simpa using hj)
    obtain ⟨c, hc1, hc2, hc3⟩ := zUv k2
    refine ⟨_, S', .c c, ⟨Grow.alloc w _, by simp only [erX, zW, X.c.injEq]; rw [← e3]; exact hc1, e4, k1, hc3⟩, ?_⟩
    have hsz : (sizeOf el).run Pr w = .ok (cx.ty el).sz w := by simp [sizeOf, typeInfo, hf2.info, hf2.size]
    have hzv : (zeroValue el).run Pr w = .ok zz w := by simp [zeroValue, typeInfo, hf2.info, hf2.zero]
    have hrun : (Instr.buildSlice e len (ps.map fun p => (p.1, a.eval p.2))).run Pr w = .ok (.slice (some ⟨w.heap.size, 0, none⟩) len len) (w.alloc (.cells out el)) := by
     unfold Instr.buildSlice
     simp only [Sem.run_bind, Result.andThen, run_underlying hf.und, hsz]
     rw [if_neg (by omega)]
     have : (ps.map fun p => (p.1, a.eval p.2)).toList = ps.toList.map fun p => (p.1, a.eval p.2) := by simp
     rw [this]
     by_cases h0 : len * (cx.ty el).sz = 0
     ·simp only [zc, if_pos h0] at e1
      simp [h0, Sem.run_pure] at e1 ⊢
      simp [e1, newRow]
     ·simp only [zc, if_neg h0] at e1
      simp only [h0, if_false, Sem.run_bind, Sem.run_pure, hzv, Result.andThen, e1]
      simp [newRow]
    simp only [execOp, ho]
    rw [Sem.run_bind]
    rw [show (Instr.buildSlice e len (ps.map fun x => match x with | (i, x) => (i, a.eval x))).run Pr w = _ from hrun]
    simp [zQ, hc2]
  ·cases hq
 ·cases hq
end
end Go.Proofs.YtlkjnlfddadlmaaGreatDoor.V
namespace Go.Proofs.YtlkjnlfddadlmaaGreatDoor.V
open Go.RowKit
section
variable {cx : Ctx} {f : Nat} {isv : Nat → Bool} {w0 : World} {E0 : Nat → Prop} {P : Nat → Nat → Prop} {R : Nat → Prop} {ea : List EA} {w w' : World} {S : SV} {tmps : Array Value} {Pr : Program} {a : Act} {call : zX}
def zQk (w : World) (a : Value) (n : Nat) (vs : List Value) : Prop :=
 ∃ A cap, a = .slice A n cap ∧ n ≤ cap ∧ (n = 0 ∨ ∃ ad, A = some ad ∧ ad.spot = none ∧ vM w ad.block ad.off vs)
theorem oJ {b o : Nat} {cur : Array Value} {e : TypeId} {vs : List Value} (hh : w.heap[b]? = some (.cells cur e (0, 0))) (hv : ∀ (j : Nat) (v : Value), vs[j]? = some v → cur[o + j]? = some v) : vM w b o vs := by
 intro j v hj
 simp only [World.cell?, hh, Option.isSome_none, Bool.false_eq_true, if_false]
 exact hv j v hj
theorem kX.seq {v : Value} {sz n : Nat} {vs : List Value} (h : kX w v sz n vs) : zQk w v n vs := by
 rcases h with ⟨rfl, rfl⟩ | ⟨b, o, cur, e, ⟨ad, cap, rfl, h1, h2, rfl, h3⟩, hh, hv⟩
 ·exact ⟨none, 0, rfl, Nat.le_refl _, .inl rfl⟩
 ·refine ⟨some ad, cap, rfl, h1, ?_⟩
  by_cases hn : n = 0
  ·exact .inl hn
  ·obtain ⟨rfl, _⟩ := h3.resolve_left (by omega)
   exact .inr ⟨ad, rfl, h2, oJ hh hv⟩
theorem sK.seq {R : Nat → Prop} {v : Value} {n : Nat} {vs : List Value} (h : sK w R v n vs) : zQk w v n vs := by
 obtain ⟨A, cap, rfl, h1, h2⟩ := h
 exact ⟨A, cap, rfl, h1, h2.imp id fun ⟨ad, e1, e2, _, e4⟩ => ⟨ad, e1, e2, e4⟩⟩
theorem kX.shr {R' : Nat → Prop} {v : Value} {sz n : Nat} {vs : List Value} (h : kX w v sz n vs) (hR : ∀ b ∈ hdr v, R' b) : sK w R' v n vs := by
 rcases h with ⟨rfl, rfl⟩ | ⟨b, o, cur, e, ⟨ad, cap, rfl, h1, h2, rfl, h3⟩, hh, hv⟩
 ·exact ⟨none, 0, rfl, Nat.le_refl _, .inl rfl⟩
 ·refine ⟨some ad, cap, rfl, h1, ?_⟩
  by_cases hn : n = 0
  ·exact .inl hn
  ·obtain ⟨rfl, _⟩ := h3.resolve_left (by omega)
   exact .inr ⟨ad, rfl, h2, hR _ (by simp [hdr]), oJ hh hv⟩
theorem iX {r : Root} {p : List Nat} {i off sz n : Nat} {v : Value} (h : Rel isv w0 E0 P R ea w S tmps) (hb : wD S r p i off sz n v) (hsz : 0 < sz) :
  ∃ b m ds, at_ S r p i = some (.t (.sl b 0 sz m ds)) ∧ off + n * sz ≤ ds.length ∧ xP w P R ds ∧ kX w v sz n (((ds.drop off).take (n * sz)).map zV) ∧ (∀ k ∈ hdr v, k ∈ hdr b) := by
 obtain ⟨b, m, ds, hat, hl, hh⟩ := hb
 have hok := h.at_ok hat
 simp only [okC, okT, if_true] at hok
 obtain ⟨h1, h2, h3⟩ := hok
 refine ⟨b, m, ds, hat, hl, h2, ?_⟩
 rcases hh with ⟨rfl, rfl, rfl⟩ | ⟨ad, cap, rfl, ad2, cap2, rfl, k1, k2, k3, k4⟩
 ·exact ⟨.inl ⟨rfl, rfl⟩, fun k hk => hk⟩
 ·refine ⟨?_, by simp [hdr, k3]⟩
  rcases h3 with ⟨h3, _⟩ | ⟨b', o, cur, e, ⟨ad', cap', h3, l1, l2, rfl, l3⟩, hh, hv⟩
  ·cases h3
  ·simp only [Value.slice.injEq, Option.some.injEq, true_and] at h3
   obtain ⟨rfl, rfl⟩ := h3
   by_cases hc : cap = 0
   ·have hm : m = 0 := by omega
    subst hm
    simp only [Nat.zero_mul] at h1
    have hn : n = 0 := by
     rcases Nat.eq_zero_or_pos n with h0 | h0
     ·exact h0
     ·have := Nat.mul_pos h0 hsz; omega
    have hc2 : cap2 = 0 := by
     rcases Nat.eq_zero_or_pos cap2 with h0 | h0
     ·exact h0
     ·exfalso
      obtain ⟨_, k5⟩ := k4.resolve_left (by omega)
      have := Nat.mul_pos h0 hsz
      rw [hc, Nat.zero_mul] at k5
      omega
    refine .inr ⟨ad.block, 0, cur, e, ⟨ad2, cap2, rfl, k1, k2, k3, .inl hc2⟩, hh, ?_⟩
    intro j v hj
    rw [hn] at hj
    simp at hj
   ·obtain ⟨rfl, l4⟩ := l3.resolve_left hc
    refine .inr ⟨ad.block, ad.off + off, cur, e, ⟨ad2, cap2, rfl, k1, k2, k3, k4.imp id fun ⟨e1, e2⟩ => ⟨e1, by omega⟩⟩, hh, ?_⟩
    intro j v hj
    rw [Nat.add_assoc]
    apply hv
    rw [List.getElem?_map, List.getElem?_take] at hj
    rw [List.getElem?_map]
    split at hj
    ·rwa [List.getElem?_drop] at hj
    ·cases hj
theorem zOg : ∀ {p : List Nat} {cs ds : List TV}, sub cs p = some ds → ∀ b ∈ zZ ds, b ∈ zZ cs
 | [], cs, ds, hs, b, hb => by simp only [sub, Option.some.injEq] at hs; exact hs ▸ hb
 | i :: p, cs, ds, hs, b, hb => by
  simp only [sub] at hs
  split at hs
  ·rename_i v sz n es heq
   have := zOg hs b hb
   rw [xD, List.mem_flatMap]
   exact ⟨_, List.mem_of_getElem? heq, by simp [zU, this]⟩
  ·cases hs
theorem zTf {p : List Nat} {cs ds : List CV} (hs : y9 cs p = some ds) : ∀ b ∈ zH ds, b ∈ zH cs := by
 intro b hb
 cases p with
 | nil => simp only [y9, Option.some.injEq] at hs; exact hs ▸ hb
 | cons i p =>
  simp only [y9] at hs
  split at hs
  ·rename_i v sz n es heq
   cases hf : sub es p with
   | none => simp [hf] at hs
   | some fs =>
    simp only [hf, Option.map_some, Option.some.injEq] at hs
    subst hs
    rw [show fs.map C.t = fs.map (C.t : TV → CV) from rfl, zMr] at hb
    have := zOg hf b hb
    rw [yW, List.mem_flatMap]
    exact ⟨_, List.mem_of_getElem? heq, by simp [zP, zU, this]⟩
  ·cases hs
theorem pA : ∀ {xs : List XV}, ∀ b ∈ zH (zT xs), b ∈ xA xs
 | [], b, hb => by simp [zT, zH] at hb
 | x :: xs, b, hb => by
  simp only [xA, List.mem_append]
  cases x with
  | c x =>
   simp only [zT, zH, List.mem_append] at hb
   exact hb.imp (fun h => by simpa [zE] using h) (pA b)
  | agg cs =>
   simp only [zT, kL, List.mem_append] at hb
   exact hb.imp (fun h => by simpa [zE] using h) (pA b)
  | _ => exact .inr (pA b (by simpa [zT] using hb))
theorem zSv {r : Root} {cs : List CV} (hr : zA S r = some cs) : ∀ b ∈ zH cs, b ∈ zL S ea r := by
 intro b hb
 cases r with
 | sl d =>
  simp only [zA] at hr
  simp only [zL]
  cases hs : S.s d with
  | undef => simp [hs] at hr
  | c x => simp only [hs, Option.some.injEq] at hr; subst hr; simpa [zE, zH] using hb
  | agg xs => simp only [hs, Option.some.injEq] at hr; subst hr; simpa [zE] using hb
  | box v xs => simp only [hs, Option.some.injEq] at hr; subst hr; simp [zE, hb]
  | tup xs => simp only [hs, Option.some.injEq] at hr; subst hr; simpa [zE] using pA b hb
 | ex j => exact rI hr hb
theorem zKd {r : Root} {p : List Nat} {i : Nat} {c : CV} (hat : at_ S r p i = some c) : ∀ b ∈ zP c, b ∈ zL S ea r := by
 intro b hb
 simp only [at_] at hat
 cases hr : zA S r with
 | none => simp [hr] at hat
 | some cs =>
  simp only [hr, Option.bind_some] at hat
  cases hs : y9 cs p with
  | none => simp [hs] at hat
  | some ds =>
   simp only [hs, Option.bind_some] at hat
   refine zSv hr b (zTf hs b ?_)
   rw [yW, List.mem_flatMap]
   exact ⟨c, List.mem_of_getElem? hat, hb⟩
theorem zSr (h : Rel isv w0 E0 P R ea w S tmps) {c : CV} (hok : okC w P R S ea c) {n : Nat} {cs : List TU} (hq : uC (V.erS S) (erC c) = some (1, n, cs)) :
  ∃ ds : List TV, ds.map erT = cs ∧ ds.length = n ∧ zQk w (zJ c) n (ds.map zV) := by
 cases c with
 | t x =>
  cases x with
  | sl v tag sz m ds =>
   simp only [erC, zI, yA, yO, uC, Option.some.injEq, Prod.mk.injEq] at hq
   obtain ⟨rfl, rfl, rfl⟩ := hq
   simp only [okC, okT] at hok
   obtain ⟨h1, h2, h3⟩ := hok
   refine ⟨ds, rfl, by omega, ?_⟩
   simp only [zJ, zV]
   split at h3
   ·exact h3.seq
   ·exact h3.1.seq
  | _ => simp [erC, zI, yA, uC] at hq
 | bor v r p i off sz m =>
  simp only [erC, zI, uC, V.erS, rT] at hq
  cases hl : x6 S r p i off (m * sz) with
  | none => simp [hl] at hq
  | some ds =>
   simp only [hl, Option.map_some, Option.some.injEq, Prod.mk.injEq] at hq
   obtain ⟨rfl, rfl, rfl⟩ := hq
   simp only [okC] at hok
   obtain ⟨b, m', es, hat, hle, h2, h3, _⟩ := iX h hok Nat.one_pos
   simp only [x6, hat] at hl
   rw [if_pos hle] at hl
   simp only [Option.some.injEq] at hl
   subst hl
   exact ⟨_, rfl, by rw [List.length_take, List.length_drop]; omega, h3.seq⟩
 | _ => simp [erC, zI, uC] at hq
theorem eU : ∀ {ds : List TV} {bs : List UInt8}, vL (ds.map erT) = some bs → ∃ ns : List Int, ds.map zV = ns.map (Value.int .u8) ∧ ns.map (fun n => UInt8.ofNat n.toNat) = bs
 | [], bs, h => by simp only [List.map_nil, vL, Option.some.injEq] at h; subst h; exact ⟨[], rfl, rfl⟩
 | x :: xs, bs, h => by
  simp only [List.map_cons, vL] at h
  cases hb : zFv (erT x) with
  | none => simp [hb] at h
  | some b =>
   simp only [hb, Option.bind_some] at h
   cases hr : vL (xs.map erT) with
   | none => rw [hr] at h; simp at h
   | some cs =>
    rw [hr] at h
    simp only [Option.map_some, Option.some.injEq] at h
    subst h
    obtain ⟨ns, h1, h2⟩ := eU hr
    unfold zFv at hb
    split at hb
    ·rename_i n heq
     have := mY heq
     subst this
     simp only [Option.some.injEq] at hb
     subst hb
     exact ⟨n :: ns, by simp [h1, zV], by simp [h2, Nat.toUInt8]⟩
    ·cases hb
theorem zAs : ∀ (ns : List Int) (s : ByteArray), (ns.foldl (fun r n => r.push (UInt8.ofNat n.toNat)) s).data.toList = s.data.toList ++ ns.map (fun n => UInt8.ofNat n.toNat)
 | [], s => by simp
 | n :: ns, s => by
  rw [List.foldl_cons, zAs ns]
  simp [ByteArray.push]
theorem zKk (hty : jB Pr cx.ty) (h : Rel (zB cx f) w0 E0 P R ea w S tmps) (ha : a.tmps = tmps) {o : Oper} {src dst : Nat} {x : Operand} (ho : o.op = .convert src dst x) {z : XU} {Su : SU}
  (hq : qval cx f call (V.erS S) o.type (.convert src dst x) = some (z, Su)) : QOk cx f w0 E0 P R ea w tmps Pr a o z Su := by
 simp only [qval] at hq
 split at hq
 ·rename_i A hA
  obtain ⟨aG, haG, hav, haok, _⟩ := kA h ha hA
  cases hz : mH (cx.ty src).ok (jC cx src) (jC cx dst) (V.erS S) A with
  | none => simp [hz] at hq
  | some z' =>
   simp only [hz, Option.map_some, Option.some.injEq, Prod.mk.injEq] at hq
   obtain ⟨rfl, rfl⟩ := hq
   have fin : ∀ t : TU, z' = .t t → lU t = true → (convert src dst (a.eval x)).run Pr w = .ok (zV (jA t)) w → QOk cx f w0 E0 P R ea w tmps Pr a o (.c z') (V.erS S) := by
    intro t ht hs hr
    subst ht
    refine ⟨w, S, _, QRes.scal h hs, ?_⟩
    simp [execOp, ho, hr, zQ, zJ]
   have hstr : jC cx dst = 3 → Pr.underlying dst = some .string := by
    intro hk
    obtain ⟨d, hd, hkd⟩ := xV hty (t := dst) (by omega) hk
    cases d <;> simp [j5] at hkd
    exact hd
   unfold mH at hz
   split at hz
   ·obtain ⟨u, rfl, hu⟩ := k9 haG
    have := mY hu; subst this
    simp only [zJ, zV] at hav
    rw [hav] at fin
    split at hz
    ·rename_i hso
     obtain ⟨ti, d, zz, hf⟩ := hty.facts hso
     split at hz
     ·rename_i hk
      obtain ⟨d', hd', hkd⟩ := xV hty (t := dst) (by omega) hk
      have : d' = .int .i64 := by
       unfold j5 at hkd
       split at hkd <;> simp_all
       all_goals (split at hkd <;> simp_all)
      subst this
      simp only [Option.some.injEq] at hz
      exact fin _ hz.symm rfl (by simp [convert, run_underlying hf.und, run_underlying hd', Conv.intToInt, jA, zV])
     ·rename_i hk
      obtain ⟨d', hd', hkd⟩ := xV hty (t := dst) (by omega) hk
      have : d' = .int .u8 := by
       unfold j5 at hkd
       split at hkd <;> simp_all
       all_goals (split at hkd <;> simp_all)
      subst this
      simp only [Option.some.injEq] at hz
      exact fin _ hz.symm rfl (by simp [convert, run_underlying hf.und, run_underlying hd', Conv.intToInt, jA, zV])
     ·cases hz
    ·cases hz
   ·obtain ⟨u, rfl, hu⟩ := k9 haG
    have := aS hu; subst this
    simp only [zJ, zV] at hav
    rw [hav] at fin
    split at hz
    ·rename_i hc
     obtain ⟨ti, d, zz, hf⟩ := hty.facts hc.1
     simp only [Option.some.injEq] at hz
     exact fin _ hz.symm rfl (by simp [convert, run_underlying hf.und, run_underlying (hstr hc.2), jA, zV])
    ·cases hz
   ·split at hz
    ·rename_i hk
     obtain ⟨hk1, hk2⟩ := hk
     cases hr : uC (V.erS S) A with
     | none => rw [hr] at hz; simp at hz
     | some q =>
      obtain ⟨sz, n, cs⟩ := q
      rw [hr] at hz
      simp only [Option.bind_some] at hz
      split at hz
      ·rename_i hsz
       subst hsz
       cases hb : vL cs with
       | none => rw [hb] at hz; simp at hz
       | some bs =>
        rw [hb] at hz
        simp only [Option.map_some, Option.some.injEq] at hz
        rw [← haG] at hr
        obtain ⟨ds, rfl, hl, A', cap, hv, hcap, hor⟩ := zSr h haok hr
        obtain ⟨ns, n1, n2⟩ := eU hb
        obtain ⟨d', hd', hkd⟩ := xV hty (t := src) (by omega) hk2
        obtain ⟨e, rfl, he⟩ : ∃ e, d' = .slice e ∧ Pr.underlying e = some (.int .u8) := by
         cases d' <;> simp [j5] at hkd
         rename_i e
         refine ⟨e, rfl, ?_⟩
         split at hkd
         ·rename_i heq; exact heq
         ·cases hkd
        refine fin _ hz.symm rfl ?_
        rw [hav, hv, run_convert_bytes_string w src dst e A' n cap hd' he (hstr hk1)]
        have hnl : ns.length = n := by
         have := congrArg List.length n1
         simp only [List.length_map] at this
         omega
        cases A' with
        | none =>
         have hn0 : n = 0 := hor.elim id fun ⟨ad, h', _⟩ => by cases h'
         have : ns = [] := List.length_eq_zero_iff.1 (by omega)
         subst this
         simp only [List.map_nil] at n2
         subst n2
         simp [Conv.bytesToString, jA, zV]
         rfl
        | some ad =>
         rw [run_bytesToString w ad n cap ns]
         ·congr 1
          simp only [jA, zV, Value.string.injEq]
          apply ByteArray.ext
          apply Array.ext'
          rw [zAs, n2]
          simp
         ·rw [← n1, ← hl, ← List.length_map (f := zV)]
          refine run_loadCells_list w _ _ ?_
          intro j v hj
          rcases hor with h0 | ⟨ad', e1, e2, e3⟩
          ·have : ds = [] := List.length_eq_zero_iff.1 (by omega)
           subst this
           simp at hj
          ·simp only [Option.some.injEq] at e1
           subst e1
           rw [uG e2]
           exact e3 j v hj
      ·cases hz
    ·cases hz
 ·cases hq
end
end Go.Proofs.YtlkjnlfddadlmaaGreatDoor.V
namespace Go.Proofs.YtlkjnlfddadlmaaGreatDoor.V
open Go.RowKit
def yR (R' : Nat → Prop) (P : Nat → Nat → Prop) : Nat → Nat → Prop
 | 0, _ => False
 | 1, b => R' b
 | t + 2, b => P (t + 1) b
def sJ (w : World) (P : Nat → Nat → Prop) (R : Nat → Prop) (c : CV) : Prop := (∀ S ea, okC w P R S ea c) ∧ zP c = [] ∧ zF c = []
theorem zB8 : ∀ xs : List TV, (yD xs).length = xs.length
 | [] => rfl
 | x :: xs => by simp [yD, zB8 xs]
theorem mB : ∀ xs : List TV, (yD xs).map zV = xs.map zV
 | [] => rfl
 | x :: xs => by
  simp only [yD, List.map_cons, mB xs]
  cases x <;> rfl
section
variable {cx : Ctx} {f : Nat} {isv : Nat → Bool} {w0 : World} {E0 : Nat → Prop} {P : Nat → Nat → Prop} {R R' : Nat → Prop} {ea : List EA} {w w' : World} {S : SV} {tmps : Array Value} {Pr : Program} {a : Act} {call : zX}
mutual
theorem zB7 (hR : ∀ b, R b → R' b) : ∀ {x : TV}, okT w P R x → (∀ b ∈ zU x, R' b) → okT w (yR R' P) R' (retag x) ∧ shT 1 (retag x) ∧ zV (retag x) = zV x ∧ ∀ g, 1 ≤ g → shT g x → shT (g + 1) (retag x)
 | .sl v tag sz n cs, h, hb => by
  simp only [okT] at h
  obtain ⟨h1, h2, h3⟩ := h
  simp only [zU] at hb
  have hv : (yD cs).length = cs.length ∧ (yD cs).map zV = cs.map zV := ⟨zB8 cs, mB cs⟩
  by_cases ht : tag = 0
  ·subst ht
   simp only [if_true] at h3 hb
   obtain ⟨k1, k2, k3⟩ := hH hR h2 (fun b h => hb b (List.mem_append_right _ h))
   simp only [retag, Nat.zero_add]
   refine ⟨?_, ?_, rfl, ?_⟩
   ·simp only [okT, Nat.succ_ne_zero, if_false]
    exact ⟨by rw [hv.1]; exact h1, k1, by rw [hv.2]; exact h3.shr (fun b h => hb b (List.mem_append_left _ h)), Nat.le_refl _, k2⟩
   ·simp only [shT]; exact ⟨Nat.le_refl _, Nat.le_refl _, k2⟩
   ·intro g hg hs
    simp only [shT] at hs
    omega
  ·simp only [if_neg ht] at h3
   obtain ⟨h3, h4, h5⟩ := h3
   obtain ⟨k1, k2, k3⟩ := hH hR h2 (fun b hb' => by
    rw [sQ fun x hx => d9 (xU.1 h5 x hx)] at hb'
    simp at hb')
   simp only [retag]
   refine ⟨?_, ?_, rfl, ?_⟩
   ·simp only [okT, Nat.succ_ne_zero, if_false]
    refine ⟨by rw [hv.1]; exact h1, k1, ?_, by omega, k3 tag h4 h5⟩
    rw [hv.2]
    have : yR R' P (tag + 1) = P tag := by
     cases tag with
     | zero => exact absurd rfl ht
     | succ m => rfl
    rw [this]
    exact h3
   ·simp only [shT]
    exact ⟨by omega, by omega, zOd (by omega) (k3 tag h4 h5)⟩
   ·intro g hg hs
    simp only [shT] at hs ⊢
    exact ⟨by omega, by omega, k3 g hg hs.2.2⟩
 | .int _ _, _, _ => by simp [retag, okT, shT]
 | .bool _, _, _ => by simp [retag, okT, shT]
 | .str _, _, _ => by simp [retag, okT, shT]
 | .dead v, h, _ => by simp only [okT] at h; simp [retag, okT, shT, h]
 | .nili, _, _ => by simp [retag, okT, shT]
 | .ifc v, h, _ => by simp only [okT] at h; simp [retag, okT, shT, h]
theorem hH (hR : ∀ b, R b → R' b) : ∀ {xs : List TV}, xP w P R xs → (∀ b ∈ zZ xs, R' b) → xP w (yR R' P) R' (yD xs) ∧ qZ 1 (yD xs) ∧ ∀ g, 1 ≤ g → qZ g xs → qZ (g + 1) (yD xs)
 | [], _, _ => by simp [yD, xP, qZ]
 | x :: xs, h, hb => by
  simp only [xP, zZ] at h hb
  obtain ⟨k1, k2, k3, k4⟩ := zB7 hR h.1 (fun b h => hb b (List.mem_append_left _ h))
  obtain ⟨l1, l2, l3⟩ := hH hR h.2 (fun b h => hb b (List.mem_append_right _ h))
  simp only [yD, xP, qZ]
  exact ⟨⟨k1, l1⟩, ⟨k2, l2⟩, fun g hg hs => ⟨k4 g hg hs.1, l3 g hg hs.2⟩⟩
end
theorem zI6 (x : TV) : erT (retag x) = retag (erT x) := (cO er0 x).symm
theorem zPr (xs : List TV) : (yD xs).map erT = yD (xs.map erT) := by
 have := sA er0 xs
 simp only [yO] at this
 exact this.symm
theorem sJ.t {x : TV} (h : okT w P R x) (hs : shT 1 x) : sJ w P R (.t x) := ⟨fun _ _ => by simpa [okC] using h, by simpa [zP] using d9 hs, rfl⟩
mutual
theorem zCk (h : Rel isv w0 E0 P R ea w S tmps) (hR : ∀ b, R b → R' b) : ∀ {c : CV} {d : CU}, okC w P R S ea c → (∀ b ∈ zP c, R' b) → (∀ r ∈ zF c, ∀ b ∈ zL S ea r, R' b) → qH (V.erS S) (erC c) = some d →
  ∃ cG, erC cG = d ∧ zJ cG = zJ c ∧ sJ w (yR R' P) R' cG ∧ ∀ y, cG = .t y → shT 1 y
 | .t x, d, hok, hb, _, hq => by
  simp only [erC, zI, qH, Option.some.injEq] at hq
  subst hq
  simp only [okC, zP] at hok hb
  obtain ⟨k1, k2, k3, _⟩ := zB7 hR hok hb
  exact ⟨.t (retag x), by simp [erC, zI]; exact zI6 x, by simp [zJ, k3], .t k1 k2, fun y hy => by cases hy; exact k2⟩
 | .ptr v r p off, d, _, _, _, hq => by simp [erC, zI, qH] at hq
 | .bor v r p i off sz n, d, hok, _, hr, hq => by
  simp only [erC, zI, qH] at hq
  split at hq
  ·rename_i hsz
   simp only [V.erS, rT] at hq
   cases hl : x6 S r p i off (n * sz) with
   | none => simp [hl] at hq
   | some ds =>
    simp only [hl, Option.map_some, Option.some.injEq] at hq
    subst hq
    simp only [okC] at hok
    obtain ⟨b, m, es, hat, hle, h2, h3, h4⟩ := iX h hok hsz
    simp only [x6, hat] at hl
    rw [if_pos hle] at hl
    simp only [Option.some.injEq] at hl
    subst hl
    have hroot : ∀ k, k ∈ zU (.sl b 0 sz m es) → R' k := fun k hk => hr r (by simp [zF]) k (zKd (ea := ea) hat k (by simpa [zP] using hk))
    have hown : okT w P R (.sl v 0 sz n ((es.drop off).take (n * sz))) := by
     simp only [okT, if_true]
     exact ⟨by rw [List.length_take, List.length_drop]; omega, fU (u9 h2), h3⟩
    obtain ⟨k1, k2, k3, _⟩ := zB7 hR hown (by
     intro k hk
     simp only [zU, if_true, List.mem_append] at hk
     refine hroot k ?_
     simp only [zU, if_true, List.mem_append]
     rcases hk with hk | hk
     ·exact .inl (h4 k hk)
     ·refine .inr ?_
      rw [xD, List.mem_flatMap] at hk ⊢
      obtain ⟨y, hy, hk⟩ := hk
      exact ⟨y, List.mem_of_mem_drop (List.mem_of_mem_take hy), hk⟩)
    refine ⟨.t (retag (.sl v 0 sz n ((es.drop off).take (n * sz)))), ?_, by simp only [zJ]; rw [k3]; rfl, .t k1 k2, fun y hy => by cases hy; exact k2⟩
    simp only [erC, zI, C.t.injEq]
    rw [show yA er0 (retag (T.sl v 0 sz n ((es.drop off).take (n * sz)))) = retag (erT (T.sl v 0 sz n ((es.drop off).take (n * sz)))) from zI6 _]
    simp [yA, yO, retag, er0]
  ·cases hq
 | .rptr v cs, d, hok, _, _, hq => by
  simp only [erC, zI, qH, Option.some.injEq] at hq
  subst hq
  simp only [okC] at hok
  obtain ⟨h1, h2, ad, h3, h4, h5⟩ := hok
  obtain ⟨k1, k2, k3⟩ := hH hR h1 (fun b hb => by
   rw [sQ fun x hx => d9 (xU.1 h2 x hx)] at hb
   simp at hb)
  refine ⟨.rptr v (yD cs), by simp [erC, zI, yO, er0]; exact zPr cs, rfl, ⟨fun _ _ => ?_, rfl, rfl⟩, fun y hy => by cases hy⟩
  simp only [okC]
  refine ⟨k1, k2, ad, h3, h4, h5.imp (fun e => by subst e; rfl) fun e => ⟨hR _ e.1, by rw [mB]; exact e.2⟩⟩
 | .nilp, d, _, _, _, hq => by
  simp only [erC, zI, qH, Option.some.injEq] at hq
  subst hq
  exact ⟨.nilp, rfl, rfl, ⟨fun _ _ => by simp [okC], rfl, rfl⟩, fun y hy => by cases hy⟩
 | .nilf, d, _, _, _, hq => by
  simp only [erC, zI, qH, Option.some.injEq] at hq
  subst hq
  exact ⟨.nilf, rfl, rfl, ⟨fun _ _ => by simp [okC], rfl, rfl⟩, fun y hy => by cases hy⟩
 | .fn g [], d, _, _, _, hq => by
  simp only [erC, zI, yY, qH, Option.some.injEq] at hq
  subst hq
  exact ⟨.fn g [], rfl, rfl, ⟨fun _ _ => by simp [okC, yF, zH], rfl, rfl⟩, fun y hy => by cases hy⟩
 | .fn g (c :: cs), d, _, _, _, hq => by simp [erC, zI, yY, qH] at hq
 | .lst v sz n cs, d, hok, hb, hr, hq => by
  simp only [erC, zI, zR, qH] at hq
  simp only [okC, zP, zF] at hok hb hr
  obtain ⟨h1, h2, h3⟩ := hok
  cases hs : jK (V.erS S) (cs.map erC) with
  | none => rw [show cs.map (zI er0) = cs.map erC from rfl, hs] at hq; simp at hq
  | some ds =>
   rw [show cs.map (zI er0) = cs.map erC from rfl, hs] at hq
   simp only [Option.bind_some] at hq
   obtain ⟨es, e1, e2, e3⟩ := oA h hR h2 (fun b h => hb b (List.mem_append_right _ h)) hr hs
   cases ht : mQ ds with
   | none => rw [ht] at hq; simp at hq
   | some ts =>
    rw [ht] at hq
    simp only [Option.map_some, Option.some.injEq] at hq
    subst hq
    rw [← e1] at ht
    obtain ⟨us, rfl, rfl⟩ := zE6 ht
    have hu : ∀ u ∈ us, okT w (yR R' P) R' u ∧ shT 1 u := by
     intro u hu
     obtain ⟨k1, k2⟩ := e3 (.t u) (List.mem_map.2 ⟨u, hu, rfl⟩)
     exact ⟨by simpa [okC] using k1.1 S ea, k2 u rfl⟩
    have hsh : shT 1 (.sl v 1 sz n us : TV) := by
     simp only [shT]; exact ⟨Nat.le_refl _, Nat.le_refl _, xU.2 fun u h => (hu u h).2⟩
    refine ⟨.t (.sl v 1 sz n us), by simp [erC, zI, yA, yO, er0], rfl, .t ?_ hsh, fun y hy => by cases hy; exact hsh⟩
    simp only [okT, Nat.succ_ne_zero, if_false]
    have hlen : us.length = cs.length := by
     have := congrArg List.length e2
     simpa using this
    refine ⟨by omega, yJ.2 fun u h => (hu u h).1, ?_, Nat.le_refl _, xU.2 fun u h => (hu u h).2⟩
    have hval : us.map zV = yC cs := by
     rw [z8, ← e2, List.map_map]; rfl
    rw [hval]
    exact h3.shr (fun b h => hb b (List.mem_append_left _ h))
theorem oA (h : Rel isv w0 E0 P R ea w S tmps) (hR : ∀ b, R b → R' b) : ∀ {cs : List CV} {ds : List CU}, yF w P R S ea cs → (∀ b ∈ zH cs, R' b) → (∀ r ∈ zK cs, ∀ b ∈ zL S ea r, R' b) → jK (V.erS S) (cs.map erC) = some ds →
  ∃ es : List CV, es.map erC = ds ∧ es.map zJ = cs.map zJ ∧ ∀ e ∈ es, sJ w (yR R' P) R' e ∧ ∀ y, e = .t y → shT 1 y
 | [], ds, _, _, _, hq => by
  simp only [List.map_nil, jK, Option.some.injEq] at hq
  subst hq
  exact ⟨[], rfl, rfl, by simp⟩
 | c :: cs, ds, hok, hb, hr, hq => by
  simp only [yF, zH, zK] at hok hb hr
  simp only [List.map_cons, jK] at hq
  cases h1 : qH (V.erS S) (erC c) with
  | none => rw [h1] at hq; simp at hq
  | some d =>
   rw [h1] at hq
   simp only [Option.bind_some] at hq
   cases h2 : jK (V.erS S) (cs.map erC) with
   | none => rw [h2] at hq; simp at hq
   | some es =>
    rw [h2] at hq
    simp only [Option.map_some, Option.some.injEq] at hq
    subst hq
    obtain ⟨cG, k1, k2, k3, k4⟩ := zCk h hR hok.1 (fun b h => hb b (List.mem_append_left _ h)) (fun r h => hr r (List.mem_append_left _ h)) h1
    obtain ⟨gs, l1, l2, l3⟩ := oA h hR hok.2 (fun b h => hb b (List.mem_append_right _ h)) (fun r h => hr r (List.mem_append_right _ h)) h2
    refine ⟨cG :: gs, by simp [k1, l1], by simp [k2, l2], ?_⟩
    intro e he
    rcases List.mem_cons.1 he with rfl | he
    ·exact ⟨k3, k4⟩
    ·exact l3 e he
end
def oG (w : World) (P : Nat → Nat → Prop) (R : Nat → Prop) (x : XV) : Prop := (∀ S ea, okX w P R S ea x) ∧ zE x = [] ∧ zD x = []
theorem sJ.x {c : CV} (h : sJ w P R c) : oG w P R (.c c) := ⟨fun S ea => by simpa [okX] using h.1 S ea, by simpa [zE] using h.2.1, by simpa [zD] using h.2.2⟩
theorem sJ.agg {cs : List CV} (h : ∀ c ∈ cs, sJ w P R c) : oG w P R (.agg cs) := by
 refine ⟨fun S ea => by simp only [okX]; exact zY.2 fun c hc => (h c hc).1 S ea, ?_, ?_⟩
 ·simp only [zE]; rw [yW, List.flatMap_eq_nil_iff]; exact fun c hc => (h c hc).2.1
 ·simp only [zD]; rw [yI, List.flatMap_eq_nil_iff]; exact fun c hc => (h c hc).2.2
theorem zS8 (h : Rel isv w0 E0 P R ea w S tmps) (hR : ∀ b, R b → R' b) {x : XV} {y : XU} (hok : okX w P R S ea x) (hb : ∀ b ∈ zE x, R' b) (hr : ∀ r ∈ zD x, ∀ b ∈ zL S ea r, R' b) (hq : bV (V.erS S) (erX x) = some y) :
  ∃ yG, erX yG = y ∧ zQ yG = zQ x ∧ oG w (yR R' P) R' yG := by
 cases x with
 | c c =>
  simp only [erX, zW, bV] at hq
  simp only [okX, zE, zD] at hok hb hr
  cases hs : qH (V.erS S) (erC c) with
  | none => rw [show zI er0 c = erC c from rfl, hs] at hq; simp at hq
  | some d =>
   rw [show zI er0 c = erC c from rfl, hs] at hq
   simp only [Option.map_some, Option.some.injEq] at hq
   subst hq
   obtain ⟨cG, k1, k2, k3, _⟩ := zCk h hR hok hb hr hs
   exact ⟨.c cG, by simp [erX, zW]; exact k1, by simp [zQ, k2], k3.x⟩
 | agg cs =>
  simp only [erX, zW, zR, bV] at hq
  simp only [okX, zE, zD] at hok hb hr
  cases hs : jK (V.erS S) (cs.map erC) with
  | none => rw [show cs.map (zI er0) = cs.map erC from rfl, hs] at hq; simp at hq
  | some ds =>
   rw [show cs.map (zI er0) = cs.map erC from rfl, hs] at hq
   simp only [Option.map_some, Option.some.injEq] at hq
   subst hq
   obtain ⟨es, k1, k2, k3⟩ := oA h hR hok hb hr hs
   exact ⟨.agg es, by simp [erX, zW, zR]; exact k1, by simp [zQ, z8, k2], sJ.agg fun c hc => (k3 c hc).1⟩
 | _ => simp [erX, zW, bV] at hq
theorem Rel.roots_lt (h : Rel isv w0 E0 P R ea w S tmps) {x : XV} : ∀ r ∈ zD x, ∀ b ∈ zL S ea r, b < w.heap.size := fun r _ b hb => h.lt r b hb
theorem iJ (h : Rel (zB cx f) w0 E0 P R ea w S tmps) (ha : a.tmps = tmps) : ∀ {os : List Operand} {ts : List Nat} {xs : List XU}, q5 cx f (V.erS S) os ts = some xs →
  ∃ ys : List XV, ys.map erX = xs ∧ ys.map zQ = os.map a.eval ∧ ∀ y ∈ ys, oG w (yR (· < w.heap.size) P) (· < w.heap.size) y
 | [], ts, xs, hq => by
  simp only [q5, Option.some.injEq] at hq
  subst hq
  exact ⟨[], rfl, rfl, by simp⟩
 | o :: os, ts, xs, hq => by
  simp only [q5] at hq
  cases hx : opv cx f (V.erS S) (ts.head?.getD 0) o with
  | none => simp [hx] at hq
  | some x =>
   simp only [hx, Option.bind_some] at hq
   cases hs : bV (V.erS S) x with
   | none => simp [hs] at hq
   | some y =>
    simp only [hs, Option.bind_some] at hq
    cases hr : q5 cx f (V.erS S) os ts.tail with
    | none => simp [hr] at hq
    | some zs =>
     simp only [hr, Option.map_some, Option.some.injEq] at hq
     subst hq
     obtain ⟨xG, hxG⟩ := h.opv ha hx
     rw [← hxG.er] at hs
     obtain ⟨yG, k1, k2, k3⟩ := zS8 h (R' := (· < w.heap.size)) h.ltR hxG.ok (fun b hb => by obtain ⟨r, hr⟩ := hxG.src b hb; exact h.lt r b hr) h.roots_lt hs
     obtain ⟨ys, l1, l2, l3⟩ := iJ h ha hr
     refine ⟨yG :: ys, by simp [k1, l1], by simp [k2, l2, hxG.val], ?_⟩
     intro y hy
     rcases List.mem_cons.1 hy with rfl | hy
     ·exact k3
     ·exact l3 y hy
end
end Go.Proofs.YtlkjnlfddadlmaaGreatDoor.V
namespace Go.Proofs.YtlkjnlfddadlmaaGreatDoor.V
open Go.RowKit
abbrev In (w : World) (E : Nat → Prop) (P : Nat → Nat → Prop) (R : Nat → Prop) (ea : List EA) (args : List XV) (ext : List (List CV)) : Prop :=
 Rel (fun _ => false) w E P R ea w ⟨y6 args, ext⟩ (args.map zQ).toArray
abbrev Out (w : World) (E : Nat → Prop) (P : Nat → Nat → Prop) (R : Nat → Prop) (ea : List EA) (w' : World) (res : XV) (ext : List (List CV)) : Prop :=
 Rel (fun _ => false) w E P R ea w' ⟨upd (fun _ => .undef) 0 res, ext⟩ #[zQ res]
def bF (Pr : Program) (g : Nat) : Prop := ∀ args w, (callFunc g args).run Pr w = .ok (.enter g args) w
def lH (Pr : Program) (call : zX) (w0 : World) (E0 : Nat → Prop) : Prop :=
 ∀ g args ext res ext', call g args ext = some (res, ext') → bF Pr g ∧
  ∀ (w : World) (E : Nat → Prop) (P : Nat → Nat → Prop) (R : Nat → Prop) (ea : List EA) (argsG : List XV) (extG : List (List CV)), Frm E0 w0 w → (∀ b, E b → E0 b ∨ w0.heap.size ≤ b) → argsG.map erX = args → extG.map (·.map erC) = ext →
   In w E P R ea argsG extG →
   Calls Pr g (argsG.map zQ).toArray w (fun
    | .returned v, w' => ∃ resG extG', erX resG = res ∧ extG'.map (·.map erC) = ext' ∧ v = zQ resG ∧ Out w E P R ea w' resG extG'
    | _, _ => False)
section
variable {cx : Ctx} {f : Nat} {isv : Nat → Bool} {w0 : World} {E0 : Nat → Prop} {P : Nat → Nat → Prop} {R R' : Nat → Prop} {ea : List EA} {w w' : World} {S : SV} {tmps : Array Value} {Pr : Program} {a : Act} {call : zX}
mutual
theorem zBq {S' : SV} {ea' : List EA} : ∀ {c : CV}, okC w P R S ea c → zF c = [] → okC w P R S' ea' c
 | .t x, h, _ => by simpa [okC] using h
 | .ptr v r p off, _, hr => by simp [zF] at hr
 | .bor v r p i off sz n, _, hr => by simp [zF] at hr
 | .rptr v cs, h, _ => by simpa [okC] using h
 | .fn g caps, h, hr => by
  simp only [okC, zF] at h hr ⊢
  exact ⟨g8 h.1 hr, h.2⟩
 | .lst v sz n cs, h, hr => by
  simp only [okC, zF] at h hr ⊢
  exact ⟨h.1, g8 h.2.1 hr, h.2.2⟩
 | .nilp, _, _ => by simp [okC]
 | .nilf, _, _ => by simp [okC]
theorem g8 {S' : SV} {ea' : List EA} : ∀ {cs : List CV}, yF w P R S ea cs → zK cs = [] → yF w P R S' ea' cs
 | [], _, _ => by simp [yF]
 | c :: cs, h, hr => by
  simp only [yF, zK, List.append_eq_nil_iff] at h hr ⊢
  exact ⟨zBq h.1 hr.1, g8 h.2 hr.2⟩
end
mutual
theorem zBt {S' : SV} {ea' : List EA} : ∀ {x : XV}, okX w P R S ea x → zD x = [] → okX w P R S' ea' x
 | .c x, h, hr => by simp only [okX, zD] at h hr ⊢; exact zBq h hr
 | .agg cs, h, hr => by simp only [okX, zD] at h hr ⊢; exact g8 h hr
 | .box v cs, h, hr => by simp only [okX, zD] at h hr ⊢; exact ⟨g8 h.1 hr, h.2⟩
 | .tup xs, h, hr => by simp only [okX, zD] at h hr ⊢; exact o4 h hr
 | .undef, _, _ => by simp [okX]
theorem o4 {S' : SV} {ea' : List EA} : ∀ {xs : List XV}, xR w P R S ea xs → yN xs = [] → xR w P R S' ea' xs
 | [], _, _ => by simp [xR]
 | x :: xs, h, hr => by
  simp only [xR, yN, List.append_eq_nil_iff] at h hr ⊢
  exact ⟨zBt h.1 hr.1, o4 h.2 hr.2⟩
end
mutual
theorem zFd (hR : ∀ b, R b → R' b) : ∀ {x y : TV}, okT w (yR R' P) R' x → down x = some y → okT w P R y ∧ zV y = zV x ∧ zU y = zU x ∧ ∀ g, 1 ≤ g → shT (g + 1) x → shT g y
 | .sl v tag sz n cs, y, h, hq => by
  simp only [down] at hq
  split at hq
  ·cases hq
  ·rename_i h1
   cases hd : qL cs with
   | none => simp [hd] at hq
   | some ds =>
    simp only [hd, Option.map_some, Option.some.injEq] at hq
    subst hq
    simp only [okT] at h
    obtain ⟨k1, k2, k3⟩ := h
    obtain ⟨l1, l2, l3, l4⟩ := zHf hR k2 hd
    have hlen : ds.length = cs.length := by
     have := congrArg List.length l2
     simpa using this
    by_cases ht : tag = 0
    ·subst ht
     simp only [if_true] at k3
     refine ⟨?_, rfl, by simp [zU, l3], fun g hg hs => by simp only [shT] at hs; omega⟩
     simp only [okT, if_true]
     exact ⟨by omega, l1, by rw [l2]; exact k3⟩
    ·rw [if_neg ht] at k3
     obtain ⟨t, rfl⟩ : ∃ t, tag = t + 2 := ⟨tag - 2, by omega⟩
     have e : t + 2 - 1 = t + 1 := by omega
     rw [e]
     refine ⟨?_, rfl, by simp [zU], ?_⟩
     ·simp only [okT, Nat.succ_ne_zero, if_false]
      exact ⟨by omega, l1, by rw [l2]; exact k3.1, by omega, l4 (t + 1) (by omega) k3.2.2⟩
     ·intro g hg hs
      simp only [shT] at hs ⊢
      exact ⟨by omega, by omega, l4 g hg hs.2.2⟩
 | .int _ _, y, _, hq => by simp only [down, Option.some.injEq] at hq; subst hq; simp [okT, shT]
 | .bool _, y, _, hq => by simp only [down, Option.some.injEq] at hq; subst hq; simp [okT, shT]
 | .str _, y, _, hq => by simp only [down, Option.some.injEq] at hq; subst hq; simp [okT, shT]
 | .dead v, y, h, hq => by simp only [down, Option.some.injEq] at hq; subst hq; simp only [okT] at h; simp [okT, shT, h]
 | .nili, y, _, hq => by simp only [down, Option.some.injEq] at hq; subst hq; simp [okT, shT]
 | .ifc v, y, h, hq => by simp only [down, Option.some.injEq] at hq; subst hq; simp only [okT] at h; simp [okT, shT, h]
theorem zHf (hR : ∀ b, R b → R' b) : ∀ {xs ys : List TV}, xP w (yR R' P) R' xs → qL xs = some ys → xP w P R ys ∧ ys.map zV = xs.map zV ∧ zZ ys = zZ xs ∧ ∀ g, 1 ≤ g → qZ (g + 1) xs → qZ g ys
 | [], ys, _, hq => by simp only [qL, Option.some.injEq] at hq; subst hq; simp [xP, qZ]
 | x :: xs, ys, h, hq => by
  simp only [qL] at hq
  cases h1 : down x with
  | none => simp [h1] at hq
  | some y =>
   cases h2 : qL xs with
   | none => simp [h1, h2] at hq
   | some zs =>
    simp only [h1, h2, Option.bind_some, Option.map_some, Option.some.injEq] at hq
    subst hq
    simp only [xP] at h
    obtain ⟨k1, k2, k3, k4⟩ := zFd hR h.1 h1
    obtain ⟨l1, l2, l3, l4⟩ := zHf hR h.2 h2
    exact ⟨⟨k1, l1⟩, by simp [k2, l2], by simp [zZ, k3, l3], fun g hg hs => ⟨k4 g hg hs.1, l4 g hg hs.2⟩⟩
end
mutual
theorem zHd (hR : ∀ b, R b → R' b) : ∀ {c : CV} {d : CU}, okC w (yR R' P) R' S ea c → qU (erC c) = some d → ∃ cG, erC cG = d ∧ zJ cG = zJ c ∧ okC w P R S ea cG ∧ zP cG = zP c ∧ zF cG = zF c
 | .t x, d, h, hq => by
  simp only [erC, zI, qU, zAg] at hq
  cases hd : down x with
  | none => simp [hd] at hq
  | some y =>
   simp only [hd, Option.map_some, Option.some.injEq] at hq
   subst hq
   simp only [okC] at h
   obtain ⟨k1, k2, k3, _⟩ := zFd hR h hd
   exact ⟨.t y, by simp [erC, zI], by simp [zJ, k2], by simpa [okC] using k1, by simp [zP, k3], rfl⟩
 | .ptr v r p off, d, h, hq => by
  simp only [erC, zI, qU, Option.some.injEq] at hq
  subst hq
  exact ⟨.ptr v r p off, rfl, rfl, by simpa [okC] using h, rfl, rfl⟩
 | .bor v r p i off sz n, d, h, hq => by
  simp only [erC, zI, qU, Option.some.injEq] at hq
  subst hq
  exact ⟨.bor v r p i off sz n, rfl, rfl, by simpa [okC] using h, rfl, rfl⟩
 | .rptr v cs, d, _, hq => by simp [erC, zI, qU] at hq
 | .fn g caps, d, h, hq => by
  simp only [erC, zI, qU, zR] at hq
  simp only [okC] at h
  cases hd : xQ (caps.map (zI er0)) with
  | none => simp [hd] at hq
  | some ds =>
   simp only [hd, Option.map_some, Option.some.injEq] at hq
   subst hq
   obtain ⟨es, k1, k2, k3, k4, k5⟩ := n5 hR h.1 hd
   exact ⟨.fn g es, by simp [erC, zI, zR]; exact k1, by simp [zJ, z8, k2], by simp only [okC]; exact ⟨k3, by rw [k4]; exact h.2⟩, rfl, by simp [zF, k5]⟩
 | .lst v sz n cs, d, _, hq => by simp [erC, zI, qU] at hq
 | .nilp, d, _, hq => by
  simp only [erC, zI, qU, Option.some.injEq] at hq
  subst hq
  exact ⟨.nilp, rfl, rfl, by simp [okC], rfl, rfl⟩
 | .nilf, d, _, hq => by
  simp only [erC, zI, qU, Option.some.injEq] at hq
  subst hq
  exact ⟨.nilf, rfl, rfl, by simp [okC], rfl, rfl⟩
theorem n5 (hR : ∀ b, R b → R' b) : ∀ {cs : List CV} {ds : List CU}, yF w (yR R' P) R' S ea cs → xQ (cs.map erC) = some ds →
  ∃ es : List CV, es.map erC = ds ∧ es.map zJ = cs.map zJ ∧ yF w P R S ea es ∧ zH es = zH cs ∧ zK es = zK cs
 | [], ds, _, hq => by simp only [List.map_nil, xQ, Option.some.injEq] at hq; subst hq; exact ⟨[], rfl, rfl, by simp [yF], rfl, rfl⟩
 | c :: cs, ds, h, hq => by
  simp only [List.map_cons, xQ] at hq
  cases h1 : qU (erC c) with
  | none => simp [h1] at hq
  | some d =>
   cases h2 : xQ (cs.map erC) with
   | none => simp [h1, h2] at hq
   | some es =>
    simp only [h1, h2, Option.bind_some, Option.map_some, Option.some.injEq] at hq
    subst hq
    simp only [yF] at h
    obtain ⟨cG, k1, k2, k3, k4, k5⟩ := zHd hR h.1 h1
    obtain ⟨gs, l1, l2, l3, l4, l5⟩ := n5 hR h.2 h2
    exact ⟨cG :: gs, by simp [k1, l1], by simp [k2, l2], ⟨k3, l3⟩, by simp [zH, k4, l4], by simp [zK, k5, l5]⟩
end
mutual
theorem zAf (hR : ∀ b, R b → R' b) : ∀ {x : XV} {y : XU}, okX w (yR R' P) R' S ea x → kZ (erX x) = some y → ∃ yG, erX yG = y ∧ zQ yG = zQ x ∧ okX w P R S ea yG ∧ zE yG = zE x ∧ zD yG = zD x
 | .c c, y, h, hq => by
  simp only [erX, zW, kZ] at hq
  simp only [okX] at h
  cases hd : qU (zI er0 c) with
  | none => simp [hd] at hq
  | some d =>
   simp only [hd, Option.map_some, Option.some.injEq] at hq
   subst hq
   obtain ⟨cG, k1, k2, k3, k4, k5⟩ := zHd hR h hd
   exact ⟨.c cG, by simp [erX, zW]; exact k1, by simp [zQ, k2], by simpa [okX] using k3, by simp [zE, k4], by simp [zD, k5]⟩
 | .agg cs, y, h, hq => by
  simp only [erX, zW, kZ, zR] at hq
  simp only [okX] at h
  cases hd : xQ (cs.map (zI er0)) with
  | none => simp [hd] at hq
  | some ds =>
   simp only [hd, Option.map_some, Option.some.injEq] at hq
   subst hq
   obtain ⟨es, k1, k2, k3, k4, k5⟩ := n5 hR h hd
   exact ⟨.agg es, by simp [erX, zW, zR]; exact k1, by simp [zQ, z8, k2], by simpa [okX] using k3, by simp [zE, k4], by simp [zD, k5]⟩
 | .box v cs, y, h, hq => by
  simp only [erX, zW, kZ, zR] at hq
  simp only [okX] at h
  cases hd : xQ (cs.map (zI er0)) with
  | none => simp [hd] at hq
  | some ds =>
   simp only [hd, Option.map_some, Option.some.injEq] at hq
   subst hq
   obtain ⟨es, k1, k2, k3, k4, k5⟩ := n5 hR h.1 hd
   refine ⟨.box v es, by simp [erX, zW, zR]; exact k1, rfl, ?_, by simp [zE, k4], by simp [zD, k5]⟩
   simp only [okX]
   obtain ⟨_, ad, e1, e2, e3, cur, e, e4, e5⟩ := h
   exact ⟨k3, ad, e1, e2, e3, cur, e, e4, by rw [e5, z8, z8, k2]⟩
 | .tup xs, y, h, hq => by
  simp only [erX, zW, kZ, wH] at hq
  simp only [okX] at h
  cases hd : mV (xs.map (zW er0)) with
  | none => simp [hd] at hq
  | some ds =>
   simp only [hd, Option.map_some, Option.some.injEq] at hq
   subst hq
   obtain ⟨es, k1, k2, k3, k4, k5⟩ := zDk hR h hd
   exact ⟨.tup es, by simp [erX, zW, wH]; exact k1, by simp [zQ, aJ, k2], by simpa [okX] using k3, by simp [zE, k4], by simp [zD, k5]⟩
 | .undef, y, _, hq => by simp [erX, zW, kZ] at hq
theorem zDk (hR : ∀ b, R b → R' b) : ∀ {xs : List XV} {ys : List XU}, xR w (yR R' P) R' S ea xs → mV (xs.map erX) = some ys →
  ∃ es : List XV, es.map erX = ys ∧ es.map zQ = xs.map zQ ∧ xR w P R S ea es ∧ xA es = xA xs ∧ yN es = yN xs
 | [], ys, _, hq => by simp only [List.map_nil, mV, Option.some.injEq] at hq; subst hq; exact ⟨[], rfl, rfl, by simp [xR], rfl, rfl⟩
 | x :: xs, ys, h, hq => by
  simp only [List.map_cons, mV] at hq
  cases h1 : kZ (erX x) with
  | none => simp [h1] at hq
  | some d =>
   cases h2 : mV (xs.map erX) with
   | none => simp [h1, h2] at hq
   | some es =>
    simp only [h1, h2, Option.bind_some, Option.map_some, Option.some.injEq] at hq
    subst hq
    simp only [xR] at h
    obtain ⟨cG, k1, k2, k3, k4, k5⟩ := zAf hR h.1 h1
    obtain ⟨gs, l1, l2, l3, l4, l5⟩ := zDk hR h.2 h2
    exact ⟨cG :: gs, by simp [k1, l1], by simp [k2, l2], ⟨k3, l3⟩, by simp [xA, k4, l4], by simp [yN, k5, l5]⟩
end
theorem zP2 {args : List XV} {d : Nat} : y6 args d = .undef ∨ y6 args d ∈ args := by
 simp only [y6, List.getD_eq_getElem?_getD]
 cases h : args[d]? with
 | none => exact .inl rfl
 | some x => exact .inr (List.mem_of_getElem? h)
theorem zA0 {args : List XV} (hlt : ∀ t b, P t b → b < w.heap.size) (h : ∀ x ∈ args, oG w (yR (· < w.heap.size) P) (· < w.heap.size) x) :
  In w (fun _ => False) (yR (· < w.heap.size) P) (· < w.heap.size) [] args [] := by
 have hs : ∀ d, oG w (yR (· < w.heap.size) P) (· < w.heap.size) (y6 args d) := by
  intro d
  rcases zP2 (args := args) (d := d) with e | e
  ·rw [e]; exact ⟨fun _ _ => by simp [okX], by simp [zE], by simp [zD]⟩
  ·exact h _ e
 have hb : ∀ r : Root, zL (⟨y6 args, []⟩ : SV) [] r = [] := by
  intro r
  cases r with
  | sl d => simp only [zL]; exact (hs d).2.1
  | ex j => simp [zL]
 constructor
 case val =>
  intro d hd
  simp only [List.size_toArray, List.length_map] at hd
  right
  simp [y6, hd]
 case hi =>
  intro d hd
  simp only [List.size_toArray, List.length_map] at hd
  simp [y6, List.getElem?_eq_none hd]
 case okS => exact fun d => (hs d).1 _ _
 case okE => intro j cs hj; simp at hj
 case eaL => rfl
 case row => intro j vs cs hj; simp at hj
 case refS => intro d d' hd; rw [(hs d).2.2] at hd; simp at hd
 case refE => intro j cs d' hj; simp at hj
 case dis => intro r r' b hb'; rw [hb] at hb'; simp at hb'
 case nd => intro r; rw [hb]; exact List.nodup_nil
 case lt => intro r b hb'; rw [hb] at hb'; simp at hb'
 case own => intro r b hb'; rw [hb] at hb'; simp at hb'
 case notR => intro r b hb'; rw [hb] at hb'; simp at hb'
 case PR =>
  intro t b ht
  cases t with
  | zero => exact ht.elim
  | succ t =>
   cases t with
   | zero => exact ht
   | succ t => exact hlt _ b ht
 case ltR => exact fun b hb' => hb'
 case frm => exact Frm.refl _ _
theorem Frm.grow (h : Frm (fun _ => False) w w') : Grow w w' := ⟨h.os, h.tape, h.output, h.size, fun k hk => h.block k hk (fun h => h)⟩
theorem zU0 (h : Rel (zB cx f) w0 E0 P R ea w S tmps) {res : XV} {ext : List (List CV)} (ho : Out w (fun _ => False) (yR (· < w.heap.size) P) (· < w.heap.size) [] w' res ext) {y : XU} (hq : kZ (erX res) = some y) :
  ∃ yG, zQ yG = zQ res ∧ QRes cx f w0 E0 P R ea w tmps y (V.erS S) w' S yG := by
 have hg := ho.frm.grow
 have hr := h.grow hg
 have hok : okX w' (yR (· < w.heap.size) P) (· < w.heap.size) ⟨upd (fun _ => .undef) 0 res, ext⟩ [] res := by
  have := ho.okS 0
  simpa [upd] using this
 have hbl : zL (⟨upd (fun _ => .undef) 0 res, ext⟩ : SV) [] (.sl 0) = zE res := by simp [zL, upd]
 have hrefs : zD res = [] := by
  rw [List.eq_nil_iff_forall_not_mem]
  intro r hr'
  obtain ⟨cs, hcs⟩ := fV ho.eaL hok r hr'
  cases r with
  | sl d =>
   have := ho.refS 0 d (by simpa [upd] using hr')
   simp at this
  | ex j =>
   have hl := ho.eaL
   simp only [List.length_nil] at hl
   have : ext = [] := List.length_eq_zero_iff.1 hl.symm
   subst this
   simp [zA] at hcs
 obtain ⟨yG, k1, k2, k3, k4, k5⟩ := zAf (R := R) h.ltR hok hq
 have hfresh : ∀ b ∈ zE yG, w.heap.size ≤ b := by
  intro b hb
  rw [k4, ← hbl] at hb
  exact (ho.own _ b hb).elim (fun h => h.elim) id
 refine ⟨yG, k2, hg, k1, rfl, hr, ?_⟩
 constructor
 ·exact zBt k3 (by rw [k5]; exact hrefs)
 ·intro d' hd'; rw [k5, hrefs] at hd'; simp at hd'
 ·rw [k4, ← hbl]; exact ho.nd _
 ·intro r b hb hb'
  have := hfresh b hb
  have := h.lt r b hb'
  omega
 ·intro b hb
  rw [k4, ← hbl] at hb
  exact ho.lt _ b hb
 ·intro b hb
  exact .inr (Nat.le_trans h.frm.size (hfresh b hb))
 ·intro b hb hRb
  have := hfresh b hb
  have := h.ltR b hRb
  omega
def QWp (cx : Ctx) (f : Nat) (w0 : World) (E0 : Nat → Prop) (P : Nat → Nat → Prop) (R : Nat → Prop) (ea : List EA) (w : World) (tmps : Array Value) (Pr : Program) (a : Act) (o : Oper) (x : XU) (Su : SU) : Prop :=
 ∀ (K : Act → World → Prop) (Q : Exit → Act → World → Prop), (∀ w' S' xG, QRes cx f w0 E0 P R ea w tmps x Su w' S' xG → K (a.put o.dst (zQ xG)) w') → o.wp Pr a w K Q
theorem QOk.wp {o : Oper} {x : XU} {Su : SU} (h : QOk cx f w0 E0 P R ea w tmps Pr a o x Su) : QWp cx f w0 E0 P R ea w tmps Pr a o x Su := by
 obtain ⟨w', S', xG, h1, h2⟩ := h
 exact fun K Q hk => aK h2 (hk w' S' xG h1)
theorem lI.wp {o : Oper} {x : XU} {Su : SU} (h : lI cx f w0 E0 P R ea w tmps Pr a o x Su) : QWp cx f w0 E0 P R ea w tmps Pr a o x Su := h.ok.wp
theorem zSq (hcall : lH Pr call w0 E0) (h : Rel (zB cx f) w0 E0 P R ea w S tmps) (ha : a.tmps = tmps) {o : Oper} {c : Call} (ho : o.op = .call c) {fo : Operand} (hb : c.callee = .value fo) (hng : zFm cx c = false) {z : XU} {Su : SU}
  (hq : qcall cx f call (V.erS S) o.type c = some (z, Su)) : QWp cx f w0 E0 P R ea w tmps Pr a o z Su := by
 have hq' : (quietCall cx f call (V.erS S) fo c.args.toList c.argTypes.toList).map (fun x => (x, V.erS S)) = some (z, Su) := by
  simpa [qcall, hb, hng] using hq
 clear hq
 cases hqc : quietCall cx f call (V.erS S) fo c.args.toList c.argTypes.toList with
 | none => simp [hqc] at hq'
 | some x =>
  simp only [hqc, Option.map_some, Option.some.injEq, Prod.mk.injEq] at hq'
  obtain ⟨rfl, rfl⟩ := hq'
  unfold quietCall at hqc
  split at hqc
  ·rename_i g hg
   obtain ⟨fG, hf1, hf2, _, _⟩ := kA h ha hg
   obtain ⟨ds, rfl, hds⟩ := zVn hf1
   have : ds = [] := by simpa using hds
   subst this
   simp only [zJ, yC] at hf2
   split at hqc
   ·cases hqc
   ·cases hs : q5 cx f (V.erS S) c.args.toList c.argTypes.toList with
    | none => simp [hs] at hqc
    | some xs =>
     simp only [hs, Option.bind_some] at hqc
     cases hcl : call g xs [] with
     | none => simp [hcl] at hqc
     | some r =>
      obtain ⟨res, ext'⟩ := r
      simp only [hcl, Option.bind_some] at hqc
      obtain ⟨ys, y1, y2, y3⟩ := iJ h ha hs
      obtain ⟨hent, hc⟩ := hcall g xs [] res ext' hcl
      have hC := hc w (fun _ => False) (yR (· < w.heap.size) P) (· < w.heap.size) [] ys [] h.frm (fun _ hb => hb.elim) y1 rfl (zA0 h.ltP y3)
      have hargs : c.args.map a.eval = (ys.map zQ).toArray := by
       apply Array.ext'
       simp [y2]
      intro K Q hk
      have hrun : (execOp a.eval o).run Pr w = .ok (.enter g (ys.map zQ).toArray) w := by
       have he := hent (ys.map zQ).toArray w
       simp [execOp, ho, resolve, hb, hf2, Deferred.ofValue, invoke]
       rw [hargs]
       simpa using he
      simp only [Oper.wp, Oper.upon, hrun]
      refine Calls.mono hC ?_
      intro e w' he
      cases e with
      | returned v =>
       obtain ⟨resG, extG', e1, e2, rfl, e3⟩ := he
       rw [← e1] at hqc
       obtain ⟨yG, k1, k2⟩ := zU0 h e3 hqc
       rw [← k1]
       exact hk w' S yG k2
      | panicked chain => exact he.elim
      | outgrown => exact he.elim
  ·cases hqc
def eN (Pr : Program) (cx : Ctx) : Prop := ∀ g q, cx.gro g = some q → bF Pr g ∧ ∀ (n : Nat) (w : World), n * q.2 ≤ 140737488355328 → n ≤ maxLen →
 Calls Pr g #[.slice none 0 0, .int .i64 n] w fun e w' => ∃ v, e = .returned v ∧ Grow w w' ∧ (v = .slice none 0 0 ∨ ∃ cap cur ty, v = .slice (some ⟨w.heap.size, 0, none⟩) 0 cap ∧ w'.heap[w.heap.size]? = some (.cells cur ty (0, 0)) ∧ cap * q.1 ≤ cur.size)
theorem zUl (s8 : eN Pr cx) (h : Rel (zB cx f) w0 E0 P R ea w S tmps) (ha : a.tmps = tmps) {o : Oper} {c : Call} (ho : o.op = .call c) {x : XU} (hq : pV cx f (V.erS S) c = some x) : QWp cx f w0 E0 P R ea w tmps Pr a o x (V.erS S) := by
 unfold pV at hq
 split at hq
 ·next g y hcal hargs =>
  split at hq
  ·next q n hg hn =>
   split at hq
   ·next hc =>
    simp only [Option.some.injEq] at hq
    subst hq
    obtain ⟨h1, h2, h3⟩ := hc
    obtain ⟨hent, hC⟩ := s8 g q hg
    have hy := zFz h ha hn
    obtain ⟨m, rfl⟩ : ∃ m : Nat, n = m := ⟨n.toNat, by omega⟩
    intro K Q hk
    have hrun : (execOp a.eval o).run Pr w = .ok (.enter g #[.slice none 0 0, .int .i64 m]) w := by
     have he := hent #[.slice none 0 0, .int .i64 m] w
     have hax : c.args.map a.eval = #[.slice none 0 0, .int .i64 m] := by
      rw [zMn hargs, hy]; rfl
     simp [execOp, ho, resolve, hcal, Act.eval, Deferred.ofValue, invoke]
     rw [hax]
     simpa using he
    simp only [Oper.wp, Oper.upon, hrun]
    refine Calls.mono (hC m w (by omega) (by omega)) ?_
    rintro e w' ⟨v, rfl, hgw, hv⟩
    have hr := h.grow hgw
    have hnew : New (zB cx f) w0 E0 P R ea w' S (.c (.t (.sl v 0 q.1 0 []))) := by
     rcases hv with rfl | ⟨cap, cur, ty, rfl, hb, hcap⟩
     ·exact New.plain (by simp only [okX, okC, okT, if_true, List.length_nil, Nat.zero_mul, xP, true_and, List.map_nil]; exact .inl ⟨rfl, rfl⟩) (by simp [zE, zP, zU, zZ, hdr]) (by simp [zD, zF])
     ·have hlt : w.heap.size < w'.heap.size := (Array.getElem?_eq_some_iff.1 hb).1
      have hblk : zE (.c (.t (.sl (.slice (some ⟨w.heap.size, 0, none⟩) 0 cap) 0 q.1 0 []))) = [w.heap.size] := by simp [zE, zP, zU, zZ, hdr]
      constructor
      ·simp only [okX, okC, okT, if_true, List.length_nil, Nat.zero_mul, xP, true_and, List.map_nil]
       exact .inr ⟨w.heap.size, 0, cur, ty, ⟨⟨w.heap.size, 0, none⟩, cap, rfl, Nat.zero_le _, rfl, rfl, .inr ⟨rfl, by omega⟩⟩, hb, by simp⟩
      ·simp [zD, zF]
      ·rw [hblk]; simp
      ·intro r b hb' hb2
       rw [hblk, List.mem_singleton] at hb'
       subst hb'
       exact h.fresh r hb2
      ·intro b hb'
       rw [hblk, List.mem_singleton] at hb'
       subst hb'; exact hlt
      ·intro b hb'
       rw [hblk, List.mem_singleton] at hb'
       subst hb'; exact .inr h.freshOwn
      ·intro b hb'
       rw [hblk, List.mem_singleton] at hb'
       subst hb'; exact h.freshR
    have := hk w' S (.c (.t (.sl v 0 q.1 0 []))) ⟨hgw, by simp [erX, zW, zI, yA, kH, er0], rfl, hr, hnew⟩
    simpa [zQ, zJ, zV] using this
   ·cases hq
  ·cases hq
 ·cases hq
end
end Go.Proofs.YtlkjnlfddadlmaaGreatDoor.V
namespace Go.Proofs.YtlkjnlfddadlmaaGreatDoor.V
open Go.RowKit
section
variable {cx : Ctx} {f : Nat} {isv : Nat → Bool} {w0 : World} {E0 : Nat → Prop} {P : Nat → Nat → Prop} {R R' : Nat → Prop} {ea : List EA} {w w' : World} {S : SV} {tmps : Array Value} {Pr : Program} {a : Act} {call : zX}
theorem zSp (hty : jB Pr cx.ty) (s8 : eN Pr cx) (hcall : lH Pr call w0 E0) (h : Rel (zB cx f) w0 E0 P R ea w S tmps) (ha : a.tmps = tmps) {o : Oper} {c : Call} (ho : o.op = .call c) {z : XU} {Su : SU}
  (hq : qcall cx f call (V.erS S) o.type c = some (z, Su)) : QWp cx f w0 E0 P R ea w tmps Pr a o z Su := by
 have hq0 := hq
 unfold qcall at hq
 split at hq
 ·rename_i x t hb hx ht
  exact (zR1 hty h ha ho hb hx ht hq0).wp
 ·exact (zVu h ha ho (by assumption) (by assumption) hq).wp
 ·next hcal =>
  split at hq
  ·cases hx : pV cx f (V.erS S) c with
   | none => rw [hx] at hq; cases hq
   | some x =>
    rw [hx] at hq
    simp only [Option.map_some, Option.some.injEq, Prod.mk.injEq] at hq
    obtain ⟨rfl, rfl⟩ := hq
    exact zUl s8 h ha ho hx
  ·next hx => exact zSq hcall h ha ho hcal (by simpa using hx) hq0
 ·cases hq
theorem zU2 (hty : jB Pr cx.ty) (s8 : eN Pr cx) (hcall : lH Pr call w0 E0) (h : Rel (zB cx f) w0 E0 P R ea w S tmps) (ha : a.tmps = tmps) {o : Oper} {z : XU} {Su : SU}
  (hq : qval cx f call (V.erS S) o.type o.op = some (z, Su)) : QWp cx f w0 E0 P R ea w tmps Pr a o z Su := by
 cases ho : o.op with
 | move x =>
  rw [ho] at hq
  simp only [qval] at hq
  cases hx : opv cx f (V.erS S) o.type x with
  | none => simp [hx] at hq
  | some y =>
   simp only [hx, Option.map_some, Option.some.injEq, Prod.mk.injEq] at hq
   obtain ⟨rfl, rfl⟩ := hq
   exact (zNm h ha ho hx).wp
 | pick c x y => rw [ho] at hq; exact (zN2 h ha ho hq).wp
 | alloc e => rw [ho] at hq; exact (zQm hty h ho hq).wp
 | box e x => rw [ho] at hq; exact (zWb h ha ho hq).wp
 | build e ps => rw [ho] at hq; exact (zQx hty h ha ho hq).wp
 | buildSlice e n ps => rw [ho] at hq; exact (zCx hty h ha ho hq).wp
 | load e x => rw [ho] at hq; exact (zNl hty h ha ho hq).wp
 | fieldAddr e x i => rw [ho] at hq; exact (s5 hty h ha ho hq).wp
 | field e x i => rw [ho] at hq; exact (zRi hty h ha ho hq).wp
 | indexAddr e x i => rw [ho] at hq; exact (tB hty h ha ho hq).wp
 | index e x i => rw [ho] at hq; exact (zHy hty h ha ho hq).wp
 | binOp op t x y t' => rw [ho] at hq; exact (zQv hty h ha ho hq).wp
 | unOp op t x => rw [ho] at hq; exact (zV1 h ha ho hq).wp
 | nilCheck x => rw [ho] at hq; exact (oZ h ha ho hq).wp
 | convert s d x => rw [ho] at hq; exact (zKk hty h ha ho hq).wp
 | extract x i => rw [ho] at hq; exact (zAk h ha ho hq).wp
 | slice e x lo hi mx =>
  rw [ho] at hq
  cases mx with
  | none => exact (zS6 hty h ha ho hq).wp
  | some m => simp [qval] at hq
 | makeSlice e l c => rw [ho] at hq; exact (zFr hty h ha ho hq).wp
 | makeFunc g first caps =>
  rw [ho] at hq
  cases g with
  | func g => exact (zH8 h ha ho hq).wp
  | _ => simp [qval] at hq
 | call c =>
  rw [ho] at hq
  exact zSp hty s8 hcall h ha ho hq
 | _ => rw [ho] at hq; simp [qval] at hq
theorem kV {Su : SU} {ops : Array Oper} {o : Oper} (hact : yX cx o.op = false) (hw : y5 Su ops o = some true) :
  stepOp cx f call Su ops o = (qval cx f call Su o.type o.op).bind fun r => wJ cx f r.2 o.dst r.1 := by
 unfold stepOp
 rw [hw]
 cases ho : o.op with
 | assign x => simp [ho, yX] at hact
 | store t x y => simp [ho, yX] at hact
 | call c => rw [ho] at hact; simp [hact, qval]
 | _ => rfl
theorem bE (h : Rel (zB cx f) w0 E0 P R ea w S tmps) {ops : Array Oper} {o : Oper} {b : Bool} (hw : y5 (V.erS S) ops o = some b) : Region.wanted o (yielded ops tmps) = b := by
 unfold y5 at hw
 unfold Region.wanted
 cases hg : o.guard with
 | none => simp only [hg, Option.some.injEq] at hw; simp [hw]
 | some g =>
  obtain ⟨j, want⟩ := g
  simp only [hg] at hw
  simp only [yielded]
  cases hd : (ops[j]?).bind (·.dst) with
  | none => simp [hd] at hw
  | some d =>
   simp only [hd] at hw
   have hslot : ∀ x, (V.erS S).s d = x → x ≠ .undef → tmps[d]? = some (zQ (S.s d)) := by
    intro x hx hne
    refine h.slot ?_
    intro e
    refine hne ?_
    rw [← hx]
    simp [V.erS, jJ, e, zW]
   split at hw
   ·rename_i b' heq
    simp only [Option.some.injEq] at hw
    have hs := hslot _ heq (by simp)
    obtain ⟨cG, e1, e2⟩ := aR (show erX (S.s d) = .c (.t (.bool b')) from heq)
    obtain ⟨y, rfl, e3⟩ := k9 e2
    have := n8 e3
    subst this
    simp only [Option.bind_some, hs, e1, zQ, zJ, zV]
    cases b' <;> cases want <;> simp_all
   ·rename_i heq
    simp only [Option.some.injEq] at hw
    subst hw
    have hs := hslot _ heq (by simp)
    have hv : zQ (S.s d) = .tuple #[] := by
     have : erX (S.s d) = .tup [] := heq
     cases hsd : S.s d <;> simp [hsd, erX, zW, wH] at this
     subst this
     simp [zQ, jF]
    simp [hs, hv]
   ·cases hw
def At (cx : Ctx) (f : Nat) (w0 : World) (E0 : Nat → Prop) (P : Nat → Nat → Prop) (R : Nat → Prop) (ea : List EA) (n : Nat) (Su : SU) (a : Act) (w : World) : Prop :=
 ∃ S, Rel (zB cx f) w0 E0 P R ea w S a.tmps ∧ V.erS S = Su ∧ a.defers = [] ∧ a.tmps.size = n
theorem l9 (a : Act) (d : Option Nat) (v : Value) : (a.put d v).defers = a.defers := by cases d <;> rfl
theorem zB1 (a : Act) (d : Option Nat) (v : Value) : (a.put d v).tmps.size = a.tmps.size := by cases d <;> simp [Act.put]
theorem dI {x : XU} {Su Su' : SU} {S' : SV} {xG : XV} {dst : Option Nat} {n : Nat} (hr : Rel (zB cx f) w0 E0 P R ea w' S' a.tmps) (hn : New (zB cx f) w0 E0 P R ea w' S' xG) (hx : erX xG = x) (hS : V.erS S' = Su)
  (hd : a.defers = []) (hsz : a.tmps.size = n) (hdst : ∀ d, dst = some d → d < n) (hq : wJ cx f Su dst x = some Su') : At cx f w0 E0 P R ea n Su' (a.put dst (zQ xG)) w' := by
 cases dst with
 | none =>
  simp only [wJ, Option.some.injEq] at hq
  subst hq
  exact ⟨S', hr, hS, hd, hsz⟩
 | some d =>
  simp only [wJ] at hq
  split at hq
  ·cases hq
  ·rename_i hc
   simp only [Option.some.injEq] at hq
   subst hq
   refine ⟨{ S' with s := upd S'.s d xG }, ?_, ?_, by rw [l9]; exact hd, by rw [zB1]; exact hsz⟩
   ·refine hr.put hn ?_ (by rw [hsz]; exact hdst d rfl)
    intro hv
    rw [hv] at hc
    have hu : uQ (Su.s d) = true := by simpa using hc
    rw [← hS] at hu
    have : uQ (zW er0 (S'.s d)) = true := hu
    cases hs : S'.s d <;> simp [hs, zW, uQ] at this
    rfl
   ·rw [← hS, ← hx]
    simp only [V.erS, jJ, aI]
theorem zCn (hty : jB Pr cx.ty) (s8 : eN Pr cx) (hcall : lH Pr call w0 E0) {ops : Array Oper} {o : Oper} {i n : Nat} {Su Su' : SU} (hat : At cx f w0 E0 P R ea n Su a w) (hact : yX cx o.op = false) (hi : ops[i]? = some o)
  (hdst : ∀ d, o.dst = some d → d < n) (hq : stepOp cx f call Su ops o = some Su') {K : Act → World → Prop} {Q : Exit → Act → World → Prop} (hk : ∀ a' w', At cx f w0 E0 P R ea n Su' a' w' → K a' w') : wpOp Pr ops Q i K a w := by
 obtain ⟨S, hr, rfl, hd, hsz⟩ := hat
 simp only [wpOp, hi]
 cases hw : y5 (V.erS S) ops o with
 | none => simp [stepOp, hw] at hq
 | some b =>
  have hwt := bE hr hw
  cases b with
  | false =>
   rw [if_neg (by rw [hwt]; simp)]
   simp only [stepOp, hw] at hq
   have hn : New (zB cx f) w0 E0 P R ea w S (.tup []) := New.plain (by simp [okX, xR]) (by simp [zE, xA]) (by simp [zD, yN])
   exact hk _ _ (dI (xG := .tup []) hr hn (by simp [erX, zW, wG]) rfl hd hsz hdst hq)
  | true =>
   rw [if_pos hwt]
   refine .inl ?_
   rw [kV hact hw] at hq
   cases hv : qval cx f call (V.erS S) o.type o.op with
   | none => simp [hv] at hq
   | some r =>
    obtain ⟨z, Sz⟩ := r
    simp only [hv, Option.bind_some] at hq
    refine zU2 hty s8 hcall hr rfl hv K Q ?_
    intro w' S' xG hres
    exact hk _ _ (dI hres.rel hres.new hres.er hres.erS hd hsz hdst hq)
theorem zPq (hty : jB Pr cx.ty) (h : Rel (zB cx f) w0 E0 P R ea w S tmps) (ha : a.tmps = tmps) {o : Oper} (hp : j4 o.op = true) {z : XU} {Su : SU}
  (hq : qval cx f lX (V.erS S) o.type o.op = some (z, Su)) : lI cx f w0 E0 P R ea w tmps Pr a o z Su := by
 cases ho : o.op with
 | move x =>
  rw [ho] at hq
  simp only [qval] at hq
  cases hx : opv cx f (V.erS S) o.type x with
  | none => simp [hx] at hq
  | some y =>
   simp only [hx, Option.map_some, Option.some.injEq, Prod.mk.injEq] at hq
   obtain ⟨rfl, rfl⟩ := hq
   exact zNm h ha ho hx
 | load e x => rw [ho] at hq; exact zNl hty h ha ho hq
 | fieldAddr e x i => rw [ho] at hq; exact s5 hty h ha ho hq
 | indexAddr e x i => rw [ho] at hq; exact tB hty h ha ho hq
 | index e x i => rw [ho] at hq; exact zHy hty h ha ho hq
 | binOp op t x y t' => rw [ho] at hq; exact zQv hty h ha ho hq
 | unOp op t x => rw [ho] at hq; exact zV1 h ha ho hq
 | nilCheck x => rw [ho] at hq; exact oZ h ha ho hq
 | extract x i => rw [ho] at hq; exact zAk h ha ho hq
 | pick c x y => rw [ho] at hq; exact zN2 h ha ho hq
 | call c =>
  rw [ho] at hq hp
  have hcl : c.callee = .builtin .len := by
   obtain ⟨callee, args, argTypes⟩ := c
   cases callee with
   | builtin b => cases b <;> first | rfl | simp [j4] at hp
   | _ => simp [j4] at hp
  have hq0 : qcall cx f lX (V.erS S) o.type c = some (z, Su) := hq
  have hq1 := hq0
  unfold qcall at hq1
  split at hq1
  ·rename_i x t hb hx ht
   exact zR1 hty h ha ho hb hx ht hq0
  ·exact zVu h ha ho (by assumption) (by assumption) hq1
  ·next hcal => rw [hcl] at hcal; cases hcal
  ·cases hq1
 | _ => rw [ho] at hp; simp [j4] at hp
def gV : Op → Bool
 | .move _ => true
 | .fieldAddr _ _ _ => true
 | .indexAddr _ _ _ => true
 | .nilCheck _ => true
 | _ => false
theorem zFn {op : Op} (h : gV op = true) : j4 op = true := by
 cases op <;> first | rfl | simp [gV] at h
theorem zLi (hty : jB Pr cx.ty) (h : Rel (zB cx f) w0 E0 P R ea w S tmps) (ha : a.tmps = tmps) {o : Oper} (hp : gV o.op = true) {z : XU} {Su : SU}
  (hq : qval cx f call (V.erS S) o.type o.op = some (z, Su)) : zJ7 cx f w0 E0 P R ea w tmps Pr a o z Su := by
 cases ho : o.op with
 | move x =>
  rw [ho] at hq
  simp only [qval] at hq
  cases hx : opv cx f (V.erS S) o.type x with
  | none => simp [hx] at hq
  | some y =>
   simp only [hx, Option.map_some, Option.some.injEq, Prod.mk.injEq] at hq
   obtain ⟨rfl, rfl⟩ := hq
   exact zIb h ha ho hx
 | fieldAddr e x i => rw [ho] at hq; exact pT hty h ha ho hq
 | indexAddr e x i => rw [ho] at hq; exact pW hty h ha ho hq
 | nilCheck x => rw [ho] at hq; exact tJ h ha ho hq
 | _ => rw [ho] at hp; simp [gV] at hp
theorem kN {op : Op} (h : j4 op = true) : yX cx op = false := by
 cases op with
 | call c =>
  obtain ⟨callee, args, argTypes⟩ := c
  cases callee with
  | builtin b => cases b <;> first | rfl | simp [j4] at h
  | _ => simp [j4] at h
 | _ => first | rfl | simp [j4] at h
def eO (cx : Ctx) (f : Nat) (w0 : World) (E0 : Nat → Prop) (P : Nat → Nat → Prop) (R : Nat → Prop) (ea : List EA) (n : Nat) : Prop :=
 ∀ (ops : Array Oper) (o : Oper) (Su Su' : SU) (a : Act) (w : World), At cx f w0 E0 P R ea n Su a w → j4 o.op = true → (∀ d, o.dst = some d → d < n) → stepOp cx f lX Su ops o = some Su' → ∃ v, At cx f w0 E0 P R ea n Su' (a.put o.dst v) w
theorem zPo (hty : jB Pr cx.ty) {n : Nat} : eO cx f w0 E0 P R ea n := by
 intro ops o Su Su' a w hat hp hdst hq
 obtain ⟨S, hr, rfl, hd, hsz⟩ := hat
 cases hw : y5 (V.erS S) ops o with
 | none => simp [stepOp, hw] at hq
 | some b =>
  cases b with
  | false =>
   simp only [stepOp, hw] at hq
   have hn : New (zB cx f) w0 E0 P R ea w S (.tup []) := New.plain (by simp [okX, xR]) (by simp [zE, xA]) (by simp [zD, yN])
   exact ⟨_, dI (xG := .tup []) hr hn (by simp [erX, zW, wG]) rfl hd hsz hdst hq⟩
  | true =>
   rw [kV (kN hp) hw] at hq
   cases hv : qval cx f lX (V.erS S) o.type o.op with
   | none => simp [hv] at hq
   | some r =>
    obtain ⟨z, Sz⟩ := r
    simp only [hv, Option.bind_some] at hq
    obtain ⟨S', xG, hres, _⟩ := zPq (Pr := Pr) hty hr rfl hp hv
    exact ⟨_, dI hres.rel hres.new hres.er hres.erS hd hsz hdst hq⟩
theorem zLg (hty : jB Pr cx.ty) {n : Nat} {ops : Array Oper} {o : Oper} {Su Su' : SU} (hat : At cx f w0 E0 P R ea n Su a w) (hp : gV o.op = true) (hg : o.guard = none) (hdst : ∀ d, o.dst = some d → d < n) (hq : stepOp cx f call Su ops o = some Su') :
  ∃ v, At cx f w0 E0 P R ea n Su' (a.put o.dst v) w ∧ ∀ w', (execOp a.eval o).run Pr w' = .ok (.value v) w' := by
 obtain ⟨S, hr, rfl, hd, hsz⟩ := hat
 rw [kV (kN (zFn hp)) (by simp only [y5, hg])] at hq
 cases hv : qval cx f call (V.erS S) o.type o.op with
 | none => simp [hv] at hq
 | some r =>
  obtain ⟨z, Sz⟩ := r
  simp only [hv, Option.bind_some] at hq
  obtain ⟨S', xG, hres, hrun⟩ := zLi (Pr := Pr) hty hr rfl hp hv
  exact ⟨_, dI hres.rel hres.new hres.er hres.erS hd hsz hdst hq, hrun⟩
theorem iL {call : zX} {Su : SU} {ops : Array Oper} {o : Oper} (hp : j4 o.op = true) : stepOp cx f call Su ops o = stepOp cx f lX Su ops o := by
 cases hw : y5 Su ops o with
 | none => simp only [stepOp, hw]
 | some b =>
  cases b with
  | false => simp only [stepOp, hw]
  | true =>
   rw [kV (kN hp) hw, kV (kN hp) hw]
   congr 1
   cases ho : o.op with
   | call c =>
    rw [ho] at hp
    obtain ⟨callee, args, argTypes⟩ := c
    cases callee with
    | builtin b =>
     cases b with
     | len =>
      simp only [qval]
      unfold qcall
      split <;> first | rfl | simp_all
     | _ => simp [j4] at hp
    | _ => simp [j4] at hp
   | _ => first | rfl | (rw [ho] at hp; simp [j4] at hp)
end
end Go.Proofs.YtlkjnlfddadlmaaGreatDoor.V
namespace Go.Proofs.YtlkjnlfddadlmaaGreatDoor.V
open Go.RowKit
section
variable {cx : Ctx} {f : Nat} {isv : Nat → Bool} {w0 : World} {E0 : Nat → Prop} {P : Nat → Nat → Prop} {R R' : Nat → Prop} {ea : List EA} {w w' : World} {S : SV} {tmps : Array Value} {Pr : Program} {a : Act} {call : zX}
mutual
theorem cC (r : Root) (q : List Nat) : ∀ c : CV, zJ (zS r q c) = zJ c
 | .t x => rfl
 | .ptr v r' p off => by simp only [zS]; split <;> rfl
 | .bor v r' p i off sz n => by simp only [zS]; split <;> rfl
 | .rptr v cs => rfl
 | .nilp => rfl
 | .nilf => rfl
 | .fn g caps => by simp only [zS, zJ, jI r q caps]
 | .lst v sz n cs => rfl
theorem jI (r : Root) (q : List Nat) : ∀ cs : List CV, yC (yT r q cs) = yC cs
 | [] => rfl
 | c :: cs => by simp only [yT, yC, cC r q c, jI r q cs]
end
mutual
theorem pD (r : Root) (q : List Nat) : ∀ x : XV, zQ (z6 r q x) = zQ x
 | .c x => by simp only [z6, zQ, cC]
 | .agg cs => by simp only [z6, zQ, jI]
 | .box v cs => rfl
 | .tup xs => by simp only [z6, zQ, zBa r q xs]
 | .undef => rfl
theorem zBa (r : Root) (q : List Nat) : ∀ xs : List XV, jF (xC r q xs) = jF xs
 | [] => rfl
 | x :: xs => by simp only [xC, jF, pD r q x, zBa r q xs]
end
mutual
theorem cA (r : Root) (q : List Nat) : ∀ c : CV, zP (zS r q c) = zP c
 | .t x => rfl
 | .ptr v r' p off => by simp only [zS]; split <;> simp [zP, zU]
 | .bor v r' p i off sz n => by simp only [zS]; split <;> simp [zP, zU]
 | .rptr v cs => rfl
 | .nilp => rfl
 | .nilf => rfl
 | .fn g caps => rfl
 | .lst v sz n cs => by simp only [zS, zP, wY r q cs]
theorem wY (r : Root) (q : List Nat) : ∀ cs : List CV, zH (yT r q cs) = zH cs
 | [] => rfl
 | c :: cs => by simp only [yT, zH, cA r q c, wY r q cs]
end
mutual
theorem zDw (r : Root) (q : List Nat) : ∀ x : XV, zE (z6 r q x) = zE x
 | .c x => by simp only [z6, zE, cA]
 | .agg cs => by simp only [z6, zE, wY]
 | .box v cs => by simp only [z6, zE, wY]
 | .tup xs => by simp only [z6, zE, zA7 r q xs]
 | .undef => rfl
theorem zA7 (r : Root) (q : List Nat) : ∀ xs : List XV, xA (xC r q xs) = xA xs
 | [] => rfl
 | x :: xs => by simp only [xC, xA, zDw r q x, zA7 r q xs]
end
mutual
theorem rP (r : Root) (q : List Nat) : ∀ c : CV, ∀ k ∈ zF (zS r q c), k ∈ zF c
 | .t x, k, hk => hk
 | .ptr v r' p off, k, hk => by
  simp only [zS] at hk
  split at hk
  ·simp [zF] at hk
  ·exact hk
 | .bor v r' p i off sz n, k, hk => by
  simp only [zS] at hk
  split at hk
  ·simp [zF] at hk
  ·exact hk
 | .rptr v cs, k, hk => hk
 | .nilp, k, hk => hk
 | .nilf, k, hk => hk
 | .fn g caps, k, hk => by simp only [zS, zF] at hk ⊢; exact kG r q caps k hk
 | .lst v sz n cs, k, hk => by simp only [zS, zF] at hk ⊢; exact kG r q cs k hk
theorem kG (r : Root) (q : List Nat) : ∀ cs : List CV, ∀ k ∈ zK (yT r q cs), k ∈ zK cs
 | [], k, hk => hk
 | c :: cs, k, hk => by
  simp only [yT, zK, List.mem_append] at hk ⊢
  exact hk.imp (rP r q c k) (kG r q cs k)
end
mutual
theorem rQ (r : Root) (q : List Nat) : ∀ x : XV, ∀ k ∈ zD (z6 r q x), k ∈ zD x
 | .c x, k, hk => by simp only [z6, zD] at hk ⊢; exact rP r q x k hk
 | .agg cs, k, hk => by simp only [z6, zD] at hk ⊢; exact kG r q cs k hk
 | .box v cs, k, hk => by simp only [z6, zD] at hk ⊢; exact kG r q cs k hk
 | .tup xs, k, hk => by simp only [z6, zD] at hk ⊢; exact oT r q xs k hk
 | .undef, k, hk => hk
theorem oT (r : Root) (q : List Nat) : ∀ xs : List XV, ∀ k ∈ yN (xC r q xs), k ∈ yN xs
 | [], k, hk => hk
 | x :: xs, k, hk => by
  simp only [xC, yN, List.mem_append] at hk ⊢
  exact hk.imp (rQ r q x k) (oT r q xs k)
end
theorem zAo (r : Root) (q : List Nat) : ∀ xs : List XV, zT (xs.map (z6 r q)) = (zT xs).map (zS r q)
 | [] => rfl
 | x :: xs => by
  cases x <;> simp [z6, zT, zAo r q xs, kO]
theorem zB9 (r : Root) (q : List Nat) (k : Root) : zA (kill r q S) k = (zA S k).map (·.map (zS r q)) := by
 cases k with
 | sl d =>
  simp only [zA, kill]
  cases S.s d <;> simp [z6, kO, zDz, zAo]
 | ex j =>
  simp only [zA, kill, List.getElem?_map]
  cases S.e[j]? <;> simp [kO]
theorem zP7 (r : Root) (q : List Nat) (cs : List CV) (p : List Nat) : y9 (cs.map (zS r q)) p = (y9 cs p).map (·.map (zS r q)) := by
 cases p with
 | nil => simp [y9]
 | cons i p =>
  simp only [y9, List.getElem?_map]
  cases hc : cs[i]? with
  | none => simp
  | some c =>
   cases c with
   | t x =>
    cases x with
    | sl v tag sz n ds =>
     cases tag with
     | zero =>
      simp only [Option.map_some, zS]
      cases sub ds p with
      | none => simp
      | some es => simp only [Option.map_some, List.map_map]; congr 1
     | succ m => simp [zS]
    | _ => simp [zS]
   | ptr v r' p' off => by_cases hx : r = r' ∧ pre q p' = true <;> simp [zS, hx]
   | bor v r' p' i' off sz n => by_cases hx : r = r' ∧ pre q (p' ++ [i']) = true <;> simp [zS, hx]
   | _ => simp [zS]
theorem uL (r : Root) (q : List Nat) (k : Root) (p : List Nat) (i : Nat) : at_ (kill r q S) k p i = (at_ S k p i).map (zS r q) := by
 simp only [at_, zB9]
 cases zA S k with
 | none => simp
 | some cs =>
  simp only [Option.map_some, Option.bind_some, zP7]
  cases y9 cs p with
  | none => simp
  | some ds => simp
theorem iF (r : Root) (q : List Nat) (k : Root) : rootAd (kill r q S) ea k = rootAd S ea k := by
 cases k with
 | sl d =>
  simp only [rootAd, kill]
  cases S.s d with
  | box v cs => cases v with
   | pointer p => cases p <;> rfl
   | _ => rfl
  | _ => simp [z6]
 | ex j => rfl
theorem zKx (r : Root) (q : List Nat) (k : Root) (p : List Nat) (i : Nat) : k8 (kill r q S) k p i = k8 S k p i := by
 simp only [k8, uL]
 cases at_ S k p i with
 | none => simp
 | some c =>
  cases c with
  | t x => simp [zS]
  | ptr v r' p' off => by_cases hx : r = r' ∧ pre q p' = true <;> simp [zS, hx]
  | bor v r' p' i' off sz n => by_cases hx : r = r' ∧ pre q (p' ++ [i']) = true <;> simp [zS, hx]
  | _ => simp [zS]
theorem lZ (r : Root) (q : List Nat) (k : Root) (p : List Nat) : yV (kill r q S) ea k p = yV S ea k p := by
 simp only [yV, iF, zKx]
theorem wD.kill {r : Root} {q : List Nat} {k : Root} {p : List Nat} {i off sz n : Nat} {v : Value} (h : wD S k p i off sz n v) : wD (kill r q S) k p i off sz n v := by
 obtain ⟨b, m, ds, hat, hrest⟩ := h
 exact ⟨b, m, ds, by rw [uL, hat]; rfl, hrest⟩
theorem vB.slice {k : Root} {p : List Nat} {off : Nat} {v : Value} (h : vB S ea k p off v) : ∃ p, v = .pointer p := by
 obtain ⟨ad, _, rfl⟩ := h; exact ⟨_, rfl⟩
theorem wD.slice {k : Root} {p : List Nat} {i off sz n : Nat} {v : Value} (h : wD S k p i off sz n v) : ∃ A m c, v = .slice A m c := by
 obtain ⟨b, m, ds, _, _, h⟩ := h
 rcases h with ⟨_, rfl, _⟩ | ⟨_, _, _, _, _, rfl, _⟩ <;> exact ⟨_, _, _, rfl⟩
mutual
theorem zBp (r : Root) (q : List Nat) : ∀ {c : CV}, okC w P R S ea c → okC w P R (kill r q S) ea (zS r q c)
 | .t x, h => by simpa [zS, okC] using h
 | .ptr v r' p off, h => by
  simp only [zS]
  simp only [okC] at h
  split
  ·simp only [okC, okT]; exact .inr h.slice
  ·simp only [okC, vB, lZ]; exact h
 | .bor v r' p i off sz n, h => by
  simp only [zS]
  simp only [okC] at h
  split
  ·simp only [okC, okT]; exact .inl h.slice
  ·simp only [okC]; exact h.kill
 | .rptr v cs, h => by simpa [zS, okC] using h
 | .nilp, _ => by simp [zS, okC]
 | .nilf, _ => by simp [zS, okC]
 | .fn g caps, h => by
  simp only [zS, okC] at h ⊢
  exact ⟨u7 r q h.1, by rw [wY]; exact h.2⟩
 | .lst v sz n cs, h => by
  simp only [zS, okC] at h ⊢
  exact ⟨by rw [kO, List.length_map]; exact h.1, u7 r q h.2.1, by rw [jI]; exact h.2.2⟩
theorem u7 (r : Root) (q : List Nat) : ∀ {cs : List CV}, yF w P R S ea cs → yF w P R (kill r q S) ea (yT r q cs)
 | [], _ => by simp [yT, yF]
 | c :: cs, h => by simp only [yT, yF] at h ⊢; exact ⟨zBp r q h.1, u7 r q h.2⟩
end
theorem vA.kill {r : Root} {q : List Nat} {ad : Addr} {cs : List CV} (h : vA w ad cs) : vA w ad (yT r q cs) := by
 obtain ⟨h1, h2, cur, e, h3, h4⟩ := h
 exact ⟨h1, h2, cur, e, h3, by rw [jI]; exact h4⟩
mutual
theorem zBs (r : Root) (q : List Nat) : ∀ {x : XV}, okX w P R S ea x → okX w P R (kill r q S) ea (z6 r q x)
 | .c x, h => by simp only [z6, okX] at h ⊢; exact zBp r q h
 | .agg cs, h => by simp only [z6, okX] at h ⊢; exact u7 r q h
 | .box v cs, h => by
  simp only [z6, okX] at h ⊢
  obtain ⟨h1, ad, h2, h3⟩ := h
  exact ⟨u7 r q h1, ad, h2, h3.kill⟩
 | .tup xs, h => by simp only [z6, okX] at h ⊢; exact zD7 r q h
 | .undef, _ => by simp [z6, okX]
theorem zD7 (r : Root) (q : List Nat) : ∀ {xs : List XV}, xR w P R S ea xs → xR w P R (kill r q S) ea (xC r q xs)
 | [], _ => by simp [xC, xR]
 | x :: xs, h => by simp only [xC, xR] at h ⊢; exact ⟨zBs r q h.1, zD7 r q h.2⟩
end
theorem jM (r : Root) (q : List Nat) (k : Root) : zL (kill r q S) ea k = zL S ea k := by
 cases k with
 | sl d => simp only [zL, kill, zDw]
 | ex j =>
  simp only [zL, kill, List.getElem?_map]
  cases S.e[j]? <;> simp [wY]
theorem Rel.kill (h : Rel isv w0 E0 P R ea w S tmps) (r : Root) (q : List Nat) : Rel isv w0 E0 P R ea w (kill r q S) tmps where
 val d hd := by
  rcases h.val d hd with e | e
  ·left; simp [V.kill, e, z6]
  ·right; simp only [V.kill, pD]; exact e
 hi d hd := by simp [V.kill, h.hi d hd, z6]
 okS d := zBs r q (h.okS d)
 okE j cs hj := by
  simp only [V.kill, List.getElem?_map] at hj
  cases hc : S.e[j]? with
  | none => simp [hc] at hj
  | some ds =>
   simp only [hc, Option.map_some, Option.some.injEq] at hj
   subst hj
   exact ⟨u7 r q (h.okE j ds hc).1, fun ad had => ((h.okE j ds hc).2 ad had).kill⟩
 eaL := by simp only [V.kill, List.length_map]; exact h.eaL
 row j vs cs hea hj := by
  simp only [V.kill, List.getElem?_map] at hj
  cases hc : S.e[j]? with
  | none => simp [hc] at hj
  | some ds =>
   simp only [hc, Option.map_some, Option.some.injEq] at hj
   subst hj
   rw [jI]; exact h.row j vs ds hea hc
 refS d d' hd := h.refS d d' (rQ r q _ _ hd)
 refE j cs d' hj hd := by
  simp only [V.kill, List.getElem?_map] at hj
  cases hc : S.e[j]? with
  | none => simp [hc] at hj
  | some ds =>
   simp only [hc, Option.map_some, Option.some.injEq] at hj
   subst hj
   exact h.refE j ds d' hc (kG r q _ _ hd)
 dis k k' b hb hb' := h.dis k k' b (by rwa [jM] at hb) (by rwa [jM] at hb')
 nd k := by rw [jM]; exact h.nd k
 lt k b hb := h.lt k b (by rwa [jM] at hb)
 own k b hb := h.own k b (by rwa [jM] at hb)
 notR k b hb := h.notR k b (by rwa [jM] at hb)
 PR := h.PR
 ltR := h.ltR
 frm := h.frm
end
end Go.Proofs.YtlkjnlfddadlmaaGreatDoor.V
namespace Go.Proofs.YtlkjnlfddadlmaaGreatDoor.V
open Go.RowKit
section
variable {cx : Ctx} {f : Nat} {isv : Nat → Bool} {w0 : World} {E0 : Nat → Prop} {P : Nat → Nat → Prop} {R R' : Nat → Prop} {ea : List EA} {w w' : World} {S : SV} {tmps : Array Value} {Pr : Program} {a : Act} {call : zX}
def atT (cs : List TV) (p : List Nat) (i : Nat) : Option TV := (sub cs p).bind (·[i]?)
def ShT (x y : Option TV) : Prop := x = y ∨ ∃ b sz m ds es, x = some (.sl b 0 sz m ds) ∧ y = some (.sl b 0 sz m es) ∧ ds.length = es.length
theorem uE : ∀ {p : List Nat} {cs ds : List TV} {i : Nat} {y : TV}, xJ cs p i y = some ds → ds.length = cs.length
 | [], cs, ds, i, y, h => by
  simp only [xJ] at h
  split at h
  ·simp only [Option.some.injEq] at h; subst h; simp
  ·cases h
 | k :: p, cs, ds, i, y, h => by
  simp only [xJ] at h
  split at h
  ·cases hs : xJ ‹_› p i y with
   | none => simp [hs] at h
   | some es => simp only [hs, Option.map_some, Option.some.injEq] at h; subst h; simp
  ·cases h
theorem zOb : ∀ {p : List Nat} {cs ds : List TV} {i : Nat} {y : TV}, xJ cs p i y = some ds → ∀ (p' : List Nat) (i' : Nat), pre (p ++ [i]) (p' ++ [i']) = false → ShT (atT cs p' i') (atT ds p' i')
 | [], cs, ds, i, y, h, p', i', hp => by
  simp only [xJ] at h
  split at h
  ·simp only [Option.some.injEq] at h
   subst h
   left
   cases p' with
   | nil =>
    have : i ≠ i' := by intro e; subst e; simp [pre] at hp
    simp [atT, sub, List.getElem?_set_ne this]
   | cons j p'' =>
    have : i ≠ j := by intro e; subst e; simp [pre] at hp
    simp [atT, sub, List.getElem?_set_ne this]
  ·cases h
 | k :: p, cs, ds, i, y, h, p', i', hp => by
  simp only [xJ] at h
  split at h
  ·rename_i v sz n es hk
   cases hs : xJ es p i y with
   | none => simp [hs] at h
   | some fs =>
    simp only [hs, Option.map_some, Option.some.injEq] at h
    subst h
    have hlt : k < cs.length := (List.getElem?_eq_some_iff.1 hk).1
    cases p' with
    | nil =>
     by_cases e : k = i'
     ·subst e
      right
      exact ⟨v, sz, n, es, fs, by simp [atT, sub, hk], by simp [atT, sub, hlt], (uE hs).symm⟩
     ·left; simp [atT, sub, List.getElem?_set_ne e]
    | cons j p'' =>
     by_cases e : k = j
     ·subst e
      have ih := zOb hs p'' i' (by simpa [pre] using hp)
      have h1 : atT cs (k :: p'') i' = atT es p'' i' := by simp [atT, sub, hk]
      have h2 : atT (cs.set k (.sl v 0 sz n fs)) (k :: p'') i' = atT fs p'' i' := by simp [atT, sub, hlt]
      rw [h1, h2]; exact ih
     ·left; simp [atT, sub, List.getElem?_set_ne e]
  ·cases h
theorem nI {β : Type} (g : β → List Nat) : ∀ {cs : List β} {i : Nat} {x y : β}, cs[i]? = some x → (g x ++ (cs.set i y).flatMap g).Perm (g y ++ cs.flatMap g)
 | [], i, x, y, h => by simp at h
 | c :: cs, 0, x, y, h => by
  simp only [List.getElem?_cons_zero, Option.some.injEq] at h
  subst h
  simp only [List.set_cons_zero, List.flatMap_cons]
  rw [← List.append_assoc, ← List.append_assoc]
  exact List.Perm.append_right _ List.perm_append_comm
 | c :: cs, i + 1, x, y, h => by
  simp only [List.getElem?_cons_succ] at h
  have ih := nI g (y := y) h
  simp only [List.set_cons_succ, List.flatMap_cons]
  calc (g x ++ (g c ++ (cs.set i y).flatMap g)).Perm (g c ++ (g x ++ (cs.set i y).flatMap g)) := by rw [← List.append_assoc, ← List.append_assoc]; exact List.Perm.append_right _ List.perm_append_comm
   _ |>.Perm (g c ++ (g y ++ cs.flatMap g)) := List.Perm.append_left _ ih
   _ |>.Perm (g y ++ (g c ++ cs.flatMap g)) := by rw [← List.append_assoc, ← List.append_assoc]; exact List.Perm.append_right _ List.perm_append_comm
theorem zJg : ∀ {p : List Nat} {cs ds : List TV} {i : Nat} {x y : TV}, xJ cs p i y = some ds → atT cs p i = some x → (zU x ++ zZ ds).Perm (zU y ++ zZ cs)
 | [], cs, ds, i, x, y, h, hx => by
  simp only [xJ] at h
  split at h
  ·simp only [Option.some.injEq] at h
   subst h
   rw [xD, xD]
   exact nI zU (by simpa [atT, sub] using hx)
  ·cases h
 | k :: p, cs, ds, i, x, y, h, hx => by
  simp only [xJ] at h
  split at h
  ·rename_i v sz n es hk
   cases hs : xJ es p i y with
   | none => simp [hs] at h
   | some fs =>
    simp only [hs, Option.map_some, Option.some.injEq] at h
    subst h
    have ih := zJg hs (x := x) (by simpa [atT, sub, hk] using hx)
    have h1 := nI zU (y := T.sl v 0 sz n fs) hk
    simp only [← xD] at h1
    simp only [zU, if_true] at h1
    -- hdr v ++ zZ es ++ X ~ hdr v ++ zZ fs ++ zZ cs
    have h2 : (zZ es ++ zZ (cs.set k (.sl v 0 sz n fs))).Perm (zZ fs ++ zZ cs) := by
     rw [List.append_assoc, List.append_assoc] at h1
     exact (List.perm_append_left_iff _).1 h1
    have h3 : (zZ es ++ (zU x ++ zZ (cs.set k (.sl v 0 sz n fs)))).Perm (zZ es ++ (zU y ++ zZ cs)) := by
     have e1 : (zZ es ++ (zU x ++ zZ (cs.set k (.sl v 0 sz n fs)))).Perm (zU x ++ (zZ es ++ zZ (cs.set k (.sl v 0 sz n fs)))) := by
      rw [← List.append_assoc, ← List.append_assoc]; exact List.Perm.append_right _ List.perm_append_comm
     have e2 : (zU x ++ (zZ es ++ zZ (cs.set k (.sl v 0 sz n fs)))).Perm (zU x ++ (zZ fs ++ zZ cs)) := List.Perm.append_left _ h2
     have e3 : (zU x ++ (zZ fs ++ zZ cs)).Perm ((zU y ++ zZ es) ++ zZ cs) := by
      rw [← List.append_assoc]; exact List.Perm.append_right _ ih
     have e4 : ((zU y ++ zZ es) ++ zZ cs).Perm (zZ es ++ (zU y ++ zZ cs)) := by
      rw [← List.append_assoc]; exact List.Perm.append_right _ List.perm_append_comm
     exact ((e1.trans e2).trans e3).trans e4
    exact (List.perm_append_left_iff _).1 h3
  ·cases h
theorem zOc : ∀ {p : List Nat} {cs ds : List TV} {i : Nat} {x y : TV}, xJ cs p i y = some ds → atT cs p i = some x → zV y = zV x → okT w P R y → xP w P R cs → xP w P R ds ∧ ds.map zV = cs.map zV
 | [], cs, ds, i, x, y, h, hx, hv, hy, hok => by
  simp only [xJ] at h
  split at h
  ·simp only [Option.some.injEq] at h
   subst h
   simp only [atT, sub, Option.bind_some] at hx
   refine ⟨yJ.2 fun z hz => ?_, ?_⟩
   ·rcases List.mem_or_eq_of_mem_set hz with hz | rfl
    ·exact yJ.1 hok z hz
    ·exact hy
   ·rw [List.map_set, hv]
    apply List.ext_getElem?
    intro j
    by_cases e : i = j
    ·subst e
     rw [List.getElem?_set_self' , List.getElem?_map, hx]
     simp
    ·rw [List.getElem?_set_ne e]
  ·cases h
 | k :: p, cs, ds, i, x, y, h, hx, hv, hy, hok => by
  simp only [xJ] at h
  split at h
  ·rename_i v sz n es hk
   cases hs : xJ es p i y with
   | none => simp [hs] at h
   | some fs =>
    simp only [hs, Option.map_some, Option.some.injEq] at h
    subst h
    have hl := yJ.1 hok _ (List.mem_of_getElem? hk)
    simp only [okT, if_true] at hl
    obtain ⟨i1, i2⟩ := zOc hs (x := x) (by simpa [atT, sub, hk] using hx) hv hy hl.2.1
    have hnew : okT w P R (.sl v 0 sz n fs) := by
     simp only [okT, if_true]
     exact ⟨by rw [uE hs]; exact hl.1, i1, by rw [i2]; exact hl.2.2⟩
    refine ⟨yJ.2 fun z hz => ?_, ?_⟩
    ·rcases List.mem_or_eq_of_mem_set hz with hz | rfl
     ·exact yJ.1 hok z hz
     ·exact hnew
    ·rw [List.map_set]
     apply List.ext_getElem?
     intro j
     by_cases e : k = j
     ·subst e
      rw [List.getElem?_set_self', List.getElem?_map, hk]
      simp [zV]
     ·rw [List.getElem?_set_ne e]
  ·cases h
end
end Go.Proofs.YtlkjnlfddadlmaaGreatDoor.V
namespace Go.Proofs.YtlkjnlfddadlmaaGreatDoor.V
open Go.RowKit
section
variable {cx : Ctx} {f : Nat} {isv : Nat → Bool} {w0 : World} {E0 : Nat → Prop} {P : Nat → Nat → Prop} {R R' : Nat → Prop} {ea : List EA} {w w' : World} {S S' : SV} {tmps : Array Value} {Pr : Program} {a : Act} {call : zX}
def atC (cs : List CV) (p : List Nat) (i : Nat) : Option CV := (y9 cs p).bind (·[i]?)
def ShC (x y : Option CV) : Prop := x = y ∨ ∃ b sz m ds es, x = some (.t (.sl b 0 sz m ds)) ∧ y = some (.t (.sl b 0 sz m es)) ∧ ds.length = es.length
theorem gY {cs : List CV} {k i : Nat} {p : List Nat} {v : Value} {sz n : Nat} {es : List TV} (hk : cs[k]? = some (.t (.sl v 0 sz n es))) : atC cs (k :: p) i = (atT es p i).map .t := by
 simp only [atC, y9, hk, atT]
 cases sub es p with
 | none => simp
 | some fs => simp
theorem qY {cs ds : List CV} {p : List Nat} {off : Nat} {y : CV} (h : kU cs p off y = some ds) :
  (p = [] ∧ off < cs.length ∧ ds = cs.set off y) ∨ ∃ k q y' v sz n es fs, p = k :: q ∧ y = .t y' ∧ cs[k]? = some (.t (.sl v 0 sz n es)) ∧ xJ es q off y' = some fs ∧ ds = cs.set k (.t (.sl v 0 sz n fs)) := by
 cases p with
 | nil =>
  simp only [kU] at h
  split at h
  ·rename_i hl
   simp only [Option.some.injEq] at h
   exact .inl ⟨rfl, hl, h.symm⟩
  ·cases h
 | cons k q =>
  cases y with
  | t y' =>
   simp only [kU] at h
   split at h
   ·rename_i v sz n es hk
    cases hs : xJ es q off y' with
    | none => simp [hs] at h
    | some fs =>
     simp only [hs, Option.map_some, Option.some.injEq] at h
     exact .inr ⟨k, q, y', v, sz, n, es, fs, rfl, rfl, hk, hs, h.symm⟩
   ·cases h
  | _ => simp [kU] at h
theorem vH {cs ds : List CV} {p : List Nat} {off : Nat} {y : CV} (h : kU cs p off y = some ds) : ds.length = cs.length := by
 rcases qY h with ⟨_, _, rfl⟩ | ⟨_, _, _, _, _, _, _, _, _, _, _, _, rfl⟩ <;> simp
theorem zVc {cs ds : List CV} {p : List Nat} {off : Nat} {y : CV} (h : kU cs p off y = some ds) (p' : List Nat) (i' : Nat) (hp : pre (p ++ [off]) (p' ++ [i']) = false) : ShC (atC cs p' i') (atC ds p' i') := by
 rcases qY h with ⟨rfl, _, rfl⟩ | ⟨k, q, y', v, sz, n, es, fs, rfl, rfl, hk, hs, rfl⟩
 ·left
  cases p' with
  | nil =>
   have : off ≠ i' := by intro e; subst e; simp [pre] at hp
   simp [atC, y9, List.getElem?_set_ne this]
  | cons j p'' =>
   have : off ≠ j := by intro e; subst e; simp [pre] at hp
   simp [atC, y9, List.getElem?_set_ne this]
 ·have hlt : k < cs.length := (List.getElem?_eq_some_iff.1 hk).1
  cases p' with
  | nil =>
   by_cases e : k = i'
   ·subst e
    right
    exact ⟨v, sz, n, es, fs, by simp [atC, y9, hk], by simp [atC, y9, hlt], (uE hs).symm⟩
   ·left; simp [atC, y9, List.getElem?_set_ne e]
  | cons j p'' =>
   by_cases e : k = j
   ·subst e
    have ih := zOb hs p'' i' (by simpa [pre] using hp)
    rw [gY hk, gY (show (cs.set k (.t (.sl v 0 sz n fs)))[k]? = some (.t (.sl v 0 sz n fs)) by simp [hlt])]
    rcases ih with ih | ⟨b, sz', m, xs, ys, e1, e2, e3⟩
    ·left; rw [ih]
    ·right; exact ⟨b, sz', m, xs, ys, by rw [e1]; rfl, by rw [e2]; rfl, e3⟩
   ·left; simp [atC, y9, List.getElem?_set_ne e]
theorem zCf {cs ds : List CV} {p : List Nat} {off : Nat} {x y : CV} (h : kU cs p off y = some ds) (hx : atC cs p off = some x) : (zP x ++ zH ds).Perm (zP y ++ zH cs) := by
 rcases qY h with ⟨rfl, _, rfl⟩ | ⟨k, q, y', v, sz, n, es, fs, rfl, rfl, hk, hs, rfl⟩
 ·rw [yW, yW]
  exact nI zP (by simpa [atC, y9] using hx)
 ·rw [gY hk] at hx
  cases ha : atT es q off with
  | none => simp [ha] at hx
  | some x' =>
   simp only [ha, Option.map_some, Option.some.injEq] at hx
   subst hx
   have ih := zJg hs ha
   have h1 := nI zP (y := C.t (.sl v 0 sz n fs)) hk
   simp only [← yW] at h1
   simp only [zP, zU, if_true] at h1 ⊢
   have h2 : (zZ es ++ zH (cs.set k (.t (.sl v 0 sz n fs)))).Perm (zZ fs ++ zH cs) := by
    rw [List.append_assoc, List.append_assoc] at h1
    exact (List.perm_append_left_iff _).1 h1
   have h3 : (zZ es ++ (zU x' ++ zH (cs.set k (.t (.sl v 0 sz n fs))))).Perm (zZ es ++ (zU y' ++ zH cs)) := by
    have e1 : (zZ es ++ (zU x' ++ zH (cs.set k (.t (.sl v 0 sz n fs))))).Perm (zU x' ++ (zZ es ++ zH (cs.set k (.t (.sl v 0 sz n fs))))) := by
     rw [← List.append_assoc, ← List.append_assoc]; exact List.Perm.append_right _ List.perm_append_comm
    have e2 : (zU x' ++ (zZ es ++ zH (cs.set k (.t (.sl v 0 sz n fs))))).Perm (zU x' ++ (zZ fs ++ zH cs)) := List.Perm.append_left _ h2
    have e3 : (zU x' ++ (zZ fs ++ zH cs)).Perm ((zU y' ++ zZ es) ++ zH cs) := by
     rw [← List.append_assoc]; exact List.Perm.append_right _ ih
    have e4 : ((zU y' ++ zZ es) ++ zH cs).Perm (zZ es ++ (zU y' ++ zH cs)) := by
     rw [← List.append_assoc]; exact List.Perm.append_right _ List.perm_append_comm
    exact ((e1.trans e2).trans e3).trans e4
   exact (List.perm_append_left_iff _).1 h3
theorem zJd {cs ds : List CV} {p : List Nat} {off : Nat} {x y : CV} (h : kU cs p off y = some ds) (hx : atC cs p off = some x) (hv : zJ y = zJ x) : yC ds = yC cs := by
 rw [z8, z8]
 rcases qY h with ⟨rfl, _, rfl⟩ | ⟨k, q, y', v, sz, n, es, fs, rfl, rfl, hk, hs, rfl⟩
 ·simp only [atC, y9, Option.bind_some] at hx
  rw [List.map_set, hv]
  apply List.ext_getElem?
  intro j
  by_cases e : off = j
  ·subst e
   rw [List.getElem?_set_self', List.getElem?_map, hx]
   simp
  ·rw [List.getElem?_set_ne e]
 ·rw [List.map_set]
  apply List.ext_getElem?
  intro j
  by_cases e : k = j
  ·subst e
   rw [List.getElem?_set_self', List.getElem?_map, hk]
   simp [zJ, zV]
  ·rw [List.getElem?_set_ne e]
theorem zJc {cs ds : List CV} {p : List Nat} {off : Nat} {x : CV} {y : TV} (h : kU cs p off (.t y) = some ds) (hx : atC cs p off = some x) (hv : zV y = zJ x) (hy : okT w P R y) (hok : yF w P R S ea cs) :
  ∀ c ∈ ds, c ∈ cs ∨ ∃ t, c = .t t ∧ okT w P R t := by
 rcases qY h with ⟨rfl, _, rfl⟩ | ⟨k, q, y', v, sz, n, es, fs, rfl, hy', hk, hs, rfl⟩
 ·intro c hc
  rcases List.mem_or_eq_of_mem_set hc with hc | rfl
  ·exact .inl hc
  ·exact .inr ⟨y, rfl, hy⟩
 ·cases hy'
  intro c hc
  rcases List.mem_or_eq_of_mem_set hc with hc | rfl
  ·exact .inl hc
  ·refine .inr ⟨_, rfl, ?_⟩
   have hl := zY.1 hok _ (List.mem_of_getElem? hk)
   simp only [okC, okT, if_true] at hl
   rw [gY hk] at hx
   cases ha : atT es q off with
   | none => simp [ha] at hx
   | some x' =>
    simp only [ha, Option.map_some, Option.some.injEq] at hx
    subst hx
    obtain ⟨i1, i2⟩ := zOc hs ha hv hy hl.2.1
    simp only [okT, if_true]
    exact ⟨by rw [uE hs]; exact hl.1, i1, by rw [i2]; exact hl.2.2⟩
theorem hY {cs ds : List CV} {p : List Nat} {off : Nat} {y : CV} (h : kU cs p off y = some ds) : ∀ k ∈ zK ds, k ∈ zK cs ∨ k ∈ zF y := by
 intro k hk
 rw [yI, List.mem_flatMap] at hk
 obtain ⟨c, hc, hk⟩ := hk
 rcases qY h with ⟨rfl, _, rfl⟩ | ⟨j, q, y', v, sz, n, es, fs, rfl, rfl, hj, hs, rfl⟩
 ·rcases List.mem_or_eq_of_mem_set hc with hc | rfl
  ·exact .inl (by rw [yI, List.mem_flatMap]; exact ⟨c, hc, hk⟩)
  ·exact .inr hk
 ·rcases List.mem_or_eq_of_mem_set hc with hc | rfl
  ·exact .inl (by rw [yI, List.mem_flatMap]; exact ⟨c, hc, hk⟩)
  ·simp [zF] at hk
def uT : List XV → List Nat
 | [] => []
 | .c _ :: xs => uT xs
 | .agg _ :: xs => uT xs
 | x :: xs => zE x ++ uT xs
theorem w8 : ∀ {xs : List XV} {cs : List CV}, cs.length = (zT xs).length → zT (yH xs cs) = cs
 | [], cs, h => by simp only [zT, List.length_nil] at h; simp [yH, zT, List.length_eq_zero_iff.1 h]
 | .c x :: xs, [], h => by simp [zT] at h
 | .c x :: xs, c :: cs, h => by
  simp only [zT, List.length_cons, Nat.add_right_cancel_iff] at h
  simp [yH, zT, w8 h]
 | .agg ds :: xs, cs, h => by
  simp only [zT, List.length_append] at h
  simp only [yH, zT]
  rw [w8 (by rw [List.length_drop]; omega), List.take_append_drop]
 | .box v ds :: xs, cs, h => by simp only [zT] at h; simp [yH, zT, w8 h]
 | .tup ys :: xs, cs, h => by simp only [zT] at h; simp [yH, zT, w8 h]
 | .undef :: xs, cs, h => by simp only [zT] at h; simp [yH, zT, w8 h]
theorem bC : ∀ (xs : List XV) (cs : List CV), uT (yH xs cs) = uT xs
 | [], cs => by simp [yH]
 | .c x :: xs, cs => by simp [yH, uT, bC xs]
 | .agg ds :: xs, cs => by simp [yH, uT, bC xs]
 | .box v ds :: xs, cs => by simp [yH, uT, bC xs]
 | .tup ys :: xs, cs => by simp [yH, uT, bC xs]
 | .undef :: xs, cs => by simp [yH, uT, bC xs]
theorem kD : ∀ xs : List XV, (xA xs).Perm (zH (zT xs) ++ uT xs)
 | [] => by simp [xA, zT, zH, uT]
 | .c x :: xs => by
  simp only [xA, zE, zT, zH, uT, List.append_assoc]
  exact List.Perm.append_left _ (kD xs)
 | .agg ds :: xs => by
  simp only [xA, zE, zT, kL, uT, List.append_assoc]
  exact List.Perm.append_left _ (kD xs)
 | .box v ds :: xs => by
  simp only [xA, zT, uT]
  refine (List.Perm.append_left _ (kD xs)).trans ?_
  rw [← List.append_assoc, ← List.append_assoc]
  exact List.Perm.append_right _ List.perm_append_comm
 | .tup ys :: xs => by
  simp only [xA, zT, uT]
  refine (List.Perm.append_left _ (kD xs)).trans ?_
  rw [← List.append_assoc, ← List.append_assoc]
  exact List.Perm.append_right _ List.perm_append_comm
 | .undef :: xs => by
  simp only [xA, zT, uT, zE, List.nil_append]
  exact kD xs
theorem gP : ∀ (xs : List XV) (cs : List CV), cs.length = (zT xs).length → ∀ k ∈ yN (yH xs cs), k ∈ yN xs ∨ k ∈ zK cs
 | [], cs, _, k, hk => by simp [yH, yN] at hk
 | .c x :: xs, [], h, k, hk => by simp [zT] at h
 | .c x :: xs, c :: cs, h, k, hk => by
  simp only [zT, List.length_cons, Nat.add_right_cancel_iff] at h
  simp only [yH, List.head?_cons, Option.getD_some, List.tail_cons, yN, zD, List.mem_append, zK] at hk ⊢
  rcases hk with hk | hk
  ·exact .inr (.inl hk)
  ·exact (gP xs cs h k hk).imp .inr .inr
 | .agg ds :: xs, cs, h, k, hk => by
  simp only [zT, List.length_append] at h
  simp only [yH, yN, zD, List.mem_append] at hk ⊢
  have hsub : ∀ ys : List CV, (∀ c ∈ ys, c ∈ cs) → k ∈ zK ys → k ∈ zK cs := by
   intro ys hy hk
   rw [yI, List.mem_flatMap] at hk ⊢
   obtain ⟨c, hc, hk⟩ := hk
   exact ⟨c, hy c hc, hk⟩
  rcases hk with hk | hk
  ·exact .inr (hsub _ (fun c hc => List.mem_of_mem_take hc) hk)
  ·rcases gP xs _ (by rw [List.length_drop]; omega) k hk with hk | hk
   ·exact .inl (.inr hk)
   ·exact .inr (hsub _ (fun c hc => List.mem_of_mem_drop hc) hk)
 | .box v ds :: xs, cs, h, k, hk => by
  simp only [zT] at h
  simp only [yH, yN, List.mem_append] at hk ⊢
  rcases hk with hk | hk
  ·exact .inl (.inl hk)
  ·exact (gP xs cs h k hk).imp .inr id
 | .tup ys :: xs, cs, h, k, hk => by
  simp only [zT] at h
  simp only [yH, yN, List.mem_append] at hk ⊢
  rcases hk with hk | hk
  ·exact .inl (.inl hk)
  ·exact (gP xs cs h k hk).imp .inr id
 | .undef :: xs, cs, h, k, hk => by
  simp only [zT] at h
  simp only [yH, yN, List.mem_append] at hk ⊢
  rcases hk with hk | hk
  ·exact .inl (.inl hk)
  ·exact (gP xs cs h k hk).imp .inr id
theorem bD : ∀ (xs : List XV) (cs : List CV), yC cs = yC (zT xs) → jF (yH xs cs) = jF xs
 | [], cs, _ => by simp [yH]
 | .c x :: xs, [], h => by simp [zT, yC] at h
 | .c x :: xs, c :: cs, h => by
  simp only [zT, yC, List.cons.injEq] at h
  simp [yH, jF, zQ, h.1, bD xs cs h.2]
 | .agg ds :: xs, cs, h => by
  simp only [zT, z8, List.map_append] at h
  have h1 : (cs.take ds.length).map zJ = ds.map zJ := by
   rw [List.map_take, h, List.take_append_of_le_length (by simp), List.take_of_length_le (by simp)]
  have h2 : (cs.drop ds.length).map zJ = (zT xs).map zJ := by
   rw [List.map_drop, h, List.drop_append_of_le_length (by simp), List.drop_of_length_le (by simp), List.nil_append]
  simp only [yH, jF, zQ, z8, h1]
  rw [bD xs _ (by rw [z8, z8, h2])]
 | .box v ds :: xs, cs, h => by simp only [zT] at h; simp [yH, jF, bD xs cs h]
 | .tup ys :: xs, cs, h => by simp only [zT] at h; simp [yH, jF, bD xs cs h]
 | .undef :: xs, cs, h => by simp only [zT] at h; simp [yH, jF, bD xs cs h]
end
end Go.Proofs.YtlkjnlfddadlmaaGreatDoor.V
namespace Go.Proofs.YtlkjnlfddadlmaaGreatDoor.V
open Go.RowKit
structure Em (S S' : SV) (ea : List EA) (r : Root) (q : List Nat) : Prop where
 same : ∀ k, k ≠ r → zA S' k = zA S k
 ad : ∀ k, rootAd S' ea k = rootAd S ea k
 sh : ∀ (p' : List Nat) (i' : Nat), pre q (p' ++ [i']) = false → ShC (at_ S r p' i') (at_ S' r p' i')
section
variable {cx : Ctx} {f : Nat} {isv : Nat → Bool} {w0 : World} {E0 : Nat → Prop} {P : Nat → Nat → Prop} {R R' : Nat → Prop} {ea : List EA} {w w' : World} {S S' : SV} {tmps : Array Value} {Pr : Program} {a : Act} {call : zX}
theorem Em.at {r : Root} {q : List Nat} (h : Em S S' ea r q) {k : Root} {p : List Nat} {i : Nat} (hk : ¬ (r = k ∧ pre q (p ++ [i]) = true)) : ShC (at_ S k p i) (at_ S' k p i) := by
 by_cases e : k = r
 ·subst e
  exact h.sh p i (by cases hp : pre q (p ++ [i]) <;> simp_all)
 ·left; rw [sP (h.same k e)]
theorem Em.hdr {r : Root} {q : List Nat} (h : Em S S' ea r q) {k : Root} {p : List Nat} {i : Nat} (hk : ¬ (r = k ∧ pre q (p ++ [i]) = true)) : k8 S' k p i = k8 S k p i := by
 simp only [k8]
 rcases h.at hk with e | ⟨b, sz, m, ds, es, e1, e2, _⟩
 ·rw [e]
 ·simp [e1, e2]
theorem Em.place {r : Root} {q : List Nat} (h : Em S S' ea r q) {k : Root} {p : List Nat} (hk : ¬ (r = k ∧ pre q p = true)) : yV S' ea k p = yV S ea k p := by
 simp only [yV, h.ad]
 split
 ·rfl
 ·rename_i hp
  rw [h.hdr (by rw [← j0 hp]; exact hk)]
mutual
theorem rW {r : Root} {q : List Nat} (h : Em S S' ea r q) : ∀ {c : CV}, okC w P R S ea c → okC w P R (kill r q S') ea (zS r q c)
 | .t x, hc => by simpa [zS, okC] using hc
 | .ptr v k p off, hc => by
  simp only [zS]
  simp only [okC] at hc
  split
  ·simp only [okC, okT]; exact .inr hc.slice
  ·rename_i hk
   simp only [okC, vB, lZ, h.place hk]; exact hc
 | .bor v k p i off sz n, hc => by
  simp only [zS]
  simp only [okC] at hc
  split
  ·simp only [okC, okT]; exact .inl hc.slice
  ·rename_i hk
   simp only [okC]
   refine wD.kill ?_
   obtain ⟨b, m, ds, hat, hl, hrest⟩ := hc
   rcases h.at hk with e | ⟨b', sz', m', ds', es', e1, e2, e3⟩
   ·exact ⟨b, m, ds, by rw [← e]; exact hat, hl, hrest⟩
   ·rw [hat] at e1
    simp only [Option.some.injEq, C.t.injEq, T.sl.injEq, true_and] at e1
    obtain ⟨rfl, rfl, rfl, rfl⟩ := e1
    exact ⟨b, m, es', e2, by omega, hrest⟩
 | .rptr v cs, hc => by simpa [zS, okC] using hc
 | .nilp, _ => by simp [zS, okC]
 | .nilf, _ => by simp [zS, okC]
 | .fn g caps, hc => by
  simp only [zS, okC] at hc ⊢
  exact ⟨pG h hc.1, by rw [wY]; exact hc.2⟩
 | .lst v sz n cs, hc => by
  simp only [zS, okC] at hc ⊢
  exact ⟨by rw [kO, List.length_map]; exact hc.1, pG h hc.2.1, by rw [jI]; exact hc.2.2⟩
theorem pG {r : Root} {q : List Nat} (h : Em S S' ea r q) : ∀ {cs : List CV}, yF w P R S ea cs → yF w P R (kill r q S') ea (yT r q cs)
 | [], _ => by simp [yT, yF]
 | c :: cs, hc => by simp only [yT, yF] at hc ⊢; exact ⟨rW h hc.1, pG h hc.2⟩
end
mutual
theorem zBr {r : Root} {q : List Nat} (h : Em S S' ea r q) : ∀ {x : XV}, okX w P R S ea x → okX w P R (kill r q S') ea (z6 r q x)
 | .c x, hc => by simp only [z6, okX] at hc ⊢; exact rW h hc
 | .agg cs, hc => by simp only [z6, okX] at hc ⊢; exact pG h hc
 | .box v cs, hc => by
  simp only [z6, okX] at hc ⊢
  obtain ⟨h1, ad, h2, h3⟩ := hc
  exact ⟨pG h h1, ad, h2, h3.kill⟩
 | .tup xs, hc => by simp only [z6, okX] at hc ⊢; exact zNv h hc
 | .undef, _ => by simp [z6, okX]
theorem zNv {r : Root} {q : List Nat} (h : Em S S' ea r q) : ∀ {xs : List XV}, xR w P R S ea xs → xR w P R (kill r q S') ea (xC r q xs)
 | [], _ => by simp [xC, xR]
 | x :: xs, hc => by simp only [xC, xR] at hc ⊢; exact ⟨zBr h hc.1, zNv h hc.2⟩
end
theorem bB {r : Root} {p : List Nat} {off : Nat} {c : CV} (h : z7 S r p off c = some S') : ∃ cs ds, zA S r = some cs ∧ kU cs p off c = some ds ∧ S' = zM S r ds := by
 simp only [z7] at h
 cases hr : zA S r with
 | none => simp [hr] at h
 | some cs =>
  simp only [hr, Option.bind_some] at h
  cases hs : kU cs p off c with
  | none => simp [hs] at h
  | some ds =>
   simp only [hs, Option.map_some, Option.some.injEq] at h
   exact ⟨cs, ds, rfl, hs, h.symm⟩
def cellsOf : XV → Option (List CV)
 | .box _ cs => some cs
 | .c x => some [x]
 | .agg cs => some cs
 | .tup xs => some (zT xs)
 | .undef => none
theorem yE (d : Nat) : zA S (.sl d) = cellsOf (S.s d) := by
 simp only [zA, cellsOf]
 cases S.s d <;> rfl
theorem sW {x : XV} {cs ds : List CV} (hc : cellsOf x = some cs) (hl : ds.length = cs.length) : cellsOf (x7 x ds) = some ds := by
 cases x with
 | c x =>
  simp only [cellsOf, Option.some.injEq] at hc
  subst hc
  simp only [List.length_singleton] at hl
  obtain ⟨y, rfl⟩ := List.length_eq_one_iff.1 hl
  rfl
 | agg xs => rfl
 | box v xs => rfl
 | tup xs =>
  simp only [cellsOf, Option.some.injEq] at hc
  subst hc
  simp only [x7, cellsOf, w8 hl]
 | undef => simp [cellsOf] at hc
theorem gX {r k : Root} {cs ds : List CV} (hc : zA S r = some cs) (hl : ds.length = cs.length) : zA (zM S r ds) k = if k = r then some ds else zA S k := by
 cases r with
 | sl d =>
  rw [yE] at hc
  cases k with
  | sl d' =>
   by_cases e : d' = d
   ·subst e
    rw [if_pos rfl, yE]
    simp only [zM, upd, if_true]
    exact sW hc hl
   ·rw [if_neg (by simpa using e), yE, yE]
    simp [zM, upd, e]
  | ex j => simp [zM, zA]
 | ex j =>
  simp only [zA] at hc
  have hj : j < S.e.length := (List.getElem?_eq_some_iff.1 hc).1
  cases k with
  | sl d' => simp [zM, zA]
  | ex j' =>
   by_cases e : j' = j
   ·subst e; simp [zM, zA, hj]
   ·rw [if_neg (by simpa using e)]
    simp [zM, zA, List.getElem?_set_ne (Ne.symm e)]
theorem zLl {r k : Root} {cs ds : List CV} (hc : zA S r = some cs) (hl : ds.length = cs.length) : rootAd (zM S r ds) ea k = rootAd S ea k := by
 cases r with
 | sl d =>
  rw [yE] at hc
  cases k with
  | sl d' =>
   by_cases e : d' = d
   ·subst e
    simp only [rootAd, zM, upd, if_true]
    cases hs : S.s d' with
    | c x =>
     rw [hs] at hc
     simp only [cellsOf, Option.some.injEq] at hc
     subst hc
     simp only [List.length_singleton] at hl
     obtain ⟨y, rfl⟩ := List.length_eq_one_iff.1 hl
     rfl
    | box v xs => cases v with
     | pointer p => cases p <;> rfl
     | _ => rfl
    | _ => simp [x7]
   ·simp [rootAd, zM, upd, e]
  | ex j => rfl
 | ex j => cases k <;> rfl
theorem sO {r : Root} {p : List Nat} {i : Nat} : at_ S r p i = (zA S r).bind fun cs => atC cs p i := by
 simp only [at_, atC]
 cases zA S r <;> simp
theorem dO {r : Root} {p : List Nat} {off : Nat} {c : CV} (h : z7 S r p off c = some S') : Em S S' ea r (p ++ [off]) := by
 obtain ⟨cs, ds, hr, hs, rfl⟩ := bB h
 have hl := vH hs
 refine ⟨fun k hk => ?_, fun k => zLl hr hl, fun p' i' hp => ?_⟩
 ·rw [gX hr hl, if_neg hk]
 ·rw [sO, sO, gX hr hl, if_pos rfl, hr]
  simp only [Option.bind_some]
  exact zVc hs p' i' hp
theorem nQ {x : XV} {cs ds : List CV} (hc : cellsOf x = some cs) (hv : yC ds = yC cs) : zQ (x7 x ds) = zQ x := by
 cases x with
 | c x =>
  simp only [cellsOf, Option.some.injEq] at hc
  subst hc
  have hl : ds.length = 1 := by
   have := congrArg List.length hv
   simpa [z8] using this
  obtain ⟨y, rfl⟩ := List.length_eq_one_iff.1 hl
  simp only [yC, List.cons.injEq, and_true] at hv
  simp [x7, zQ, hv]
 | agg xs =>
  simp only [cellsOf, Option.some.injEq] at hc
  subst hc
  simp [x7, zQ, hv]
 | box v xs => rfl
 | tup xs =>
  simp only [cellsOf, Option.some.injEq] at hc
  subst hc
  simp [x7, zQ, bD xs ds hv]
 | undef => rfl
theorem tX {x : XV} {cs ds : List CV} {l m : List Nat} (hc : cellsOf x = some cs) (hl : ds.length = cs.length) (hp : (l ++ zH ds).Perm (m ++ zH cs)) : (l ++ zE (x7 x ds)).Perm (m ++ zE x) := by
 cases x with
 | c x =>
  simp only [cellsOf, Option.some.injEq] at hc
  subst hc
  simp only [List.length_singleton] at hl
  obtain ⟨y, rfl⟩ := List.length_eq_one_iff.1 hl
  simpa [x7, zE, zH] using hp
 | agg xs =>
  simp only [cellsOf, Option.some.injEq] at hc
  subst hc
  simpa [x7, zE] using hp
 | box v xs =>
  simp only [cellsOf, Option.some.injEq] at hc
  subst hc
  simp only [x7, zE]
  have e1 : (l ++ (hdr v ++ zH ds)).Perm (hdr v ++ (l ++ zH ds)) := by
   rw [← List.append_assoc, ← List.append_assoc]; exact List.Perm.append_right _ List.perm_append_comm
  have e2 : (hdr v ++ (m ++ zH xs)).Perm (m ++ (hdr v ++ zH xs)) := by
   rw [← List.append_assoc, ← List.append_assoc]; exact List.Perm.append_right _ List.perm_append_comm
  exact (e1.trans (List.Perm.append_left _ hp)).trans e2
 | tup xs =>
  simp only [cellsOf, Option.some.injEq] at hc
  subst hc
  simp only [x7, zE]
  have e1 := kD (yH xs ds)
  rw [w8 hl, bC] at e1
  have e2 := kD xs
  have e3 : (l ++ (zH ds ++ uT xs)).Perm (m ++ (zH (zT xs) ++ uT xs)) := by
   rw [← List.append_assoc, ← List.append_assoc]; exact List.Perm.append_right _ hp
  exact ((List.Perm.append_left _ e1).trans e3).trans (List.Perm.append_left _ e2.symm)
 | undef => simp [cellsOf] at hc
theorem pM {x : XV} {cs ds : List CV} (hc : cellsOf x = some cs) (hl : ds.length = cs.length) : ∀ k ∈ zD (x7 x ds), k ∈ zD x ∨ k ∈ zK ds := by
 intro k hk
 cases x with
 | c x =>
  simp only [cellsOf, Option.some.injEq] at hc
  subst hc
  simp only [List.length_singleton] at hl
  obtain ⟨y, rfl⟩ := List.length_eq_one_iff.1 hl
  exact .inr (by simpa [x7, zD, zK] using hk)
 | agg xs => exact .inr (by simpa [x7, zD] using hk)
 | box v xs => exact .inr (by simpa [x7, zD] using hk)
 | tup xs =>
  simp only [cellsOf, Option.some.injEq] at hc
  subst hc
  simp only [x7, zD] at hk ⊢
  exact gP xs ds hl k hk
 | undef => simp [cellsOf] at hc
theorem lF {r : Root} {q : List Nat} (hem : Em S S' ea r q) : ∀ {xs : List XV} {cs : List CV}, xR w P R S ea xs → (∀ c ∈ cs, okC w P R (kill r q S') ea (zS r q c)) → cs.length = (zT xs).length →
  xR w P R (kill r q S') ea (xC r q (yH xs cs))
 | [], cs, _, _, _ => by simp [yH, xC, xR]
 | .c x :: xs, [], _, _, h => by simp [zT] at h
 | .c x :: xs, c :: cs, hx, hc, h => by
  simp only [zT, List.length_cons, Nat.add_right_cancel_iff] at h
  simp only [yH, List.head?_cons, Option.getD_some, List.tail_cons, xC, z6, xR, okX]
  exact ⟨hc c (List.mem_cons_self ..), lF hem hx.2 (fun c' hc' => hc c' (List.mem_cons_of_mem _ hc')) h⟩
 | .agg ds :: xs, cs, hx, hc, h => by
  simp only [zT, List.length_append] at h
  simp only [yH, xC, z6, xR, okX]
  refine ⟨?_, lF hem hx.2 (fun c' hc' => hc c' (List.mem_of_mem_drop hc')) (by rw [List.length_drop]; omega)⟩
  rw [kO]
  refine zY.2 fun c hc' => ?_
  obtain ⟨c0, h0, rfl⟩ := List.mem_map.1 hc'
  exact hc c0 (List.mem_of_mem_take h0)
 | .box v ds :: xs, cs, hx, hc, h => by
  simp only [zT] at h
  simp only [yH, xC, xR]
  exact ⟨zBr hem hx.1, lF hem hx.2 hc h⟩
 | .tup ys :: xs, cs, hx, hc, h => by
  simp only [zT] at h
  simp only [yH, xC, xR]
  exact ⟨zBr hem hx.1, lF hem hx.2 hc h⟩
 | .undef :: xs, cs, hx, hc, h => by
  simp only [zT] at h
  simp only [yH, xC, xR]
  exact ⟨zBr hem hx.1, lF hem hx.2 hc h⟩
theorem zVd {r : Root} {q : List Nat} (hem : Em S S' ea r q) {x : XV} {cs ds : List CV} (hc : cellsOf x = some cs) (hl : ds.length = cs.length) (hv : yC ds = yC cs) (hx : okX w P R S ea x)
  (hd : ∀ c ∈ ds, okC w P R (kill r q S') ea (zS r q c)) : okX w P R (kill r q S') ea (z6 r q (x7 x ds)) := by
 have hds : yF w P R (kill r q S') ea (yT r q ds) := by
  rw [kO]
  refine zY.2 fun c hc' => ?_
  obtain ⟨c0, h0, rfl⟩ := List.mem_map.1 hc'
  exact hd c0 h0
 cases x with
 | c x =>
  simp only [cellsOf, Option.some.injEq] at hc
  subst hc
  simp only [List.length_singleton] at hl
  obtain ⟨y, rfl⟩ := List.length_eq_one_iff.1 hl
  simp only [x7, z6, okX]
  exact hd y (List.mem_singleton_self _)
 | agg xs => simpa only [x7, z6, okX] using hds
 | box v xs =>
  simp only [cellsOf, Option.some.injEq] at hc
  subst hc
  simp only [x7, z6, okX] at hx ⊢
  obtain ⟨_, ad, h1, h2, h3, cur, e, h4, h5⟩ := hx
  exact ⟨hds, ad, h1, h2, h3, cur, e, h4, by rw [jI, hv]; exact h5⟩
 | tup xs =>
  simp only [cellsOf, Option.some.injEq] at hc
  subst hc
  simp only [x7, z6, okX] at hx ⊢
  exact lF hem hx hd hl
 | undef => simp [cellsOf] at hc
theorem Rel.empty (h : Rel isv w0 E0 P R ea w S tmps) {r : Root} {p : List Nat} {off : Nat} {x : CV} (hat : at_ S r p off = some x) (hx : (∃ A n c, zJ x = .slice A n c) ∨ ∃ q, zJ x = .pointer q)
  (hput : z7 S r p off (.t (.dead (zJ x))) = some S') :
  Rel isv w0 E0 P R ea w (V.kill r (p ++ [off]) S') tmps ∧ (∀ k, k ≠ r → zL (V.kill r (p ++ [off]) S') ea k = zL S ea k) ∧ (zP x ++ zL (V.kill r (p ++ [off]) S') ea r).Perm (zL S ea r) := by
 have hem := dO (ea := ea) hput
 obtain ⟨cs, ds, hr, hs, hS'⟩ := bB hput
 have hl := vH hs
 rw [sO, hr] at hat
 simp only [Option.bind_some] at hat
 have hdead : okT w P R (.dead (zJ x)) := by simpa [okT] using hx
 have hval : yC ds = yC cs := zJd hs hat rfl
 have hcs := h.root_ok hr
 have hdok : ∀ c ∈ ds, okC w P R (V.kill r (p ++ [off]) S') ea (zS r (p ++ [off]) c) := by
  intro c hc
  rcases zJc hs hat rfl hdead hcs c hc with hc | ⟨t, rfl, ht⟩
  ·exact rW hem (zY.1 hcs c hc)
  ·simpa [zS, okC] using ht
 have hblk : (zP x ++ zH ds).Perm ([] ++ zH cs) := by
  have := zCf hs hat
  simpa [zP, zU] using this
 have hrefs : ∀ k ∈ zK ds, k ∈ zK cs := fun k hk => (hY hs k hk).elim id (fun h => by simp [zF] at h)
 have hoth : ∀ k, k ≠ r → zL (V.kill r (p ++ [off]) S') ea k = zL S ea k := by
  intro k hk
  rw [jM]
  subst hS'
  cases r with
  | sl d => exact match k, hk with
   | .sl d', hk => by simp only [zL, zM, upd]; rw [if_neg (by simpa using hk)]
   | .ex j, _ => by simp only [zL, zM]
  | ex j => exact match k, hk with
   | .sl d', _ => by simp only [zL, zM]
   | .ex j', hk => by simp only [zL, zM]; rw [List.getElem?_set_ne (by simpa using Ne.symm hk)]
 have hown : (zP x ++ zL (V.kill r (p ++ [off]) S') ea r).Perm (zL S ea r) := by
  rw [jM]
  subst hS'
  cases r with
  | sl d =>
   rw [yE] at hr
   simp only [zL, zM, upd, if_true]
   have := tX (l := zP x) (m := []) hr hl hblk
   simpa using this
  | ex j =>
   simp only [zA] at hr
   have hj : j < S.e.length := (List.getElem?_eq_some_iff.1 hr).1
   simp only [zL, zM, hr, List.getElem?_set_self hj]
   have e1 : (zP x ++ ((match (ea[j]?).bind EA.ad with | some ad => [ad.block] | none => []) ++ zH ds)).Perm ((match (ea[j]?).bind EA.ad with | some ad => [ad.block] | none => []) ++ (zP x ++ zH ds)) := by
    rw [← List.append_assoc, ← List.append_assoc]; exact List.Perm.append_right _ List.perm_append_comm
   exact e1.trans (List.Perm.append_left _ (by simpa using hblk))
 have hmem : ∀ k b, b ∈ zL (V.kill r (p ++ [off]) S') ea k → b ∈ zL S ea k := by
  intro k b hb
  by_cases e : k = r
  ·subst e; exact hown.subset (List.mem_append_right _ hb)
  ·rwa [hoth k e] at hb
 refine ⟨?_, hoth, hown⟩
 have hslot : ∀ i, (V.kill r (p ++ [off]) S').s i = z6 r (p ++ [off]) (S'.s i) := fun i => rfl
 have hcase : ∀ i, (S'.s i = S.s i) ∨ (r = .sl i ∧ S'.s i = x7 (S.s i) ds ∧ cellsOf (S.s i) = some cs) := by
  intro i
  subst hS'
  cases r with
  | sl d =>
   by_cases e : i = d
   ·subst e; right; exact ⟨rfl, by simp [zM, upd], by rw [← yE]; exact hr⟩
   ·left; simp [zM, upd, e]
  | ex j => left; rfl
 have hecase : ∀ (j : Nat) es, S'.e[j]? = some es → (S.e[j]? = some es) ∨ (r = .ex j ∧ es = ds ∧ S.e[j]? = some cs) := by
  intro j es hj
  subst hS'
  cases r with
  | sl d => left; exact hj
  | ex j' =>
   by_cases e : j' = j
   ·subst e
    right
    have hlt : j' < S.e.length := (List.getElem?_eq_some_iff.1 hr).1
    simp only [zM, List.getElem?_set_self hlt, Option.some.injEq] at hj
    exact ⟨rfl, hj.symm, hr⟩
   ·left
    simpa [zM, List.getElem?_set_ne e] using hj
 constructor
 case val =>
  intro i hi
  rcases hcase i with e | ⟨_, e, hc⟩
  ·rcases h.val i hi with e' | e'
   ·left; rw [hslot, e, e']; rfl
   ·right; rw [hslot, e, pD]; exact e'
  ·rcases h.val i hi with e' | e'
   ·rw [e'] at hc; simp [cellsOf] at hc
   ·right; rw [hslot, e, pD, nQ hc hval]; exact e'
 case hi =>
  intro i hi
  rcases hcase i with e | ⟨_, e, hc⟩
  ·rw [hslot, e, h.hi i hi]; rfl
  ·rw [h.hi i hi] at hc; simp [cellsOf] at hc
 case okS =>
  intro i
  rw [hslot]
  rcases hcase i with e | ⟨_, e, hc⟩
  ·rw [e]; exact zBr hem (h.okS i)
  ·rw [e]; exact zVd hem hc hl hval (h.okS i) hdok
 case okE =>
  intro j es hj
  simp only [V.kill, List.getElem?_map] at hj
  cases he : S'.e[j]? with
  | none => simp [he] at hj
  | some fs =>
   simp only [he, Option.map_some, Option.some.injEq] at hj
   subst hj
   rcases hecase j fs he with e | ⟨_, rfl, e⟩
   ·exact ⟨pG hem (h.okE j fs e).1, fun ad had => ((h.okE j fs e).2 ad had).kill⟩
   ·refine ⟨?_, fun ad had => ?_⟩
    ·rw [kO]
     refine zY.2 fun c hc' => ?_
     obtain ⟨c0, h0, rfl⟩ := List.mem_map.1 hc'
     exact hdok c0 h0
    ·obtain ⟨h2, h3, cur, e', h4, h5⟩ := (h.okE j cs e).2 ad had
     exact ⟨h2, h3, cur, e', h4, by rw [jI, hval]; exact h5⟩
 case eaL =>
  simp only [V.kill, List.length_map]
  rw [hS']
  cases r <;> simp [zM, h.eaL]
 case row =>
  intro j vs es hea hj
  simp only [V.kill, List.getElem?_map] at hj
  cases he : S'.e[j]? with
  | none => simp [he] at hj
  | some fs =>
   simp only [he, Option.map_some, Option.some.injEq] at hj
   subst hj
   rw [jI]
   rcases hecase j fs he with e | ⟨_, rfl, e⟩
   ·exact h.row j vs fs hea e
   ·rw [hval]; exact h.row j vs cs hea e
 case refS =>
  intro i d' hd'
  rw [hslot] at hd'
  have hd' := rQ _ _ _ _ hd'
  rcases hcase i with e | ⟨_, e, hc⟩
  ·rw [e] at hd'; exact h.refS i d' hd'
  ·rw [e] at hd'
   rcases pM hc hl _ hd' with hd' | hd'
   ·exact h.refS i d' hd'
   ·have := hrefs _ hd'
    rw [yI, List.mem_flatMap] at this
    obtain ⟨c, hc', hk⟩ := this
    have hca : c ∈ cs := hc'
    -- a cell of the slot's
    have : Root.sl d' ∈ zD (S.s i) := by
     cases hs' : S.s i with
     | c y => rw [hs'] at hc; simp only [cellsOf, Option.some.injEq] at hc; subst hc; simp only [List.mem_singleton] at hca; subst hca; simpa [zD] using hk
     | agg ys => rw [hs'] at hc; simp only [cellsOf, Option.some.injEq] at hc; subst hc; simp only [zD, yI, List.mem_flatMap]; exact ⟨c, hca, hk⟩
     | box v ys => rw [hs'] at hc; simp only [cellsOf, Option.some.injEq] at hc; subst hc; simp only [zD, yI, List.mem_flatMap]; exact ⟨c, hca, hk⟩
     | tup ys => rw [hs'] at hc; simp only [cellsOf, Option.some.injEq] at hc; subst hc; simp only [zD]; exact gC hca _ hk
     | undef => rw [hs'] at hc; simp [cellsOf] at hc
    exact h.refS i d' this
 case refE =>
  intro j es d' hj hd'
  simp only [V.kill, List.getElem?_map] at hj
  cases he : S'.e[j]? with
  | none => simp [he] at hj
  | some fs =>
   simp only [he, Option.map_some, Option.some.injEq] at hj
   subst hj
   have hd' := kG _ _ _ _ hd'
   rcases hecase j fs he with e | ⟨_, rfl, e⟩
   ·exact h.refE j fs d' e hd'
   ·exact h.refE j cs d' e (hrefs _ hd')
 case dis => exact fun k k' b hb hb' => h.dis k k' b (hmem k b hb) (hmem k' b hb')
 case nd =>
  intro k
  by_cases e : k = r
  ·subst e
   have := (hown.nodup_iff).2 (h.nd k)
   exact (List.nodup_append.1 this).2.1
  ·rw [hoth k e]; exact h.nd k
 case lt => exact fun k b hb => h.lt k b (hmem k b hb)
 case own => exact fun k b hb => h.own k b (hmem k b hb)
 case notR => exact fun k b hb => h.notR k b (hmem k b hb)
 case PR => exact h.PR
 case ltR => exact h.ltR
 case frm => exact h.frm
end
end Go.Proofs.YtlkjnlfddadlmaaGreatDoor.V
