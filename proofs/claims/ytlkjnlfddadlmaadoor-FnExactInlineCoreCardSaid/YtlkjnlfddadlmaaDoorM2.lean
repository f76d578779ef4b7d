/-
  Quiet operations, fifth part: new boxes, lengths, parts of lists and texts, new lists. No conditions.
-/
import Derived.Test.YtlkjnlfddadlmaaDoorM1
import Derived.Orders
set_option linter.unusedVariables false
set_option linter.unusedSimpArgs false
namespace Go.Proofs.YtlkjnlfddadlmaaDoor.V
open Go.RowKit

section
variable {cx : Ctx} {f : Nat} {w0 : World} {E0 : Nat → Prop} {P : Nat → Nat → Prop} {R : Nat → Prop} {ea : List EA} {w w' : World} {S : SV} {tmps : Array Value} {Pr : Program} {a : Act} {call : Callee}

theorem Rel.fresh (h : Rel (isVar cx f) w0 E0 P R ea w S tmps) (r : Root) : w.heap.size ∉ blkR S ea r := fun hb => Nat.lt_irrefl _ (h.lt r _ hb)
theorem Rel.freshOwn (h : Rel (isVar cx f) w0 E0 P R ea w S tmps) : w0.heap.size ≤ w.heap.size := h.frm.size
theorem Rel.freshR (h : Rel (isVar cx f) w0 E0 P R ea w S tmps) : ¬ R w.heap.size := fun hb => Nat.lt_irrefl _ (h.ltR _ hb)

theorem box_new (w : World) (cs : List CV) (e : TypeId) : BoxAt (w.alloc (.cells (valCs cs).toArray e)) ⟨w.heap.size, 0, none⟩ cs :=
  ⟨rfl, rfl, (valCs cs).toArray, e, heap_alloc_new w _, by simp⟩

theorem New.box (h : Rel (isVar cx f) w0 E0 P R ea w S tmps) {cs : List CV} {e : TypeId} (hn : New (isVar cx f) w0 E0 P R ea w S (.agg cs)) :
    Rel (isVar cx f) w0 E0 P R ea (w.alloc (.cells (valCs cs).toArray e)) S tmps ∧
    New (isVar cx f) w0 E0 P R ea (w.alloc (.cells (valCs cs).toArray e)) S (.box (.pointer (some ⟨w.heap.size, 0, none⟩)) cs) := by
  have hg := Grow.alloc w (.cells (valCs cs).toArray e)
  have hr := h.grow hg
  refine ⟨hr, ?_⟩
  have hok := hn.ok
  simp only [okX] at hok
  have hnb : w.heap.size ∉ blkCs cs := fun hb => Nat.lt_irrefl _ (hn.lt _ (by simpa [blkX] using hb))
  constructor
  · simp only [okX]
    exact ⟨okCs_same (fun _ b hb => hg.block b (h.ltP _ b hb)) (fun b hb => hg.block b (h.ltR b hb)) hok (fun b hb => hg.block b (hn.lt b (by simpa [blkX] using hb))) (fun _ _ => ⟨rfl, rfl⟩), _, rfl, box_new w cs e⟩
  · exact fun d' hd' => hn.refs d' (by simpa [refsX] using hd')
  · simp only [blkX, hdr, List.cons_append, List.nil_append, List.nodup_cons]
    exact ⟨hnb, by simpa [blkX] using hn.nd⟩
  · intro r b hb
    simp only [blkX, hdr, List.cons_append, List.nil_append, List.mem_cons] at hb
    rcases hb with rfl | hb
    · exact h.fresh r
    · exact hn.sep r b (by simpa [blkX] using hb)
  · intro b hb
    simp only [blkX, hdr, List.cons_append, List.nil_append, List.mem_cons] at hb
    rcases hb with rfl | hb
    · simp
    · exact Nat.lt_of_lt_of_le (hn.lt b (by simpa [blkX] using hb)) hg.size
  · intro b hb
    simp only [blkX, hdr, List.cons_append, List.nil_append, List.mem_cons] at hb
    rcases hb with rfl | hb
    · exact .inr h.freshOwn
    · exact hn.own b (by simpa [blkX] using hb)
  · intro b hb
    simp only [blkX, hdr, List.cons_append, List.nil_append, List.mem_cons] at hb
    rcases hb with rfl | hb
    · exact h.freshR
    · exact hn.notR b (by simpa [blkX] using hb)

theorem cells_of {x : XV} {cs : List CU} (hc : cellsX (erX x) = some cs) : ∃ ds, ds.map erC = cs ∧ (valX x).cells.toList = ds.map valC ∧ (x = .agg ds ∨ ∃ c, x = .c c ∧ ds = [c]) ∨ ∃ c, x = .c c ∧ isAggV (valC c) = true := by
  cases x with
  | c c =>
    by_cases h : isAggV (valC c) = true
    · exact ⟨[], .inr ⟨c, rfl, h⟩⟩
    · refine ⟨[c], .inl ⟨?_, ?_, .inr ⟨c, rfl, rfl⟩⟩⟩
      · simp only [erX, mapX, cellsX, Option.some.injEq] at hc
        simpa [erC] using hc
      · simp only [valX, List.map_cons, List.map_nil]
        cases hv : valC c <;> simp [Value.cells] <;> simp [hv, isAggV] at h
  | agg ds =>
    refine ⟨ds, .inl ⟨?_, by simp [valX, valCs_eq, Value.cells], .inl rfl⟩⟩
    simp only [erX, mapX, mapCs_eq, cellsX, Option.some.injEq] at hc
    exact hc
  | _ => simp [erX, mapX, cellsX] at hc

theorem oneCell_c {c : CV} (h : okC w P R S ea c) : (valC c).oneCell' = true := by
  cases c with
  | t x =>
    cases x with
    | sl v tag sz n cs => simp only [okC] at h; exact oneCell_sl h
    | dead v => simp only [okC, okT] at h; rcases h with ⟨_, _, _, rfl⟩ | ⟨_, rfl⟩ <;> rfl
    | ifc v => simp only [okC, okT] at h; obtain ⟨_, _, rfl⟩ := h; rfl
    | _ => rfl
  | ptr v r p off => simp only [okC, PtrOk] at h; obtain ⟨_, _, rfl⟩ := h; rfl
  | bor v r p i off sz n =>
    simp only [okC, BorOk] at h
    obtain ⟨b, m, ds, _, _, hh⟩ := h
    rcases hh with ⟨_, rfl, _⟩ | ⟨_, _, _, _, _, rfl, _⟩ <;> rfl
  | rptr v cs => simp only [okC] at h; obtain ⟨_, _, _, rfl, _⟩ := h; rfl
  | nilp => rfl
  | fn g caps => rfl
  | nilf => rfl
  | lst v sz n cs => simp only [okC] at h; exact oneCell_own h.2.2

theorem cells_ok {x : XV} {cs : List CU} (hok : okX w P R S ea x) (hc : cellsX (erX x) = some cs) :
    ∃ ds, ds.map erC = cs ∧ (valX x).cells.toList = ds.map valC ∧ okCs w P R S ea ds ∧ blkCs ds = blkX x ∧ refsCs ds = refsX x ∧ ∀ c ∈ ds, (valC c).oneCell' = true := by
  obtain ⟨ds, hd⟩ := cells_of hc
  rcases hd with ⟨h1, h2, h3⟩ | ⟨c, rfl, hv⟩
  · refine ⟨ds, h1, h2, ?_⟩
    rcases h3 with rfl | ⟨c, rfl, rfl⟩
    · simp only [okX] at hok
      exact ⟨hok, by simp [blkX], by simp [refsX], fun c hc => oneCell_c (okCs_iff.1 hok c hc)⟩
    · simp only [okX] at hok
      exact ⟨⟨hok, trivial⟩, by simp [blkX, blkCs], by simp [refsX, refsCs], fun c hc => by simp only [List.mem_singleton] at hc; subst hc; exact oneCell_c hok⟩
  · simp only [okX] at hok
    have := oneCell_c hok
    cases h : valC c <;> simp [h, isAggV] at hv
    simp [h, Value.oneCell'] at this

theorem New.agg_of {x : XV} {ds : List CV} (hn : New (isVar cx f) w0 E0 P R ea w S x) (hok : okCs w P R S ea ds) (hb : blkCs ds = blkX x) (hr : refsCs ds = refsX x) : New (isVar cx f) w0 E0 P R ea w S (.agg ds) := by
  constructor
  · simpa [okX] using hok
  · intro d' hd'; exact hn.refs d' (by simpa [refsX, hr] using hd')
  · simpa [blkX, hb] using hn.nd
  · intro r b h; exact hn.sep r b (by simpa [blkX, hb] using h)
  · intro b h; exact hn.lt b (by simpa [blkX, hb] using h)
  · intro b h; exact hn.own b (by simpa [blkX, hb] using h)
  · intro b h; exact hn.notR b (by simpa [blkX, hb] using h)

theorem alloc_ok (hty : TyOk Pr cx.ty) (h : Rel (isVar cx f) w0 E0 P R ea w S tmps) {o : Oper} {e : Nat} (ho : o.op = .alloc e) {z : XU} {Su : SU}
    (hq : qval cx f call (V.erS S) o.type (.alloc e) = some (z, Su)) : QOk cx f w0 E0 P R ea w tmps Pr a o z Su := by
  simp only [qval] at hq
  split at hq
  · rename_i hok
    simp only [Option.some.injEq, Prod.mk.injEq] at hq
    obtain ⟨rfl, rfl⟩ := hq
    obtain ⟨ti, d, zz, hf⟩ := hty.facts hok
    obtain ⟨z1, z2, z3, z4, z5⟩ := zerosAre_val hf.zs
    have hn : New (isVar cx f) w0 E0 P R ea w S (.agg ((cx.ty e).zs.map zG)) := New.plain (by simpa [okX] using z5 w P R S ea) (by simpa [blkX] using z3) (by simpa [refsX] using z4)
    obtain ⟨k1, k2⟩ := New.box (e := e) h hn
    have hzc : zz.cells = (valCs ((cx.ty e).zs.map zG)).toArray := by
      rw [valCs_eq, z1]
    refine ⟨_, S, _, ⟨Grow.alloc w _, by simp [erX, mapX, mapCs_eq, er0]; simpa [erC] using z2, rfl, k1, k2⟩, ?_⟩
    rw [← hzc]
    simp [execOp, ho, Instr.alloc, zeroValue, typeInfo, hf.info, hf.zero, newVar, newRow, valX]
  · cases hq

theorem box_ok (h : Rel (isVar cx f) w0 E0 P R ea w S tmps) (ha : a.tmps = tmps) {o : Oper} {e : Nat} {x : Operand} (ho : o.op = .box e x) {z : XU} {Su : SU}
    (hq : qval cx f call (V.erS S) o.type (.box e x) = some (z, Su)) : QOk cx f w0 E0 P R ea w tmps Pr a o z Su := by
  simp only [qval] at hq
  cases hx : opv cx f (V.erS S) e x with
  | none => simp [hx] at hq
  | some y =>
    simp only [hx, Option.bind_some] at hq
    cases hc : cellsX y with
    | none => simp [hc] at hq
    | some cs =>
      simp only [hc, Option.bind_some] at hq
      split at hq
      · simp only [Option.some.injEq, Prod.mk.injEq] at hq
        obtain ⟨rfl, rfl⟩ := hq
        obtain ⟨xG, hxG⟩ := h.opv ha hx
        have hrc := h.clr x
        obtain ⟨ds, d1, d2, d3, d4, d5, _⟩ := cells_ok hxG.new.ok (by rw [hxG.er]; exact hc)
        have hn := New.agg_of hxG.new d3 d4 d5
        obtain ⟨k1, k2⟩ := New.box (e := e) hrc hn
        refine ⟨_, _, _, ⟨Grow.alloc w _, by simp [erX, mapX, mapCs_eq, er0]; simpa [erC] using d1, clr_map x, k1, k2⟩, ?_⟩
        have hzc : (valX xG).cells = (valCs ds).toArray := by
          rw [valCs_eq, ← d2]
        rw [← hzc]
        simp [execOp, ho, hxG.val, Instr.box, newVar, newRow, valX]
      · cases hq

theorem len_val {c : CV} {n : Int} (hok : okC w P R S ea c) (hn : lenV (erC c) = some n) : (∃ s : List UInt8, valC c = .string ⟨s.toArray⟩ ∧ n = s.length) ∨ ∃ A m cap, valC c = .slice A m cap ∧ n = m := by
  cases c with
  | t x =>
    cases x with
    | str s => simp only [erC, mapC, mapT, lenV, Option.some.injEq] at hn; exact .inl ⟨s, rfl, hn.symm⟩
    | sl v tag sz m cs =>
      simp only [erC, mapC, mapT, lenV, Option.some.injEq] at hn
      simp only [okC, okT] at hok
      refine .inr ?_
      obtain ⟨_, _, h⟩ := hok
      split at h
      · rcases h with ⟨rfl, rfl⟩ | ⟨b, o, cur, e, ⟨ad, cap, rfl, _⟩, _⟩
        · exact ⟨none, 0, 0, rfl, hn.symm⟩
        · exact ⟨some ad, m, cap, rfl, hn.symm⟩
      · obtain ⟨⟨A, cap, rfl, _⟩, _⟩ := h
        exact ⟨A, m, cap, rfl, hn.symm⟩
    | _ => simp [erC, mapC, mapT, lenV] at hn
  | bor v r p i off sz m =>
    simp only [erC, mapC, lenV, Option.some.injEq] at hn
    simp only [okC, BorOk] at hok
    obtain ⟨b, m', ds, _, _, hh⟩ := hok
    rcases hh with ⟨_, rfl, rfl⟩ | ⟨_, _, _, ad, cap, rfl, _⟩
    · exact .inr ⟨none, 0, 0, rfl, hn.symm⟩
    · exact .inr ⟨some ad, m, cap, rfl, hn.symm⟩
  | lst v sz m cs =>
    simp only [erC, mapC, lenV, Option.some.injEq] at hn
    simp only [okC] at hok
    rcases hok.2.2 with ⟨rfl, rfl⟩ | ⟨b, o, cur, e, ⟨ad, cap, rfl, _⟩, _⟩
    · exact .inr ⟨none, 0, 0, rfl, hn.symm⟩
    · exact .inr ⟨some ad, m, cap, rfl, hn.symm⟩
  | _ => simp [erC, mapC, lenV] at hn

theorem str_of_val {c : CV} {s : ByteArray} (hok : okC w P R S ea c) (hv : valC c = .string s) : ∃ l, c = .t (.str l) := by
  cases c with
  | t x =>
    cases x with
    | str l => exact ⟨l, rfl⟩
    | sl v tag sz m cs =>
      simp only [valC, valT] at hv
      simp only [okC, okT] at hok
      obtain ⟨_, _, h'⟩ := hok
      split at h'
      · rcases h' with ⟨rfl, _⟩ | ⟨b, o, cur, e, ⟨ad, cap, rfl, _⟩, _⟩ <;> cases hv
      · obtain ⟨⟨A, cap, rfl, _⟩, _⟩ := h'; cases hv
    | dead v => simp only [okC, okT] at hok; simp only [valC, valT] at hv; rcases hok with ⟨_, _, _, rfl⟩ | ⟨_, rfl⟩ <;> cases hv
    | ifc v => simp only [okC, okT] at hok; obtain ⟨_, _, rfl⟩ := hok; cases hv
    | _ => cases hv
  | ptr v r p off => simp only [okC, PtrOk] at hok; obtain ⟨_, _, rfl⟩ := hok; cases hv
  | bor v r p i off sz m =>
    simp only [okC, BorOk] at hok
    obtain ⟨b, m', ds, _, _, hh⟩ := hok
    simp only [valC] at hv
    rcases hh with ⟨_, rfl, _⟩ | ⟨_, _, _, ad, cap, rfl, _⟩ <;> cases hv
  | rptr v cs => simp only [okC] at hok; obtain ⟨_, _, _, rfl, _⟩ := hok; cases hv
  | lst v sz m cs =>
    simp only [okC] at hok
    simp only [valC] at hv
    rcases hok.2.2 with ⟨rfl, _⟩ | ⟨b, o, cur, e, ⟨ad, cap, rfl, _⟩, _⟩ <;> cases hv
  | _ => cases hv

theorem args1 {c : Call} {x : Operand} (hx : c.args.toList = [x]) : c.args.map a.eval = #[a.eval x] := by
  apply Array.ext'
  simp [hx]
theorem args2 {c : Call} {x y : Operand} (hx : c.args.toList = [x, y]) : c.args.map a.eval = #[a.eval x, a.eval y] := by
  apply Array.ext'
  simp [hx]

theorem len_ok (hty : TyOk Pr cx.ty) (h : Rel (isVar cx f) w0 E0 P R ea w S tmps) (ha : a.tmps = tmps) {o : Oper} {c : Call} (ho : o.op = .call c) (hb : c.callee = .builtin .len) {x : Operand} {t : Nat} (hx : c.args.toList = [x]) (ht : c.argTypes.toList = [t]) {z : XU} {Su : SU}
    (hq : qcall cx f call (V.erS S) o.type c = some (z, Su)) : QOkW cx f w0 E0 P R ea w tmps Pr a o z Su := by
  simp only [qcall, hb, hx, ht] at hq
  have hta : c.argTypes = #[t] := by apply Array.ext'; simp [ht]
  split at hq
  · rename_i zc hy
    obtain ⟨cG, hcG, hv, hok, _⟩ := opv_c h ha hy
    subst hcG
    split at hq
    · rename_i hlo
      cases hn : lenV (erC cG) with
      | none => simp [hn] at hq
      | some n =>
        simp only [hn, Option.map_some, Option.some.injEq, Prod.mk.injEq] at hq
        obtain ⟨rfl, rfl⟩ := hq
        refine ⟨S, _, QRes.scal h rfl, ?_⟩
        have hrun : (Builtin.len_ c.argTypes o.type #[a.eval x]).run Pr w = .ok (.int .i64 n) w := by
          rw [hv, hta]
          rcases len_val hok hn with ⟨s, hs, rfl⟩ | ⟨A, m, cap, hs, rfl⟩
          · have hk : kindOf cx t = 3 := by
              cases cG with
              | t u =>
                cases u with
                | str s' => simpa [erC, mapC, mapT, lenOk] using hlo
                | sl v tag sz m cs => obtain ⟨l, hl⟩ := str_of_val hok hs; cases hl
                | _ => simp [erC, mapC, mapT, lenV] at hn
              | bor v r p i off sz m => obtain ⟨l, hl⟩ := str_of_val hok hs; cases hl
              | lst v sz m cs => obtain ⟨l, hl⟩ := str_of_val hok hs; cases hl
              | _ => simp [erC, mapC, lenV] at hn
            obtain ⟨d, hd, hkd⟩ := kindOf_und hty (by omega) hk
            have hds : d = .string := by cases d <;> simp [kindIs] at hkd <;> rfl
            subst hds
            have hbs : (⟨s.toArray⟩ : ByteArray).size = s.length := by simp [ByteArray.size]
            simp [Builtin.len_, run_underlying hd, hs, goInt, hbs]
          · have hk : (cx.ty t).ok = true ∧ (cx.ty t).el.isSome = true := by
              cases cG with
              | t u =>
                cases u with
                | str s' => simp [valC, valT] at hs
                | sl v tag sz m cs => simpa [erC, mapC, mapT, lenOk] using hlo
                | _ => simp [erC, mapC, mapT, lenV] at hn
              | bor v r p i off sz m => simpa [erC, mapC, lenOk] using hlo
              | lst v sz m cs => simpa [erC, mapC, lenOk] using hlo
              | _ => simp [erC, mapC, lenV] at hn
            obtain ⟨hk1, hk2⟩ := hk
            obtain ⟨ti, d, zz, hf⟩ := hty.facts hk1
            obtain ⟨el, hel⟩ := Option.isSome_iff_exists.mp hk2
            have hd := hf.slice hel
            subst hd
            simp [Builtin.len_, run_underlying hf.und, hs, goInt]
        simp [execOp, ho, resolve, hb, invoke, builtin, args1 hx, hrun, valX, valC, liftT, valT]
    · cases hq
  · cases hq

theorem opv_i64 (h : Rel (isVar cx f) w0 E0 P R ea w S tmps) (ha : a.tmps = tmps) {t : Nat} {o : Operand} {n : Int} (hy : int64Of (opv cx f (V.erS S) t o) = some n) : a.eval o = .int .i64 n := by
  cases ho : opv cx f (V.erS S) t o with
  | none => simp [ho, int64Of] at hy
  | some x =>
    obtain ⟨xG, hx⟩ := h.opv ha ho
    rw [ho] at hy
    unfold int64Of at hy
    split at hy
    · rename_i m heq
      simp only [Option.some.injEq] at hy heq
      subst hy; subst heq
      obtain ⟨cG, rfl, hc⟩ := er_c hx.er
      obtain ⟨y, rfl, hy⟩ := er_t hc
      have := er_int hy
      subst this
      simpa [valX, valC, valT] using hx.val
    · cases hy

theorem mm_ok (h : Rel (isVar cx f) w0 E0 P R ea w S tmps) (ha : a.tmps = tmps) {o : Oper} {c : Call} (ho : o.op = .call c) {b : Builtin} (hb : c.callee = .builtin b) {x y : Operand} (hx : c.args.toList = [x, y]) {z : XU} {Su : SU}
    (hq : mmV b (int64Of (opv cx f (V.erS S) o.type x)) (int64Of (opv cx f (V.erS S) o.type y)) (V.erS S) = some (z, Su)) : QOkW cx f w0 E0 P R ea w tmps Pr a o z Su := by
  unfold mmV at hq
  split at hq
  · rename_i n m hn hm
    have hk := opv_i64 h ha hn
    have hk' := opv_i64 h ha hm
    cases hmm : mm b n m with
    | none => simp [hmm] at hq
    | some r =>
      simp only [hmm, Option.map_some, Option.some.injEq, Prod.mk.injEq] at hq
      obtain ⟨rfl, rfl⟩ := hq
      refine ⟨S, _, QRes.scal h rfl, ?_⟩
      cases b <;> simp [mm] at hmm
      · subst hmm
        have : (if n < m then m else n) = max n m := by omega
        simp [execOp, ho, resolve, hb, invoke, builtin, args2 hx, hk, hk', Builtin.max_, Builtin.max2, valX, valC, liftT, valT, this]
      · subst hmm
        have : (if m < n then m else n) = min n m := by omega
        simp [execOp, ho, resolve, hb, invoke, builtin, args2 hx, hk, hk', Builtin.min_, Builtin.min2, valX, valC, liftT, valT, this]
  · cases hq
end
end Go.Proofs.YtlkjnlfddadlmaaDoor.V

namespace Go.Proofs.YtlkjnlfddadlmaaDoor.V
open Go.RowKit

section
variable {cx : Ctx} {f : Nat} {w0 : World} {E0 : Nat → Prop} {P : Nat → Nat → Prop} {R : Nat → Prop} {ea : List EA} {w w' : World} {S : SV} {tmps : Array Value} {Pr : Program} {a : Act} {call : Callee}

theorem run_bounds (isS : Bool) (len cap : Nat) {lo hi : Option Value} {l h : Int} (hlo : (lo = none ∧ l = 0) ∨ ∃ k, lo = some (.int k l)) (hhi : (hi = none ∧ h = len) ∨ ∃ k, hi = some (.int k h))
    (h0 : 0 ≤ l) (h1 : l ≤ h) (h2 : h ≤ cap) : (Instr.sliceBounds isS len cap lo hi none).run Pr w = .ok (l.toNat, h.toNat, cap) w := by
  have e2 : h ≤ (cap : Int) := h2
  have e3 : 0 ≤ h := by omega
  have e4 : l ≤ (h.toNat : Int) := by omega
  rcases hlo with ⟨rfl, rfl⟩ | ⟨k, rfl⟩ <;> rcases hhi with ⟨rfl, rfl⟩ | ⟨k', rfl⟩
  · simp [Instr.sliceBounds]
  · simp [Instr.sliceBounds, Instr.sliceBound, asIntOf, e2, e3]
  · simp [Instr.sliceBounds, Instr.sliceBound, asIntOf, h0, h1]
  · simp [Instr.sliceBounds, Instr.sliceBound, asIntOf, e2, e3, h0, e4, show ¬ (max h 0 < l) by omega]

theorem optInt_ok (h : Rel (isVar cx f) w0 E0 P R ea w S tmps) (ha : a.tmps = tmps) {o : Option Operand} {v : Option Int} (hv : optInt cx f (V.erS S) o = some v) :
    (o.map a.eval = none ∧ v = none) ∨ ∃ k n, o.map a.eval = some (.int k n) ∧ v = some n := by
  cases o with
  | none => simp only [optInt, Option.some.injEq] at hv; exact .inl ⟨rfl, hv.symm⟩
  | some o =>
    simp only [optInt] at hv
    cases hn : intOf (opv cx f (V.erS S) 0 o) with
    | none => simp [hn] at hv
    | some n =>
      simp only [hn, Option.map_some, Option.some.injEq] at hv
      obtain ⟨k, hk⟩ := opv_int h ha hn
      exact .inr ⟨k, n, by simp [hk], hv.symm⟩

theorem bound_lo {o : Option Value} {v : Option Int} (h : (o = none ∧ v = none) ∨ ∃ k n, o = some (.int k n) ∧ v = some n) : (o = none ∧ v.getD 0 = 0) ∨ ∃ k, o = some (.int k (v.getD 0)) := by
  rcases h with ⟨rfl, rfl⟩ | ⟨k, n, rfl, rfl⟩
  · exact .inl ⟨rfl, rfl⟩
  · exact .inr ⟨k, rfl⟩
theorem bound_hi {o : Option Value} {v : Option Int} {n : Int} (h : (o = none ∧ v = none) ∨ ∃ k n, o = some (.int k n) ∧ v = some n) : (o = none ∧ v.getD n = n) ∨ ∃ k, o = some (.int k (v.getD n)) := by
  rcases h with ⟨rfl, rfl⟩ | ⟨k, m, rfl, rfl⟩
  · exact .inl ⟨rfl, rfl⟩
  · exact .inr ⟨k, rfl⟩

theorem extract_mk (s : List UInt8) (l h : Nat) : (⟨s.toArray⟩ : ByteArray).extract l h = ⟨((s.drop l).take (h - l)).toArray⟩ := by
  apply ByteArray.ext
  apply Array.ext'
  rw [Lib.extract_data]

theorem elOk_facts (hty : TyOk Pr cx.ty) {t sz : Nat} (h : elOk cx t sz = true) : ∃ el, Pr.underlying t = some (.slice el) ∧ (cx.ty t).el = some el ∧ (cx.ty el).ok = true ∧ (cx.ty el).sz = sz ∧ ∀ w, (sizeOf el).run Pr w = .ok sz w := by
  simp only [elOk, Bool.and_eq_true] at h
  obtain ⟨h1, h2⟩ := h
  split at h2
  · rename_i el hel
    simp only [Bool.and_eq_true, beq_iff_eq] at h2
    obtain ⟨ti, d, zz, hf⟩ := hty.facts h1
    have hd := hf.slice hel
    subst hd
    obtain ⟨ti2, d2, zz2, hf2⟩ := hty.facts h2.1
    exact ⟨el, hf.und, hel, h2.1, h2.2, fun w => by simp [sizeOf, typeInfo, hf2.info, hf2.size, h2.2]⟩
  · cases h2

theorem Win.sub {b o lim sz n l h' : Nat} {v : Value} (hw : Win b o lim sz n v) (hl : l ≤ h') (hh : h' ≤ n) :
    ∃ ad cap, v = .slice (some ad) n cap ∧ n ≤ cap ∧ Win b (o + l * sz) lim sz (h' - l) (.slice (some (if cap = l then ad else ad.add (l * sz))) (h' - l) (cap - l)) := by
  obtain ⟨ad, cap, rfl, h1, h2, h3, h4⟩ := hw
  refine ⟨ad, cap, rfl, h1, _, _, rfl, by omega, ?_, ?_, ?_⟩
  · split
    · exact h2
    · rw [pt_eta h2]
  · split
    · exact h3
    · rw [pt_eta h2]; exact h3
  · by_cases e : cap = l
    · exact .inl (by omega)
    · rw [if_neg e]
      obtain ⟨h5, h6⟩ := h4.resolve_left (by omega)
      refine .inr ⟨by rw [pt_eta h2, h5], ?_⟩
      have : l * sz + (cap - l) * sz = cap * sz := by rw [← Nat.add_mul]; congr 1; omega
      omega

theorem slice_run {t el : Nat} {A : Option Addr} {n cap l h' : Nat} {lo hi : Option Value} {sz : Nat} (hu : Pr.underlying t = some (.slice el)) (hsz : ∀ w, (sizeOf el).run Pr w = .ok sz w)
    (hb : (Instr.sliceBounds true n cap lo hi none).run Pr w = .ok (l, h', cap) w) :
    (Instr.sliceAt t (.slice A n cap) lo hi none).run Pr w = .ok (.slice (if cap = l then A else A.map (·.add (l * sz))) (h' - l) (cap - l)) w := by
  simp [Instr.sliceAt, run_underlying hu, Instr.slice, hb, hsz]

theorem slice_ok (hty : TyOk Pr cx.ty) (h : Rel (isVar cx f) w0 E0 P R ea w S tmps) (ha : a.tmps = tmps) {o : Oper} {e : Nat} {x : Operand} {lo hi : Option Operand} (ho : o.op = .slice e x lo hi none) {z : XU} {Su : SU}
    (hq : qval cx f call (V.erS S) o.type (.slice e x lo hi none) = some (z, Su)) : QOk cx f w0 E0 P R ea w tmps Pr a o z Su := by
  simp only [qval] at hq
  split at hq
  · rename_i y vl vh hx hlo hhi
    split at hq
    · rename_i hso
      obtain ⟨aG, haG, hav, haok, har⟩ := opv_c h ha hx
      subst haG
      have hl := optInt_ok h ha hlo
      have hh := optInt_ok h ha hhi
      cases hz : sliceV (erC aG) vl vh with
      | none => simp [hz] at hq
      | some z' =>
        simp only [hz, Option.map_some, Option.some.injEq, Prod.mk.injEq] at hq
        obtain ⟨rfl, rfl⟩ := hq
        have fin : ∀ c' : CV, erC c' = z' → okC w P R S ea c' → blkC c' = [] → (∀ d', Root.sl d' ∈ refsC c' → isVar cx f d' = true) → (Instr.sliceAt e (valC aG) (lo.map a.eval) (hi.map a.eval) none).run Pr w = .ok (valC c') w → QOk cx f w0 E0 P R ea w tmps Pr a o (.c z') (V.erS S) := by
          intro c' h1 h2 h3 h4 h5
          subst h1
          exact ⟨w, S, _, QRes.ref h h2 h3 h4, by simp [execOp, ho, hav, h5, valX]⟩
        cases aG with
        | t u =>
          cases u with
          | str s =>
            simp only [erC, mapC, mapT, sliceV] at hz
            split at hz
            · rename_i hc
              simp only [Option.some.injEq] at hz
              subst hz
              have hk : kindOf cx e = 3 := by simpa [erC, mapC, mapT, sliceOk] using hso
              obtain ⟨d, hd, hkd⟩ := kindOf_und hty (by omega) hk
              have hds : d = .string := by cases d <;> simp [kindIs] at hkd <;> rfl
              subst hds
              have hbs : (⟨s.toArray⟩ : ByteArray).size = s.length := by simp [ByteArray.size]
              have hb := run_bounds (Pr := Pr) (w := w) false s.length s.length (bound_lo hl) (bound_hi (n := (s.length : Int)) hh) hc.1 hc.2.1 hc.2.2
              refine fin (.t (.str ((s.drop (vl.getD 0).toNat).take (vh.getD s.length - vl.getD 0).toNat))) (by simp [erC, mapC, mapT]) (by simp [okC, okT]) (by simp [blkC, blkT]) (by simp [refsC]) ?_
              have he : (vh.getD (s.length : Int)).toNat - (vl.getD 0).toNat = (vh.getD (s.length : Int) - vl.getD 0).toNat := by omega
              simp [Instr.sliceAt, run_underlying hd, Instr.slice, valC, valT, hbs, hb, extract_mk, he]
            · cases hz
          | sl v tag sz n cs =>
            cases tag with
            | zero => simp [erC, mapC, mapT, sliceV] at hz
            | succ m =>
              simp only [erC, mapC, mapT, mapTs_eq, sliceV] at hz
              split at hz
              · rename_i hc
                simp only [Option.some.injEq] at hz
                subst hz
                obtain ⟨el, hu, _, _, _, hsz⟩ := elOk_facts hty (by simpa [erC, mapC, mapT, sliceOk] using hso)
                simp only [okC, okT, Nat.succ_ne_zero, if_false, Nat.add_eq_zero_iff, and_false] at haok
                obtain ⟨hlen, hts, ⟨A, cap, rfl, hcap, hor⟩, htag, hsh⟩ := haok
                have hb := run_bounds (Pr := Pr) (w := w) true n cap (bound_lo hl) (bound_hi (n := (n : Int)) hh) hc.1 hc.2.1 (by omega)
                have hr := slice_run (A := A) hu hsz hb
                have he : (vh.getD (n : Int)).toNat - (vl.getD 0).toNat = (vh.getD (n : Int) - vl.getD 0).toNat := by omega
                rw [he] at hr
                refine fin (.t (.sl (.slice (if cap = (vl.getD 0).toNat then A else A.map (·.add ((vl.getD 0).toNat * sz))) (vh.getD (n : Int) - vl.getD 0).toNat (cap - (vl.getD 0).toNat)) (m + 1) sz (vh.getD (n : Int) - vl.getD 0).toNat ((cs.drop ((vl.getD 0).toNat * sz)).take ((vh.getD (n : Int) - vl.getD 0).toNat * sz))))
                  (by simp [erC, mapC, mapT, mapTs_eq, er0, List.map_take, List.map_drop]) ?_ (by simp [blkC, blkT]) (by simp [refsC]) (by simpa [valC, valT] using hr)
                simp only [okC, okT, Nat.succ_ne_zero, if_false, Nat.add_eq_zero_iff, and_false]
                have hmul : (vl.getD 0).toNat * sz + (vh.getD (n : Int) - vl.getD 0).toNat * sz ≤ n * sz := by rw [← Nat.add_mul]; exact Nat.mul_le_mul_right _ (by omega)
                refine ⟨?_, okTs_take (okTs_drop hts), ⟨_, _, rfl, by omega, ?_⟩, htag, shTs_take (shTs_drop hsh)⟩
                · rw [List.length_take, List.length_drop, hlen]; omega
                · by_cases hn0 : (vh.getD (n : Int) - vl.getD 0).toNat = 0
                  · exact .inl hn0
                  · obtain ⟨ad, rfl, hs2, hR, hcells⟩ := hor.resolve_left (by omega)
                    have hne : cap ≠ (vl.getD 0).toNat := by omega
                    refine .inr ⟨ad.add ((vl.getD 0).toNat * sz), by simp [hne], by rw [pt_eta hs2], by rw [pt_eta hs2]; exact hR, ?_⟩
                    rw [pt_eta hs2, List.map_take, List.map_drop]
                    exact cellsAt_take (cellsAt_drop hcells _) _
              · cases hz
          | _ => simp [erC, mapC, mapT, sliceV] at hz
        | bor v r p i off sz n =>
          simp only [erC, mapC, sliceV] at hz
          split at hz
          · rename_i hc
            simp only [Option.some.injEq] at hz
            subst hz
            obtain ⟨el, hu, _, _, _, hsz⟩ := elOk_facts hty (by simpa [erC, mapC, sliceOk] using hso)
            simp only [okC, BorOk] at haok
            obtain ⟨b, m, ds, hat, hlen, hh2⟩ := haok
            have hmul : (vl.getD 0).toNat * sz + (vh.getD (n : Int) - vl.getD 0).toNat * sz ≤ n * sz := by rw [← Nat.add_mul]; exact Nat.mul_le_mul_right _ (by omega)
            have he : (vh.getD (n : Int)).toNat - (vl.getD 0).toNat = (vh.getD (n : Int) - vl.getD 0).toNat := by omega
            rcases hh2 with ⟨rfl, rfl, rfl⟩ | ⟨ad, cap, rfl, hw⟩
            · have hb := run_bounds (Pr := Pr) (w := w) true 0 0 (bound_lo hl) (bound_hi (n := ((0 : Nat) : Int)) hh) hc.1 hc.2.1 (by omega)
              have hr := slice_run (A := none) hu hsz hb
              have hz0 : (vl.getD 0).toNat = 0 := by omega
              have hz1 : (vh.getD ((0 : Nat) : Int) - vl.getD 0).toNat = 0 := by omega
              rw [he, hz0, hz1] at hr
              refine fin (.bor (.slice none 0 0) r p i (off + (vl.getD 0).toNat * sz) sz (vh.getD ((0 : Nat) : Int) - vl.getD 0).toNat) (by simp [erC, mapC, er0]) ?_ (by simp [blkC]) (fun d' hd' => har d' (by simpa [refsC] using hd')) ?_
              · simp only [okC]
                exact ⟨_, m, ds, hat, by omega, .inl ⟨rfl, rfl, hz1⟩⟩
              · simpa [valC] using hr
            · obtain ⟨ad2, cap2, rfl, hc2, hw2⟩ := hw.sub (l := (vl.getD 0).toNat) (h' := (vh.getD (n : Int)).toNat) (by omega) (by omega)
              have hb := run_bounds (Pr := Pr) (w := w) true n cap2 (bound_lo hl) (bound_hi (n := (n : Int)) hh) hc.1 hc.2.1 (by omega)
              have hr := slice_run (A := some ad2) hu hsz hb
              rw [he] at hr hw2
              refine fin (.bor (.slice (some (if cap2 = (vl.getD 0).toNat then ad2 else ad2.add ((vl.getD 0).toNat * sz))) (vh.getD (n : Int) - vl.getD 0).toNat (cap2 - (vl.getD 0).toNat)) r p i (off + (vl.getD 0).toNat * sz) sz (vh.getD (n : Int) - vl.getD 0).toNat)
                (by simp [erC, mapC, er0]) ?_ (by simp [blkC]) (fun d' hd' => har d' (by simpa [refsC] using hd')) ?_
              · simp only [okC, BorOk]
                refine ⟨_, m, ds, hat, by omega, .inr ⟨ad, cap, rfl, ?_⟩⟩
                rw [← Nat.add_assoc]
                exact hw2
              · simp only [valC]
                rw [hr]
                congr 2
                split <;> simp
          · cases hz
        | _ => simp [erC, mapC, sliceV] at hz
    · cases hq
  · cases hq
end
end Go.Proofs.YtlkjnlfddadlmaaDoor.V

namespace Go.Proofs.YtlkjnlfddadlmaaDoor.V
open Go.RowKit

section
variable {cx : Ctx} {f : Nat} {w0 : World} {E0 : Nat → Prop} {P : Nat → Nat → Prop} {R : Nat → Prop} {ea : List EA} {w w' : World} {S : SV} {tmps : Array Value} {Pr : Program} {a : Act} {call : Callee}

theorem repl_get {β : Type} (xs : List β) : ∀ (n j : Nat), (repl n xs)[j]? = if j < n * xs.length then xs[j % xs.length]? else none
  | 0, j => by simp [repl]
  | n + 1, j => by
    have ih := repl_get xs n (j - xs.length)
    simp only [repl] at ih ⊢
    rw [List.replicate_succ, List.flatten_cons, List.getElem?_append, ih]
    have hm : (n + 1) * xs.length = n * xs.length + xs.length := Nat.succ_mul _ _
    by_cases h1 : j < xs.length
    · rw [if_pos h1, if_pos (by omega), Nat.mod_eq_of_lt h1]
    · rw [if_neg h1]
      have hmod : j % xs.length = (j - xs.length) % xs.length := Nat.mod_eq_sub_mod (by omega)
      by_cases h2 : j < (n + 1) * xs.length
      · rw [if_pos h2, if_pos (by omega), hmod]
      · rw [if_neg h2, if_neg (by omega)]

theorem repl_map {β γ : Type} (g : β → γ) (n : Nat) (xs : List β) : (repl n xs).map g = repl n (xs.map g) := by
  simp [repl, List.map_flatten, List.map_replicate]

theorem repl_length {β : Type} (n : Nat) (xs : List β) : (repl n xs).length = n * xs.length := by
  simp [repl]

theorem mem_repl {β : Type} {n : Nat} {xs : List β} {x : β} (h : x ∈ repl n xs) : x ∈ xs := by
  simp only [repl, List.mem_flatten, List.mem_replicate] at h
  obtain ⟨l, ⟨_, rfl⟩, h⟩ := h
  exact h

theorem made_get (z : Array Value) (N j : Nat) (hj : j < N) (hz : 0 < z.size) : (madeCells z N)[j]? = z[j % z.size]? := by
  have hm : j % z.size < z.size := Nat.mod_lt _ hz
  simp [madeCells, hj, hm]

theorem allT_eq : ∀ {cs : List CU} {ts : List TU}, allT cs = some ts → cs = ts.map .t
  | [], ts, h => by simp only [allT, Option.some.injEq] at h; subst h; rfl
  | c :: cs, ts, h => by
    cases c with
    | t x =>
      simp only [allT] at h
      cases hr : allT cs with
      | none => simp [hr] at h
      | some us =>
        simp only [hr, Option.map_some, Option.some.injEq] at h
        subst h
        simp [allT_eq hr]
    | _ => simp [allT] at h

theorem allT_er {cs : List CV} {ts : List TU} (h : allT (cs.map erC) = some ts) : ∃ us : List TV, cs = us.map .t ∧ us.map erT = ts := by
  have := allT_eq h
  clear h
  induction cs generalizing ts with
  | nil => exact ⟨[], rfl, by simpa using this⟩
  | cons c cs ih =>
    cases ts with
    | nil => simp at this
    | cons t ts =>
      simp only [List.map_cons, List.cons.injEq] at this
      obtain ⟨y, rfl, hy⟩ := er_t this.1
      obtain ⟨us, h1, h2⟩ := ih this.2
      exact ⟨y :: us, by simp [h1], by simp [hy, h2]⟩

theorem okCs_t {us : List TV} : okCs w P R S ea (us.map .t) ↔ okTs w P R us := by
  rw [okCs_iff, okTs_iff]
  simp [okC]
theorem blkCs_t {us : List TV} : blkCs (us.map .t) = blkTs us := by
  rw [blkCs_eq, blkTs_eq, List.flatMap_map]
  rfl
theorem blkTs_nil_of {us : List TV} (h : ∀ x ∈ us, blkT x = []) : blkTs us = [] := by
  rw [blkTs_eq, List.flatMap_eq_nil_iff]; exact h

theorem New.row (h : Rel (isVar cx f) w0 E0 P R ea w S tmps) {cs : List CV} {cur : Array Value} {e : TypeId} {sz n cap : Nat} (hn : New (isVar cx f) w0 E0 P R ea w S (.agg cs))
    (hl : cs.length = n * sz) (hc : n ≤ cap) (hcap : cap * sz ≤ cur.size) (hv : ∀ (j : Nat) (v : Value), (valCs cs)[j]? = some v → cur[j]? = some v) :
    Rel (isVar cx f) w0 E0 P R ea (w.alloc (.cells cur e)) S tmps ∧
    New (isVar cx f) w0 E0 P R ea (w.alloc (.cells cur e)) S (.c (.lst (.slice (some ⟨w.heap.size, 0, none⟩) n cap) sz n cs)) := by
  have hg := Grow.alloc w (.cells cur e)
  have hr := h.grow hg
  refine ⟨hr, ?_⟩
  have hok := hn.ok
  simp only [okX] at hok
  have hnb : w.heap.size ∉ blkCs cs := fun hb => Nat.lt_irrefl _ (hn.lt _ (by simpa [blkX] using hb))
  constructor
  · simp only [okX, okC]
    refine ⟨hl, okCs_same (fun _ b hb => hg.block b (h.ltP _ b hb)) (fun b hb => hg.block b (h.ltR b hb)) hok (fun b hb => hg.block b (hn.lt b (by simpa [blkX] using hb))) (fun _ _ => ⟨rfl, rfl⟩), .inr ⟨w.heap.size, 0, cur, e, ?_, heap_alloc_new w _, fun j v hj => by simpa using hv j v hj⟩⟩
    exact ⟨_, cap, rfl, hc, rfl, rfl, .inr ⟨rfl, by omega⟩⟩
  · exact fun d' hd' => hn.refs d' (by simpa [refsX, refsC] using hd')
  · simp only [blkX, blkC, hdr, List.cons_append, List.nil_append, List.nodup_cons]
    exact ⟨hnb, by simpa [blkX] using hn.nd⟩
  · intro r b hb
    simp only [blkX, blkC, hdr, List.cons_append, List.nil_append, List.mem_cons] at hb
    rcases hb with rfl | hb
    · exact h.fresh r
    · exact hn.sep r b (by simpa [blkX] using hb)
  · intro b hb
    simp only [blkX, blkC, hdr, List.cons_append, List.nil_append, List.mem_cons] at hb
    rcases hb with rfl | hb
    · simp
    · exact Nat.lt_of_lt_of_le (hn.lt b (by simpa [blkX] using hb)) hg.size
  · intro b hb
    simp only [blkX, blkC, hdr, List.cons_append, List.nil_append, List.mem_cons] at hb
    rcases hb with rfl | hb
    · exact .inr h.freshOwn
    · exact hn.own b (by simpa [blkX] using hb)
  · intro b hb
    simp only [blkX, blkC, hdr, List.cons_append, List.nil_append, List.mem_cons] at hb
    rcases hb with rfl | hb
    · exact h.freshR
    · exact hn.notR b (by simpa [blkX] using hb)

theorem New.lst_t {isv : Nat → Bool} {v : Value} {sz n : Nat} {us : List TV} (hn : New isv w0 E0 P R ea w S (.c (.lst v sz n (us.map .t)))) : New isv w0 E0 P R ea w S (.c (.t (.sl v 0 sz n us))) := by
  have hb : blkX (.c (.t (.sl v 0 sz n us))) = blkX (.c (.lst v sz n (us.map .t))) := by simp [blkX, blkC, blkT, blkCs_t]
  constructor
  · have := hn.ok
    simp only [okX, okC, okT, if_true] at this ⊢
    refine ⟨by simpa using this.1, okCs_t.1 this.2.1, ?_⟩
    have h3 := this.2.2
    rw [valCs_eq, List.map_map] at h3
    exact h3
  · intro d' hd'; simp [refsX, refsC] at hd'
  · rw [hb]; exact hn.nd
  · intro r b h; exact hn.sep r b (hb ▸ h)
  · intro b h; exact hn.lt b (hb ▸ h)
  · intro b h; exact hn.own b (hb ▸ h)
  · intro b h; exact hn.notR b (hb ▸ h)

theorem lstV_ok {isv : Nat → Bool} {v : Value} {sz n : Nat} {cs : List CV} (hn : New isv w0 E0 P R ea w S (.c (.lst v sz n cs))) : ∃ c, erC c = lstV sz n (cs.map erC) ∧ valC c = v ∧ New isv w0 E0 P R ea w S (.c c) := by
  unfold lstV
  cases ht : allT (cs.map erC) with
  | none => exact ⟨.lst v sz n cs, by simp [erC, mapC, mapCs_eq, er0], rfl, hn⟩
  | some ts =>
    obtain ⟨us, rfl, rfl⟩ := allT_er ht
    exact ⟨.t (.sl v 0 sz n us), by simp [erC, mapC, mapT, mapTs_eq, er0], rfl, hn.lst_t⟩

theorem makeSlice_ok (hty : TyOk Pr cx.ty) (h : Rel (isVar cx f) w0 E0 P R ea w S tmps) (ha : a.tmps = tmps) {o : Oper} {e : Nat} {l c : Operand} (ho : o.op = .makeSlice e l c) {z : XU} {Su : SU}
    (hq : qval cx f call (V.erS S) o.type (.makeSlice e l c) = some (z, Su)) : QOk cx f w0 E0 P R ea w tmps Pr a o z Su := by
  simp only [qval] at hq
  split at hq
  · rename_i el n m hel hl hc
    split at hq
    · rename_i hcond
      obtain ⟨h0, hnm, hby, hmax, hse, hok, hsz⟩ := hcond
      cases hts : allT (cx.ty el).zs with
      | none => simp [hts] at hq
      | some ts =>
        simp only [hts, Option.map_some, Option.some.injEq, Prod.mk.injEq] at hq
        obtain ⟨rfl, rfl⟩ := hq
        obtain ⟨ti, d, zz, hf⟩ := hty.facts hse
        have hd := hf.slice hel
        subst hd
        obtain ⟨ti2, d2, zz2, hf2⟩ := hty.facts hok
        obtain ⟨kl, hlv⟩ := opv_int h ha hl
        obtain ⟨kc, hcv⟩ := opv_int h ha hc
        have h63 : m ≤ 9223372036854775807 := by unfold maxLen at hmax; omega
        have hr := run_make (P := Pr) w e el ti2 zz2 hf.und hf2.info hf2.zero kl kc n m h0 hnm (by rw [hf2.bytes, Int.mul_comm]; omega) h63
        obtain ⟨z1, z2, z3, z4, z5⟩ := zerosAre_val hf2.zs
        have hn0 : New (isVar cx f) w0 E0 P R ea w S (.agg (repl n.toNat ((cx.ty el).zs.map zG))) := by
          refine New.plain ?_ ?_ ?_
          · simp only [okX]; exact okCs_iff.2 fun c hc => okCs_iff.1 (z5 w P R S ea) c (mem_repl hc)
          · simp only [blkX]
            rw [blkCs_eq, List.flatMap_eq_nil_iff]
            intro c hc
            rw [blkCs_eq, List.flatMap_eq_nil_iff] at z3
            exact z3 c (mem_repl hc)
          · simp only [refsX]
            rw [refsCs_eq, List.flatMap_eq_nil_iff]
            intro c hc
            rw [refsCs_eq, List.flatMap_eq_nil_iff] at z4
            exact z4 c (mem_repl hc)
        have hlen : ((cx.ty el).zs.map zG).length = (cx.ty el).sz := by rw [List.length_map, hf2.zlen]
        have hzs : zz2.cells.size = (cx.ty el).sz := by
          have := zerosAre_len hf2.zs
          rw [Array.length_toList, hf2.zlen] at this
          exact this.symm
        have hmul : n.toNat * (cx.ty el).sz ≤ m.toNat * (cx.ty el).sz := Nat.mul_le_mul_right _ (by omega)
        obtain ⟨k1, k2⟩ := New.row (cur := madeCells zz2.cells (m.toNat * ti2.size)) (e := el) (sz := (cx.ty el).sz) (n := n.toNat) (cap := m.toNat) h hn0
          (by rw [repl_length, hlen]) (by omega) (by rw [size_madeCells, hf2.size]; exact Nat.le_refl _) (by
            intro j v hj
            rw [valCs_eq, repl_map, repl_get, List.length_map, hlen] at hj
            split at hj
            · rename_i hlt
              rw [made_get _ _ _ (by rw [hf2.size]; omega) (by omega), hzs]
              rw [z1] at hj
              simpa using hj
            · cases hj)
        obtain ⟨us, hus1, hus2⟩ := allT_er (cs := (cx.ty el).zs.map zG) (ts := ts) (by rw [z2]; exact hts)
        rw [hus1, show repl n.toNat (us.map C.t) = (repl n.toNat us).map C.t by rw [repl_map]] at k2
        refine ⟨_, S, _, ⟨Grow.alloc w _, ?_, rfl, k1, k2.lst_t⟩, ?_⟩
        · simp [erX, mapX, mapC, mapT, mapTs_eq, er0, repl_map, ← hus2]
        · simp [execOp, ho, hlv, hcv, hr, valX, valC, valT]
    · cases hq
  · cases hq
end
end Go.Proofs.YtlkjnlfddadlmaaDoor.V

namespace Go.Proofs.YtlkjnlfddadlmaaDoor.V
open Go.RowKit

section
variable {cx : Ctx} {f : Nat} {w0 : World} {E0 : Nat → Prop} {P : Nat → Nat → Prop} {R : Nat → Prop} {ea : List EA} {w w' : World} {S : SV} {tmps : Array Value} {Pr : Program} {a : Act} {call : Callee} {isv : Nat → Bool}

theorem sublist_flatMap {α β : Type} (g : α → List β) {l1 l2 : List α} (h : l1.Sublist l2) : (l1.flatMap g).Sublist (l2.flatMap g) := by
  induction h with
  | slnil => exact List.Sublist.refl _
  | cons a _ ih => simp only [List.flatMap_cons]; exact ih.trans (List.sublist_append_right _ _)
  | cons_cons a _ ih => simp only [List.flatMap_cons]; exact List.Sublist.append (List.Sublist.refl _) ih

theorem New.some {cs ds : List CV} (hn : New isv w0 E0 P R ea w S (.agg cs)) (hs : ds.Sublist cs) : New isv w0 E0 P R ea w S (.agg ds) := by
  have hb : (blkCs ds).Sublist (blkCs cs) := by rw [blkCs_eq, blkCs_eq]; exact sublist_flatMap _ hs
  have hr : (refsCs ds).Sublist (refsCs cs) := by rw [refsCs_eq, refsCs_eq]; exact sublist_flatMap _ hs
  have hok := hn.ok
  simp only [okX] at hok
  constructor
  · simp only [okX]; exact okCs_iff.2 fun c hc => okCs_iff.1 hok c (hs.subset hc)
  · intro d' hd'; exact hn.refs d' (by simp only [refsX] at hd' ⊢; exact hr.subset hd')
  · exact (show (blkX (.agg ds)).Sublist (blkX (.agg cs)) from by simpa [blkX] using hb).nodup hn.nd
  · intro r b h; exact hn.sep r b (by simp only [blkX] at h ⊢; exact hb.subset h)
  · intro b h; exact hn.lt b (by simp only [blkX] at h ⊢; exact hb.subset h)
  · intro b h; exact hn.own b (by simp only [blkX] at h ⊢; exact hb.subset h)
  · intro b h; exact hn.notR b (by simp only [blkX] at h ⊢; exact hb.subset h)

theorem New.one {c : CV} (hn : New isv w0 E0 P R ea w S (.agg [c])) : New isv w0 E0 P R ea w S (.c c) := by
  have hok := hn.ok
  simp only [okX, okCs, and_true] at hok
  refine ⟨by simpa [okX] using hok, fun d' hd' => hn.refs d' (by simpa [refsX, refsCs] using hd'), ?_, fun r b h => hn.sep r b (by simpa [blkX, blkCs] using h), fun b h => hn.lt b (by simpa [blkX, blkCs] using h), fun b h => hn.own b (by simpa [blkX, blkCs] using h), fun b h => hn.notR b (by simpa [blkX, blkCs] using h)⟩
  simpa [blkX, blkCs] using hn.nd

theorem New.mkx {t : Nat} {cs : List CV} {xG : XV} (hn : New isv w0 E0 P R ea w S (.agg cs)) (hx : ((cx.ty t).agg = true ∧ cs.length = (cx.ty t).sz ∧ xG = .agg cs) ∨ ((cx.ty t).agg = false ∧ ∃ c, cs = [c] ∧ xG = .c c)) : New isv w0 E0 P R ea w S xG := by
  rcases hx with ⟨_, _, rfl⟩ | ⟨_, c, rfl, rfl⟩
  · exact hn
  · exact hn.one

theorem run_part (hty : TyOk Pr cx.ty) {t : Nat} (ht : (cx.ty t).ok = true) {cs ds : List CV} {off : Nat} {xG : XV} (hd : (cs.drop off).take (cx.ty t).sz = ds) (hl : off + (cx.ty t).sz ≤ cs.length)
    (hx : ((cx.ty t).agg = true ∧ ds.length = (cx.ty t).sz ∧ xG = .agg ds) ∨ ((cx.ty t).agg = false ∧ ∃ c, ds = [c] ∧ xG = .c c)) : (part t (valCs cs).toArray off).run Pr w = .ok (valX xG) w := by
  obtain ⟨ti, d, zz, hf⟩ := hty.facts ht
  have h1 := run_isAgg (Pr := Pr) (w := w) t d hf.und
  rcases hx with ⟨hagg, _, rfl⟩ | ⟨hagg, c, he, rfl⟩
  · rw [hf.agg, hagg] at h1
    have hsz : (sizeOf t).run Pr w = .ok (cx.ty t).sz w := by simp [sizeOf, typeInfo, hf.info, hf.size]
    have he : (valCs cs).toArray.extract off (off + (cx.ty t).sz) = (valCs ds).toArray := by
      apply Array.ext'
      rw [← hd, valCs_eq, valCs_eq, List.map_take, List.map_drop]
      simp [List.extract_eq_take_drop]
    simp [part, h1, hsz, valX]
    simpa using he
  · rw [hf.agg, hagg] at h1
    have hc : (valCs cs)[off]? = some (valC c) := by
      rw [valCs_eq, List.getElem?_map]
      have : ((cs.drop off).take (cx.ty t).sz)[0]? = some c := by rw [hd, he]; rfl
      rw [List.getElem?_take, List.getElem?_drop] at this
      split at this
      · simp only [Nat.add_zero] at this; rw [this]; rfl
      · cases this
    simp [part, h1, hc, valX]

theorem field_ok (hty : TyOk Pr cx.ty) (h : Rel (isVar cx f) w0 E0 P R ea w S tmps) (ha : a.tmps = tmps) {o : Oper} {e i : Nat} {x : Operand} (ho : o.op = .field e x i) {z : XU} {Su : SU}
    (hq : qval cx f call (V.erS S) o.type (.field e x i) = some (z, Su)) : QOk cx f w0 E0 P R ea w tmps Pr a o z Su := by
  simp only [qval] at hq
  split at hq
  · rename_i off ft cs hfs hx
    split at hq
    · rename_i hc
      obtain ⟨hse, hok, hl⟩ := hc
      obtain ⟨xG, hxG⟩ := h.opv ha hx
      obtain ⟨ds, rfl, rfl⟩ := er_agg hxG.er
      rw [← List.map_drop, ← List.map_take] at hq
      cases hm : mkX cx ft (((ds.drop off).take (cx.ty ft).sz).map erC) with
      | none => rw [hm] at hq; simp at hq
      | some y =>
        rw [hm] at hq; simp only [Option.map_some, Option.some.injEq, Prod.mk.injEq] at hq
        obtain ⟨rfl, rfl⟩ := hq
        obtain ⟨yG, hy1, hy2⟩ := mkX_ok hm
        obtain ⟨ti, d, zz, hf⟩ := hty.facts hse
        obtain ⟨fs, fd, rfl, hfd, hfo, hft⟩ := hf.field hfs
        have hn := (hxG.new.some (List.Sublist.trans (List.take_sublist _ _) (List.drop_sublist off ds) : ((ds.drop off).take (cx.ty ft).sz).Sublist ds)).mkx hy2
        simp only [List.length_map] at hl
        have hp := run_part (Pr := Pr) (w := w) hty hok rfl hl hy2
        refine ⟨w, _, yG, ⟨Grow.refl w, hy1, clr_map x, h.clr x, hn⟩, ?_⟩
        subst hft; subst hfo
        simp [execOp, ho, hxG.val, valX, Instr.field, run_underlying hf.und, hfd, asAgg, hp]
    · cases hq
  · cases hq

theorem caps_ok (h : Rel (isVar cx f) w0 E0 P R ea w S tmps) (ha : a.tmps = tmps) : ∀ {os : List Operand} {cs : List CU}, capsV cx f (V.erS S) os = some cs →
    ∃ ds, ds.map erC = cs ∧ os.map a.eval = ds.map valC ∧ okCs w P R S ea ds ∧ blkCs ds = [] ∧ ∀ d', Root.sl d' ∈ refsCs ds → isVar cx f d' = true
  | [], cs, hc => by
    simp only [capsV, Option.some.injEq] at hc
    subst hc
    exact ⟨[], rfl, rfl, by simp [okCs], by simp [blkCs], by simp [refsCs]⟩
  | o :: os, cs, hc => by
    simp only [capsV] at hc
    cases hx : opv cx f (V.erS S) 0 o with
    | none => simp [hx] at hc
    | some x =>
      simp only [hx, Option.bind_some] at hc
      split at hc
      · rename_i c
        split at hc
        · cases hc
        · rename_i hno
          cases hr : capsV cx f (V.erS S) os with
          | none => simp [hr] at hc
          | some us =>
            simp only [hr, Option.map_some, Option.some.injEq] at hc
            subst hc
            obtain ⟨ds, d1, d2, d3, d4, d5⟩ := caps_ok h ha hr
            obtain ⟨cG, hcG, hv, hok, href⟩ := opv_c h ha hx
            subst hcG
            have hno' : isOwn cG = false := by rw [show erC cG = mapC er0 cG from rfl, isOwn_map] at hno; simpa using hno
            refine ⟨cG :: ds, by simp [d1], by simp [d2, hv], ⟨hok, d3⟩, by simp [blkCs, isOwn_blk hok hno', d4], ?_⟩
            intro d' hd'
            simp only [refsCs, List.mem_append] at hd'
            exact hd'.elim (href d') (d5 d')
      · cases hc

theorem makeFunc_ok (h : Rel (isVar cx f) w0 E0 P R ea w S tmps) (ha : a.tmps = tmps) {o : Oper} {g : Nat} {first caps : Array Operand} (ho : o.op = .makeFunc (.func g) first caps) {z : XU} {Su : SU}
    (hq : qval cx f call (V.erS S) o.type (.makeFunc (.func g) first caps) = some (z, Su)) : QOk cx f w0 E0 P R ea w tmps Pr a o z Su := by
  simp only [qval] at hq
  split at hq
  · rename_i hfirst
    cases hc : capsV cx f (V.erS S) caps.toList with
    | none => simp [hc] at hq
    | some cs =>
      simp only [hc, Option.map_some, Option.some.injEq, Prod.mk.injEq] at hq
      obtain ⟨rfl, rfl⟩ := hq
      obtain ⟨ds, rfl, d2, d3, d4, d5⟩ := caps_ok h ha hc
      have := QRes.ref (c := .fn g ds) h (by simp only [okC]; exact ⟨d3, d4⟩) (by simp [blkC]) (fun d' hd' => d5 d' (by simpa [refsC] using hd'))
      refine ⟨w, S, _, by simpa [erC, mapC, mapCs_eq] using this, ?_⟩
      have hm : caps.map a.eval = (ds.map valC).toArray := by
        apply Array.ext'
        simpa using d2
      simp [execOp, ho, hfirst, Instr.makeFunc, valX, valC, valCs_eq, hm]
  · cases hq

theorem flat_at : ∀ {xs : List XV} {i : Nat} {y : XV}, xs[i]? = some y → ∀ (k : Nat) (c : CV), (flatX [y])[k]? = some c → (flatX xs)[tupOff (xs.map erX) i + k]? = some c
  | [], i, y, h, _, _, _ => by simp at h
  | x :: xs, 0, y, h, k, c, hk => by
    simp only [List.getElem?_cons_zero, Option.some.injEq] at h
    subst h
    simp only [List.map_cons, tupOff, Nat.zero_add]
    cases x with
    | c x =>
      simp only [flatX] at hk ⊢
      cases k with
      | zero => simpa using hk
      | succ k => simp at hk
    | agg cs =>
      simp only [flatX, List.append_nil] at hk ⊢
      rw [List.getElem?_append_left (List.getElem?_eq_some_iff.1 hk).1]
      exact hk
    | _ => simp [flatX] at hk
  | x :: xs, i + 1, y, h, k, c, hk => by
    simp only [List.getElem?_cons_succ] at h
    have ih := flat_at h k c hk
    simp only [List.map_cons, tupOff]
    have hlen : (flatX [erX x]).length = (flatX [x]).length := by
      cases x <;> simp [erX, mapX, flatX, mapCs_eq]
    rw [hlen]
    have hsplit : flatX (x :: xs) = flatX [x] ++ flatX xs := by cases x <;> simp [flatX]
    rw [hsplit, Nat.add_assoc, List.getElem?_append_right (by omega), show (flatX [x]).length + (tupOff (xs.map erX) i + k) - (flatX [x]).length = tupOff (xs.map erX) i + k by omega]
    exact ih

theorem extract_ok (h : Rel (isVar cx f) w0 E0 P R ea w S tmps) (ha : a.tmps = tmps) {o : Oper} {i : Nat} {x : Operand} (ho : o.op = .extract x i) {z : XU} {Su : SU}
    (hq : qval cx f call (V.erS S) o.type (.extract x i) = some (z, Su)) : QOkW cx f w0 E0 P R ea w tmps Pr a o z Su := by
  simp only [qval] at hq
  cases hz : extractV cx f (V.erS S) x i with
  | none => simp [hz] at hq
  | some z' =>
    simp only [hz, Option.map_some, Option.some.injEq, Prod.mk.injEq] at hq
    obtain ⟨rfl, rfl⟩ := hq
    unfold extractV at hz
    split at hz
    · rename_i d
      split at hz
      · rename_i xs hs
        have hs' : erX (S.s d) = .tup xs := hs
        obtain ⟨ys, hys, rfl⟩ : ∃ ys, S.s d = .tup ys ∧ ys.map erX = xs := by
          cases hd : S.s d <;> simp [hd, erX, mapX, mapXs_eq] at hs'
          exact ⟨_, rfl, hs'⟩
        have hslot := h.slot (d := d) (by rw [hys]; simp)
        have hval : a.eval (.tmp d) = .tuple (valXs ys).toArray := by simp [Act.eval, ha, hslot, hys, valX]
        cases hi : ys[i]? with
        | none => simp [List.getElem?_map, hi] at hz
        | some y =>
          simp only [List.getElem?_map, hi, Option.map_some, Option.bind_some] at hz
          have hrun : (Instr.extract (a.eval (.tmp d)) i).run Pr w = .ok (valX y) w := by
            simp [Instr.extract, hval, valXs_eq, hi]
          have hd := h.okS d
          rw [hys] at hd
          simp only [okX] at hd
          have hyok := okXs_iff.1 hd y (List.mem_of_getElem? hi)
          have hyref : ∀ r ∈ refsX y, r ∈ refsX (S.s d) := by
            intro r hr
            rw [hys]
            simp only [refsX, refsXs_eq, List.mem_flatMap]
            exact ⟨y, List.mem_of_getElem? hi, hr⟩
          rw [show hasOwn (erX y) = hasOwn y from hasOwn_map er0 y] at hz
          split at hz
          · split at hz
            · rename_i hv
              have hat : ∀ (k : Nat) (c : CV), (flatX [y])[k]? = some c → at_ S (.sl d) [] (tupOff (ys.map erX) i + k) = some c := fun k c hk => by
                simp only [at_, rootCells, hys, Option.bind_some, subC]
                exact flat_at hi k c hk
              cases y with
              | c c =>
                simp only [erX, mapX, Option.some.injEq] at hz
                subst hz
                have hat0 := hat 0 c (by simp [flatX])
                simp only [Nat.add_zero] at hat0
                obtain ⟨k1, k2, k3, k4⟩ := rdc_ok hat0 (by simpa [okX] using hyok)
                refine ⟨S, .c (rdc (.sl d) [] (tupOff (ys.map erX) i) c), ?_, ?_⟩
                · have := QRes.ref (c := rdc (.sl d) [] (tupOff (ys.map erX) i) c) h k1 k3 (by
                    intro d' hd'
                    rcases k4 _ hd' with e | e
                    · simp only [Root.sl.injEq] at e; rw [e]; exact hv
                    · exact h.refS d d' (hyref _ (by simpa [refsX] using e)))
                  rw [show erC (rdc (.sl d) [] (tupOff (ys.map erX) i) c) = rdc (.sl d) [] (tupOff (ys.map erX) i) (erC c) from (rdc_map er0 _ _ _ _).symm] at this
                  exact this
                · simp [execOp, ho, hrun, valX, k2]
              | agg cs =>
                simp only [erX, mapX, mapCs_eq, Option.some.injEq] at hz
                subst hz
                obtain ⟨k1, k2, k3, k4⟩ := rdcs_ok (r := .sl d) (i := tupOff (ys.map erX) i) (cs := cs) (fun k c hk => hat k c (by simpa [flatX] using hk)) (by simpa [okX] using hyok)
                refine ⟨S, .agg (rdcs (.sl d) (tupOff (ys.map erX) i) cs), ⟨Grow.refl w, ?_, rfl, h, ?_⟩, ?_⟩
                · simp only [erX, mapX, mapCs_eq]
                  rw [rdcs_map]
                · refine ⟨by simpa [okX] using k1, ?_, by simp [blkX, k3], fun r b hb => by simp [blkX, k3] at hb, fun b hb => by simp [blkX, k3] at hb, fun b hb => by simp [blkX, k3] at hb, fun b hb => by simp [blkX, k3] at hb⟩
                  intro d' hd'
                  rcases k4 _ (by simpa [refsX] using hd') with e | e
                  · simp only [Root.sl.injEq] at e; rw [e]; exact hv
                  · exact h.refS d d' (hyref _ (by simpa [refsX] using e))
                · simp [execOp, ho, hrun, valX, k2]
              | _ => simp [erX, mapX] at hz
            · cases hz
          · rename_i hno
            simp only [Option.some.injEq] at hz
            subst hz
            have hb := hasOwn_blk hyok (by simpa using hno)
            exact ⟨S, y, ⟨Grow.refl w, rfl, rfl, h, hyok, fun d' hd' => h.refS d d' (hyref _ hd'), by rw [hb]; exact List.nodup_nil, fun r b hb' => by rw [hb] at hb'; simp at hb', fun b hb' => by rw [hb] at hb'; simp at hb', fun b hb' => by rw [hb] at hb'; simp at hb', fun b hb' => by rw [hb] at hb'; simp at hb'⟩, by simp [execOp, ho, hrun]⟩
      · cases hz
    · cases hz
end
end Go.Proofs.YtlkjnlfddadlmaaDoor.V

namespace Go.Proofs.YtlkjnlfddadlmaaDoor.V
open Go.RowKit

section
variable {cx : Ctx} {f : Nat} {w0 : World} {E0 : Nat → Prop} {P : Nat → Nat → Prop} {R : Nat → Prop} {ea : List EA} {w w' : World} {S : SV} {tmps : Array Value} {Pr : Program} {a : Act} {call : Callee}

theorem New.clr {x : XV} (h : New (isVar cx f) w0 E0 P R ea w S x) (o : Operand) : New (isVar cx f) w0 E0 P R ea w (clr cx f S o) x := by
  cases o with
  | tmp d =>
    simp only [V.clr]
    split
    · exact h
    · rename_i hv
      split
      · have hsub : ∀ r b, b ∈ blkR { S with s := upd S.s d .undef } ea r → b ∈ blkR S ea r := by
          intro r b hb
          by_cases e : r = .sl d
          · subst e; simp [blkR, upd, blkX] at hb
          · rwa [blkR_upd e] at hb
        refine ⟨okX_same (fun _ _ _ => rfl) (fun _ _ => rfl) h.ok (fun _ _ => rfl) (fun r hr => roots_upd (fun e => ?_)), h.refs, h.nd, fun r b hb hb' => h.sep r b hb (hsub r b hb'), h.lt, h.own, h.notR⟩
        exact hv (h.refs d (e ▸ hr))
      · exact h
  | _ => exact h

theorem set_fold : ∀ (xs : List Value) (k off : Nat) (arr : Array Value), off + k + xs.length ≤ arr.size →
    ((xs.zipIdx k).foldl (fun cs (p : Value × Nat) => cs.setIfInBounds (off + p.2) p.1) arr).toList = arr.toList.take (off + k) ++ xs ++ arr.toList.drop (off + k + xs.length)
  | [], k, off, arr, _ => by simp
  | x :: xs, k, off, arr, h => by
    simp only [List.length_cons] at h
    simp only [List.zipIdx_cons, List.foldl_cons]
    rw [set_fold xs (k + 1) off _ (by simp; omega)]
    have hlt : off + k < arr.toList.length := by simp; omega
    have h1 : (arr.toList.set (off + k) x).take (off + (k + 1)) = arr.toList.take (off + k) ++ [x] := by
      rw [List.set_eq_take_append_cons_drop, if_pos hlt, List.take_append]
      have : (List.take (off + k) arr.toList).length = off + k := by rw [List.length_take]; omega
      rw [this, List.take_of_length_le (by omega), show off + (k + 1) - (off + k) = 1 by omega]
      simp
    have h2 : (arr.toList.set (off + k) x).drop (off + (k + 1) + xs.length) = arr.toList.drop (off + k + (x :: xs).length) := by
      rw [List.drop_set_of_lt (by omega)]
      congr 1
      simp only [List.length_cons]; omega
    rw [Array.toList_setIfInBounds, h1, h2]
    simp

theorem fill_step (cells : Array Value) (off : Nat) (v : Array Value) (h : off + v.size ≤ cells.size) :
    (v.zipIdx.foldl (fun cs (p : Value × Nat) => cs.setIfInBounds (off + p.2) p.1) cells).toList = cells.toList.take off ++ v.toList ++ cells.toList.drop (off + v.size) := by
  have := set_fold v.toList 0 off cells (by simpa using h)
  simp only [Nat.add_zero, Array.length_toList] at this
  rw [← this, ← Array.foldl_toList, Array.toList_zipIdx]

theorem blkCs_append (xs ys : List CV) : blkCs (xs ++ ys) = blkCs xs ++ blkCs ys := by simp [blkCs_eq]
theorem refsCs_append (xs ys : List CV) : refsCs (xs ++ ys) = refsCs xs ++ refsCs ys := by simp [refsCs_eq]

theorem New.fill {isv : Nat → Bool} {cs ds : List CV} {off : Nat} (hc : New isv w0 E0 P R ea w S (.agg cs)) (hd : New isv w0 E0 P R ea w S (.agg ds)) (hdis : ∀ b ∈ blkCs cs, b ∉ blkCs ds) :
    New isv w0 E0 P R ea w S (.agg (cs.take off ++ ds ++ cs.drop (off + ds.length))) := by
  have hsub : (cs.take off ++ cs.drop (off + ds.length)).Sublist cs := by
    conv => rhs; rw [← List.take_append_drop off cs]
    refine List.Sublist.append (List.Sublist.refl _) ?_
    rw [← List.drop_drop]
    exact List.drop_sublist _ _
  have h1 := hc.some hsub
  have hmem : ∀ b, b ∈ blkCs (cs.take off ++ ds ++ cs.drop (off + ds.length)) → b ∈ blkCs (cs.take off ++ cs.drop (off + ds.length)) ∨ b ∈ blkCs ds := by
    intro b hb
    simp only [blkCs_append, List.mem_append] at hb ⊢
    rcases hb with (hb | hb) | hb
    · exact .inl (.inl hb)
    · exact .inr hb
    · exact .inl (.inr hb)
  have k1 := h1.ok
  have k2 := hd.ok
  simp only [okX] at k1 k2
  constructor
  · simp only [okX]
    refine okCs_iff.2 fun c hc' => ?_
    simp only [List.mem_append] at hc'
    rcases hc' with (hc' | hc') | hc'
    · exact okCs_iff.1 k1 c (List.mem_append_left _ hc')
    · exact okCs_iff.1 k2 c hc'
    · exact okCs_iff.1 k1 c (List.mem_append_right _ hc')
  · intro d' hd'
    simp only [refsX, refsCs_append, List.mem_append] at hd'
    rcases hd' with (hd' | hd') | hd'
    · exact h1.refs d' (by simp only [refsX, refsCs_append, List.mem_append]; exact .inl hd')
    · exact hd.refs d' (by simpa only [refsX] using hd')
    · exact h1.refs d' (by simp only [refsX, refsCs_append, List.mem_append]; exact .inr hd')
  · simp only [blkX, blkCs_append]
    have n1 := h1.nd
    have n2 := hd.nd
    simp only [blkX, blkCs_append] at n1 n2
    rw [List.nodup_append] at n1
    have hin : ∀ b, b ∈ blkCs (cs.take off) ∨ b ∈ blkCs (cs.drop (off + ds.length)) → b ∈ blkCs cs := by
      intro b hb
      have := (sublist_flatMap blkC hsub).subset (a := b)
      rw [← blkCs_eq, ← blkCs_eq] at this
      exact this (by rw [blkCs_append, List.mem_append]; exact hb)
    rw [List.nodup_append, List.nodup_append]
    refine ⟨⟨n1.1, n2, ?_⟩, n1.2.1, ?_⟩
    · intro x hx y hy e
      subst e
      exact hdis x (hin x (.inl hx)) hy
    · intro x hx y hy e
      subst e
      rcases List.mem_append.1 hx with hx | hx
      · exact n1.2.2 x hx x hy rfl
      · exact hdis x (hin x (.inr hy)) hx
  · intro r b hb
    rcases hmem b (by simpa only [blkX] using hb) with hb | hb
    · exact h1.sep r b (by simpa only [blkX] using hb)
    · exact hd.sep r b (by simpa only [blkX] using hb)
  · intro b hb
    rcases hmem b (by simpa only [blkX] using hb) with hb | hb
    · exact h1.lt b (by simpa only [blkX] using hb)
    · exact hd.lt b (by simpa only [blkX] using hb)
  · intro b hb
    rcases hmem b (by simpa only [blkX] using hb) with hb | hb
    · exact h1.own b (by simpa only [blkX] using hb)
    · exact hd.own b (by simpa only [blkX] using hb)
  · intro b hb
    rcases hmem b (by simpa only [blkX] using hb) with hb | hb
    · exact h1.notR b (by simpa only [blkX] using hb)
    · exact hd.notR b (by simpa only [blkX] using hb)

theorem fill_ok {place : Nat → Option (Nat × Nat)} {placeP : Nat → Option (Nat × Nat)} (hp : ∀ i off t, place i = some (off, t) → placeP i = some (off, (cx.ty t).sz)) :
    ∀ {ps : List (Nat × Operand)} {S : SV} {cs : List CV} {arr : Array Value} {zs : List CU} {Su : SU}, Rel (isVar cx f) w0 E0 P R ea w S tmps → a.tmps = tmps →
      New (isVar cx f) w0 E0 P R ea w S (.agg cs) → arr.toList = valCs cs → buildV cx f place ps (cs.map erC) (V.erS S) = some (zs, Su) →
      ∃ (S' : SV) (ds : List CV) (out : Array Value), Instr.fill placeP arr (ps.map fun p => (p.1, a.eval p.2)) = some out ∧ out.toList = valCs ds ∧ ds.map erC = zs ∧ V.erS S' = Su ∧ ds.length = cs.length ∧
        Rel (isVar cx f) w0 E0 P R ea w S' tmps ∧ New (isVar cx f) w0 E0 P R ea w S' (.agg ds)
  | [], S, cs, arr, zs, Su, h, _, hn, harr, hq => by
    simp only [buildV, Option.some.injEq, Prod.mk.injEq] at hq
    obtain ⟨rfl, rfl⟩ := hq
    exact ⟨S, cs, arr, by simp [Instr.fill], harr, rfl, rfl, rfl, h, hn⟩
  | (i, o) :: ps, S, cs, arr, zs, Su, h, ha, hn, harr, hq => by
    simp only [buildV] at hq
    cases hpl : place i with
    | none => simp [hpl] at hq
    | some q =>
      obtain ⟨off, t⟩ := q
      simp only [hpl, Option.bind_some] at hq
      cases hx : opv cx f (V.erS S) t o with
      | none => simp [hx] at hq
      | some x =>
        simp only [hx, Option.bind_some] at hq
        cases hcx : cellsX x with
        | none => simp [hcx] at hq
        | some xs =>
          simp only [hcx, Option.bind_some] at hq
          split at hq
          · rename_i hc
            obtain ⟨hc1, hc2⟩ := hc
            obtain ⟨xG, hxG⟩ := h.opv ha hx
            obtain ⟨ds, d1, d2, d3, d4, d5, _⟩ := cells_ok hxG.new.ok (by rw [hxG.er]; exact hcx)
            have hnd := New.agg_of hxG.new d3 d4 d5
            have hnc := hn.clr o
            have hdl : ds.length = xs.length := by rw [← d1, List.length_map]
            have hdis : ∀ b ∈ blkCs cs, b ∉ blkCs ds := by
              intro b hb hb'
              rw [d4] at hb'
              obtain ⟨r, hr⟩ := hxG.src b hb'
              exact hn.sep r b (by simpa only [blkX] using hb) hr
            have hfill := hnc.fill (off := off) hnd hdis
            have hcells : (valX xG).cells.size = ds.length := by
              rw [← Array.length_toList, d2, List.length_map]
            have hcslen : arr.size = cs.length := by
              rw [← Array.length_toList, harr, valCs_eq, List.length_map]
            simp only [List.length_map] at hc2
            have hst := fill_step arr off (valX xG).cells (by rw [hcells, hcslen]; omega)
            have hmap : (cs.take off ++ ds ++ cs.drop (off + ds.length)).map erC = fillC (cs.map erC) off xs := by
              rw [fillC, ← hdl, List.map_append, List.map_append, List.map_take, List.map_drop, d1]
            rw [← hmap, ← clr_map] at hq
            obtain ⟨S', es, out, e1, e2, e3, e4, e5, e6, e7⟩ := fill_ok hp (h.clr o) ha hfill (arr := (valX xG).cells.zipIdx.foldl (fun cs (p : Value × Nat) => cs.setIfInBounds (off + p.2) p.1) arr)
              (by rw [hst, harr, d2, hcells]; simp only [valCs_eq, List.map_append, List.map_take, List.map_drop]) hq
            refine ⟨S', es, out, ?_, e2, e3, e4, ?_, e6, e7⟩
            · simp only [List.map_cons, Instr.fill, hp i off t hpl, hxG.val]
              rw [if_neg (by
                rw [hcells, hcslen, hdl]
                simp only [Bool.or_eq_true, decide_eq_true_eq, not_or]
                omega)]
              exact e1
            · rw [e5]
              simp only [List.length_append, List.length_take, List.length_drop]
              omega
          · cases hq

theorem mapM_places : ∀ (fs : List Go.Field) (g : Go.Field → Nat), (∀ fd ∈ fs, (sizeOf fd.type).run Pr w = .ok (g fd) w) →
    (fs.mapM fun fd => do pure (fd.offset, ← sizeOf fd.type) : Sem (List (Nat × Nat))).run Pr w = .ok (fs.map fun fd => (fd.offset, g fd)) w
  | [], g, _ => by simp [Sem.run_pure]
  | fd :: fs, g, h => by
    have ih := mapM_places fs g (fun x hx => h x (List.mem_cons_of_mem _ hx))
    have h0 := h fd (List.mem_cons_self ..)
    simp only [List.mapM_cons, Sem.run_bind, Sem.run_pure, h0, ih, Result.andThen, List.map_cons]

theorem build_ok (hty : TyOk Pr cx.ty) (h : Rel (isVar cx f) w0 E0 P R ea w S tmps) (ha : a.tmps = tmps) {o : Oper} {e : Nat} {ps : Array (Nat × Operand)} (ho : o.op = .build e ps) {z : XU} {Su : SU}
    (hq : qval cx f call (V.erS S) o.type (.build e ps) = some (z, Su)) : QOk cx f w0 E0 P R ea w tmps Pr a o z Su := by
  simp only [qval] at hq
  split at hq
  · rename_i hc
    obtain ⟨hok, hagg, hne, hall⟩ := hc
    obtain ⟨ti, d, zz, hf⟩ := hty.facts hok
    obtain ⟨z1, z2, z3, z4, z5⟩ := zerosAre_val hf.zs
    have hn : New (isVar cx f) w0 E0 P R ea w S (.agg ((cx.ty e).zs.map zG)) := New.plain (by simpa [okX] using z5 w P R S ea) (by simpa [blkX] using z3) (by simpa [refsX] using z4)
    cases hb : buildV cx f (fun i => (cx.ty e).fs[i]?) ps.toList (cx.ty e).zs (V.erS S) with
    | none => simp [hb] at hq
    | some q =>
      obtain ⟨cs, Su'⟩ := q
      simp only [hb, Option.map_some, Option.some.injEq, Prod.mk.injEq] at hq
      obtain ⟨rfl, rfl⟩ := hq
      have hfs := hf.fs
      obtain ⟨fs, rfl⟩ : ∃ fs, d = .struct fs := by
        cases d with
        | struct fs => exact ⟨fs, rfl⟩
        | _ => simp only [fsIs, beq_iff_eq] at hfs; exact absurd hfs hne
      simp only [fsIs, beq_iff_eq] at hfs
      have hsz : ∀ fd ∈ fs.toList, (sizeOf fd.type).run Pr w = .ok (cx.ty fd.type).sz w := by
        intro fd hfd
        have hm : (fd.offset, fd.type) ∈ (cx.ty e).fs := by rw [← hfs]; exact List.mem_map.2 ⟨fd, hfd, rfl⟩
        obtain ⟨ti2, d2, zz2, hf2⟩ := hty.facts (List.all_eq_true.1 hall _ hm)
        simp [sizeOf, typeInfo, hf2.info, hf2.size]
      have hmap := mapM_places fs.toList (fun fd => (cx.ty fd.type).sz) hsz
      rw [← z2] at hb
      obtain ⟨S', ds, out, e1, e2, e3, e4, e5, e6, e7⟩ := fill_ok (place := fun i => (cx.ty e).fs[i]?) (placeP := fun i => (fs.toList.map fun fd => (fd.offset, (cx.ty fd.type).sz))[i]?) (arr := zz.cells) (by
        intro i off t hi
        rw [← hfs, List.getElem?_map] at hi
        rw [List.getElem?_map]
        cases hj : fs.toList[i]? with
        | none => simp [hj] at hi
        | some fd =>
          simp only [hj, Option.map_some, Option.some.injEq, Prod.mk.injEq] at hi ⊢
          obtain ⟨rfl, rfl⟩ := hi
          exact ⟨rfl, rfl⟩) h ha hn (by rw [valCs_eq, z1]) hb
      refine ⟨w, S', .agg ds, ⟨Grow.refl w, by simp [erX, mapX, mapCs_eq]; exact e3, e4, e6, e7⟩, ?_⟩
      have hout : out = (valCs ds).toArray := by rw [← e2]
      have hzv : (zeroValue e).run Pr w = .ok zz w := by simp [zeroValue, typeInfo, hf.info, hf.zero]
      have hmm : (fs.mapM fun fd => do pure (fd.offset, ← sizeOf fd.type) : Sem (Array (Nat × Nat))).run Pr w = .ok (fs.toList.map fun fd => (fd.offset, (cx.ty fd.type).sz)).toArray w := by
        rw [Array.mapM_eq_mapM_toList, Sem.run_map, hmap]
        rfl
      have hrun : (Instr.build e (ps.map fun p => (p.1, a.eval p.2))).run Pr w = .ok (.agg out) w := by
        unfold Instr.build
        simp only [Sem.run_bind, hzv, Result.andThen, run_underlying hf.und, hmm]
        have : (ps.map fun p => (p.1, a.eval p.2)).toList = ps.toList.map fun p => (p.1, a.eval p.2) := by simp
        rw [this]
        have e1' : Instr.fill (fun i => (fs.toList.map fun fd => (fd.offset, (cx.ty fd.type).sz)).toArray[i]?) zz.cells (ps.toList.map fun p => (p.1, a.eval p.2)) = some out := by
          rw [← e1]; congr 1; funext i; simp
        rw [e1']
        simp [Sem.run_pure]
      simp only [execOp, ho]
      rw [Sem.run_bind]
      have hpe : (ps.map fun x => match x with | (i, x) => (i, a.eval x)) = ps.map fun p => (p.1, a.eval p.2) := rfl
      rw [show (Instr.build e (ps.map fun x => match x with | (i, x) => (i, a.eval x))).run Pr w = .ok (.agg out) w from hrun]
      simp [valX, hout]
  · cases hq

theorem buildSlice_ok (hty : TyOk Pr cx.ty) (h : Rel (isVar cx f) w0 E0 P R ea w S tmps) (ha : a.tmps = tmps) {o : Oper} {e len : Nat} {ps : Array (Nat × Operand)} (ho : o.op = .buildSlice e len ps) {z : XU} {Su : SU}
    (hq : qval cx f call (V.erS S) o.type (.buildSlice e len ps) = some (z, Su)) : QOk cx f w0 E0 P R ea w tmps Pr a o z Su := by
  simp only [qval] at hq
  split at hq
  · rename_i el hel
    split at hq
    · rename_i hc
      obtain ⟨hok, hse, hmax⟩ := hc
      obtain ⟨ti, d, zz0, hf⟩ := hty.facts hse
      have hd := hf.slice hel
      subst hd
      obtain ⟨ti2, d2, zz, hf2⟩ := hty.facts hok
      obtain ⟨z1, z2, z3, z4, z5⟩ := zerosAre_val hf2.zs
      have hlen : ((cx.ty el).zs.map zG).length = (cx.ty el).sz := by rw [List.length_map, hf2.zlen]
      have hzs : zz.cells.size = (cx.ty el).sz := by
        have := zerosAre_len hf2.zs
        rw [Array.length_toList, hf2.zlen] at this
        exact this.symm
      have hn : New (isVar cx f) w0 E0 P R ea w S (.agg (repl len ((cx.ty el).zs.map zG))) := by
        refine New.plain ?_ ?_ ?_
        · simp only [okX]; exact okCs_iff.2 fun c hc => okCs_iff.1 (z5 w P R S ea) c (mem_repl hc)
        · simp only [blkX]
          rw [blkCs_eq, List.flatMap_eq_nil_iff]
          intro c hc
          rw [blkCs_eq, List.flatMap_eq_nil_iff] at z3
          exact z3 c (mem_repl hc)
        · simp only [refsX]
          rw [refsCs_eq, List.flatMap_eq_nil_iff]
          intro c hc
          rw [refsCs_eq, List.flatMap_eq_nil_iff] at z4
          exact z4 c (mem_repl hc)
      cases hb : buildV cx f (fun i => if i < len then some (i * (cx.ty el).sz, el) else none) ps.toList (repl len (cx.ty el).zs) (V.erS S) with
      | none => simp [hb] at hq
      | some q =>
        obtain ⟨cs, Su'⟩ := q
        simp only [hb, Option.map_some, Option.some.injEq, Prod.mk.injEq] at hq
        obtain ⟨rfl, rfl⟩ := hq
        rw [← z2, ← repl_map] at hb
        let zc : Array Value := if len * (cx.ty el).sz = 0 then #[] else zz.cells
        have harr : ((Array.range (len * (cx.ty el).sz)).map (zc[· % zc.size]!)).toList = valCs (repl len ((cx.ty el).zs.map zG)) := by
          rw [valCs_eq, repl_map, z1]
          apply List.ext_getElem?
          intro j
          rw [repl_get, Array.length_toList, hzs]
          by_cases hj : j < len * (cx.ty el).sz
          · have hpos : 0 < (cx.ty el).sz := by
              rcases Nat.eq_zero_or_pos (cx.ty el).sz with h0 | h0
              · rw [h0] at hj; simp at hj
              · exact h0
            have hzc : zc = zz.cells := by simp only [zc]; rw [if_neg (by omega)]
            have hm : j % (cx.ty el).sz < zz.cells.size := by rw [hzs]; exact Nat.mod_lt _ hpos
            rw [if_pos hj, hzc]
            have hlt : j % zz.cells.size < zz.cells.size := by rw [hzs] at *; exact hm
            simp [hj, hzs]
            rw [getElem!_pos _ _ (by rw [hzs] at hm; rw [hzs]; exact hm)]
            rw [Array.getElem?_eq_getElem]
          · rw [if_neg hj]
            simp
            omega
        obtain ⟨S', ds, out, e1, e2, e3, e4, e5, e6, e7⟩ := fill_ok (place := fun i => if i < len then some (i * (cx.ty el).sz, el) else none) (placeP := fun i => some (i * (cx.ty el).sz, (cx.ty el).sz)) (arr := (Array.range (len * (cx.ty el).sz)).map (zc[· % zc.size]!)) (by
          intro i off t hi
          split at hi
          · simp only [Option.some.injEq, Prod.mk.injEq] at hi
            obtain ⟨rfl, rfl⟩ := hi
            rfl
          · cases hi) h ha hn harr hb
        have hdl : ds.length = len * (cx.ty el).sz := by rw [e5, repl_length, hlen]
        obtain ⟨k1, k2⟩ := New.row (cur := out) (e := el) (sz := (cx.ty el).sz) (n := len) (cap := len) e6 e7 hdl (Nat.le_refl _)
          (by rw [← Array.length_toList, e2, valCs_eq, List.length_map, hdl]; exact Nat.le_refl _) (by
            intro j v hj
            rw [← e2] at hj
            simpa using hj)
        obtain ⟨c, hc1, hc2, hc3⟩ := lstV_ok k2
        refine ⟨_, S', .c c, ⟨Grow.alloc w _, by simp only [erX, mapX, X.c.injEq]; rw [← e3]; exact hc1, e4, k1, hc3⟩, ?_⟩
        have hsz : (sizeOf el).run Pr w = .ok (cx.ty el).sz w := by simp [sizeOf, typeInfo, hf2.info, hf2.size]
        have hzv : (zeroValue el).run Pr w = .ok zz w := by simp [zeroValue, typeInfo, hf2.info, hf2.zero]
        have hrun : (Instr.buildSlice e len (ps.map fun p => (p.1, a.eval p.2))).run Pr w = .ok (.slice (some ⟨w.heap.size, 0, none⟩) len len) (w.alloc (.cells out el)) := by
          unfold Instr.buildSlice
          simp only [Sem.run_bind, Result.andThen, run_underlying hf.und, hsz]
          rw [if_neg (by omega)]
          have : (ps.map fun p => (p.1, a.eval p.2)).toList = ps.toList.map fun p => (p.1, a.eval p.2) := by simp
          rw [this]
          by_cases h0 : len * (cx.ty el).sz = 0
          · simp only [zc, if_pos h0] at e1
            simp [h0, Sem.run_pure] at e1 ⊢
            simp [e1, newRow]
          · simp only [zc, if_neg h0] at e1
            simp only [h0, if_false, Sem.run_bind, Sem.run_pure, hzv, Result.andThen, e1]
            simp [newRow]
        simp only [execOp, ho]
        rw [Sem.run_bind]
        rw [show (Instr.buildSlice e len (ps.map fun x => match x with | (i, x) => (i, a.eval x))).run Pr w = _ from hrun]
        simp [valX, hc2]
    · cases hq
  · cases hq
end
end Go.Proofs.YtlkjnlfddadlmaaDoor.V

namespace Go.Proofs.YtlkjnlfddadlmaaDoor.V
open Go.RowKit

section
variable {cx : Ctx} {f : Nat} {isv : Nat → Bool} {w0 : World} {E0 : Nat → Prop} {P : Nat → Nat → Prop} {R : Nat → Prop} {ea : List EA} {w w' : World} {S : SV} {tmps : Array Value} {Pr : Program} {a : Act} {call : Callee}

def SeqAt (w : World) (a : Value) (n : Nat) (vs : List Value) : Prop :=
  ∃ A cap, a = .slice A n cap ∧ n ≤ cap ∧ (n = 0 ∨ ∃ ad, A = some ad ∧ ad.spot = none ∧ cellsAt w ad.block ad.off vs)

theorem cellsAt_row {b o : Nat} {cur : Array Value} {e : TypeId} {vs : List Value} (hh : w.heap[b]? = some (.cells cur e (0, 0))) (hv : ∀ (j : Nat) (v : Value), vs[j]? = some v → cur[o + j]? = some v) : cellsAt w b o vs := by
  intro j v hj
  simp only [World.cell?, hh, Option.isSome_none, Bool.false_eq_true, if_false]
  exact hv j v hj

theorem OwnAt.seq {v : Value} {sz n : Nat} {vs : List Value} (h : OwnAt w v sz n vs) : SeqAt w v n vs := by
  rcases h with ⟨rfl, rfl⟩ | ⟨b, o, cur, e, ⟨ad, cap, rfl, h1, h2, rfl, h3⟩, hh, hv⟩
  · exact ⟨none, 0, rfl, Nat.le_refl _, .inl rfl⟩
  · refine ⟨some ad, cap, rfl, h1, ?_⟩
    by_cases hn : n = 0
    · exact .inl hn
    · obtain ⟨rfl, _⟩ := h3.resolve_left (by omega)
      exact .inr ⟨ad, rfl, h2, cellsAt_row hh hv⟩

theorem ShrAt.seq {R : Nat → Prop} {v : Value} {n : Nat} {vs : List Value} (h : ShrAt w R v n vs) : SeqAt w v n vs := by
  obtain ⟨A, cap, rfl, h1, h2⟩ := h
  exact ⟨A, cap, rfl, h1, h2.imp id fun ⟨ad, e1, e2, _, e4⟩ => ⟨ad, e1, e2, e4⟩⟩

theorem OwnAt.shr {R' : Nat → Prop} {v : Value} {sz n : Nat} {vs : List Value} (h : OwnAt w v sz n vs) (hR : ∀ b ∈ hdr v, R' b) : ShrAt w R' v n vs := by
  rcases h with ⟨rfl, rfl⟩ | ⟨b, o, cur, e, ⟨ad, cap, rfl, h1, h2, rfl, h3⟩, hh, hv⟩
  · exact ⟨none, 0, rfl, Nat.le_refl _, .inl rfl⟩
  · refine ⟨some ad, cap, rfl, h1, ?_⟩
    by_cases hn : n = 0
    · exact .inl hn
    · obtain ⟨rfl, _⟩ := h3.resolve_left (by omega)
      exact .inr ⟨ad, rfl, h2, hR _ (by simp [hdr]), cellsAt_row hh hv⟩

theorem bor_own {r : Root} {p : List Nat} {i off sz n : Nat} {v : Value} (h : Rel isv w0 E0 P R ea w S tmps) (hb : BorOk S r p i off sz n v) (hsz : 0 < sz) :
    ∃ b m ds, at_ S r p i = some (.t (.sl b 0 sz m ds)) ∧ off + n * sz ≤ ds.length ∧ okTs w P R ds ∧ OwnAt w v sz n (((ds.drop off).take (n * sz)).map valT) ∧ (∀ k ∈ hdr v, k ∈ hdr b) := by
  obtain ⟨b, m, ds, hat, hl, hh⟩ := hb
  have hok := h.at_ok hat
  simp only [okC, okT, if_true] at hok
  obtain ⟨h1, h2, h3⟩ := hok
  refine ⟨b, m, ds, hat, hl, h2, ?_⟩
  rcases hh with ⟨rfl, rfl, rfl⟩ | ⟨ad, cap, rfl, ad2, cap2, rfl, k1, k2, k3, k4⟩
  · exact ⟨.inl ⟨rfl, rfl⟩, fun k hk => hk⟩
  · refine ⟨?_, by simp [hdr, k3]⟩
    rcases h3 with ⟨h3, _⟩ | ⟨b', o, cur, e, ⟨ad', cap', h3, l1, l2, rfl, l3⟩, hh, hv⟩
    · cases h3
    · simp only [Value.slice.injEq, Option.some.injEq, true_and] at h3
      obtain ⟨rfl, rfl⟩ := h3
      by_cases hc : cap = 0
      · have hm : m = 0 := by omega
        subst hm
        simp only [Nat.zero_mul] at h1
        have hn : n = 0 := by
          rcases Nat.eq_zero_or_pos n with h0 | h0
          · exact h0
          · have := Nat.mul_pos h0 hsz; omega
        have hc2 : cap2 = 0 := by
          rcases Nat.eq_zero_or_pos cap2 with h0 | h0
          · exact h0
          · exfalso
            obtain ⟨_, k5⟩ := k4.resolve_left (by omega)
            have := Nat.mul_pos h0 hsz
            rw [hc, Nat.zero_mul] at k5
            omega
        refine .inr ⟨ad.block, 0, cur, e, ⟨ad2, cap2, rfl, k1, k2, k3, .inl hc2⟩, hh, ?_⟩
        intro j v hj
        rw [hn] at hj
        simp at hj
      · obtain ⟨rfl, l4⟩ := l3.resolve_left hc
        refine .inr ⟨ad.block, ad.off + off, cur, e, ⟨ad2, cap2, rfl, k1, k2, k3, k4.imp id fun ⟨e1, e2⟩ => ⟨e1, by omega⟩⟩, hh, ?_⟩
        intro j v hj
        rw [Nat.add_assoc]
        apply hv
        rw [List.getElem?_map, List.getElem?_take] at hj
        rw [List.getElem?_map]
        split at hj
        · rwa [List.getElem?_drop] at hj
        · cases hj

theorem sub_blk : ∀ {p : List Nat} {cs ds : List TV}, sub cs p = some ds → ∀ b ∈ blkTs ds, b ∈ blkTs cs
  | [], cs, ds, hs, b, hb => by simp only [sub, Option.some.injEq] at hs; exact hs ▸ hb
  | i :: p, cs, ds, hs, b, hb => by
    simp only [sub] at hs
    split at hs
    · rename_i v sz n es heq
      have := sub_blk hs b hb
      rw [blkTs_eq, List.mem_flatMap]
      exact ⟨_, List.mem_of_getElem? heq, by simp [blkT, this]⟩
    · cases hs

theorem subC_blk {p : List Nat} {cs ds : List CV} (hs : subC cs p = some ds) : ∀ b ∈ blkCs ds, b ∈ blkCs cs := by
  intro b hb
  cases p with
  | nil => simp only [subC, Option.some.injEq] at hs; exact hs ▸ hb
  | cons i p =>
    simp only [subC] at hs
    split at hs
    · rename_i v sz n es heq
      cases hf : sub es p with
      | none => simp [hf] at hs
      | some fs =>
        simp only [hf, Option.map_some, Option.some.injEq] at hs
        subst hs
        rw [show fs.map C.t = fs.map (C.t : TV → CV) from rfl, blkCs_t] at hb
        have := sub_blk hf b hb
        rw [blkCs_eq, List.mem_flatMap]
        exact ⟨_, List.mem_of_getElem? heq, by simp [blkC, blkT, this]⟩
    · cases hs

theorem flatX_blk : ∀ {xs : List XV}, ∀ b ∈ blkCs (flatX xs), b ∈ blkXs xs
  | [], b, hb => by simp [flatX, blkCs] at hb
  | x :: xs, b, hb => by
    simp only [blkXs, List.mem_append]
    cases x with
    | c x =>
      simp only [flatX, blkCs, List.mem_append] at hb
      exact hb.imp (fun h => by simpa [blkX] using h) (flatX_blk b)
    | agg cs =>
      simp only [flatX, blkCs_append, List.mem_append] at hb
      exact hb.imp (fun h => by simpa [blkX] using h) (flatX_blk b)
    | _ => exact .inr (flatX_blk b (by simpa [flatX] using hb))

theorem root_blk {r : Root} {cs : List CV} (hr : rootCells S r = some cs) : ∀ b ∈ blkCs cs, b ∈ blkR S ea r := by
  intro b hb
  cases r with
  | sl d =>
    simp only [rootCells] at hr
    simp only [blkR]
    cases hs : S.s d with
    | undef => simp [hs] at hr
    | c x => simp only [hs, Option.some.injEq] at hr; subst hr; simpa [blkX, blkCs] using hb
    | agg xs => simp only [hs, Option.some.injEq] at hr; subst hr; simpa [blkX] using hb
    | box v xs => simp only [hs, Option.some.injEq] at hr; subst hr; simp [blkX, hb]
    | tup xs => simp only [hs, Option.some.injEq] at hr; subst hr; simpa [blkX] using flatX_blk b hb
  | ex j => exact blk_ex hr hb

theorem at_blk {r : Root} {p : List Nat} {i : Nat} {c : CV} (hat : at_ S r p i = some c) : ∀ b ∈ blkC c, b ∈ blkR S ea r := by
  intro b hb
  simp only [at_] at hat
  cases hr : rootCells S r with
  | none => simp [hr] at hat
  | some cs =>
    simp only [hr, Option.bind_some] at hat
    cases hs : subC cs p with
    | none => simp [hs] at hat
    | some ds =>
      simp only [hs, Option.bind_some] at hat
      refine root_blk hr b (subC_blk hs b ?_)
      rw [blkCs_eq, List.mem_flatMap]
      exact ⟨c, List.mem_of_getElem? hat, hb⟩

theorem readL_ok (h : Rel isv w0 E0 P R ea w S tmps) {c : CV} (hok : okC w P R S ea c) {n : Nat} {cs : List TU} (hq : readL (V.erS S) (erC c) = some (1, n, cs)) :
    ∃ ds : List TV, ds.map erT = cs ∧ ds.length = n ∧ SeqAt w (valC c) n (ds.map valT) := by
  cases c with
  | t x =>
    cases x with
    | sl v tag sz m ds =>
      simp only [erC, mapC, mapT, mapTs_eq, readL, Option.some.injEq, Prod.mk.injEq] at hq
      obtain ⟨rfl, rfl, rfl⟩ := hq
      simp only [okC, okT] at hok
      obtain ⟨h1, h2, h3⟩ := hok
      refine ⟨ds, rfl, by omega, ?_⟩
      simp only [valC, valT]
      split at h3
      · exact h3.seq
      · exact h3.1.seq
    | _ => simp [erC, mapC, mapT, readL] at hq
  | bor v r p i off sz m =>
    simp only [erC, mapC, readL, V.erS, listAt_map] at hq
    cases hl : listAt S r p i off (m * sz) with
    | none => simp [hl] at hq
    | some ds =>
      simp only [hl, Option.map_some, Option.some.injEq, Prod.mk.injEq] at hq
      obtain ⟨rfl, rfl, rfl⟩ := hq
      simp only [okC] at hok
      obtain ⟨b, m', es, hat, hle, h2, h3, _⟩ := bor_own h hok Nat.one_pos
      simp only [listAt, hat] at hl
      rw [if_pos hle] at hl
      simp only [Option.some.injEq] at hl
      subst hl
      exact ⟨_, rfl, by rw [List.length_take, List.length_drop]; omega, h3.seq⟩
  | _ => simp [erC, mapC, readL] at hq

theorem bytesOf_ok : ∀ {ds : List TV} {bs : List UInt8}, bytesOf (ds.map erT) = some bs → ∃ ns : List Int, ds.map valT = ns.map (Value.int .u8) ∧ ns.map (fun n => UInt8.ofNat n.toNat) = bs
  | [], bs, h => by simp only [List.map_nil, bytesOf, Option.some.injEq] at h; subst h; exact ⟨[], rfl, rfl⟩
  | x :: xs, bs, h => by
    simp only [List.map_cons, bytesOf] at h
    cases hb : ofByteT (erT x) with
    | none => simp [hb] at h
    | some b =>
      simp only [hb, Option.bind_some] at h
      cases hr : bytesOf (xs.map erT) with
      | none => rw [hr] at h; simp at h
      | some cs =>
        rw [hr] at h
        simp only [Option.map_some, Option.some.injEq] at h
        subst h
        obtain ⟨ns, h1, h2⟩ := bytesOf_ok hr
        unfold ofByteT at hb
        split at hb
        · rename_i n heq
          have := er_int heq
          subst this
          simp only [Option.some.injEq] at hb
          subst hb
          exact ⟨n :: ns, by simp [h1, valT], by simp [h2, Nat.toUInt8]⟩
        · cases hb

theorem foldl_push : ∀ (ns : List Int) (s : ByteArray), (ns.foldl (fun r n => r.push (UInt8.ofNat n.toNat)) s).data.toList = s.data.toList ++ ns.map (fun n => UInt8.ofNat n.toNat)
  | [], s => by simp
  | n :: ns, s => by
    rw [List.foldl_cons, foldl_push ns]
    simp [ByteArray.push]

theorem convert_ok (hty : TyOk Pr cx.ty) (h : Rel (isVar cx f) w0 E0 P R ea w S tmps) (ha : a.tmps = tmps) {o : Oper} {src dst : Nat} {x : Operand} (ho : o.op = .convert src dst x) {z : XU} {Su : SU}
    (hq : qval cx f call (V.erS S) o.type (.convert src dst x) = some (z, Su)) : QOk cx f w0 E0 P R ea w tmps Pr a o z Su := by
  simp only [qval] at hq
  split at hq
  · rename_i A hA
    obtain ⟨aG, haG, hav, haok, _⟩ := opv_c h ha hA
    cases hz : convV (cx.ty src).ok (kindOf cx src) (kindOf cx dst) (V.erS S) A with
    | none => simp [hz] at hq
    | some z' =>
      simp only [hz, Option.map_some, Option.some.injEq, Prod.mk.injEq] at hq
      obtain ⟨rfl, rfl⟩ := hq
      have fin : ∀ t : TU, z' = .t t → isScal t = true → (convert src dst (a.eval x)).run Pr w = .ok (valT (liftT t)) w → QOk cx f w0 E0 P R ea w tmps Pr a o (.c z') (V.erS S) := by
        intro t ht hs hr
        subst ht
        refine ⟨w, S, _, QRes.scal h hs, ?_⟩
        simp [execOp, ho, hr, valX, valC]
      have hstr : kindOf cx dst = 3 → Pr.underlying dst = some .string := by
        intro hk
        obtain ⟨d, hd, hkd⟩ := kindOf_und hty (t := dst) (by omega) hk
        cases d <;> simp [kindIs] at hkd
        exact hd
      unfold convV at hz
      split at hz
      · obtain ⟨u, rfl, hu⟩ := er_t haG
        have := er_int hu; subst this
        simp only [valC, valT] at hav
        rw [hav] at fin
        split at hz
        · rename_i hso
          obtain ⟨ti, d, zz, hf⟩ := hty.facts hso
          split at hz
          · rename_i hk
            obtain ⟨d', hd', hkd⟩ := kindOf_und hty (t := dst) (by omega) hk
            have : d' = .int .i64 := by
              unfold kindIs at hkd
              split at hkd <;> simp_all
              all_goals (split at hkd <;> simp_all)
            subst this
            simp only [Option.some.injEq] at hz
            exact fin _ hz.symm rfl (by simp [convert, run_underlying hf.und, run_underlying hd', Conv.intToInt, liftT, valT])
          · rename_i hk
            obtain ⟨d', hd', hkd⟩ := kindOf_und hty (t := dst) (by omega) hk
            have : d' = .int .u8 := by
              unfold kindIs at hkd
              split at hkd <;> simp_all
              all_goals (split at hkd <;> simp_all)
            subst this
            simp only [Option.some.injEq] at hz
            exact fin _ hz.symm rfl (by simp [convert, run_underlying hf.und, run_underlying hd', Conv.intToInt, liftT, valT])
          · cases hz
        · cases hz
      · obtain ⟨u, rfl, hu⟩ := er_t haG
        have := er_str hu; subst this
        simp only [valC, valT] at hav
        rw [hav] at fin
        split at hz
        · rename_i hc
          obtain ⟨ti, d, zz, hf⟩ := hty.facts hc.1
          simp only [Option.some.injEq] at hz
          exact fin _ hz.symm rfl (by simp [convert, run_underlying hf.und, run_underlying (hstr hc.2), liftT, valT])
        · cases hz
      · split at hz
        · rename_i hk
          obtain ⟨hk1, hk2⟩ := hk
          cases hr : readL (V.erS S) A with
          | none => rw [hr] at hz; simp at hz
          | some q =>
            obtain ⟨sz, n, cs⟩ := q
            rw [hr] at hz
            simp only [Option.bind_some] at hz
            split at hz
            · rename_i hsz
              subst hsz
              cases hb : bytesOf cs with
              | none => rw [hb] at hz; simp at hz
              | some bs =>
                rw [hb] at hz
                simp only [Option.map_some, Option.some.injEq] at hz
                rw [← haG] at hr
                obtain ⟨ds, rfl, hl, A', cap, hv, hcap, hor⟩ := readL_ok h haok hr
                obtain ⟨ns, n1, n2⟩ := bytesOf_ok hb
                obtain ⟨d', hd', hkd⟩ := kindOf_und hty (t := src) (by omega) hk2
                obtain ⟨e, rfl, he⟩ : ∃ e, d' = .slice e ∧ Pr.underlying e = some (.int .u8) := by
                  cases d' <;> simp [kindIs] at hkd
                  rename_i e
                  refine ⟨e, rfl, ?_⟩
                  split at hkd
                  · rename_i heq; exact heq
                  · cases hkd
                refine fin _ hz.symm rfl ?_
                rw [hav, hv, run_convert_bytes_string w src dst e A' n cap hd' he (hstr hk1)]
                have hnl : ns.length = n := by
                  have := congrArg List.length n1
                  simp only [List.length_map] at this
                  omega
                cases A' with
                | none =>
                  have hn0 : n = 0 := hor.elim id fun ⟨ad, h', _⟩ => by cases h'
                  have : ns = [] := List.length_eq_zero_iff.1 (by omega)
                  subst this
                  simp only [List.map_nil] at n2
                  subst n2
                  simp [Conv.bytesToString, liftT, valT]
                  rfl
                | some ad =>
                  rw [run_bytesToString w ad n cap ns]
                  · congr 1
                    simp only [liftT, valT, Value.string.injEq]
                    apply ByteArray.ext
                    apply Array.ext'
                    rw [foldl_push, n2]
                    simp
                  · rw [← n1, ← hl, ← List.length_map (f := valT)]
                    refine run_loadCells_list w _ _ ?_
                    intro j v hj
                    rcases hor with h0 | ⟨ad', e1, e2, e3⟩
                    · have : ds = [] := List.length_eq_zero_iff.1 (by omega)
                      subst this
                      simp at hj
                    · simp only [Option.some.injEq] at e1
                      subst e1
                      rw [pt_eta e2]
                      exact e3 j v hj
            · cases hz
        · cases hz
  · cases hq
end
end Go.Proofs.YtlkjnlfddadlmaaDoor.V

namespace Go.Proofs.YtlkjnlfddadlmaaDoor.V
open Go.RowKit

def shiftP (R' : Nat → Prop) (P : Nat → Nat → Prop) : Nat → Nat → Prop
  | 0, _ => False
  | 1, b => R' b
  | t + 2, b => P (t + 1) b

def Free (w : World) (P : Nat → Nat → Prop) (R : Nat → Prop) (c : CV) : Prop := (∀ S ea, okC w P R S ea c) ∧ blkC c = [] ∧ refsC c = []

theorem retags_len : ∀ xs : List TV, (retags xs).length = xs.length
  | [] => rfl
  | x :: xs => by simp [retags, retags_len xs]
theorem retags_val : ∀ xs : List TV, (retags xs).map valT = xs.map valT
  | [] => rfl
  | x :: xs => by
    simp only [retags, List.map_cons, retags_val xs]
    cases x <;> rfl

section
variable {cx : Ctx} {f : Nat} {isv : Nat → Bool} {w0 : World} {E0 : Nat → Prop} {P : Nat → Nat → Prop} {R R' : Nat → Prop} {ea : List EA} {w w' : World} {S : SV} {tmps : Array Value} {Pr : Program} {a : Act} {call : Callee}

mutual
theorem retag_ok (hR : ∀ b, R b → R' b) : ∀ {x : TV}, okT w P R x → (∀ b ∈ blkT x, R' b) → okT w (shiftP R' P) R' (retag x) ∧ shT 1 (retag x) ∧ valT (retag x) = valT x ∧ ∀ g, 1 ≤ g → shT g x → shT (g + 1) (retag x)
  | .sl v tag sz n cs, h, hb => by
    simp only [okT] at h
    obtain ⟨h1, h2, h3⟩ := h
    simp only [blkT] at hb
    have hv : (retags cs).length = cs.length ∧ (retags cs).map valT = cs.map valT := ⟨retags_len cs, retags_val cs⟩
    by_cases ht : tag = 0
    · subst ht
      simp only [if_true] at h3 hb
      obtain ⟨k1, k2, k3⟩ := retags_ok hR h2 (fun b h => hb b (List.mem_append_right _ h))
      simp only [retag, Nat.zero_add]
      refine ⟨?_, ?_, rfl, ?_⟩
      · simp only [okT, Nat.succ_ne_zero, if_false]
        exact ⟨by rw [hv.1]; exact h1, k1, by rw [hv.2]; exact h3.shr (fun b h => hb b (List.mem_append_left _ h)), Nat.le_refl _, k2⟩
      · simp only [shT]; exact ⟨Nat.le_refl _, Nat.le_refl _, k2⟩
      · intro g hg hs
        simp only [shT] at hs
        omega
    · simp only [if_neg ht] at h3
      obtain ⟨h3, h4, h5⟩ := h3
      obtain ⟨k1, k2, k3⟩ := retags_ok hR h2 (fun b hb' => by
        rw [blkTs_nil_of fun x hx => blk_of_sh (shTs_iff.1 h5 x hx)] at hb'
        simp at hb')
      simp only [retag]
      refine ⟨?_, ?_, rfl, ?_⟩
      · simp only [okT, Nat.succ_ne_zero, if_false]
        refine ⟨by rw [hv.1]; exact h1, k1, ?_, by omega, k3 tag h4 h5⟩
        rw [hv.2]
        have : shiftP R' P (tag + 1) = P tag := by
          cases tag with
          | zero => exact absurd rfl ht
          | succ m => rfl
        rw [this]
        exact h3
      · simp only [shT]
        exact ⟨by omega, by omega, shTs_le (by omega) (k3 tag h4 h5)⟩
      · intro g hg hs
        simp only [shT] at hs ⊢
        exact ⟨by omega, by omega, k3 g hg hs.2.2⟩
  | .int _ _, _, _ => by simp [retag, okT, shT]
  | .bool _, _, _ => by simp [retag, okT, shT]
  | .str _, _, _ => by simp [retag, okT, shT]
  | .dead v, h, _ => by simp only [okT] at h; simp [retag, okT, shT, h]
  | .nili, _, _ => by simp [retag, okT, shT]
  | .ifc v, h, _ => by simp only [okT] at h; simp [retag, okT, shT, h]
theorem retags_ok (hR : ∀ b, R b → R' b) : ∀ {xs : List TV}, okTs w P R xs → (∀ b ∈ blkTs xs, R' b) → okTs w (shiftP R' P) R' (retags xs) ∧ shTs 1 (retags xs) ∧ ∀ g, 1 ≤ g → shTs g xs → shTs (g + 1) (retags xs)
  | [], _, _ => by simp [retags, okTs, shTs]
  | x :: xs, h, hb => by
    simp only [okTs, blkTs] at h hb
    obtain ⟨k1, k2, k3, k4⟩ := retag_ok hR h.1 (fun b h => hb b (List.mem_append_left _ h))
    obtain ⟨l1, l2, l3⟩ := retags_ok hR h.2 (fun b h => hb b (List.mem_append_right _ h))
    simp only [retags, okTs, shTs]
    exact ⟨⟨k1, l1⟩, ⟨k2, l2⟩, fun g hg hs => ⟨k4 g hg hs.1, l3 g hg hs.2⟩⟩
end

theorem retag_er (x : TV) : erT (retag x) = retag (erT x) := (retag_map er0 x).symm
theorem retags_er (xs : List TV) : (retags xs).map erT = retags (xs.map erT) := by
  have := retags_map er0 xs
  simp only [mapTs_eq] at this
  exact this.symm

theorem Free.t {x : TV} (h : okT w P R x) (hs : shT 1 x) : Free w P R (.t x) := ⟨fun _ _ => by simpa [okC] using h, by simpa [blkC] using blk_of_sh hs, rfl⟩

mutual
theorem snapC_ok (h : Rel isv w0 E0 P R ea w S tmps) (hR : ∀ b, R b → R' b) : ∀ {c : CV} {d : CU}, okC w P R S ea c → (∀ b ∈ blkC c, R' b) → (∀ r ∈ refsC c, ∀ b ∈ blkR S ea r, R' b) → snapC (V.erS S) (erC c) = some d →
    ∃ cG, erC cG = d ∧ valC cG = valC c ∧ Free w (shiftP R' P) R' cG ∧ ∀ y, cG = .t y → shT 1 y
  | .t x, d, hok, hb, _, hq => by
    simp only [erC, mapC, snapC, Option.some.injEq] at hq
    subst hq
    simp only [okC, blkC] at hok hb
    obtain ⟨k1, k2, k3, _⟩ := retag_ok hR hok hb
    exact ⟨.t (retag x), by simp [erC, mapC]; exact retag_er x, by simp [valC, k3], .t k1 k2, fun y hy => by cases hy; exact k2⟩
  | .ptr v r p off, d, _, _, _, hq => by simp [erC, mapC, snapC] at hq
  | .bor v r p i off sz n, d, hok, _, hr, hq => by
    simp only [erC, mapC, snapC] at hq
    split at hq
    · rename_i hsz
      simp only [V.erS, listAt_map] at hq
      cases hl : listAt S r p i off (n * sz) with
      | none => simp [hl] at hq
      | some ds =>
        simp only [hl, Option.map_some, Option.some.injEq] at hq
        subst hq
        simp only [okC] at hok
        obtain ⟨b, m, es, hat, hle, h2, h3, h4⟩ := bor_own h hok hsz
        simp only [listAt, hat] at hl
        rw [if_pos hle] at hl
        simp only [Option.some.injEq] at hl
        subst hl
        have hroot : ∀ k, k ∈ blkT (.sl b 0 sz m es) → R' k := fun k hk => hr r (by simp [refsC]) k (at_blk (ea := ea) hat k (by simpa [blkC] using hk))
        have hown : okT w P R (.sl v 0 sz n ((es.drop off).take (n * sz))) := by
          simp only [okT, if_true]
          exact ⟨by rw [List.length_take, List.length_drop]; omega, okTs_take (okTs_drop h2), h3⟩
        obtain ⟨k1, k2, k3, _⟩ := retag_ok hR hown (by
          intro k hk
          simp only [blkT, if_true, List.mem_append] at hk
          refine hroot k ?_
          simp only [blkT, if_true, List.mem_append]
          rcases hk with hk | hk
          · exact .inl (h4 k hk)
          · refine .inr ?_
            rw [blkTs_eq, List.mem_flatMap] at hk ⊢
            obtain ⟨y, hy, hk⟩ := hk
            exact ⟨y, List.mem_of_mem_drop (List.mem_of_mem_take hy), hk⟩)
        refine ⟨.t (retag (.sl v 0 sz n ((es.drop off).take (n * sz)))), ?_, by simp only [valC]; rw [k3]; rfl, .t k1 k2, fun y hy => by cases hy; exact k2⟩
        simp only [erC, mapC, C.t.injEq]
        rw [show mapT er0 (retag (T.sl v 0 sz n ((es.drop off).take (n * sz)))) = retag (erT (T.sl v 0 sz n ((es.drop off).take (n * sz)))) from retag_er _]
        simp [mapT, mapTs_eq, retag, er0]
    · cases hq
  | .rptr v cs, d, hok, _, _, hq => by
    simp only [erC, mapC, snapC, Option.some.injEq] at hq
    subst hq
    simp only [okC] at hok
    obtain ⟨h1, h2, ad, h3, h4, h5⟩ := hok
    obtain ⟨k1, k2, k3⟩ := retags_ok hR h1 (fun b hb => by
      rw [blkTs_nil_of fun x hx => blk_of_sh (shTs_iff.1 h2 x hx)] at hb
      simp at hb)
    refine ⟨.rptr v (retags cs), by simp [erC, mapC, mapTs_eq, er0]; exact retags_er cs, rfl, ⟨fun _ _ => ?_, rfl, rfl⟩, fun y hy => by cases hy⟩
    simp only [okC]
    refine ⟨k1, k2, ad, h3, h4, h5.imp (fun e => by subst e; rfl) fun e => ⟨hR _ e.1, by rw [retags_val]; exact e.2⟩⟩
  | .nilp, d, _, _, _, hq => by
    simp only [erC, mapC, snapC, Option.some.injEq] at hq
    subst hq
    exact ⟨.nilp, rfl, rfl, ⟨fun _ _ => by simp [okC], rfl, rfl⟩, fun y hy => by cases hy⟩
  | .nilf, d, _, _, _, hq => by
    simp only [erC, mapC, snapC, Option.some.injEq] at hq
    subst hq
    exact ⟨.nilf, rfl, rfl, ⟨fun _ _ => by simp [okC], rfl, rfl⟩, fun y hy => by cases hy⟩
  | .fn g [], d, _, _, _, hq => by
    simp only [erC, mapC, mapCs, snapC, Option.some.injEq] at hq
    subst hq
    exact ⟨.fn g [], rfl, rfl, ⟨fun _ _ => by simp [okC, okCs, blkCs], rfl, rfl⟩, fun y hy => by cases hy⟩
  | .fn g (c :: cs), d, _, _, _, hq => by simp [erC, mapC, mapCs, snapC] at hq
  | .lst v sz n cs, d, hok, hb, hr, hq => by
    simp only [erC, mapC, mapCs_eq, snapC] at hq
    simp only [okC, blkC, refsC] at hok hb hr
    obtain ⟨h1, h2, h3⟩ := hok
    cases hs : snapCs (V.erS S) (cs.map erC) with
    | none => rw [show cs.map (mapC er0) = cs.map erC from rfl, hs] at hq; simp at hq
    | some ds =>
      rw [show cs.map (mapC er0) = cs.map erC from rfl, hs] at hq
      simp only [Option.bind_some] at hq
      obtain ⟨es, e1, e2, e3⟩ := snapCs_ok h hR h2 (fun b h => hb b (List.mem_append_right _ h)) hr hs
      cases ht : allT ds with
      | none => rw [ht] at hq; simp at hq
      | some ts =>
        rw [ht] at hq
        simp only [Option.map_some, Option.some.injEq] at hq
        subst hq
        rw [← e1] at ht
        obtain ⟨us, rfl, rfl⟩ := allT_er ht
        have hu : ∀ u ∈ us, okT w (shiftP R' P) R' u ∧ shT 1 u := by
          intro u hu
          obtain ⟨k1, k2⟩ := e3 (.t u) (List.mem_map.2 ⟨u, hu, rfl⟩)
          exact ⟨by simpa [okC] using k1.1 S ea, k2 u rfl⟩
        have hsh : shT 1 (.sl v 1 sz n us : TV) := by
          simp only [shT]; exact ⟨Nat.le_refl _, Nat.le_refl _, shTs_iff.2 fun u h => (hu u h).2⟩
        refine ⟨.t (.sl v 1 sz n us), by simp [erC, mapC, mapT, mapTs_eq, er0], rfl, .t ?_ hsh, fun y hy => by cases hy; exact hsh⟩
        simp only [okT, Nat.succ_ne_zero, if_false]
        have hlen : us.length = cs.length := by
          have := congrArg List.length e2
          simpa using this
        refine ⟨by omega, okTs_iff.2 fun u h => (hu u h).1, ?_, Nat.le_refl _, shTs_iff.2 fun u h => (hu u h).2⟩
        have hval : us.map valT = valCs cs := by
          rw [valCs_eq, ← e2, List.map_map]; rfl
        rw [hval]
        exact h3.shr (fun b h => hb b (List.mem_append_left _ h))
theorem snapCs_ok (h : Rel isv w0 E0 P R ea w S tmps) (hR : ∀ b, R b → R' b) : ∀ {cs : List CV} {ds : List CU}, okCs w P R S ea cs → (∀ b ∈ blkCs cs, R' b) → (∀ r ∈ refsCs cs, ∀ b ∈ blkR S ea r, R' b) → snapCs (V.erS S) (cs.map erC) = some ds →
    ∃ es : List CV, es.map erC = ds ∧ es.map valC = cs.map valC ∧ ∀ e ∈ es, Free w (shiftP R' P) R' e ∧ ∀ y, e = .t y → shT 1 y
  | [], ds, _, _, _, hq => by
    simp only [List.map_nil, snapCs, Option.some.injEq] at hq
    subst hq
    exact ⟨[], rfl, rfl, by simp⟩
  | c :: cs, ds, hok, hb, hr, hq => by
    simp only [okCs, blkCs, refsCs] at hok hb hr
    simp only [List.map_cons, snapCs] at hq
    cases h1 : snapC (V.erS S) (erC c) with
    | none => rw [h1] at hq; simp at hq
    | some d =>
      rw [h1] at hq
      simp only [Option.bind_some] at hq
      cases h2 : snapCs (V.erS S) (cs.map erC) with
      | none => rw [h2] at hq; simp at hq
      | some es =>
        rw [h2] at hq
        simp only [Option.map_some, Option.some.injEq] at hq
        subst hq
        obtain ⟨cG, k1, k2, k3, k4⟩ := snapC_ok h hR hok.1 (fun b h => hb b (List.mem_append_left _ h)) (fun r h => hr r (List.mem_append_left _ h)) h1
        obtain ⟨gs, l1, l2, l3⟩ := snapCs_ok h hR hok.2 (fun b h => hb b (List.mem_append_right _ h)) (fun r h => hr r (List.mem_append_right _ h)) h2
        refine ⟨cG :: gs, by simp [k1, l1], by simp [k2, l2], ?_⟩
        intro e he
        rcases List.mem_cons.1 he with rfl | he
        · exact ⟨k3, k4⟩
        · exact l3 e he
end

def FreeX (w : World) (P : Nat → Nat → Prop) (R : Nat → Prop) (x : XV) : Prop := (∀ S ea, okX w P R S ea x) ∧ blkX x = [] ∧ refsX x = []

theorem Free.x {c : CV} (h : Free w P R c) : FreeX w P R (.c c) := ⟨fun S ea => by simpa [okX] using h.1 S ea, by simpa [blkX] using h.2.1, by simpa [refsX] using h.2.2⟩
theorem Free.agg {cs : List CV} (h : ∀ c ∈ cs, Free w P R c) : FreeX w P R (.agg cs) := by
  refine ⟨fun S ea => by simp only [okX]; exact okCs_iff.2 fun c hc => (h c hc).1 S ea, ?_, ?_⟩
  · simp only [blkX]; rw [blkCs_eq, List.flatMap_eq_nil_iff]; exact fun c hc => (h c hc).2.1
  · simp only [refsX]; rw [refsCs_eq, List.flatMap_eq_nil_iff]; exact fun c hc => (h c hc).2.2

theorem snapX_ok (h : Rel isv w0 E0 P R ea w S tmps) (hR : ∀ b, R b → R' b) {x : XV} {y : XU} (hok : okX w P R S ea x) (hb : ∀ b ∈ blkX x, R' b) (hr : ∀ r ∈ refsX x, ∀ b ∈ blkR S ea r, R' b) (hq : snapX (V.erS S) (erX x) = some y) :
    ∃ yG, erX yG = y ∧ valX yG = valX x ∧ FreeX w (shiftP R' P) R' yG := by
  cases x with
  | c c =>
    simp only [erX, mapX, snapX] at hq
    simp only [okX, blkX, refsX] at hok hb hr
    cases hs : snapC (V.erS S) (erC c) with
    | none => rw [show mapC er0 c = erC c from rfl, hs] at hq; simp at hq
    | some d =>
      rw [show mapC er0 c = erC c from rfl, hs] at hq
      simp only [Option.map_some, Option.some.injEq] at hq
      subst hq
      obtain ⟨cG, k1, k2, k3, _⟩ := snapC_ok h hR hok hb hr hs
      exact ⟨.c cG, by simp [erX, mapX]; exact k1, by simp [valX, k2], k3.x⟩
  | agg cs =>
    simp only [erX, mapX, mapCs_eq, snapX] at hq
    simp only [okX, blkX, refsX] at hok hb hr
    cases hs : snapCs (V.erS S) (cs.map erC) with
    | none => rw [show cs.map (mapC er0) = cs.map erC from rfl, hs] at hq; simp at hq
    | some ds =>
      rw [show cs.map (mapC er0) = cs.map erC from rfl, hs] at hq
      simp only [Option.map_some, Option.some.injEq] at hq
      subst hq
      obtain ⟨es, k1, k2, k3⟩ := snapCs_ok h hR hok hb hr hs
      exact ⟨.agg es, by simp [erX, mapX, mapCs_eq]; exact k1, by simp [valX, valCs_eq, k2], Free.agg fun c hc => (k3 c hc).1⟩
  | _ => simp [erX, mapX, snapX] at hq

theorem Rel.roots_lt (h : Rel isv w0 E0 P R ea w S tmps) {x : XV} : ∀ r ∈ refsX x, ∀ b ∈ blkR S ea r, b < w.heap.size := fun r _ b hb => h.lt r b hb

theorem snapArgs_ok (h : Rel (isVar cx f) w0 E0 P R ea w S tmps) (ha : a.tmps = tmps) : ∀ {os : List Operand} {ts : List Nat} {xs : List XU}, snapArgs cx f (V.erS S) os ts = some xs →
    ∃ ys : List XV, ys.map erX = xs ∧ ys.map valX = os.map a.eval ∧ ∀ y ∈ ys, FreeX w (shiftP (· < w.heap.size) P) (· < w.heap.size) y
  | [], ts, xs, hq => by
    simp only [snapArgs, Option.some.injEq] at hq
    subst hq
    exact ⟨[], rfl, rfl, by simp⟩
  | o :: os, ts, xs, hq => by
    simp only [snapArgs] at hq
    cases hx : opv cx f (V.erS S) (ts.head?.getD 0) o with
    | none => simp [hx] at hq
    | some x =>
      simp only [hx, Option.bind_some] at hq
      cases hs : snapX (V.erS S) x with
      | none => simp [hs] at hq
      | some y =>
        simp only [hs, Option.bind_some] at hq
        cases hr : snapArgs cx f (V.erS S) os ts.tail with
        | none => simp [hr] at hq
        | some zs =>
          simp only [hr, Option.map_some, Option.some.injEq] at hq
          subst hq
          obtain ⟨xG, hxG⟩ := h.opv ha hx
          rw [← hxG.er] at hs
          obtain ⟨yG, k1, k2, k3⟩ := snapX_ok h (R' := (· < w.heap.size)) h.ltR hxG.ok (fun b hb => by obtain ⟨r, hr⟩ := hxG.src b hb; exact h.lt r b hr) h.roots_lt hs
          obtain ⟨ys, l1, l2, l3⟩ := snapArgs_ok h ha hr
          refine ⟨yG :: ys, by simp [k1, l1], by simp [k2, l2, hxG.val], ?_⟩
          intro y hy
          rcases List.mem_cons.1 hy with rfl | hy
          · exact k3
          · exact l3 y hy
end
end Go.Proofs.YtlkjnlfddadlmaaDoor.V

namespace Go.Proofs.YtlkjnlfddadlmaaDoor.V
open Go.RowKit

abbrev In (w : World) (E : Nat → Prop) (P : Nat → Nat → Prop) (R : Nat → Prop) (ea : List EA) (args : List XV) (ext : List (List CV)) : Prop :=
  Rel (fun _ => false) w E P R ea w ⟨slots0 args, ext⟩ (args.map valX).toArray

abbrev Out (w : World) (E : Nat → Prop) (P : Nat → Nat → Prop) (R : Nat → Prop) (ea : List EA) (w' : World) (res : XV) (ext : List (List CV)) : Prop :=
  Rel (fun _ => false) w E P R ea w' ⟨upd (fun _ => .undef) 0 res, ext⟩ #[valX res]

def Enters (Pr : Program) (g : Nat) : Prop := ∀ args w, (callFunc g args).run Pr w = .ok (.enter g args) w

def CallOk (Pr : Program) (call : Callee) (w0 : World) (E0 : Nat → Prop) : Prop :=
  ∀ g args ext res ext', call g args ext = some (res, ext') → Enters Pr g ∧
    ∀ (w : World) (E : Nat → Prop) (P : Nat → Nat → Prop) (R : Nat → Prop) (ea : List EA) (argsG : List XV) (extG : List (List CV)), Frm E0 w0 w → (∀ b, E b → E0 b ∨ w0.heap.size ≤ b) → argsG.map erX = args → extG.map (·.map erC) = ext →
      In w E P R ea argsG extG →
      Calls Pr g (argsG.map valX).toArray w (fun
        | .returned v, w' => ∃ resG extG', erX resG = res ∧ extG'.map (·.map erC) = ext' ∧ v = valX resG ∧ Out w E P R ea w' resG extG'
        | _, _ => False)

section
variable {cx : Ctx} {f : Nat} {isv : Nat → Bool} {w0 : World} {E0 : Nat → Prop} {P : Nat → Nat → Prop} {R R' : Nat → Prop} {ea : List EA} {w w' : World} {S : SV} {tmps : Array Value} {Pr : Program} {a : Act} {call : Callee}

mutual
theorem okC_norefs {S' : SV} {ea' : List EA} : ∀ {c : CV}, okC w P R S ea c → refsC c = [] → okC w P R S' ea' c
  | .t x, h, _ => by simpa [okC] using h
  | .ptr v r p off, _, hr => by simp [refsC] at hr
  | .bor v r p i off sz n, _, hr => by simp [refsC] at hr
  | .rptr v cs, h, _ => by simpa [okC] using h
  | .fn g caps, h, hr => by
    simp only [okC, refsC] at h hr ⊢
    exact ⟨okCs_norefs h.1 hr, h.2⟩
  | .lst v sz n cs, h, hr => by
    simp only [okC, refsC] at h hr ⊢
    exact ⟨h.1, okCs_norefs h.2.1 hr, h.2.2⟩
  | .nilp, _, _ => by simp [okC]
  | .nilf, _, _ => by simp [okC]
theorem okCs_norefs {S' : SV} {ea' : List EA} : ∀ {cs : List CV}, okCs w P R S ea cs → refsCs cs = [] → okCs w P R S' ea' cs
  | [], _, _ => by simp [okCs]
  | c :: cs, h, hr => by
    simp only [okCs, refsCs, List.append_eq_nil_iff] at h hr ⊢
    exact ⟨okC_norefs h.1 hr.1, okCs_norefs h.2 hr.2⟩
end

mutual
theorem okX_norefs {S' : SV} {ea' : List EA} : ∀ {x : XV}, okX w P R S ea x → refsX x = [] → okX w P R S' ea' x
  | .c x, h, hr => by simp only [okX, refsX] at h hr ⊢; exact okC_norefs h hr
  | .agg cs, h, hr => by simp only [okX, refsX] at h hr ⊢; exact okCs_norefs h hr
  | .box v cs, h, hr => by simp only [okX, refsX] at h hr ⊢; exact ⟨okCs_norefs h.1 hr, h.2⟩
  | .tup xs, h, hr => by simp only [okX, refsX] at h hr ⊢; exact okXs_norefs h hr
  | .undef, _, _ => by simp [okX]
theorem okXs_norefs {S' : SV} {ea' : List EA} : ∀ {xs : List XV}, okXs w P R S ea xs → refsXs xs = [] → okXs w P R S' ea' xs
  | [], _, _ => by simp [okXs]
  | x :: xs, h, hr => by
    simp only [okXs, refsXs, List.append_eq_nil_iff] at h hr ⊢
    exact ⟨okX_norefs h.1 hr.1, okXs_norefs h.2 hr.2⟩
end

mutual
theorem down_ok (hR : ∀ b, R b → R' b) : ∀ {x y : TV}, okT w (shiftP R' P) R' x → down x = some y → okT w P R y ∧ valT y = valT x ∧ blkT y = blkT x ∧ ∀ g, 1 ≤ g → shT (g + 1) x → shT g y
  | .sl v tag sz n cs, y, h, hq => by
    simp only [down] at hq
    split at hq
    · cases hq
    · rename_i h1
      cases hd : downs cs with
      | none => simp [hd] at hq
      | some ds =>
        simp only [hd, Option.map_some, Option.some.injEq] at hq
        subst hq
        simp only [okT] at h
        obtain ⟨k1, k2, k3⟩ := h
        obtain ⟨l1, l2, l3, l4⟩ := downs_ok hR k2 hd
        have hlen : ds.length = cs.length := by
          have := congrArg List.length l2
          simpa using this
        by_cases ht : tag = 0
        · subst ht
          simp only [if_true] at k3
          refine ⟨?_, rfl, by simp [blkT, l3], fun g hg hs => by simp only [shT] at hs; omega⟩
          simp only [okT, if_true]
          exact ⟨by omega, l1, by rw [l2]; exact k3⟩
        · rw [if_neg ht] at k3
          obtain ⟨t, rfl⟩ : ∃ t, tag = t + 2 := ⟨tag - 2, by omega⟩
          have e : t + 2 - 1 = t + 1 := by omega
          rw [e]
          refine ⟨?_, rfl, by simp [blkT], ?_⟩
          · simp only [okT, Nat.succ_ne_zero, if_false]
            exact ⟨by omega, l1, by rw [l2]; exact k3.1, by omega, l4 (t + 1) (by omega) k3.2.2⟩
          · intro g hg hs
            simp only [shT] at hs ⊢
            exact ⟨by omega, by omega, l4 g hg hs.2.2⟩
  | .int _ _, y, _, hq => by simp only [down, Option.some.injEq] at hq; subst hq; simp [okT, shT]
  | .bool _, y, _, hq => by simp only [down, Option.some.injEq] at hq; subst hq; simp [okT, shT]
  | .str _, y, _, hq => by simp only [down, Option.some.injEq] at hq; subst hq; simp [okT, shT]
  | .dead v, y, h, hq => by simp only [down, Option.some.injEq] at hq; subst hq; simp only [okT] at h; simp [okT, shT, h]
  | .nili, y, _, hq => by simp only [down, Option.some.injEq] at hq; subst hq; simp [okT, shT]
  | .ifc v, y, h, hq => by simp only [down, Option.some.injEq] at hq; subst hq; simp only [okT] at h; simp [okT, shT, h]
theorem downs_ok (hR : ∀ b, R b → R' b) : ∀ {xs ys : List TV}, okTs w (shiftP R' P) R' xs → downs xs = some ys → okTs w P R ys ∧ ys.map valT = xs.map valT ∧ blkTs ys = blkTs xs ∧ ∀ g, 1 ≤ g → shTs (g + 1) xs → shTs g ys
  | [], ys, _, hq => by simp only [downs, Option.some.injEq] at hq; subst hq; simp [okTs, shTs]
  | x :: xs, ys, h, hq => by
    simp only [downs] at hq
    cases h1 : down x with
    | none => simp [h1] at hq
    | some y =>
      cases h2 : downs xs with
      | none => simp [h1, h2] at hq
      | some zs =>
        simp only [h1, h2, Option.bind_some, Option.map_some, Option.some.injEq] at hq
        subst hq
        simp only [okTs] at h
        obtain ⟨k1, k2, k3, k4⟩ := down_ok hR h.1 h1
        obtain ⟨l1, l2, l3, l4⟩ := downs_ok hR h.2 h2
        exact ⟨⟨k1, l1⟩, by simp [k2, l2], by simp [blkTs, k3, l3], fun g hg hs => ⟨k4 g hg hs.1, l4 g hg hs.2⟩⟩
end

mutual
theorem downC_ok (hR : ∀ b, R b → R' b) : ∀ {c : CV} {d : CU}, okC w (shiftP R' P) R' S ea c → downC (erC c) = some d → ∃ cG, erC cG = d ∧ valC cG = valC c ∧ okC w P R S ea cG ∧ blkC cG = blkC c ∧ refsC cG = refsC c
  | .t x, d, h, hq => by
    simp only [erC, mapC, downC, down_map] at hq
    cases hd : down x with
    | none => simp [hd] at hq
    | some y =>
      simp only [hd, Option.map_some, Option.some.injEq] at hq
      subst hq
      simp only [okC] at h
      obtain ⟨k1, k2, k3, _⟩ := down_ok hR h hd
      exact ⟨.t y, by simp [erC, mapC], by simp [valC, k2], by simpa [okC] using k1, by simp [blkC, k3], rfl⟩
  | .ptr v r p off, d, h, hq => by
    simp only [erC, mapC, downC, Option.some.injEq] at hq
    subst hq
    exact ⟨.ptr v r p off, rfl, rfl, by simpa [okC] using h, rfl, rfl⟩
  | .bor v r p i off sz n, d, h, hq => by
    simp only [erC, mapC, downC, Option.some.injEq] at hq
    subst hq
    exact ⟨.bor v r p i off sz n, rfl, rfl, by simpa [okC] using h, rfl, rfl⟩
  | .rptr v cs, d, _, hq => by simp [erC, mapC, downC] at hq
  | .fn g caps, d, h, hq => by
    simp only [erC, mapC, downC, mapCs_eq] at hq
    simp only [okC] at h
    cases hd : downCs (caps.map (mapC er0)) with
    | none => simp [hd] at hq
    | some ds =>
      simp only [hd, Option.map_some, Option.some.injEq] at hq
      subst hq
      obtain ⟨es, k1, k2, k3, k4, k5⟩ := downCs_ok hR h.1 hd
      exact ⟨.fn g es, by simp [erC, mapC, mapCs_eq]; exact k1, by simp [valC, valCs_eq, k2], by simp only [okC]; exact ⟨k3, by rw [k4]; exact h.2⟩, rfl, by simp [refsC, k5]⟩
  | .lst v sz n cs, d, _, hq => by simp [erC, mapC, downC] at hq
  | .nilp, d, _, hq => by
    simp only [erC, mapC, downC, Option.some.injEq] at hq
    subst hq
    exact ⟨.nilp, rfl, rfl, by simp [okC], rfl, rfl⟩
  | .nilf, d, _, hq => by
    simp only [erC, mapC, downC, Option.some.injEq] at hq
    subst hq
    exact ⟨.nilf, rfl, rfl, by simp [okC], rfl, rfl⟩
theorem downCs_ok (hR : ∀ b, R b → R' b) : ∀ {cs : List CV} {ds : List CU}, okCs w (shiftP R' P) R' S ea cs → downCs (cs.map erC) = some ds →
    ∃ es : List CV, es.map erC = ds ∧ es.map valC = cs.map valC ∧ okCs w P R S ea es ∧ blkCs es = blkCs cs ∧ refsCs es = refsCs cs
  | [], ds, _, hq => by simp only [List.map_nil, downCs, Option.some.injEq] at hq; subst hq; exact ⟨[], rfl, rfl, by simp [okCs], rfl, rfl⟩
  | c :: cs, ds, h, hq => by
    simp only [List.map_cons, downCs] at hq
    cases h1 : downC (erC c) with
    | none => simp [h1] at hq
    | some d =>
      cases h2 : downCs (cs.map erC) with
      | none => simp [h1, h2] at hq
      | some es =>
        simp only [h1, h2, Option.bind_some, Option.map_some, Option.some.injEq] at hq
        subst hq
        simp only [okCs] at h
        obtain ⟨cG, k1, k2, k3, k4, k5⟩ := downC_ok hR h.1 h1
        obtain ⟨gs, l1, l2, l3, l4, l5⟩ := downCs_ok hR h.2 h2
        exact ⟨cG :: gs, by simp [k1, l1], by simp [k2, l2], ⟨k3, l3⟩, by simp [blkCs, k4, l4], by simp [refsCs, k5, l5]⟩
end

mutual
theorem downX_ok (hR : ∀ b, R b → R' b) : ∀ {x : XV} {y : XU}, okX w (shiftP R' P) R' S ea x → downX (erX x) = some y → ∃ yG, erX yG = y ∧ valX yG = valX x ∧ okX w P R S ea yG ∧ blkX yG = blkX x ∧ refsX yG = refsX x
  | .c c, y, h, hq => by
    simp only [erX, mapX, downX] at hq
    simp only [okX] at h
    cases hd : downC (mapC er0 c) with
    | none => simp [hd] at hq
    | some d =>
      simp only [hd, Option.map_some, Option.some.injEq] at hq
      subst hq
      obtain ⟨cG, k1, k2, k3, k4, k5⟩ := downC_ok hR h hd
      exact ⟨.c cG, by simp [erX, mapX]; exact k1, by simp [valX, k2], by simpa [okX] using k3, by simp [blkX, k4], by simp [refsX, k5]⟩
  | .agg cs, y, h, hq => by
    simp only [erX, mapX, downX, mapCs_eq] at hq
    simp only [okX] at h
    cases hd : downCs (cs.map (mapC er0)) with
    | none => simp [hd] at hq
    | some ds =>
      simp only [hd, Option.map_some, Option.some.injEq] at hq
      subst hq
      obtain ⟨es, k1, k2, k3, k4, k5⟩ := downCs_ok hR h hd
      exact ⟨.agg es, by simp [erX, mapX, mapCs_eq]; exact k1, by simp [valX, valCs_eq, k2], by simpa [okX] using k3, by simp [blkX, k4], by simp [refsX, k5]⟩
  | .box v cs, y, h, hq => by
    simp only [erX, mapX, downX, mapCs_eq] at hq
    simp only [okX] at h
    cases hd : downCs (cs.map (mapC er0)) with
    | none => simp [hd] at hq
    | some ds =>
      simp only [hd, Option.map_some, Option.some.injEq] at hq
      subst hq
      obtain ⟨es, k1, k2, k3, k4, k5⟩ := downCs_ok hR h.1 hd
      refine ⟨.box v es, by simp [erX, mapX, mapCs_eq]; exact k1, rfl, ?_, by simp [blkX, k4], by simp [refsX, k5]⟩
      simp only [okX]
      obtain ⟨_, ad, e1, e2, e3, cur, e, e4, e5⟩ := h
      exact ⟨k3, ad, e1, e2, e3, cur, e, e4, by rw [e5, valCs_eq, valCs_eq, k2]⟩
  | .tup xs, y, h, hq => by
    simp only [erX, mapX, downX, mapXs_eq] at hq
    simp only [okX] at h
    cases hd : downXs (xs.map (mapX er0)) with
    | none => simp [hd] at hq
    | some ds =>
      simp only [hd, Option.map_some, Option.some.injEq] at hq
      subst hq
      obtain ⟨es, k1, k2, k3, k4, k5⟩ := downXs_ok hR h hd
      exact ⟨.tup es, by simp [erX, mapX, mapXs_eq]; exact k1, by simp [valX, valXs_eq, k2], by simpa [okX] using k3, by simp [blkX, k4], by simp [refsX, k5]⟩
  | .undef, y, _, hq => by simp [erX, mapX, downX] at hq
theorem downXs_ok (hR : ∀ b, R b → R' b) : ∀ {xs : List XV} {ys : List XU}, okXs w (shiftP R' P) R' S ea xs → downXs (xs.map erX) = some ys →
    ∃ es : List XV, es.map erX = ys ∧ es.map valX = xs.map valX ∧ okXs w P R S ea es ∧ blkXs es = blkXs xs ∧ refsXs es = refsXs xs
  | [], ys, _, hq => by simp only [List.map_nil, downXs, Option.some.injEq] at hq; subst hq; exact ⟨[], rfl, rfl, by simp [okXs], rfl, rfl⟩
  | x :: xs, ys, h, hq => by
    simp only [List.map_cons, downXs] at hq
    cases h1 : downX (erX x) with
    | none => simp [h1] at hq
    | some d =>
      cases h2 : downXs (xs.map erX) with
      | none => simp [h1, h2] at hq
      | some es =>
        simp only [h1, h2, Option.bind_some, Option.map_some, Option.some.injEq] at hq
        subst hq
        simp only [okXs] at h
        obtain ⟨cG, k1, k2, k3, k4, k5⟩ := downX_ok hR h.1 h1
        obtain ⟨gs, l1, l2, l3, l4, l5⟩ := downXs_ok hR h.2 h2
        exact ⟨cG :: gs, by simp [k1, l1], by simp [k2, l2], ⟨k3, l3⟩, by simp [blkXs, k4, l4], by simp [refsXs, k5, l5]⟩
end

theorem slots_get {args : List XV} {d : Nat} : slots0 args d = .undef ∨ slots0 args d ∈ args := by
  simp only [slots0, List.getD_eq_getElem?_getD]
  cases h : args[d]? with
  | none => exact .inl rfl
  | some x => exact .inr (List.mem_of_getElem? h)

theorem in_of_free {args : List XV} (hlt : ∀ t b, P t b → b < w.heap.size) (h : ∀ x ∈ args, FreeX w (shiftP (· < w.heap.size) P) (· < w.heap.size) x) :
    In w (fun _ => False) (shiftP (· < w.heap.size) P) (· < w.heap.size) [] args [] := by
  have hs : ∀ d, FreeX w (shiftP (· < w.heap.size) P) (· < w.heap.size) (slots0 args d) := by
    intro d
    rcases slots_get (args := args) (d := d) with e | e
    · rw [e]; exact ⟨fun _ _ => by simp [okX], by simp [blkX], by simp [refsX]⟩
    · exact h _ e
  have hb : ∀ r : Root, blkR (⟨slots0 args, []⟩ : SV) [] r = [] := by
    intro r
    cases r with
    | sl d => simp only [blkR]; exact (hs d).2.1
    | ex j => simp [blkR]
  constructor
  case val =>
    intro d hd
    simp only [List.size_toArray, List.length_map] at hd
    right
    simp [slots0, hd]
  case hi =>
    intro d hd
    simp only [List.size_toArray, List.length_map] at hd
    simp [slots0, List.getElem?_eq_none hd]
  case okS => exact fun d => (hs d).1 _ _
  case okE => intro j cs hj; simp at hj
  case eaL => rfl
  case row => intro j vs cs hj; simp at hj
  case refS => intro d d' hd; rw [(hs d).2.2] at hd; simp at hd
  case refE => intro j cs d' hj; simp at hj
  case dis => intro r r' b hb'; rw [hb] at hb'; simp at hb'
  case nd => intro r; rw [hb]; exact List.nodup_nil
  case lt => intro r b hb'; rw [hb] at hb'; simp at hb'
  case own => intro r b hb'; rw [hb] at hb'; simp at hb'
  case notR => intro r b hb'; rw [hb] at hb'; simp at hb'
  case PR =>
    intro t b ht
    cases t with
    | zero => exact ht.elim
    | succ t =>
      cases t with
      | zero => exact ht
      | succ t => exact hlt _ b ht
  case ltR => exact fun b hb' => hb'
  case frm => exact Frm.refl _ _

theorem Frm.grow (h : Frm (fun _ => False) w w') : Grow w w' := ⟨h.os, h.tape, h.output, h.size, fun k hk => h.block k hk (fun h => h)⟩

theorem out_new (h : Rel (isVar cx f) w0 E0 P R ea w S tmps) {res : XV} {ext : List (List CV)} (ho : Out w (fun _ => False) (shiftP (· < w.heap.size) P) (· < w.heap.size) [] w' res ext) {y : XU} (hq : downX (erX res) = some y) :
    ∃ yG, valX yG = valX res ∧ QRes cx f w0 E0 P R ea w tmps y (V.erS S) w' S yG := by
  have hg := ho.frm.grow
  have hr := h.grow hg
  have hok : okX w' (shiftP (· < w.heap.size) P) (· < w.heap.size) ⟨upd (fun _ => .undef) 0 res, ext⟩ [] res := by
    have := ho.okS 0
    simpa [upd] using this
  have hbl : blkR (⟨upd (fun _ => .undef) 0 res, ext⟩ : SV) [] (.sl 0) = blkX res := by simp [blkR, upd]
  have hrefs : refsX res = [] := by
    rw [List.eq_nil_iff_forall_not_mem]
    intro r hr'
    obtain ⟨cs, hcs⟩ := okX_root ho.eaL hok r hr'
    cases r with
    | sl d =>
      have := ho.refS 0 d (by simpa [upd] using hr')
      simp at this
    | ex j =>
      have hl := ho.eaL
      simp only [List.length_nil] at hl
      have : ext = [] := List.length_eq_zero_iff.1 hl.symm
      subst this
      simp [rootCells] at hcs
  obtain ⟨yG, k1, k2, k3, k4, k5⟩ := downX_ok (R := R) h.ltR hok hq
  have hfresh : ∀ b ∈ blkX yG, w.heap.size ≤ b := by
    intro b hb
    rw [k4, ← hbl] at hb
    exact (ho.own _ b hb).elim (fun h => h.elim) id
  refine ⟨yG, k2, hg, k1, rfl, hr, ?_⟩
  constructor
  · exact okX_norefs k3 (by rw [k5]; exact hrefs)
  · intro d' hd'; rw [k5, hrefs] at hd'; simp at hd'
  · rw [k4, ← hbl]; exact ho.nd _
  · intro r b hb hb'
    have := hfresh b hb
    have := h.lt r b hb'
    omega
  · intro b hb
    rw [k4, ← hbl] at hb
    exact ho.lt _ b hb
  · intro b hb
    exact .inr (Nat.le_trans h.frm.size (hfresh b hb))
  · intro b hb hRb
    have := hfresh b hb
    have := h.ltR b hRb
    omega

def QWp (cx : Ctx) (f : Nat) (w0 : World) (E0 : Nat → Prop) (P : Nat → Nat → Prop) (R : Nat → Prop) (ea : List EA) (w : World) (tmps : Array Value) (Pr : Program) (a : Act) (o : Oper) (x : XU) (Su : SU) : Prop :=
  ∀ (K : Act → World → Prop) (Q : Exit → Act → World → Prop), (∀ w' S' xG, QRes cx f w0 E0 P R ea w tmps x Su w' S' xG → K (a.put o.dst (valX xG)) w') → o.wp Pr a w K Q

theorem QOk.wp {o : Oper} {x : XU} {Su : SU} (h : QOk cx f w0 E0 P R ea w tmps Pr a o x Su) : QWp cx f w0 E0 P R ea w tmps Pr a o x Su := by
  obtain ⟨w', S', xG, h1, h2⟩ := h
  exact fun K Q hk => wp_value h2 (hk w' S' xG h1)

theorem QOkW.wp {o : Oper} {x : XU} {Su : SU} (h : QOkW cx f w0 E0 P R ea w tmps Pr a o x Su) : QWp cx f w0 E0 P R ea w tmps Pr a o x Su := h.ok.wp

theorem quiet_ok (hcall : CallOk Pr call w0 E0) (h : Rel (isVar cx f) w0 E0 P R ea w S tmps) (ha : a.tmps = tmps) {o : Oper} {c : Call} (ho : o.op = .call c) {fo : Operand} (hb : c.callee = .value fo) (hng : isGrow cx c = false) {z : XU} {Su : SU}
    (hq : qcall cx f call (V.erS S) o.type c = some (z, Su)) : QWp cx f w0 E0 P R ea w tmps Pr a o z Su := by
  have hq' : (quietCall cx f call (V.erS S) fo c.args.toList c.argTypes.toList).map (fun x => (x, V.erS S)) = some (z, Su) := by
    simpa [qcall, hb, hng] using hq
  clear hq
  cases hqc : quietCall cx f call (V.erS S) fo c.args.toList c.argTypes.toList with
  | none => simp [hqc] at hq'
  | some x =>
    simp only [hqc, Option.map_some, Option.some.injEq, Prod.mk.injEq] at hq'
    obtain ⟨rfl, rfl⟩ := hq'
    unfold quietCall at hqc
    split at hqc
    · rename_i g hg
      obtain ⟨fG, hf1, hf2, _, _⟩ := opv_c h ha hg
      obtain ⟨ds, rfl, hds⟩ := er_fn hf1
      have : ds = [] := by simpa using hds
      subst this
      simp only [valC, valCs] at hf2
      split at hqc
      · cases hqc
      · cases hs : snapArgs cx f (V.erS S) c.args.toList c.argTypes.toList with
        | none => simp [hs] at hqc
        | some xs =>
          simp only [hs, Option.bind_some] at hqc
          cases hcl : call g xs [] with
          | none => simp [hcl] at hqc
          | some r =>
            obtain ⟨res, ext'⟩ := r
            simp only [hcl, Option.bind_some] at hqc
            obtain ⟨ys, y1, y2, y3⟩ := snapArgs_ok h ha hs
            obtain ⟨hent, hc⟩ := hcall g xs [] res ext' hcl
            have hC := hc w (fun _ => False) (shiftP (· < w.heap.size) P) (· < w.heap.size) [] ys [] h.frm (fun _ hb => hb.elim) y1 rfl (in_of_free h.ltP y3)
            have hargs : c.args.map a.eval = (ys.map valX).toArray := by
              apply Array.ext'
              simp [y2]
            intro K Q hk
            have hrun : (execOp a.eval o).run Pr w = .ok (.enter g (ys.map valX).toArray) w := by
              have he := hent (ys.map valX).toArray w
              simp [execOp, ho, resolve, hb, hf2, Deferred.ofValue, invoke]
              rw [hargs]
              simpa using he
            simp only [Oper.wp, Oper.upon, hrun]
            refine Calls.mono hC ?_
            intro e w' he
            cases e with
            | returned v =>
              obtain ⟨resG, extG', e1, e2, rfl, e3⟩ := he
              rw [← e1] at hqc
              obtain ⟨yG, k1, k2⟩ := out_new h e3 hqc
              rw [← k1]
              exact hk w' S yG k2
            | panicked chain => exact he.elim
            | outgrown => exact he.elim
    · cases hqc

def GroOk (Pr : Program) (cx : Ctx) : Prop := ∀ g q, cx.gro g = some q → Enters Pr g ∧ ∀ (n : Nat) (w : World), n * q.2 ≤ 140737488355328 → n ≤ maxLen →
  Calls Pr g #[.slice none 0 0, .int .i64 n] w fun e w' => ∃ v, e = .returned v ∧ Grow w w' ∧ (v = .slice none 0 0 ∨ ∃ cap cur ty, v = .slice (some ⟨w.heap.size, 0, none⟩) 0 cap ∧ w'.heap[w.heap.size]? = some (.cells cur ty (0, 0)) ∧ cap * q.1 ≤ cur.size)

theorem grow_ok (hgro : GroOk Pr cx) (h : Rel (isVar cx f) w0 E0 P R ea w S tmps) (ha : a.tmps = tmps) {o : Oper} {c : Call} (ho : o.op = .call c) {x : XU} (hq : growV cx f (V.erS S) c = some x) : QWp cx f w0 E0 P R ea w tmps Pr a o x (V.erS S) := by
  unfold growV at hq
  split at hq
  · next g y hcal hargs =>
    split at hq
    · next q n hg hn =>
      split at hq
      · next hc =>
        simp only [Option.some.injEq] at hq
        subst hq
        obtain ⟨h1, h2, h3⟩ := hc
        obtain ⟨hent, hC⟩ := hgro g q hg
        have hy := opv_i64 h ha hn
        obtain ⟨m, rfl⟩ : ∃ m : Nat, n = m := ⟨n.toNat, by omega⟩
        intro K Q hk
        have hrun : (execOp a.eval o).run Pr w = .ok (.enter g #[.slice none 0 0, .int .i64 m]) w := by
          have he := hent #[.slice none 0 0, .int .i64 m] w
          have hax : c.args.map a.eval = #[.slice none 0 0, .int .i64 m] := by
            rw [args2 hargs, hy]; rfl
          simp [execOp, ho, resolve, hcal, Act.eval, Deferred.ofValue, invoke]
          rw [hax]
          simpa using he
        simp only [Oper.wp, Oper.upon, hrun]
        refine Calls.mono (hC m w (by omega) (by omega)) ?_
        rintro e w' ⟨v, rfl, hgw, hv⟩
        have hr := h.grow hgw
        have hnew : New (isVar cx f) w0 E0 P R ea w' S (.c (.t (.sl v 0 q.1 0 []))) := by
          rcases hv with rfl | ⟨cap, cur, ty, rfl, hb, hcap⟩
          · exact New.plain (by simp only [okX, okC, okT, if_true, List.length_nil, Nat.zero_mul, okTs, true_and, List.map_nil]; exact .inl ⟨rfl, rfl⟩) (by simp [blkX, blkC, blkT, blkTs, hdr]) (by simp [refsX, refsC])
          · have hlt : w.heap.size < w'.heap.size := (Array.getElem?_eq_some_iff.1 hb).1
            have hblk : blkX (.c (.t (.sl (.slice (some ⟨w.heap.size, 0, none⟩) 0 cap) 0 q.1 0 []))) = [w.heap.size] := by simp [blkX, blkC, blkT, blkTs, hdr]
            constructor
            · simp only [okX, okC, okT, if_true, List.length_nil, Nat.zero_mul, okTs, true_and, List.map_nil]
              exact .inr ⟨w.heap.size, 0, cur, ty, ⟨⟨w.heap.size, 0, none⟩, cap, rfl, Nat.zero_le _, rfl, rfl, .inr ⟨rfl, by omega⟩⟩, hb, by simp⟩
            · simp [refsX, refsC]
            · rw [hblk]; simp
            · intro r b hb' hb2
              rw [hblk, List.mem_singleton] at hb'
              subst hb'
              exact h.fresh r hb2
            · intro b hb'
              rw [hblk, List.mem_singleton] at hb'
              subst hb'; exact hlt
            · intro b hb'
              rw [hblk, List.mem_singleton] at hb'
              subst hb'; exact .inr h.freshOwn
            · intro b hb'
              rw [hblk, List.mem_singleton] at hb'
              subst hb'; exact h.freshR
        have := hk w' S (.c (.t (.sl v 0 q.1 0 []))) ⟨hgw, by simp [erX, mapX, mapC, mapT, mapTs, er0], rfl, hr, hnew⟩
        simpa [valX, valC, valT] using this
      · cases hq
    · cases hq
  · cases hq
end
end Go.Proofs.YtlkjnlfddadlmaaDoor.V

namespace Go.Proofs.YtlkjnlfddadlmaaDoor.V
open Go.RowKit

section
variable {cx : Ctx} {f : Nat} {isv : Nat → Bool} {w0 : World} {E0 : Nat → Prop} {P : Nat → Nat → Prop} {R R' : Nat → Prop} {ea : List EA} {w w' : World} {S : SV} {tmps : Array Value} {Pr : Program} {a : Act} {call : Callee}

theorem qcall_wp (hty : TyOk Pr cx.ty) (hgro : GroOk Pr cx) (hcall : CallOk Pr call w0 E0) (h : Rel (isVar cx f) w0 E0 P R ea w S tmps) (ha : a.tmps = tmps) {o : Oper} {c : Call} (ho : o.op = .call c) {z : XU} {Su : SU}
    (hq : qcall cx f call (V.erS S) o.type c = some (z, Su)) : QWp cx f w0 E0 P R ea w tmps Pr a o z Su := by
  have hq0 := hq
  unfold qcall at hq
  split at hq
  · rename_i x t hb hx ht
    exact (len_ok hty h ha ho hb hx ht hq0).wp
  · exact (mm_ok h ha ho (by assumption) (by assumption) hq).wp
  · next hcal =>
    split at hq
    · cases hx : growV cx f (V.erS S) c with
      | none => rw [hx] at hq; cases hq
      | some x =>
        rw [hx] at hq
        simp only [Option.map_some, Option.some.injEq, Prod.mk.injEq] at hq
        obtain ⟨rfl, rfl⟩ := hq
        exact grow_ok hgro h ha ho hx
    · next hx => exact quiet_ok hcall h ha ho hcal (by simpa using hx) hq0
  · cases hq

theorem qval_wp (hty : TyOk Pr cx.ty) (hgro : GroOk Pr cx) (hcall : CallOk Pr call w0 E0) (h : Rel (isVar cx f) w0 E0 P R ea w S tmps) (ha : a.tmps = tmps) {o : Oper} {z : XU} {Su : SU}
    (hq : qval cx f call (V.erS S) o.type o.op = some (z, Su)) : QWp cx f w0 E0 P R ea w tmps Pr a o z Su := by
  cases ho : o.op with
  | move x =>
    rw [ho] at hq
    simp only [qval] at hq
    cases hx : opv cx f (V.erS S) o.type x with
    | none => simp [hx] at hq
    | some y =>
      simp only [hx, Option.map_some, Option.some.injEq, Prod.mk.injEq] at hq
      obtain ⟨rfl, rfl⟩ := hq
      exact (move_ok h ha ho hx).wp
  | pick c x y => rw [ho] at hq; exact (pick_ok h ha ho hq).wp
  | alloc e => rw [ho] at hq; exact (alloc_ok hty h ho hq).wp
  | box e x => rw [ho] at hq; exact (box_ok h ha ho hq).wp
  | build e ps => rw [ho] at hq; exact (build_ok hty h ha ho hq).wp
  | buildSlice e n ps => rw [ho] at hq; exact (buildSlice_ok hty h ha ho hq).wp
  | load e x => rw [ho] at hq; exact (load_ok hty h ha ho hq).wp
  | fieldAddr e x i => rw [ho] at hq; exact (fieldAddr_ok hty h ha ho hq).wp
  | field e x i => rw [ho] at hq; exact (field_ok hty h ha ho hq).wp
  | indexAddr e x i => rw [ho] at hq; exact (indexAddr_ok hty h ha ho hq).wp
  | index e x i => rw [ho] at hq; exact (index_ok hty h ha ho hq).wp
  | binOp op t x y t' => rw [ho] at hq; exact (bin_ok hty h ha ho hq).wp
  | unOp op t x => rw [ho] at hq; exact (un_ok h ha ho hq).wp
  | nilCheck x => rw [ho] at hq; exact (nilCheck_ok h ha ho hq).wp
  | convert s d x => rw [ho] at hq; exact (convert_ok hty h ha ho hq).wp
  | extract x i => rw [ho] at hq; exact (extract_ok h ha ho hq).wp
  | slice e x lo hi mx =>
    rw [ho] at hq
    cases mx with
    | none => exact (slice_ok hty h ha ho hq).wp
    | some m => simp [qval] at hq
  | makeSlice e l c => rw [ho] at hq; exact (makeSlice_ok hty h ha ho hq).wp
  | makeFunc g first caps =>
    rw [ho] at hq
    cases g with
    | func g => exact (makeFunc_ok h ha ho hq).wp
    | _ => simp [qval] at hq
  | call c =>
    rw [ho] at hq
    exact qcall_wp hty hgro hcall h ha ho hq
  | _ => rw [ho] at hq; simp [qval] at hq

theorem stepOp_quiet {Su : SU} {ops : Array Oper} {o : Oper} (hact : isActive cx o.op = false) (hw : wantedV Su ops o = some true) :
    stepOp cx f call Su ops o = (qval cx f call Su o.type o.op).bind fun r => putQ cx f r.2 o.dst r.1 := by
  unfold stepOp
  rw [hw]
  cases ho : o.op with
  | assign x => simp [ho, isActive] at hact
  | store t x y => simp [ho, isActive] at hact
  | call c => rw [ho] at hact; simp [hact, qval]
  | _ => rfl

theorem wanted_ok (h : Rel (isVar cx f) w0 E0 P R ea w S tmps) {ops : Array Oper} {o : Oper} {b : Bool} (hw : wantedV (V.erS S) ops o = some b) : Region.wanted o (yielded ops tmps) = b := by
  unfold wantedV at hw
  unfold Region.wanted
  cases hg : o.guard with
  | none => simp only [hg, Option.some.injEq] at hw; simp [hw]
  | some g =>
    obtain ⟨j, want⟩ := g
    simp only [hg] at hw
    simp only [yielded]
    cases hd : (ops[j]?).bind (·.dst) with
    | none => simp [hd] at hw
    | some d =>
      simp only [hd] at hw
      have hslot : ∀ x, (V.erS S).s d = x → x ≠ .undef → tmps[d]? = some (valX (S.s d)) := by
        intro x hx hne
        refine h.slot ?_
        intro e
        refine hne ?_
        rw [← hx]
        simp [V.erS, mapS, e, mapX]
      split at hw
      · rename_i b' heq
        simp only [Option.some.injEq] at hw
        have hs := hslot _ heq (by simp)
        obtain ⟨cG, e1, e2⟩ := er_c (show erX (S.s d) = .c (.t (.bool b')) from heq)
        obtain ⟨y, rfl, e3⟩ := er_t e2
        have := er_bool e3
        subst this
        simp only [Option.bind_some, hs, e1, valX, valC, valT]
        cases b' <;> cases want <;> simp_all
      · rename_i heq
        simp only [Option.some.injEq] at hw
        subst hw
        have hs := hslot _ heq (by simp)
        have hv : valX (S.s d) = .tuple #[] := by
          have : erX (S.s d) = .tup [] := heq
          cases hsd : S.s d <;> simp [hsd, erX, mapX, mapXs_eq] at this
          subst this
          simp [valX, valXs]
        simp [hs, hv]
      · cases hw

def At (cx : Ctx) (f : Nat) (w0 : World) (E0 : Nat → Prop) (P : Nat → Nat → Prop) (R : Nat → Prop) (ea : List EA) (n : Nat) (Su : SU) (a : Act) (w : World) : Prop :=
  ∃ S, Rel (isVar cx f) w0 E0 P R ea w S a.tmps ∧ V.erS S = Su ∧ a.defers = [] ∧ a.tmps.size = n

theorem put_defers (a : Act) (d : Option Nat) (v : Value) : (a.put d v).defers = a.defers := by cases d <;> rfl
theorem put_size (a : Act) (d : Option Nat) (v : Value) : (a.put d v).tmps.size = a.tmps.size := by cases d <;> simp [Act.put]

theorem putQ_ok {x : XU} {Su Su' : SU} {S' : SV} {xG : XV} {dst : Option Nat} {n : Nat} (hr : Rel (isVar cx f) w0 E0 P R ea w' S' a.tmps) (hn : New (isVar cx f) w0 E0 P R ea w' S' xG) (hx : erX xG = x) (hS : V.erS S' = Su)
    (hd : a.defers = []) (hsz : a.tmps.size = n) (hdst : ∀ d, dst = some d → d < n) (hq : putQ cx f Su dst x = some Su') : At cx f w0 E0 P R ea n Su' (a.put dst (valX xG)) w' := by
  cases dst with
  | none =>
    simp only [putQ, Option.some.injEq] at hq
    subst hq
    exact ⟨S', hr, hS, hd, hsz⟩
  | some d =>
    simp only [putQ] at hq
    split at hq
    · cases hq
    · rename_i hc
      simp only [Option.some.injEq] at hq
      subst hq
      refine ⟨{ S' with s := upd S'.s d xG }, ?_, ?_, by rw [put_defers]; exact hd, by rw [put_size]; exact hsz⟩
      · refine hr.put hn ?_ (by rw [hsz]; exact hdst d rfl)
        intro hv
        rw [hv] at hc
        have hu : isUndef (Su.s d) = true := by simpa using hc
        rw [← hS] at hu
        have : isUndef (mapX er0 (S'.s d)) = true := hu
        cases hs : S'.s d <;> simp [hs, mapX, isUndef] at this
        rfl
      · rw [← hS, ← hx]
        simp only [V.erS, mapS, upd_map]

theorem step_quiet (hty : TyOk Pr cx.ty) (hgro : GroOk Pr cx) (hcall : CallOk Pr call w0 E0) {ops : Array Oper} {o : Oper} {i n : Nat} {Su Su' : SU} (hat : At cx f w0 E0 P R ea n Su a w) (hact : isActive cx o.op = false) (hi : ops[i]? = some o)
    (hdst : ∀ d, o.dst = some d → d < n) (hq : stepOp cx f call Su ops o = some Su') {K : Act → World → Prop} {Q : Exit → Act → World → Prop} (hk : ∀ a' w', At cx f w0 E0 P R ea n Su' a' w' → K a' w') : wpOp Pr ops Q i K a w := by
  obtain ⟨S, hr, rfl, hd, hsz⟩ := hat
  simp only [wpOp, hi]
  cases hw : wantedV (V.erS S) ops o with
  | none => simp [stepOp, hw] at hq
  | some b =>
    have hwt := wanted_ok hr hw
    cases b with
    | false =>
      rw [if_neg (by rw [hwt]; simp)]
      simp only [stepOp, hw] at hq
      have hn : New (isVar cx f) w0 E0 P R ea w S (.tup []) := New.plain (by simp [okX, okXs]) (by simp [blkX, blkXs]) (by simp [refsX, refsXs])
      exact hk _ _ (putQ_ok (xG := .tup []) hr hn (by simp [erX, mapX, mapXs]) rfl hd hsz hdst hq)
    | true =>
      rw [if_pos hwt]
      refine .inl ?_
      rw [stepOp_quiet hact hw] at hq
      cases hv : qval cx f call (V.erS S) o.type o.op with
      | none => simp [hv] at hq
      | some r =>
        obtain ⟨z, Sz⟩ := r
        simp only [hv, Option.bind_some] at hq
        refine qval_wp hty hgro hcall hr rfl hv K Q ?_
        intro w' S' xG hres
        exact hk _ _ (putQ_ok hres.rel hres.new hres.er hres.erS hd hsz hdst hq)

theorem qval_pure (hty : TyOk Pr cx.ty) (h : Rel (isVar cx f) w0 E0 P R ea w S tmps) (ha : a.tmps = tmps) {o : Oper} (hp : isPure o.op = true) {z : XU} {Su : SU}
    (hq : qval cx f noCall (V.erS S) o.type o.op = some (z, Su)) : QOkW cx f w0 E0 P R ea w tmps Pr a o z Su := by
  cases ho : o.op with
  | move x =>
    rw [ho] at hq
    simp only [qval] at hq
    cases hx : opv cx f (V.erS S) o.type x with
    | none => simp [hx] at hq
    | some y =>
      simp only [hx, Option.map_some, Option.some.injEq, Prod.mk.injEq] at hq
      obtain ⟨rfl, rfl⟩ := hq
      exact move_ok h ha ho hx
  | load e x => rw [ho] at hq; exact load_ok hty h ha ho hq
  | fieldAddr e x i => rw [ho] at hq; exact fieldAddr_ok hty h ha ho hq
  | indexAddr e x i => rw [ho] at hq; exact indexAddr_ok hty h ha ho hq
  | index e x i => rw [ho] at hq; exact index_ok hty h ha ho hq
  | binOp op t x y t' => rw [ho] at hq; exact bin_ok hty h ha ho hq
  | unOp op t x => rw [ho] at hq; exact un_ok h ha ho hq
  | nilCheck x => rw [ho] at hq; exact nilCheck_ok h ha ho hq
  | extract x i => rw [ho] at hq; exact extract_ok h ha ho hq
  | pick c x y => rw [ho] at hq; exact pick_ok h ha ho hq
  | call c =>
    rw [ho] at hq hp
    have hcl : c.callee = .builtin .len := by
      obtain ⟨callee, args, argTypes⟩ := c
      cases callee with
      | builtin b => cases b <;> first | rfl | simp [isPure] at hp
      | _ => simp [isPure] at hp
    have hq0 : qcall cx f noCall (V.erS S) o.type c = some (z, Su) := hq
    have hq1 := hq0
    unfold qcall at hq1
    split at hq1
    · rename_i x t hb hx ht
      exact len_ok hty h ha ho hb hx ht hq0
    · exact mm_ok h ha ho (by assumption) (by assumption) hq1
    · next hcal => rw [hcl] at hcal; cases hcal
    · cases hq1
  | _ => rw [ho] at hp; simp [isPure] at hp

def isPureA : Op → Bool
  | .move _ => true
  | .fieldAddr _ _ _ => true
  | .indexAddr _ _ _ => true
  | .nilCheck _ => true
  | _ => false

theorem isPureA_pure {op : Op} (h : isPureA op = true) : isPure op = true := by
  cases op <;> first | rfl | simp [isPureA] at h

theorem qval_pureA (hty : TyOk Pr cx.ty) (h : Rel (isVar cx f) w0 E0 P R ea w S tmps) (ha : a.tmps = tmps) {o : Oper} (hp : isPureA o.op = true) {z : XU} {Su : SU}
    (hq : qval cx f call (V.erS S) o.type o.op = some (z, Su)) : QOkA cx f w0 E0 P R ea w tmps Pr a o z Su := by
  cases ho : o.op with
  | move x =>
    rw [ho] at hq
    simp only [qval] at hq
    cases hx : opv cx f (V.erS S) o.type x with
    | none => simp [hx] at hq
    | some y =>
      simp only [hx, Option.map_some, Option.some.injEq, Prod.mk.injEq] at hq
      obtain ⟨rfl, rfl⟩ := hq
      exact move_okA h ha ho hx
  | fieldAddr e x i => rw [ho] at hq; exact fieldAddr_okA hty h ha ho hq
  | indexAddr e x i => rw [ho] at hq; exact indexAddr_okA hty h ha ho hq
  | nilCheck x => rw [ho] at hq; exact nilCheck_okA h ha ho hq
  | _ => rw [ho] at hp; simp [isPureA] at hp

theorem isPure_quiet {op : Op} (h : isPure op = true) : isActive cx op = false := by
  cases op with
  | call c =>
    obtain ⟨callee, args, argTypes⟩ := c
    cases callee with
    | builtin b => cases b <;> first | rfl | simp [isPure] at h
    | _ => simp [isPure] at h
  | _ => first | rfl | simp [isPure] at h

def PureOk (cx : Ctx) (f : Nat) (w0 : World) (E0 : Nat → Prop) (P : Nat → Nat → Prop) (R : Nat → Prop) (ea : List EA) (n : Nat) : Prop :=
  ∀ (ops : Array Oper) (o : Oper) (Su Su' : SU) (a : Act) (w : World), At cx f w0 E0 P R ea n Su a w → isPure o.op = true → (∀ d, o.dst = some d → d < n) → stepOp cx f noCall Su ops o = some Su' → ∃ v, At cx f w0 E0 P R ea n Su' (a.put o.dst v) w

theorem pure_step (hty : TyOk Pr cx.ty) {n : Nat} : PureOk cx f w0 E0 P R ea n := by
  intro ops o Su Su' a w hat hp hdst hq
  obtain ⟨S, hr, rfl, hd, hsz⟩ := hat
  cases hw : wantedV (V.erS S) ops o with
  | none => simp [stepOp, hw] at hq
  | some b =>
    cases b with
    | false =>
      simp only [stepOp, hw] at hq
      have hn : New (isVar cx f) w0 E0 P R ea w S (.tup []) := New.plain (by simp [okX, okXs]) (by simp [blkX, blkXs]) (by simp [refsX, refsXs])
      exact ⟨_, putQ_ok (xG := .tup []) hr hn (by simp [erX, mapX, mapXs]) rfl hd hsz hdst hq⟩
    | true =>
      rw [stepOp_quiet (isPure_quiet hp) hw] at hq
      cases hv : qval cx f noCall (V.erS S) o.type o.op with
      | none => simp [hv] at hq
      | some r =>
        obtain ⟨z, Sz⟩ := r
        simp only [hv, Option.bind_some] at hq
        obtain ⟨S', xG, hres, _⟩ := qval_pure (Pr := Pr) hty hr rfl hp hv
        exact ⟨_, putQ_ok hres.rel hres.new hres.er hres.erS hd hsz hdst hq⟩

theorem pureA_step (hty : TyOk Pr cx.ty) {n : Nat} {ops : Array Oper} {o : Oper} {Su Su' : SU} (hat : At cx f w0 E0 P R ea n Su a w) (hp : isPureA o.op = true) (hg : o.guard = none) (hdst : ∀ d, o.dst = some d → d < n) (hq : stepOp cx f call Su ops o = some Su') :
    ∃ v, At cx f w0 E0 P R ea n Su' (a.put o.dst v) w ∧ ∀ w', (execOp a.eval o).run Pr w' = .ok (.value v) w' := by
  obtain ⟨S, hr, rfl, hd, hsz⟩ := hat
  rw [stepOp_quiet (isPure_quiet (isPureA_pure hp)) (by simp only [wantedV, hg])] at hq
  cases hv : qval cx f call (V.erS S) o.type o.op with
  | none => simp [hv] at hq
  | some r =>
    obtain ⟨z, Sz⟩ := r
    simp only [hv, Option.bind_some] at hq
    obtain ⟨S', xG, hres, hrun⟩ := qval_pureA (Pr := Pr) hty hr rfl hp hv
    exact ⟨_, putQ_ok hres.rel hres.new hres.er hres.erS hd hsz hdst hq, hrun⟩

theorem stepOp_pure {call : Callee} {Su : SU} {ops : Array Oper} {o : Oper} (hp : isPure o.op = true) : stepOp cx f call Su ops o = stepOp cx f noCall Su ops o := by
  cases hw : wantedV Su ops o with
  | none => simp only [stepOp, hw]
  | some b =>
    cases b with
    | false => simp only [stepOp, hw]
    | true =>
      rw [stepOp_quiet (isPure_quiet hp) hw, stepOp_quiet (isPure_quiet hp) hw]
      congr 1
      cases ho : o.op with
      | call c =>
        rw [ho] at hp
        obtain ⟨callee, args, argTypes⟩ := c
        cases callee with
        | builtin b =>
          cases b with
          | len =>
            simp only [qval]
            unfold qcall
            split <;> first | rfl | simp_all
          | _ => simp [isPure] at hp
        | _ => simp [isPure] at hp
      | _ => first | rfl | (rw [ho] at hp; simp [isPure] at hp)
end
end Go.Proofs.YtlkjnlfddadlmaaDoor.V

namespace Go.Proofs.YtlkjnlfddadlmaaDoor.V
open Go.RowKit

section
variable {cx : Ctx} {f : Nat} {isv : Nat → Bool} {w0 : World} {E0 : Nat → Prop} {P : Nat → Nat → Prop} {R R' : Nat → Prop} {ea : List EA} {w w' : World} {S : SV} {tmps : Array Value} {Pr : Program} {a : Act} {call : Callee}

mutual
theorem killC_val (r : Root) (q : List Nat) : ∀ c : CV, valC (killC r q c) = valC c
  | .t x => rfl
  | .ptr v r' p off => by simp only [killC]; split <;> rfl
  | .bor v r' p i off sz n => by simp only [killC]; split <;> rfl
  | .rptr v cs => rfl
  | .nilp => rfl
  | .nilf => rfl
  | .fn g caps => by simp only [killC, valC, killCs_val r q caps]
  | .lst v sz n cs => rfl
theorem killCs_val (r : Root) (q : List Nat) : ∀ cs : List CV, valCs (killCs r q cs) = valCs cs
  | [] => rfl
  | c :: cs => by simp only [killCs, valCs, killC_val r q c, killCs_val r q cs]
end

mutual
theorem killX_val (r : Root) (q : List Nat) : ∀ x : XV, valX (killX r q x) = valX x
  | .c x => by simp only [killX, valX, killC_val]
  | .agg cs => by simp only [killX, valX, killCs_val]
  | .box v cs => rfl
  | .tup xs => by simp only [killX, valX, killXs_val r q xs]
  | .undef => rfl
theorem killXs_val (r : Root) (q : List Nat) : ∀ xs : List XV, valXs (killXs r q xs) = valXs xs
  | [] => rfl
  | x :: xs => by simp only [killXs, valXs, killX_val r q x, killXs_val r q xs]
end

mutual
theorem killC_blk (r : Root) (q : List Nat) : ∀ c : CV, blkC (killC r q c) = blkC c
  | .t x => rfl
  | .ptr v r' p off => by simp only [killC]; split <;> simp [blkC, blkT]
  | .bor v r' p i off sz n => by simp only [killC]; split <;> simp [blkC, blkT]
  | .rptr v cs => rfl
  | .nilp => rfl
  | .nilf => rfl
  | .fn g caps => rfl
  | .lst v sz n cs => by simp only [killC, blkC, killCs_blk r q cs]
theorem killCs_blk (r : Root) (q : List Nat) : ∀ cs : List CV, blkCs (killCs r q cs) = blkCs cs
  | [] => rfl
  | c :: cs => by simp only [killCs, blkCs, killC_blk r q c, killCs_blk r q cs]
end

mutual
theorem killX_blk (r : Root) (q : List Nat) : ∀ x : XV, blkX (killX r q x) = blkX x
  | .c x => by simp only [killX, blkX, killC_blk]
  | .agg cs => by simp only [killX, blkX, killCs_blk]
  | .box v cs => by simp only [killX, blkX, killCs_blk]
  | .tup xs => by simp only [killX, blkX, killXs_blk r q xs]
  | .undef => rfl
theorem killXs_blk (r : Root) (q : List Nat) : ∀ xs : List XV, blkXs (killXs r q xs) = blkXs xs
  | [] => rfl
  | x :: xs => by simp only [killXs, blkXs, killX_blk r q x, killXs_blk r q xs]
end

mutual
theorem killC_refs (r : Root) (q : List Nat) : ∀ c : CV, ∀ k ∈ refsC (killC r q c), k ∈ refsC c
  | .t x, k, hk => hk
  | .ptr v r' p off, k, hk => by
    simp only [killC] at hk
    split at hk
    · simp [refsC] at hk
    · exact hk
  | .bor v r' p i off sz n, k, hk => by
    simp only [killC] at hk
    split at hk
    · simp [refsC] at hk
    · exact hk
  | .rptr v cs, k, hk => hk
  | .nilp, k, hk => hk
  | .nilf, k, hk => hk
  | .fn g caps, k, hk => by simp only [killC, refsC] at hk ⊢; exact killCs_refs r q caps k hk
  | .lst v sz n cs, k, hk => by simp only [killC, refsC] at hk ⊢; exact killCs_refs r q cs k hk
theorem killCs_refs (r : Root) (q : List Nat) : ∀ cs : List CV, ∀ k ∈ refsCs (killCs r q cs), k ∈ refsCs cs
  | [], k, hk => hk
  | c :: cs, k, hk => by
    simp only [killCs, refsCs, List.mem_append] at hk ⊢
    exact hk.imp (killC_refs r q c k) (killCs_refs r q cs k)
end

mutual
theorem killX_refs (r : Root) (q : List Nat) : ∀ x : XV, ∀ k ∈ refsX (killX r q x), k ∈ refsX x
  | .c x, k, hk => by simp only [killX, refsX] at hk ⊢; exact killC_refs r q x k hk
  | .agg cs, k, hk => by simp only [killX, refsX] at hk ⊢; exact killCs_refs r q cs k hk
  | .box v cs, k, hk => by simp only [killX, refsX] at hk ⊢; exact killCs_refs r q cs k hk
  | .tup xs, k, hk => by simp only [killX, refsX] at hk ⊢; exact killXs_refs r q xs k hk
  | .undef, k, hk => hk
theorem killXs_refs (r : Root) (q : List Nat) : ∀ xs : List XV, ∀ k ∈ refsXs (killXs r q xs), k ∈ refsXs xs
  | [], k, hk => hk
  | x :: xs, k, hk => by
    simp only [killXs, refsXs, List.mem_append] at hk ⊢
    exact hk.imp (killX_refs r q x k) (killXs_refs r q xs k)
end

theorem flatX_kill (r : Root) (q : List Nat) : ∀ xs : List XV, flatX (xs.map (killX r q)) = (flatX xs).map (killC r q)
  | [] => rfl
  | x :: xs => by
    cases x <;> simp [killX, flatX, flatX_kill r q xs, killCs_eq]

theorem rootCells_kill (r : Root) (q : List Nat) (k : Root) : rootCells (kill r q S) k = (rootCells S k).map (·.map (killC r q)) := by
  cases k with
  | sl d =>
    simp only [rootCells, kill]
    cases S.s d <;> simp [killX, killCs_eq, killXs_eq, flatX_kill]
  | ex j =>
    simp only [rootCells, kill, List.getElem?_map]
    cases S.e[j]? <;> simp [killCs_eq]

theorem subC_kill (r : Root) (q : List Nat) (cs : List CV) (p : List Nat) : subC (cs.map (killC r q)) p = (subC cs p).map (·.map (killC r q)) := by
  cases p with
  | nil => simp [subC]
  | cons i p =>
    simp only [subC, List.getElem?_map]
    cases hc : cs[i]? with
    | none => simp
    | some c =>
      cases c with
      | t x =>
        cases x with
        | sl v tag sz n ds =>
          cases tag with
          | zero =>
            simp only [Option.map_some, killC]
            cases sub ds p with
            | none => simp
            | some es => simp only [Option.map_some, List.map_map]; congr 1
          | succ m => simp [killC]
        | _ => simp [killC]
      | ptr v r' p' off => by_cases hx : r = r' ∧ pre q p' = true <;> simp [killC, hx]
      | bor v r' p' i' off sz n => by_cases hx : r = r' ∧ pre q (p' ++ [i']) = true <;> simp [killC, hx]
      | _ => simp [killC]

theorem at_kill (r : Root) (q : List Nat) (k : Root) (p : List Nat) (i : Nat) : at_ (kill r q S) k p i = (at_ S k p i).map (killC r q) := by
  simp only [at_, rootCells_kill]
  cases rootCells S k with
  | none => simp
  | some cs =>
    simp only [Option.map_some, Option.bind_some, subC_kill]
    cases subC cs p with
    | none => simp
    | some ds => simp

theorem rootAd_kill (r : Root) (q : List Nat) (k : Root) : rootAd (kill r q S) ea k = rootAd S ea k := by
  cases k with
  | sl d =>
    simp only [rootAd, kill]
    cases S.s d with
    | box v cs => cases v with
      | pointer p => cases p <;> rfl
      | _ => rfl
    | _ => simp [killX]
  | ex j => rfl

theorem hdrAt_kill (r : Root) (q : List Nat) (k : Root) (p : List Nat) (i : Nat) : hdrAt (kill r q S) k p i = hdrAt S k p i := by
  simp only [hdrAt, at_kill]
  cases at_ S k p i with
  | none => simp
  | some c =>
    cases c with
    | t x => simp [killC]
    | ptr v r' p' off => by_cases hx : r = r' ∧ pre q p' = true <;> simp [killC, hx]
    | bor v r' p' i' off sz n => by_cases hx : r = r' ∧ pre q (p' ++ [i']) = true <;> simp [killC, hx]
    | _ => simp [killC]

theorem placeAd_kill (r : Root) (q : List Nat) (k : Root) (p : List Nat) : placeAd (kill r q S) ea k p = placeAd S ea k p := by
  simp only [placeAd, rootAd_kill, hdrAt_kill]

theorem BorOk.kill {r : Root} {q : List Nat} {k : Root} {p : List Nat} {i off sz n : Nat} {v : Value} (h : BorOk S k p i off sz n v) : BorOk (kill r q S) k p i off sz n v := by
  obtain ⟨b, m, ds, hat, hrest⟩ := h
  exact ⟨b, m, ds, by rw [at_kill, hat]; rfl, hrest⟩

theorem PtrOk.slice {k : Root} {p : List Nat} {off : Nat} {v : Value} (h : PtrOk S ea k p off v) : ∃ p, v = .pointer p := by
  obtain ⟨ad, _, rfl⟩ := h; exact ⟨_, rfl⟩
theorem BorOk.slice {k : Root} {p : List Nat} {i off sz n : Nat} {v : Value} (h : BorOk S k p i off sz n v) : ∃ A m c, v = .slice A m c := by
  obtain ⟨b, m, ds, _, _, h⟩ := h
  rcases h with ⟨_, rfl, _⟩ | ⟨_, _, _, _, _, rfl, _⟩ <;> exact ⟨_, _, _, rfl⟩

mutual
theorem okC_kill (r : Root) (q : List Nat) : ∀ {c : CV}, okC w P R S ea c → okC w P R (kill r q S) ea (killC r q c)
  | .t x, h => by simpa [killC, okC] using h
  | .ptr v r' p off, h => by
    simp only [killC]
    simp only [okC] at h
    split
    · simp only [okC, okT]; exact .inr h.slice
    · simp only [okC, PtrOk, placeAd_kill]; exact h
  | .bor v r' p i off sz n, h => by
    simp only [killC]
    simp only [okC] at h
    split
    · simp only [okC, okT]; exact .inl h.slice
    · simp only [okC]; exact h.kill
  | .rptr v cs, h => by simpa [killC, okC] using h
  | .nilp, _ => by simp [killC, okC]
  | .nilf, _ => by simp [killC, okC]
  | .fn g caps, h => by
    simp only [killC, okC] at h ⊢
    exact ⟨okCs_kill r q h.1, by rw [killCs_blk]; exact h.2⟩
  | .lst v sz n cs, h => by
    simp only [killC, okC] at h ⊢
    exact ⟨by rw [killCs_eq, List.length_map]; exact h.1, okCs_kill r q h.2.1, by rw [killCs_val]; exact h.2.2⟩
theorem okCs_kill (r : Root) (q : List Nat) : ∀ {cs : List CV}, okCs w P R S ea cs → okCs w P R (kill r q S) ea (killCs r q cs)
  | [], _ => by simp [killCs, okCs]
  | c :: cs, h => by simp only [killCs, okCs] at h ⊢; exact ⟨okC_kill r q h.1, okCs_kill r q h.2⟩
end

theorem BoxAt.kill {r : Root} {q : List Nat} {ad : Addr} {cs : List CV} (h : BoxAt w ad cs) : BoxAt w ad (killCs r q cs) := by
  obtain ⟨h1, h2, cur, e, h3, h4⟩ := h
  exact ⟨h1, h2, cur, e, h3, by rw [killCs_val]; exact h4⟩

mutual
theorem okX_kill (r : Root) (q : List Nat) : ∀ {x : XV}, okX w P R S ea x → okX w P R (kill r q S) ea (killX r q x)
  | .c x, h => by simp only [killX, okX] at h ⊢; exact okC_kill r q h
  | .agg cs, h => by simp only [killX, okX] at h ⊢; exact okCs_kill r q h
  | .box v cs, h => by
    simp only [killX, okX] at h ⊢
    obtain ⟨h1, ad, h2, h3⟩ := h
    exact ⟨okCs_kill r q h1, ad, h2, h3.kill⟩
  | .tup xs, h => by simp only [killX, okX] at h ⊢; exact okXs_kill r q h
  | .undef, _ => by simp [killX, okX]
theorem okXs_kill (r : Root) (q : List Nat) : ∀ {xs : List XV}, okXs w P R S ea xs → okXs w P R (kill r q S) ea (killXs r q xs)
  | [], _ => by simp [killXs, okXs]
  | x :: xs, h => by simp only [killXs, okXs] at h ⊢; exact ⟨okX_kill r q h.1, okXs_kill r q h.2⟩
end

theorem blkR_kill (r : Root) (q : List Nat) (k : Root) : blkR (kill r q S) ea k = blkR S ea k := by
  cases k with
  | sl d => simp only [blkR, kill, killX_blk]
  | ex j =>
    simp only [blkR, kill, List.getElem?_map]
    cases S.e[j]? <;> simp [killCs_blk]

theorem Rel.kill (h : Rel isv w0 E0 P R ea w S tmps) (r : Root) (q : List Nat) : Rel isv w0 E0 P R ea w (kill r q S) tmps where
  val d hd := by
    rcases h.val d hd with e | e
    · left; simp [V.kill, e, killX]
    · right; simp only [V.kill, killX_val]; exact e
  hi d hd := by simp [V.kill, h.hi d hd, killX]
  okS d := okX_kill r q (h.okS d)
  okE j cs hj := by
    simp only [V.kill, List.getElem?_map] at hj
    cases hc : S.e[j]? with
    | none => simp [hc] at hj
    | some ds =>
      simp only [hc, Option.map_some, Option.some.injEq] at hj
      subst hj
      exact ⟨okCs_kill r q (h.okE j ds hc).1, fun ad had => ((h.okE j ds hc).2 ad had).kill⟩
  eaL := by simp only [V.kill, List.length_map]; exact h.eaL
  row j vs cs hea hj := by
    simp only [V.kill, List.getElem?_map] at hj
    cases hc : S.e[j]? with
    | none => simp [hc] at hj
    | some ds =>
      simp only [hc, Option.map_some, Option.some.injEq] at hj
      subst hj
      rw [killCs_val]; exact h.row j vs ds hea hc
  refS d d' hd := h.refS d d' (killX_refs r q _ _ hd)
  refE j cs d' hj hd := by
    simp only [V.kill, List.getElem?_map] at hj
    cases hc : S.e[j]? with
    | none => simp [hc] at hj
    | some ds =>
      simp only [hc, Option.map_some, Option.some.injEq] at hj
      subst hj
      exact h.refE j ds d' hc (killCs_refs r q _ _ hd)
  dis k k' b hb hb' := h.dis k k' b (by rwa [blkR_kill] at hb) (by rwa [blkR_kill] at hb')
  nd k := by rw [blkR_kill]; exact h.nd k
  lt k b hb := h.lt k b (by rwa [blkR_kill] at hb)
  own k b hb := h.own k b (by rwa [blkR_kill] at hb)
  notR k b hb := h.notR k b (by rwa [blkR_kill] at hb)
  PR := h.PR
  ltR := h.ltR
  frm := h.frm
end
end Go.Proofs.YtlkjnlfddadlmaaDoor.V

namespace Go.Proofs.YtlkjnlfddadlmaaDoor.V
open Go.RowKit

section
variable {cx : Ctx} {f : Nat} {isv : Nat → Bool} {w0 : World} {E0 : Nat → Prop} {P : Nat → Nat → Prop} {R R' : Nat → Prop} {ea : List EA} {w w' : World} {S : SV} {tmps : Array Value} {Pr : Program} {a : Act} {call : Callee}

def atT (cs : List TV) (p : List Nat) (i : Nat) : Option TV := (sub cs p).bind (·[i]?)

def ShT (x y : Option TV) : Prop := x = y ∨ ∃ b sz m ds es, x = some (.sl b 0 sz m ds) ∧ y = some (.sl b 0 sz m es) ∧ ds.length = es.length

theorem setT_length : ∀ {p : List Nat} {cs ds : List TV} {i : Nat} {y : TV}, setT cs p i y = some ds → ds.length = cs.length
  | [], cs, ds, i, y, h => by
    simp only [setT] at h
    split at h
    · simp only [Option.some.injEq] at h; subst h; simp
    · cases h
  | k :: p, cs, ds, i, y, h => by
    simp only [setT] at h
    split at h
    · cases hs : setT ‹_› p i y with
      | none => simp [hs] at h
      | some es => simp only [hs, Option.map_some, Option.some.injEq] at h; subst h; simp
    · cases h

theorem setT_at : ∀ {p : List Nat} {cs ds : List TV} {i : Nat} {y : TV}, setT cs p i y = some ds → ∀ (p' : List Nat) (i' : Nat), pre (p ++ [i]) (p' ++ [i']) = false → ShT (atT cs p' i') (atT ds p' i')
  | [], cs, ds, i, y, h, p', i', hp => by
    simp only [setT] at h
    split at h
    · simp only [Option.some.injEq] at h
      subst h
      left
      cases p' with
      | nil =>
        have : i ≠ i' := by intro e; subst e; simp [pre] at hp
        simp [atT, sub, List.getElem?_set_ne this]
      | cons j p'' =>
        have : i ≠ j := by intro e; subst e; simp [pre] at hp
        simp [atT, sub, List.getElem?_set_ne this]
    · cases h
  | k :: p, cs, ds, i, y, h, p', i', hp => by
    simp only [setT] at h
    split at h
    · rename_i v sz n es hk
      cases hs : setT es p i y with
      | none => simp [hs] at h
      | some fs =>
        simp only [hs, Option.map_some, Option.some.injEq] at h
        subst h
        have hlt : k < cs.length := (List.getElem?_eq_some_iff.1 hk).1
        cases p' with
        | nil =>
          by_cases e : k = i'
          · subst e
            right
            exact ⟨v, sz, n, es, fs, by simp [atT, sub, hk], by simp [atT, sub, hlt], (setT_length hs).symm⟩
          · left; simp [atT, sub, List.getElem?_set_ne e]
        | cons j p'' =>
          by_cases e : k = j
          · subst e
            have ih := setT_at hs p'' i' (by simpa [pre] using hp)
            have h1 : atT cs (k :: p'') i' = atT es p'' i' := by simp [atT, sub, hk]
            have h2 : atT (cs.set k (.sl v 0 sz n fs)) (k :: p'') i' = atT fs p'' i' := by simp [atT, sub, hlt]
            rw [h1, h2]; exact ih
          · left; simp [atT, sub, List.getElem?_set_ne e]
    · cases h

theorem perm_set {β : Type} (g : β → List Nat) : ∀ {cs : List β} {i : Nat} {x y : β}, cs[i]? = some x → (g x ++ (cs.set i y).flatMap g).Perm (g y ++ cs.flatMap g)
  | [], i, x, y, h => by simp at h
  | c :: cs, 0, x, y, h => by
    simp only [List.getElem?_cons_zero, Option.some.injEq] at h
    subst h
    simp only [List.set_cons_zero, List.flatMap_cons]
    rw [← List.append_assoc, ← List.append_assoc]
    exact List.Perm.append_right _ List.perm_append_comm
  | c :: cs, i + 1, x, y, h => by
    simp only [List.getElem?_cons_succ] at h
    have ih := perm_set g (y := y) h
    simp only [List.set_cons_succ, List.flatMap_cons]
    calc (g x ++ (g c ++ (cs.set i y).flatMap g)).Perm (g c ++ (g x ++ (cs.set i y).flatMap g)) := by
          rw [← List.append_assoc, ← List.append_assoc]; exact List.Perm.append_right _ List.perm_append_comm
      _ |>.Perm (g c ++ (g y ++ cs.flatMap g)) := List.Perm.append_left _ ih
      _ |>.Perm (g y ++ (g c ++ cs.flatMap g)) := by
          rw [← List.append_assoc, ← List.append_assoc]; exact List.Perm.append_right _ List.perm_append_comm

theorem setT_blk : ∀ {p : List Nat} {cs ds : List TV} {i : Nat} {x y : TV}, setT cs p i y = some ds → atT cs p i = some x → (blkT x ++ blkTs ds).Perm (blkT y ++ blkTs cs)
  | [], cs, ds, i, x, y, h, hx => by
    simp only [setT] at h
    split at h
    · simp only [Option.some.injEq] at h
      subst h
      rw [blkTs_eq, blkTs_eq]
      exact perm_set blkT (by simpa [atT, sub] using hx)
    · cases h
  | k :: p, cs, ds, i, x, y, h, hx => by
    simp only [setT] at h
    split at h
    · rename_i v sz n es hk
      cases hs : setT es p i y with
      | none => simp [hs] at h
      | some fs =>
        simp only [hs, Option.map_some, Option.some.injEq] at h
        subst h
        have ih := setT_blk hs (x := x) (by simpa [atT, sub, hk] using hx)
        have h1 := perm_set blkT (y := T.sl v 0 sz n fs) hk
        simp only [← blkTs_eq] at h1
        simp only [blkT, if_true] at h1
        -- hdr v ++ blkTs es ++ X ~ hdr v ++ blkTs fs ++ blkTs cs
        have h2 : (blkTs es ++ blkTs (cs.set k (.sl v 0 sz n fs))).Perm (blkTs fs ++ blkTs cs) := by
          rw [List.append_assoc, List.append_assoc] at h1
          exact (List.perm_append_left_iff _).1 h1
        have h3 : (blkTs es ++ (blkT x ++ blkTs (cs.set k (.sl v 0 sz n fs)))).Perm (blkTs es ++ (blkT y ++ blkTs cs)) := by
          have e1 : (blkTs es ++ (blkT x ++ blkTs (cs.set k (.sl v 0 sz n fs)))).Perm (blkT x ++ (blkTs es ++ blkTs (cs.set k (.sl v 0 sz n fs)))) := by
            rw [← List.append_assoc, ← List.append_assoc]; exact List.Perm.append_right _ List.perm_append_comm
          have e2 : (blkT x ++ (blkTs es ++ blkTs (cs.set k (.sl v 0 sz n fs)))).Perm (blkT x ++ (blkTs fs ++ blkTs cs)) := List.Perm.append_left _ h2
          have e3 : (blkT x ++ (blkTs fs ++ blkTs cs)).Perm ((blkT y ++ blkTs es) ++ blkTs cs) := by
            rw [← List.append_assoc]; exact List.Perm.append_right _ ih
          have e4 : ((blkT y ++ blkTs es) ++ blkTs cs).Perm (blkTs es ++ (blkT y ++ blkTs cs)) := by
            rw [← List.append_assoc]; exact List.Perm.append_right _ List.perm_append_comm
          exact ((e1.trans e2).trans e3).trans e4
        exact (List.perm_append_left_iff _).1 h3
    · cases h

theorem setT_ok : ∀ {p : List Nat} {cs ds : List TV} {i : Nat} {x y : TV}, setT cs p i y = some ds → atT cs p i = some x → valT y = valT x → okT w P R y → okTs w P R cs → okTs w P R ds ∧ ds.map valT = cs.map valT
  | [], cs, ds, i, x, y, h, hx, hv, hy, hok => by
    simp only [setT] at h
    split at h
    · simp only [Option.some.injEq] at h
      subst h
      simp only [atT, sub, Option.bind_some] at hx
      refine ⟨okTs_iff.2 fun z hz => ?_, ?_⟩
      · rcases List.mem_or_eq_of_mem_set hz with hz | rfl
        · exact okTs_iff.1 hok z hz
        · exact hy
      · rw [List.map_set, hv]
        apply List.ext_getElem?
        intro j
        by_cases e : i = j
        · subst e
          rw [List.getElem?_set_self' , List.getElem?_map, hx]
          simp
        · rw [List.getElem?_set_ne e]
    · cases h
  | k :: p, cs, ds, i, x, y, h, hx, hv, hy, hok => by
    simp only [setT] at h
    split at h
    · rename_i v sz n es hk
      cases hs : setT es p i y with
      | none => simp [hs] at h
      | some fs =>
        simp only [hs, Option.map_some, Option.some.injEq] at h
        subst h
        have hl := okTs_iff.1 hok _ (List.mem_of_getElem? hk)
        simp only [okT, if_true] at hl
        obtain ⟨i1, i2⟩ := setT_ok hs (x := x) (by simpa [atT, sub, hk] using hx) hv hy hl.2.1
        have hnew : okT w P R (.sl v 0 sz n fs) := by
          simp only [okT, if_true]
          exact ⟨by rw [setT_length hs]; exact hl.1, i1, by rw [i2]; exact hl.2.2⟩
        refine ⟨okTs_iff.2 fun z hz => ?_, ?_⟩
        · rcases List.mem_or_eq_of_mem_set hz with hz | rfl
          · exact okTs_iff.1 hok z hz
          · exact hnew
        · rw [List.map_set]
          apply List.ext_getElem?
          intro j
          by_cases e : k = j
          · subst e
            rw [List.getElem?_set_self', List.getElem?_map, hk]
            simp [valT]
          · rw [List.getElem?_set_ne e]
    · cases h
end
end Go.Proofs.YtlkjnlfddadlmaaDoor.V

namespace Go.Proofs.YtlkjnlfddadlmaaDoor.V
open Go.RowKit

section
variable {cx : Ctx} {f : Nat} {isv : Nat → Bool} {w0 : World} {E0 : Nat → Prop} {P : Nat → Nat → Prop} {R R' : Nat → Prop} {ea : List EA} {w w' : World} {S S' : SV} {tmps : Array Value} {Pr : Program} {a : Act} {call : Callee}

def atC (cs : List CV) (p : List Nat) (i : Nat) : Option CV := (subC cs p).bind (·[i]?)

def ShC (x y : Option CV) : Prop := x = y ∨ ∃ b sz m ds es, x = some (.t (.sl b 0 sz m ds)) ∧ y = some (.t (.sl b 0 sz m es)) ∧ ds.length = es.length

theorem atC_cons {cs : List CV} {k i : Nat} {p : List Nat} {v : Value} {sz n : Nat} {es : List TV} (hk : cs[k]? = some (.t (.sl v 0 sz n es))) : atC cs (k :: p) i = (atT es p i).map .t := by
  simp only [atC, subC, hk, atT]
  cases sub es p with
  | none => simp
  | some fs => simp

theorem setC_cases {cs ds : List CV} {p : List Nat} {off : Nat} {y : CV} (h : setC cs p off y = some ds) :
    (p = [] ∧ off < cs.length ∧ ds = cs.set off y) ∨ ∃ k q y' v sz n es fs, p = k :: q ∧ y = .t y' ∧ cs[k]? = some (.t (.sl v 0 sz n es)) ∧ setT es q off y' = some fs ∧ ds = cs.set k (.t (.sl v 0 sz n fs)) := by
  cases p with
  | nil =>
    simp only [setC] at h
    split at h
    · rename_i hl
      simp only [Option.some.injEq] at h
      exact .inl ⟨rfl, hl, h.symm⟩
    · cases h
  | cons k q =>
    cases y with
    | t y' =>
      simp only [setC] at h
      split at h
      · rename_i v sz n es hk
        cases hs : setT es q off y' with
        | none => simp [hs] at h
        | some fs =>
          simp only [hs, Option.map_some, Option.some.injEq] at h
          exact .inr ⟨k, q, y', v, sz, n, es, fs, rfl, rfl, hk, hs, h.symm⟩
      · cases h
    | _ => simp [setC] at h

theorem setC_length {cs ds : List CV} {p : List Nat} {off : Nat} {y : CV} (h : setC cs p off y = some ds) : ds.length = cs.length := by
  rcases setC_cases h with ⟨_, _, rfl⟩ | ⟨_, _, _, _, _, _, _, _, _, _, _, _, rfl⟩ <;> simp

theorem setC_at {cs ds : List CV} {p : List Nat} {off : Nat} {y : CV} (h : setC cs p off y = some ds) (p' : List Nat) (i' : Nat) (hp : pre (p ++ [off]) (p' ++ [i']) = false) : ShC (atC cs p' i') (atC ds p' i') := by
  rcases setC_cases h with ⟨rfl, _, rfl⟩ | ⟨k, q, y', v, sz, n, es, fs, rfl, rfl, hk, hs, rfl⟩
  · left
    cases p' with
    | nil =>
      have : off ≠ i' := by intro e; subst e; simp [pre] at hp
      simp [atC, subC, List.getElem?_set_ne this]
    | cons j p'' =>
      have : off ≠ j := by intro e; subst e; simp [pre] at hp
      simp [atC, subC, List.getElem?_set_ne this]
  · have hlt : k < cs.length := (List.getElem?_eq_some_iff.1 hk).1
    cases p' with
    | nil =>
      by_cases e : k = i'
      · subst e
        right
        exact ⟨v, sz, n, es, fs, by simp [atC, subC, hk], by simp [atC, subC, hlt], (setT_length hs).symm⟩
      · left; simp [atC, subC, List.getElem?_set_ne e]
    | cons j p'' =>
      by_cases e : k = j
      · subst e
        have ih := setT_at hs p'' i' (by simpa [pre] using hp)
        rw [atC_cons hk, atC_cons (show (cs.set k (.t (.sl v 0 sz n fs)))[k]? = some (.t (.sl v 0 sz n fs)) by simp [hlt])]
        rcases ih with ih | ⟨b, sz', m, xs, ys, e1, e2, e3⟩
        · left; rw [ih]
        · right; exact ⟨b, sz', m, xs, ys, by rw [e1]; rfl, by rw [e2]; rfl, e3⟩
      · left; simp [atC, subC, List.getElem?_set_ne e]

theorem setC_blk {cs ds : List CV} {p : List Nat} {off : Nat} {x y : CV} (h : setC cs p off y = some ds) (hx : atC cs p off = some x) : (blkC x ++ blkCs ds).Perm (blkC y ++ blkCs cs) := by
  rcases setC_cases h with ⟨rfl, _, rfl⟩ | ⟨k, q, y', v, sz, n, es, fs, rfl, rfl, hk, hs, rfl⟩
  · rw [blkCs_eq, blkCs_eq]
    exact perm_set blkC (by simpa [atC, subC] using hx)
  · rw [atC_cons hk] at hx
    cases ha : atT es q off with
    | none => simp [ha] at hx
    | some x' =>
      simp only [ha, Option.map_some, Option.some.injEq] at hx
      subst hx
      have ih := setT_blk hs ha
      have h1 := perm_set blkC (y := C.t (.sl v 0 sz n fs)) hk
      simp only [← blkCs_eq] at h1
      simp only [blkC, blkT, if_true] at h1 ⊢
      have h2 : (blkTs es ++ blkCs (cs.set k (.t (.sl v 0 sz n fs)))).Perm (blkTs fs ++ blkCs cs) := by
        rw [List.append_assoc, List.append_assoc] at h1
        exact (List.perm_append_left_iff _).1 h1
      have h3 : (blkTs es ++ (blkT x' ++ blkCs (cs.set k (.t (.sl v 0 sz n fs))))).Perm (blkTs es ++ (blkT y' ++ blkCs cs)) := by
        have e1 : (blkTs es ++ (blkT x' ++ blkCs (cs.set k (.t (.sl v 0 sz n fs))))).Perm (blkT x' ++ (blkTs es ++ blkCs (cs.set k (.t (.sl v 0 sz n fs))))) := by
          rw [← List.append_assoc, ← List.append_assoc]; exact List.Perm.append_right _ List.perm_append_comm
        have e2 : (blkT x' ++ (blkTs es ++ blkCs (cs.set k (.t (.sl v 0 sz n fs))))).Perm (blkT x' ++ (blkTs fs ++ blkCs cs)) := List.Perm.append_left _ h2
        have e3 : (blkT x' ++ (blkTs fs ++ blkCs cs)).Perm ((blkT y' ++ blkTs es) ++ blkCs cs) := by
          rw [← List.append_assoc]; exact List.Perm.append_right _ ih
        have e4 : ((blkT y' ++ blkTs es) ++ blkCs cs).Perm (blkTs es ++ (blkT y' ++ blkCs cs)) := by
          rw [← List.append_assoc]; exact List.Perm.append_right _ List.perm_append_comm
        exact ((e1.trans e2).trans e3).trans e4
      exact (List.perm_append_left_iff _).1 h3

theorem setC_val {cs ds : List CV} {p : List Nat} {off : Nat} {x y : CV} (h : setC cs p off y = some ds) (hx : atC cs p off = some x) (hv : valC y = valC x) : valCs ds = valCs cs := by
  rw [valCs_eq, valCs_eq]
  rcases setC_cases h with ⟨rfl, _, rfl⟩ | ⟨k, q, y', v, sz, n, es, fs, rfl, rfl, hk, hs, rfl⟩
  · simp only [atC, subC, Option.bind_some] at hx
    rw [List.map_set, hv]
    apply List.ext_getElem?
    intro j
    by_cases e : off = j
    · subst e
      rw [List.getElem?_set_self', List.getElem?_map, hx]
      simp
    · rw [List.getElem?_set_ne e]
  · rw [List.map_set]
    apply List.ext_getElem?
    intro j
    by_cases e : k = j
    · subst e
      rw [List.getElem?_set_self', List.getElem?_map, hk]
      simp [valC, valT]
    · rw [List.getElem?_set_ne e]

theorem setC_mem {cs ds : List CV} {p : List Nat} {off : Nat} {x : CV} {y : TV} (h : setC cs p off (.t y) = some ds) (hx : atC cs p off = some x) (hv : valT y = valC x) (hy : okT w P R y) (hok : okCs w P R S ea cs) :
    ∀ c ∈ ds, c ∈ cs ∨ ∃ t, c = .t t ∧ okT w P R t := by
  rcases setC_cases h with ⟨rfl, _, rfl⟩ | ⟨k, q, y', v, sz, n, es, fs, rfl, hy', hk, hs, rfl⟩
  · intro c hc
    rcases List.mem_or_eq_of_mem_set hc with hc | rfl
    · exact .inl hc
    · exact .inr ⟨y, rfl, hy⟩
  · cases hy'
    intro c hc
    rcases List.mem_or_eq_of_mem_set hc with hc | rfl
    · exact .inl hc
    · refine .inr ⟨_, rfl, ?_⟩
      have hl := okCs_iff.1 hok _ (List.mem_of_getElem? hk)
      simp only [okC, okT, if_true] at hl
      rw [atC_cons hk] at hx
      cases ha : atT es q off with
      | none => simp [ha] at hx
      | some x' =>
        simp only [ha, Option.map_some, Option.some.injEq] at hx
        subst hx
        obtain ⟨i1, i2⟩ := setT_ok hs ha hv hy hl.2.1
        simp only [okT, if_true]
        exact ⟨by rw [setT_length hs]; exact hl.1, i1, by rw [i2]; exact hl.2.2⟩

theorem setC_refs {cs ds : List CV} {p : List Nat} {off : Nat} {y : CV} (h : setC cs p off y = some ds) : ∀ k ∈ refsCs ds, k ∈ refsCs cs ∨ k ∈ refsC y := by
  intro k hk
  rw [refsCs_eq, List.mem_flatMap] at hk
  obtain ⟨c, hc, hk⟩ := hk
  rcases setC_cases h with ⟨rfl, _, rfl⟩ | ⟨j, q, y', v, sz, n, es, fs, rfl, rfl, hj, hs, rfl⟩
  · rcases List.mem_or_eq_of_mem_set hc with hc | rfl
    · exact .inl (by rw [refsCs_eq, List.mem_flatMap]; exact ⟨c, hc, hk⟩)
    · exact .inr hk
  · rcases List.mem_or_eq_of_mem_set hc with hc | rfl
    · exact .inl (by rw [refsCs_eq, List.mem_flatMap]; exact ⟨c, hc, hk⟩)
    · simp [refsC] at hk

def othX : List XV → List Nat
  | [] => []
  | .c _ :: xs => othX xs
  | .agg _ :: xs => othX xs
  | x :: xs => blkX x ++ othX xs

theorem split_flat : ∀ {xs : List XV} {cs : List CV}, cs.length = (flatX xs).length → flatX (splitX xs cs) = cs
  | [], cs, h => by simp only [flatX, List.length_nil] at h; simp [splitX, flatX, List.length_eq_zero_iff.1 h]
  | .c x :: xs, [], h => by simp [flatX] at h
  | .c x :: xs, c :: cs, h => by
    simp only [flatX, List.length_cons, Nat.add_right_cancel_iff] at h
    simp [splitX, flatX, split_flat h]
  | .agg ds :: xs, cs, h => by
    simp only [flatX, List.length_append] at h
    simp only [splitX, flatX]
    rw [split_flat (by rw [List.length_drop]; omega), List.take_append_drop]
  | .box v ds :: xs, cs, h => by simp only [flatX] at h; simp [splitX, flatX, split_flat h]
  | .tup ys :: xs, cs, h => by simp only [flatX] at h; simp [splitX, flatX, split_flat h]
  | .undef :: xs, cs, h => by simp only [flatX] at h; simp [splitX, flatX, split_flat h]

theorem split_oth : ∀ (xs : List XV) (cs : List CV), othX (splitX xs cs) = othX xs
  | [], cs => by simp [splitX]
  | .c x :: xs, cs => by simp [splitX, othX, split_oth xs]
  | .agg ds :: xs, cs => by simp [splitX, othX, split_oth xs]
  | .box v ds :: xs, cs => by simp [splitX, othX, split_oth xs]
  | .tup ys :: xs, cs => by simp [splitX, othX, split_oth xs]
  | .undef :: xs, cs => by simp [splitX, othX, split_oth xs]

theorem blk_flat : ∀ xs : List XV, (blkXs xs).Perm (blkCs (flatX xs) ++ othX xs)
  | [] => by simp [blkXs, flatX, blkCs, othX]
  | .c x :: xs => by
    simp only [blkXs, blkX, flatX, blkCs, othX, List.append_assoc]
    exact List.Perm.append_left _ (blk_flat xs)
  | .agg ds :: xs => by
    simp only [blkXs, blkX, flatX, blkCs_append, othX, List.append_assoc]
    exact List.Perm.append_left _ (blk_flat xs)
  | .box v ds :: xs => by
    simp only [blkXs, flatX, othX]
    refine (List.Perm.append_left _ (blk_flat xs)).trans ?_
    rw [← List.append_assoc, ← List.append_assoc]
    exact List.Perm.append_right _ List.perm_append_comm
  | .tup ys :: xs => by
    simp only [blkXs, flatX, othX]
    refine (List.Perm.append_left _ (blk_flat xs)).trans ?_
    rw [← List.append_assoc, ← List.append_assoc]
    exact List.Perm.append_right _ List.perm_append_comm
  | .undef :: xs => by
    simp only [blkXs, flatX, othX, blkX, List.nil_append]
    exact blk_flat xs

theorem split_refs : ∀ (xs : List XV) (cs : List CV), cs.length = (flatX xs).length → ∀ k ∈ refsXs (splitX xs cs), k ∈ refsXs xs ∨ k ∈ refsCs cs
  | [], cs, _, k, hk => by simp [splitX, refsXs] at hk
  | .c x :: xs, [], h, k, hk => by simp [flatX] at h
  | .c x :: xs, c :: cs, h, k, hk => by
    simp only [flatX, List.length_cons, Nat.add_right_cancel_iff] at h
    simp only [splitX, List.head?_cons, Option.getD_some, List.tail_cons, refsXs, refsX, List.mem_append, refsCs] at hk ⊢
    rcases hk with hk | hk
    · exact .inr (.inl hk)
    · exact (split_refs xs cs h k hk).imp .inr .inr
  | .agg ds :: xs, cs, h, k, hk => by
    simp only [flatX, List.length_append] at h
    simp only [splitX, refsXs, refsX, List.mem_append] at hk ⊢
    have hsub : ∀ ys : List CV, (∀ c ∈ ys, c ∈ cs) → k ∈ refsCs ys → k ∈ refsCs cs := by
      intro ys hy hk
      rw [refsCs_eq, List.mem_flatMap] at hk ⊢
      obtain ⟨c, hc, hk⟩ := hk
      exact ⟨c, hy c hc, hk⟩
    rcases hk with hk | hk
    · exact .inr (hsub _ (fun c hc => List.mem_of_mem_take hc) hk)
    · rcases split_refs xs _ (by rw [List.length_drop]; omega) k hk with hk | hk
      · exact .inl (.inr hk)
      · exact .inr (hsub _ (fun c hc => List.mem_of_mem_drop hc) hk)
  | .box v ds :: xs, cs, h, k, hk => by
    simp only [flatX] at h
    simp only [splitX, refsXs, List.mem_append] at hk ⊢
    rcases hk with hk | hk
    · exact .inl (.inl hk)
    · exact (split_refs xs cs h k hk).imp .inr id
  | .tup ys :: xs, cs, h, k, hk => by
    simp only [flatX] at h
    simp only [splitX, refsXs, List.mem_append] at hk ⊢
    rcases hk with hk | hk
    · exact .inl (.inl hk)
    · exact (split_refs xs cs h k hk).imp .inr id
  | .undef :: xs, cs, h, k, hk => by
    simp only [flatX] at h
    simp only [splitX, refsXs, List.mem_append] at hk ⊢
    rcases hk with hk | hk
    · exact .inl (.inl hk)
    · exact (split_refs xs cs h k hk).imp .inr id

theorem split_val : ∀ (xs : List XV) (cs : List CV), valCs cs = valCs (flatX xs) → valXs (splitX xs cs) = valXs xs
  | [], cs, _ => by simp [splitX]
  | .c x :: xs, [], h => by simp [flatX, valCs] at h
  | .c x :: xs, c :: cs, h => by
    simp only [flatX, valCs, List.cons.injEq] at h
    simp [splitX, valXs, valX, h.1, split_val xs cs h.2]
  | .agg ds :: xs, cs, h => by
    simp only [flatX, valCs_eq, List.map_append] at h
    have h1 : (cs.take ds.length).map valC = ds.map valC := by
      rw [List.map_take, h, List.take_append_of_le_length (by simp), List.take_of_length_le (by simp)]
    have h2 : (cs.drop ds.length).map valC = (flatX xs).map valC := by
      rw [List.map_drop, h, List.drop_append_of_le_length (by simp), List.drop_of_length_le (by simp), List.nil_append]
    simp only [splitX, valXs, valX, valCs_eq, h1]
    rw [split_val xs _ (by rw [valCs_eq, valCs_eq, h2])]
  | .box v ds :: xs, cs, h => by simp only [flatX] at h; simp [splitX, valXs, split_val xs cs h]
  | .tup ys :: xs, cs, h => by simp only [flatX] at h; simp [splitX, valXs, split_val xs cs h]
  | .undef :: xs, cs, h => by simp only [flatX] at h; simp [splitX, valXs, split_val xs cs h]
end
end Go.Proofs.YtlkjnlfddadlmaaDoor.V

namespace Go.Proofs.YtlkjnlfddadlmaaDoor.V
open Go.RowKit

structure Em (S S' : SV) (ea : List EA) (r : Root) (q : List Nat) : Prop where
  same : ∀ k, k ≠ r → rootCells S' k = rootCells S k
  ad : ∀ k, rootAd S' ea k = rootAd S ea k
  sh : ∀ (p' : List Nat) (i' : Nat), pre q (p' ++ [i']) = false → ShC (at_ S r p' i') (at_ S' r p' i')

section
variable {cx : Ctx} {f : Nat} {isv : Nat → Bool} {w0 : World} {E0 : Nat → Prop} {P : Nat → Nat → Prop} {R R' : Nat → Prop} {ea : List EA} {w w' : World} {S S' : SV} {tmps : Array Value} {Pr : Program} {a : Act} {call : Callee}

theorem Em.at {r : Root} {q : List Nat} (h : Em S S' ea r q) {k : Root} {p : List Nat} {i : Nat} (hk : ¬ (r = k ∧ pre q (p ++ [i]) = true)) : ShC (at_ S k p i) (at_ S' k p i) := by
  by_cases e : k = r
  · subst e
    exact h.sh p i (by cases hp : pre q (p ++ [i]) <;> simp_all)
  · left; rw [at_root (h.same k e)]

theorem Em.hdr {r : Root} {q : List Nat} (h : Em S S' ea r q) {k : Root} {p : List Nat} {i : Nat} (hk : ¬ (r = k ∧ pre q (p ++ [i]) = true)) : hdrAt S' k p i = hdrAt S k p i := by
  simp only [hdrAt]
  rcases h.at hk with e | ⟨b, sz, m, ds, es, e1, e2, _⟩
  · rw [e]
  · simp [e1, e2]

theorem Em.place {r : Root} {q : List Nat} (h : Em S S' ea r q) {k : Root} {p : List Nat} (hk : ¬ (r = k ∧ pre q p = true)) : placeAd S' ea k p = placeAd S ea k p := by
  simp only [placeAd, h.ad]
  split
  · rfl
  · rename_i hp
    rw [h.hdr (by rw [← dropLast_snoc hp]; exact hk)]

mutual
theorem okC_em {r : Root} {q : List Nat} (h : Em S S' ea r q) : ∀ {c : CV}, okC w P R S ea c → okC w P R (kill r q S') ea (killC r q c)
  | .t x, hc => by simpa [killC, okC] using hc
  | .ptr v k p off, hc => by
    simp only [killC]
    simp only [okC] at hc
    split
    · simp only [okC, okT]; exact .inr hc.slice
    · rename_i hk
      simp only [okC, PtrOk, placeAd_kill, h.place hk]; exact hc
  | .bor v k p i off sz n, hc => by
    simp only [killC]
    simp only [okC] at hc
    split
    · simp only [okC, okT]; exact .inl hc.slice
    · rename_i hk
      simp only [okC]
      refine BorOk.kill ?_
      obtain ⟨b, m, ds, hat, hl, hrest⟩ := hc
      rcases h.at hk with e | ⟨b', sz', m', ds', es', e1, e2, e3⟩
      · exact ⟨b, m, ds, by rw [← e]; exact hat, hl, hrest⟩
      · rw [hat] at e1
        simp only [Option.some.injEq, C.t.injEq, T.sl.injEq, true_and] at e1
        obtain ⟨rfl, rfl, rfl, rfl⟩ := e1
        exact ⟨b, m, es', e2, by omega, hrest⟩
  | .rptr v cs, hc => by simpa [killC, okC] using hc
  | .nilp, _ => by simp [killC, okC]
  | .nilf, _ => by simp [killC, okC]
  | .fn g caps, hc => by
    simp only [killC, okC] at hc ⊢
    exact ⟨okCs_em h hc.1, by rw [killCs_blk]; exact hc.2⟩
  | .lst v sz n cs, hc => by
    simp only [killC, okC] at hc ⊢
    exact ⟨by rw [killCs_eq, List.length_map]; exact hc.1, okCs_em h hc.2.1, by rw [killCs_val]; exact hc.2.2⟩
theorem okCs_em {r : Root} {q : List Nat} (h : Em S S' ea r q) : ∀ {cs : List CV}, okCs w P R S ea cs → okCs w P R (kill r q S') ea (killCs r q cs)
  | [], _ => by simp [killCs, okCs]
  | c :: cs, hc => by simp only [killCs, okCs] at hc ⊢; exact ⟨okC_em h hc.1, okCs_em h hc.2⟩
end

mutual
theorem okX_em {r : Root} {q : List Nat} (h : Em S S' ea r q) : ∀ {x : XV}, okX w P R S ea x → okX w P R (kill r q S') ea (killX r q x)
  | .c x, hc => by simp only [killX, okX] at hc ⊢; exact okC_em h hc
  | .agg cs, hc => by simp only [killX, okX] at hc ⊢; exact okCs_em h hc
  | .box v cs, hc => by
    simp only [killX, okX] at hc ⊢
    obtain ⟨h1, ad, h2, h3⟩ := hc
    exact ⟨okCs_em h h1, ad, h2, h3.kill⟩
  | .tup xs, hc => by simp only [killX, okX] at hc ⊢; exact okXs_em h hc
  | .undef, _ => by simp [killX, okX]
theorem okXs_em {r : Root} {q : List Nat} (h : Em S S' ea r q) : ∀ {xs : List XV}, okXs w P R S ea xs → okXs w P R (kill r q S') ea (killXs r q xs)
  | [], _ => by simp [killXs, okXs]
  | x :: xs, hc => by simp only [killXs, okXs] at hc ⊢; exact ⟨okX_em h hc.1, okXs_em h hc.2⟩
end

theorem put_facts {r : Root} {p : List Nat} {off : Nat} {c : CV} (h : putCell S r p off c = some S') : ∃ cs ds, rootCells S r = some cs ∧ setC cs p off c = some ds ∧ S' = setRoot S r ds := by
  simp only [putCell] at h
  cases hr : rootCells S r with
  | none => simp [hr] at h
  | some cs =>
    simp only [hr, Option.bind_some] at h
    cases hs : setC cs p off c with
    | none => simp [hs] at h
    | some ds =>
      simp only [hs, Option.map_some, Option.some.injEq] at h
      exact ⟨cs, ds, rfl, hs, h.symm⟩

def cellsOf : XV → Option (List CV)
  | .box _ cs => some cs
  | .c x => some [x]
  | .agg cs => some cs
  | .tup xs => some (flatX xs)
  | .undef => none

theorem rootCells_sl (d : Nat) : rootCells S (.sl d) = cellsOf (S.s d) := by
  simp only [rootCells, cellsOf]
  cases S.s d <;> rfl

theorem cellsOf_setX {x : XV} {cs ds : List CV} (hc : cellsOf x = some cs) (hl : ds.length = cs.length) : cellsOf (setX x ds) = some ds := by
  cases x with
  | c x =>
    simp only [cellsOf, Option.some.injEq] at hc
    subst hc
    simp only [List.length_singleton] at hl
    obtain ⟨y, rfl⟩ := List.length_eq_one_iff.1 hl
    rfl
  | agg xs => rfl
  | box v xs => rfl
  | tup xs =>
    simp only [cellsOf, Option.some.injEq] at hc
    subst hc
    simp only [setX, cellsOf, split_flat hl]
  | undef => simp [cellsOf] at hc

theorem rootCells_set {r k : Root} {cs ds : List CV} (hc : rootCells S r = some cs) (hl : ds.length = cs.length) : rootCells (setRoot S r ds) k = if k = r then some ds else rootCells S k := by
  cases r with
  | sl d =>
    rw [rootCells_sl] at hc
    cases k with
    | sl d' =>
      by_cases e : d' = d
      · subst e
        rw [if_pos rfl, rootCells_sl]
        simp only [setRoot, upd, if_true]
        exact cellsOf_setX hc hl
      · rw [if_neg (by simpa using e), rootCells_sl, rootCells_sl]
        simp [setRoot, upd, e]
    | ex j => simp [setRoot, rootCells]
  | ex j =>
    simp only [rootCells] at hc
    have hj : j < S.e.length := (List.getElem?_eq_some_iff.1 hc).1
    cases k with
    | sl d' => simp [setRoot, rootCells]
    | ex j' =>
      by_cases e : j' = j
      · subst e; simp [setRoot, rootCells, hj]
      · rw [if_neg (by simpa using e)]
        simp [setRoot, rootCells, List.getElem?_set_ne (Ne.symm e)]

theorem rootAd_set {r k : Root} {cs ds : List CV} (hc : rootCells S r = some cs) (hl : ds.length = cs.length) : rootAd (setRoot S r ds) ea k = rootAd S ea k := by
  cases r with
  | sl d =>
    rw [rootCells_sl] at hc
    cases k with
    | sl d' =>
      by_cases e : d' = d
      · subst e
        simp only [rootAd, setRoot, upd, if_true]
        cases hs : S.s d' with
        | c x =>
          rw [hs] at hc
          simp only [cellsOf, Option.some.injEq] at hc
          subst hc
          simp only [List.length_singleton] at hl
          obtain ⟨y, rfl⟩ := List.length_eq_one_iff.1 hl
          rfl
        | box v xs => cases v with
          | pointer p => cases p <;> rfl
          | _ => rfl
        | _ => simp [setX]
      · simp [rootAd, setRoot, upd, e]
    | ex j => rfl
  | ex j => cases k <;> rfl

theorem at_eq {r : Root} {p : List Nat} {i : Nat} : at_ S r p i = (rootCells S r).bind fun cs => atC cs p i := by
  simp only [at_, atC]
  cases rootCells S r <;> simp

theorem put_em {r : Root} {p : List Nat} {off : Nat} {c : CV} (h : putCell S r p off c = some S') : Em S S' ea r (p ++ [off]) := by
  obtain ⟨cs, ds, hr, hs, rfl⟩ := put_facts h
  have hl := setC_length hs
  refine ⟨fun k hk => ?_, fun k => rootAd_set hr hl, fun p' i' hp => ?_⟩
  · rw [rootCells_set hr hl, if_neg hk]
  · rw [at_eq, at_eq, rootCells_set hr hl, if_pos rfl, hr]
    simp only [Option.bind_some]
    exact setC_at hs p' i' hp

theorem setX_val {x : XV} {cs ds : List CV} (hc : cellsOf x = some cs) (hv : valCs ds = valCs cs) : valX (setX x ds) = valX x := by
  cases x with
  | c x =>
    simp only [cellsOf, Option.some.injEq] at hc
    subst hc
    have hl : ds.length = 1 := by
      have := congrArg List.length hv
      simpa [valCs_eq] using this
    obtain ⟨y, rfl⟩ := List.length_eq_one_iff.1 hl
    simp only [valCs, List.cons.injEq, and_true] at hv
    simp [setX, valX, hv]
  | agg xs =>
    simp only [cellsOf, Option.some.injEq] at hc
    subst hc
    simp [setX, valX, hv]
  | box v xs => rfl
  | tup xs =>
    simp only [cellsOf, Option.some.injEq] at hc
    subst hc
    simp [setX, valX, split_val xs ds hv]
  | undef => rfl

theorem setX_blk {x : XV} {cs ds : List CV} {l m : List Nat} (hc : cellsOf x = some cs) (hl : ds.length = cs.length) (hp : (l ++ blkCs ds).Perm (m ++ blkCs cs)) : (l ++ blkX (setX x ds)).Perm (m ++ blkX x) := by
  cases x with
  | c x =>
    simp only [cellsOf, Option.some.injEq] at hc
    subst hc
    simp only [List.length_singleton] at hl
    obtain ⟨y, rfl⟩ := List.length_eq_one_iff.1 hl
    simpa [setX, blkX, blkCs] using hp
  | agg xs =>
    simp only [cellsOf, Option.some.injEq] at hc
    subst hc
    simpa [setX, blkX] using hp
  | box v xs =>
    simp only [cellsOf, Option.some.injEq] at hc
    subst hc
    simp only [setX, blkX]
    have e1 : (l ++ (hdr v ++ blkCs ds)).Perm (hdr v ++ (l ++ blkCs ds)) := by
      rw [← List.append_assoc, ← List.append_assoc]; exact List.Perm.append_right _ List.perm_append_comm
    have e2 : (hdr v ++ (m ++ blkCs xs)).Perm (m ++ (hdr v ++ blkCs xs)) := by
      rw [← List.append_assoc, ← List.append_assoc]; exact List.Perm.append_right _ List.perm_append_comm
    exact (e1.trans (List.Perm.append_left _ hp)).trans e2
  | tup xs =>
    simp only [cellsOf, Option.some.injEq] at hc
    subst hc
    simp only [setX, blkX]
    have e1 := blk_flat (splitX xs ds)
    rw [split_flat hl, split_oth] at e1
    have e2 := blk_flat xs
    have e3 : (l ++ (blkCs ds ++ othX xs)).Perm (m ++ (blkCs (flatX xs) ++ othX xs)) := by
      rw [← List.append_assoc, ← List.append_assoc]; exact List.Perm.append_right _ hp
    exact ((List.Perm.append_left _ e1).trans e3).trans (List.Perm.append_left _ e2.symm)
  | undef => simp [cellsOf] at hc

theorem setX_refs {x : XV} {cs ds : List CV} (hc : cellsOf x = some cs) (hl : ds.length = cs.length) : ∀ k ∈ refsX (setX x ds), k ∈ refsX x ∨ k ∈ refsCs ds := by
  intro k hk
  cases x with
  | c x =>
    simp only [cellsOf, Option.some.injEq] at hc
    subst hc
    simp only [List.length_singleton] at hl
    obtain ⟨y, rfl⟩ := List.length_eq_one_iff.1 hl
    exact .inr (by simpa [setX, refsX, refsCs] using hk)
  | agg xs => exact .inr (by simpa [setX, refsX] using hk)
  | box v xs => exact .inr (by simpa [setX, refsX] using hk)
  | tup xs =>
    simp only [cellsOf, Option.some.injEq] at hc
    subst hc
    simp only [setX, refsX] at hk ⊢
    exact split_refs xs ds hl k hk
  | undef => simp [cellsOf] at hc

theorem split_ok {r : Root} {q : List Nat} (hem : Em S S' ea r q) : ∀ {xs : List XV} {cs : List CV}, okXs w P R S ea xs → (∀ c ∈ cs, okC w P R (kill r q S') ea (killC r q c)) → cs.length = (flatX xs).length →
    okXs w P R (kill r q S') ea (killXs r q (splitX xs cs))
  | [], cs, _, _, _ => by simp [splitX, killXs, okXs]
  | .c x :: xs, [], _, _, h => by simp [flatX] at h
  | .c x :: xs, c :: cs, hx, hc, h => by
    simp only [flatX, List.length_cons, Nat.add_right_cancel_iff] at h
    simp only [splitX, List.head?_cons, Option.getD_some, List.tail_cons, killXs, killX, okXs, okX]
    exact ⟨hc c (List.mem_cons_self ..), split_ok hem hx.2 (fun c' hc' => hc c' (List.mem_cons_of_mem _ hc')) h⟩
  | .agg ds :: xs, cs, hx, hc, h => by
    simp only [flatX, List.length_append] at h
    simp only [splitX, killXs, killX, okXs, okX]
    refine ⟨?_, split_ok hem hx.2 (fun c' hc' => hc c' (List.mem_of_mem_drop hc')) (by rw [List.length_drop]; omega)⟩
    rw [killCs_eq]
    refine okCs_iff.2 fun c hc' => ?_
    obtain ⟨c0, h0, rfl⟩ := List.mem_map.1 hc'
    exact hc c0 (List.mem_of_mem_take h0)
  | .box v ds :: xs, cs, hx, hc, h => by
    simp only [flatX] at h
    simp only [splitX, killXs, okXs]
    exact ⟨okX_em hem hx.1, split_ok hem hx.2 hc h⟩
  | .tup ys :: xs, cs, hx, hc, h => by
    simp only [flatX] at h
    simp only [splitX, killXs, okXs]
    exact ⟨okX_em hem hx.1, split_ok hem hx.2 hc h⟩
  | .undef :: xs, cs, hx, hc, h => by
    simp only [flatX] at h
    simp only [splitX, killXs, okXs]
    exact ⟨okX_em hem hx.1, split_ok hem hx.2 hc h⟩

theorem setX_ok {r : Root} {q : List Nat} (hem : Em S S' ea r q) {x : XV} {cs ds : List CV} (hc : cellsOf x = some cs) (hl : ds.length = cs.length) (hv : valCs ds = valCs cs) (hx : okX w P R S ea x)
    (hd : ∀ c ∈ ds, okC w P R (kill r q S') ea (killC r q c)) : okX w P R (kill r q S') ea (killX r q (setX x ds)) := by
  have hds : okCs w P R (kill r q S') ea (killCs r q ds) := by
    rw [killCs_eq]
    refine okCs_iff.2 fun c hc' => ?_
    obtain ⟨c0, h0, rfl⟩ := List.mem_map.1 hc'
    exact hd c0 h0
  cases x with
  | c x =>
    simp only [cellsOf, Option.some.injEq] at hc
    subst hc
    simp only [List.length_singleton] at hl
    obtain ⟨y, rfl⟩ := List.length_eq_one_iff.1 hl
    simp only [setX, killX, okX]
    exact hd y (List.mem_singleton_self _)
  | agg xs => simpa only [setX, killX, okX] using hds
  | box v xs =>
    simp only [cellsOf, Option.some.injEq] at hc
    subst hc
    simp only [setX, killX, okX] at hx ⊢
    obtain ⟨_, ad, h1, h2, h3, cur, e, h4, h5⟩ := hx
    exact ⟨hds, ad, h1, h2, h3, cur, e, h4, by rw [killCs_val, hv]; exact h5⟩
  | tup xs =>
    simp only [cellsOf, Option.some.injEq] at hc
    subst hc
    simp only [setX, killX, okX] at hx ⊢
    exact split_ok hem hx hd hl
  | undef => simp [cellsOf] at hc

theorem Rel.empty (h : Rel isv w0 E0 P R ea w S tmps) {r : Root} {p : List Nat} {off : Nat} {x : CV} (hat : at_ S r p off = some x) (hx : (∃ A n c, valC x = .slice A n c) ∨ ∃ q, valC x = .pointer q)
    (hput : putCell S r p off (.t (.dead (valC x))) = some S') :
    Rel isv w0 E0 P R ea w (V.kill r (p ++ [off]) S') tmps ∧ (∀ k, k ≠ r → blkR (V.kill r (p ++ [off]) S') ea k = blkR S ea k) ∧ (blkC x ++ blkR (V.kill r (p ++ [off]) S') ea r).Perm (blkR S ea r) := by
  have hem := put_em (ea := ea) hput
  obtain ⟨cs, ds, hr, hs, hS'⟩ := put_facts hput
  have hl := setC_length hs
  rw [at_eq, hr] at hat
  simp only [Option.bind_some] at hat
  have hdead : okT w P R (.dead (valC x)) := by simpa [okT] using hx
  have hval : valCs ds = valCs cs := setC_val hs hat rfl
  have hcs := h.root_ok hr
  have hdok : ∀ c ∈ ds, okC w P R (V.kill r (p ++ [off]) S') ea (killC r (p ++ [off]) c) := by
    intro c hc
    rcases setC_mem hs hat rfl hdead hcs c hc with hc | ⟨t, rfl, ht⟩
    · exact okC_em hem (okCs_iff.1 hcs c hc)
    · simpa [killC, okC] using ht
  have hblk : (blkC x ++ blkCs ds).Perm ([] ++ blkCs cs) := by
    have := setC_blk hs hat
    simpa [blkC, blkT] using this
  have hrefs : ∀ k ∈ refsCs ds, k ∈ refsCs cs := fun k hk => (setC_refs hs k hk).elim id (fun h => by simp [refsC] at h)
  have hoth : ∀ k, k ≠ r → blkR (V.kill r (p ++ [off]) S') ea k = blkR S ea k := by
    intro k hk
    rw [blkR_kill]
    subst hS'
    cases r with
    | sl d => exact match k, hk with
      | .sl d', hk => by simp only [blkR, setRoot, upd]; rw [if_neg (by simpa using hk)]
      | .ex j, _ => by simp only [blkR, setRoot]
    | ex j => exact match k, hk with
      | .sl d', _ => by simp only [blkR, setRoot]
      | .ex j', hk => by simp only [blkR, setRoot]; rw [List.getElem?_set_ne (by simpa using Ne.symm hk)]
  have hown : (blkC x ++ blkR (V.kill r (p ++ [off]) S') ea r).Perm (blkR S ea r) := by
    rw [blkR_kill]
    subst hS'
    cases r with
    | sl d =>
      rw [rootCells_sl] at hr
      simp only [blkR, setRoot, upd, if_true]
      have := setX_blk (l := blkC x) (m := []) hr hl hblk
      simpa using this
    | ex j =>
      simp only [rootCells] at hr
      have hj : j < S.e.length := (List.getElem?_eq_some_iff.1 hr).1
      simp only [blkR, setRoot, hr, List.getElem?_set_self hj]
      have e1 : (blkC x ++ ((match (ea[j]?).bind EA.ad with | some ad => [ad.block] | none => []) ++ blkCs ds)).Perm ((match (ea[j]?).bind EA.ad with | some ad => [ad.block] | none => []) ++ (blkC x ++ blkCs ds)) := by
        rw [← List.append_assoc, ← List.append_assoc]; exact List.Perm.append_right _ List.perm_append_comm
      exact e1.trans (List.Perm.append_left _ (by simpa using hblk))
  have hmem : ∀ k b, b ∈ blkR (V.kill r (p ++ [off]) S') ea k → b ∈ blkR S ea k := by
    intro k b hb
    by_cases e : k = r
    · subst e; exact hown.subset (List.mem_append_right _ hb)
    · rwa [hoth k e] at hb
  refine ⟨?_, hoth, hown⟩
  have hslot : ∀ i, (V.kill r (p ++ [off]) S').s i = killX r (p ++ [off]) (S'.s i) := fun i => rfl
  have hcase : ∀ i, (S'.s i = S.s i) ∨ (r = .sl i ∧ S'.s i = setX (S.s i) ds ∧ cellsOf (S.s i) = some cs) := by
    intro i
    subst hS'
    cases r with
    | sl d =>
      by_cases e : i = d
      · subst e; right; exact ⟨rfl, by simp [setRoot, upd], by rw [← rootCells_sl]; exact hr⟩
      · left; simp [setRoot, upd, e]
    | ex j => left; rfl
  have hecase : ∀ (j : Nat) es, S'.e[j]? = some es → (S.e[j]? = some es) ∨ (r = .ex j ∧ es = ds ∧ S.e[j]? = some cs) := by
    intro j es hj
    subst hS'
    cases r with
    | sl d => left; exact hj
    | ex j' =>
      by_cases e : j' = j
      · subst e
        right
        have hlt : j' < S.e.length := (List.getElem?_eq_some_iff.1 hr).1
        simp only [setRoot, List.getElem?_set_self hlt, Option.some.injEq] at hj
        exact ⟨rfl, hj.symm, hr⟩
      · left
        simpa [setRoot, List.getElem?_set_ne e] using hj
  constructor
  case val =>
    intro i hi
    rcases hcase i with e | ⟨_, e, hc⟩
    · rcases h.val i hi with e' | e'
      · left; rw [hslot, e, e']; rfl
      · right; rw [hslot, e, killX_val]; exact e'
    · rcases h.val i hi with e' | e'
      · rw [e'] at hc; simp [cellsOf] at hc
      · right; rw [hslot, e, killX_val, setX_val hc hval]; exact e'
  case hi =>
    intro i hi
    rcases hcase i with e | ⟨_, e, hc⟩
    · rw [hslot, e, h.hi i hi]; rfl
    · rw [h.hi i hi] at hc; simp [cellsOf] at hc
  case okS =>
    intro i
    rw [hslot]
    rcases hcase i with e | ⟨_, e, hc⟩
    · rw [e]; exact okX_em hem (h.okS i)
    · rw [e]; exact setX_ok hem hc hl hval (h.okS i) hdok
  case okE =>
    intro j es hj
    simp only [V.kill, List.getElem?_map] at hj
    cases he : S'.e[j]? with
    | none => simp [he] at hj
    | some fs =>
      simp only [he, Option.map_some, Option.some.injEq] at hj
      subst hj
      rcases hecase j fs he with e | ⟨_, rfl, e⟩
      · exact ⟨okCs_em hem (h.okE j fs e).1, fun ad had => ((h.okE j fs e).2 ad had).kill⟩
      · refine ⟨?_, fun ad had => ?_⟩
        · rw [killCs_eq]
          refine okCs_iff.2 fun c hc' => ?_
          obtain ⟨c0, h0, rfl⟩ := List.mem_map.1 hc'
          exact hdok c0 h0
        · obtain ⟨h2, h3, cur, e', h4, h5⟩ := (h.okE j cs e).2 ad had
          exact ⟨h2, h3, cur, e', h4, by rw [killCs_val, hval]; exact h5⟩
  case eaL =>
    simp only [V.kill, List.length_map]
    rw [hS']
    cases r <;> simp [setRoot, h.eaL]
  case row =>
    intro j vs es hea hj
    simp only [V.kill, List.getElem?_map] at hj
    cases he : S'.e[j]? with
    | none => simp [he] at hj
    | some fs =>
      simp only [he, Option.map_some, Option.some.injEq] at hj
      subst hj
      rw [killCs_val]
      rcases hecase j fs he with e | ⟨_, rfl, e⟩
      · exact h.row j vs fs hea e
      · rw [hval]; exact h.row j vs cs hea e
  case refS =>
    intro i d' hd'
    rw [hslot] at hd'
    have hd' := killX_refs _ _ _ _ hd'
    rcases hcase i with e | ⟨_, e, hc⟩
    · rw [e] at hd'; exact h.refS i d' hd'
    · rw [e] at hd'
      rcases setX_refs hc hl _ hd' with hd' | hd'
      · exact h.refS i d' hd'
      · have := hrefs _ hd'
        rw [refsCs_eq, List.mem_flatMap] at this
        obtain ⟨c, hc', hk⟩ := this
        have hca : c ∈ cs := hc'
        -- a cell of the slot's
        have : Root.sl d' ∈ refsX (S.s i) := by
          cases hs' : S.s i with
          | c y => rw [hs'] at hc; simp only [cellsOf, Option.some.injEq] at hc; subst hc; simp only [List.mem_singleton] at hca; subst hca; simpa [refsX] using hk
          | agg ys => rw [hs'] at hc; simp only [cellsOf, Option.some.injEq] at hc; subst hc; simp only [refsX, refsCs_eq, List.mem_flatMap]; exact ⟨c, hca, hk⟩
          | box v ys => rw [hs'] at hc; simp only [cellsOf, Option.some.injEq] at hc; subst hc; simp only [refsX, refsCs_eq, List.mem_flatMap]; exact ⟨c, hca, hk⟩
          | tup ys => rw [hs'] at hc; simp only [cellsOf, Option.some.injEq] at hc; subst hc; simp only [refsX]; exact mem_flatX hca _ hk
          | undef => rw [hs'] at hc; simp [cellsOf] at hc
        exact h.refS i d' this
  case refE =>
    intro j es d' hj hd'
    simp only [V.kill, List.getElem?_map] at hj
    cases he : S'.e[j]? with
    | none => simp [he] at hj
    | some fs =>
      simp only [he, Option.map_some, Option.some.injEq] at hj
      subst hj
      have hd' := killCs_refs _ _ _ _ hd'
      rcases hecase j fs he with e | ⟨_, rfl, e⟩
      · exact h.refE j fs d' e hd'
      · exact h.refE j cs d' e (hrefs _ hd')
  case dis => exact fun k k' b hb hb' => h.dis k k' b (hmem k b hb) (hmem k' b hb')
  case nd =>
    intro k
    by_cases e : k = r
    · subst e
      have := (hown.nodup_iff).2 (h.nd k)
      exact (List.nodup_append.1 this).2.1
    · rw [hoth k e]; exact h.nd k
  case lt => exact fun k b hb => h.lt k b (hmem k b hb)
  case own => exact fun k b hb => h.own k b (hmem k b hb)
  case notR => exact fun k b hb => h.notR k b (hmem k b hb)
  case PR => exact h.PR
  case ltR => exact h.ltR
  case frm => exact h.frm
end
end Go.Proofs.YtlkjnlfddadlmaaDoor.V
