/-
  Steps that change a frame's own: what is taken from where it stands. No conditions.
-/
import Derived.Test.YtlkjnlfddadlmaaDoorM2
import Derived.Laws.IdiomCopy
set_option linter.unusedVariables false
set_option linter.unusedSimpArgs false
namespace Go.Proofs.YtlkjnlfddadlmaaDoor.V
open Go.RowKit

structure Emp (ea : List EA) (S S2 : SV) : Prop where
  ok : ∀ (w : World) (P : Nat → Nat → Prop) (R : Nat → Prop) (c : CV), okC w P R S ea c → alive S2 c = true → okC w P R S2 ea c
  al : ∀ c : CV, alive S2 c = true → alive S c = true
  blk : ∀ k, ∀ b ∈ blkR S2 ea k, b ∈ blkR S ea k
  dd : ∀ r p i b, (at_ S r p i = some (.t (.dead b)) ∨ at_ S r p i = none) → (at_ S2 r p i = some (.t (.dead b)) ∨ at_ S2 r p i = none)

section
variable {cx : Ctx} {f : Nat} {isv : Nat → Bool} {w0 : World} {E0 : Nat → Prop} {P : Nat → Nat → Prop} {R R' : Nat → Prop} {ea : List EA} {w w' : World} {S S' S2 S3 : SV} {tmps : Array Value} {Pr : Program} {a : Act} {call : Callee}

theorem Emp.refl : Emp ea S S := ⟨fun _ _ _ _ h _ => h, fun _ h => h, fun _ _ h => h, fun _ _ _ _ h => h⟩
theorem Emp.trans (h : Emp ea S S2) (k : Emp ea S2 S3) : Emp ea S S3 :=
  ⟨fun w P R c hc ha => k.ok w P R c (h.ok w P R c hc (k.al c ha)) ha, fun c hc => h.al c (k.al c hc), fun r b hb => h.blk r b (k.blk r b hb), fun r p i b hd => k.dd r p i b (h.dd r p i b hd)⟩

theorem isList_map {α β : Type} (g : α → β) (o : Option (C α)) : isList (o.map (mapC g)) = isList o := by
  cases o with
  | none => rfl
  | some c => cases c with
    | t x => cases x with
      | sl v tag sz n cs => cases tag <;> rfl
      | _ => rfl
    | _ => rfl

mutual
theorem alive_map {α β : Type} (g : α → β) (S : St α) : ∀ c : C α, alive (mapS g S) (mapC g c) = alive S c
  | .ptr v r p off => by simp only [mapC, alive, at_map, isList_map]
  | .bor v r p i off sz n => by simp only [mapC, alive, at_map, isList_map]
  | .fn f caps => by simp only [mapC, alive]; exact alives_map g S caps
  | .lst v sz n cs => by simp only [mapC, alive]; exact alives_map g S cs
  | .t _ => rfl
  | .rptr _ _ => rfl
  | .nilp => rfl
  | .nilf => rfl
theorem alives_map {α β : Type} (g : α → β) (S : St α) : ∀ cs : List (C α), alives (mapS g S) (mapCs g cs) = alives S cs
  | [] => rfl
  | c :: cs => by simp only [mapCs, alives, alive_map g S c, alives_map g S cs]
end

theorem sub_dead : ∀ {p q : List Nat} {cs : List TV} {i : Nat} {ds : List TV} {v : Value}, setT cs p i (.dead v) = some ds → ∀ j, pre (p ++ [i]) (q ++ [j]) = true → ∀ x, atT ds q j = some x → x = .dead v
  | [], q, cs, i, ds, v, h, j, hp, x, hx => by
    simp only [setT] at h
    split at h
    · rename_i hl
      simp only [Option.some.injEq] at h
      subst h
      cases q with
      | nil =>
        simp only [List.nil_append, pre, beq_iff_eq, Bool.and_true] at hp
        subst hp
        simp only [atT, sub, Option.bind_some, List.getElem?_set_self hl, Option.some.injEq] at hx
        exact hx.symm
      | cons k q =>
        simp only [List.nil_append, List.cons_append, pre, beq_iff_eq, Bool.and_true] at hp
        subst hp
        simp [atT, sub, List.getElem?_set_self hl] at hx
    · cases h
  | k :: p, q, cs, i, ds, v, h, j, hp, x, hx => by
    simp only [setT] at h
    split at h
    · rename_i v' sz n es hk
      cases hs : setT es p i (.dead v) with
      | none => simp [hs] at h
      | some fs =>
        simp only [hs, Option.map_some, Option.some.injEq] at h
        subst h
        have hlt : k < cs.length := (List.getElem?_eq_some_iff.1 hk).1
        cases q with
        | nil =>
          simp only [List.cons_append, List.nil_append, pre, Bool.and_eq_true] at hp
          cases p <;> simp [pre] at hp
        | cons k' q =>
          simp only [List.cons_append, pre, Bool.and_eq_true, beq_iff_eq] at hp
          obtain ⟨rfl, hp⟩ := hp
          refine sub_dead hs j hp x ?_
          simpa [atT, sub, List.getElem?_set_self hlt] using hx
    · cases h

theorem setC_dead {cs ds : List CV} {p q : List Nat} {i : Nat} {v : Value} (h : setC cs p i (.t (.dead v)) = some ds) (j : Nat) (hp : pre (p ++ [i]) (q ++ [j]) = true) : isList (atC ds q j) = false := by
  rcases setC_cases h with ⟨rfl, hl, rfl⟩ | ⟨k, p', y', v', sz, n, es, fs, rfl, hy, hk, hs, rfl⟩
  · cases q with
    | nil =>
      simp only [List.nil_append, pre, beq_iff_eq, Bool.and_true] at hp
      subst hp
      simp [atC, subC, List.getElem?_set_self hl, isList]
    | cons k q =>
      simp only [List.nil_append, List.cons_append, pre, beq_iff_eq, Bool.and_true] at hp
      subst hp
      simp [atC, subC, List.getElem?_set_self hl, isList]
  · cases hy
    have hlt : k < cs.length := (List.getElem?_eq_some_iff.1 hk).1
    cases q with
    | nil =>
      simp only [List.cons_append, List.nil_append, pre, Bool.and_eq_true] at hp
      cases p' <;> simp [pre] at hp
    | cons k' q =>
      simp only [List.cons_append, pre, Bool.and_eq_true, beq_iff_eq] at hp
      obtain ⟨rfl, hp⟩ := hp
      rw [atC_cons (show (cs.set k (.t (.sl v' 0 sz n fs)))[k]? = some (.t (.sl v' 0 sz n fs)) by simp [hlt])]
      cases ha : atT fs q j with
      | none => rfl
      | some x =>
        have := sub_dead hs j hp x ha
        subst this
        rfl

theorem isList_kill (r : Root) (q : List Nat) (o : Option CV) : isList (o.map (killC r q)) = isList o := by
  cases o with
  | none => rfl
  | some c => cases c with
    | t x => rfl
    | ptr v r' p off => by_cases hx : r = r' ∧ pre q p = true <;> simp [killC, hx, isList]
    | bor v r' p i off sz n => by_cases hx : r = r' ∧ pre q (p ++ [i]) = true <;> simp [killC, hx, isList]
    | _ => rfl

theorem isList_sh {x y : Option CV} (h : ShC x y) : isList y = isList x := by
  rcases h with rfl | ⟨b, sz, m, ds, es, rfl, rfl, _⟩ <;> rfl

theorem put_dead {r : Root} {p : List Nat} {i : Nat} {v : Value} (h : putCell S r p i (.t (.dead v)) = some S') {q : List Nat} {j : Nat} (hp : pre (p ++ [i]) (q ++ [j]) = true) : isList (at_ (kill r (p ++ [i]) S') r q j) = false := by
  rw [at_kill, isList_kill]
  obtain ⟨cs, ds, hr, hs, rfl⟩ := put_facts h
  rw [at_eq, rootCells_set hr (setC_length hs), if_pos rfl]
  exact setC_dead hs j hp

theorem alive_at {r : Root} {p : List Nat} {i : Nat} {v : Value} (h : putCell S r p i (.t (.dead v)) = some S') {k : Root} {q : List Nat} {j : Nat} (ha : isList (at_ (kill r (p ++ [i]) S') k q j) = true) :
    ¬ (r = k ∧ pre (p ++ [i]) (q ++ [j]) = true) ∧ isList (at_ S k q j) = true := by
  have hn : ¬ (r = k ∧ pre (p ++ [i]) (q ++ [j]) = true) := by
    rintro ⟨rfl, hp⟩
    rw [put_dead h hp] at ha
    cases ha
  refine ⟨hn, ?_⟩
  rw [at_kill, isList_kill] at ha
  have := (put_em (ea := []) h).at hn
  rwa [isList_sh this] at ha

theorem pre_nil {p : List Nat} {i : Nat} : pre (p ++ [i]) [] = false := by cases p <;> rfl

mutual
theorem alive_kill {r : Root} {p : List Nat} {i : Nat} {v : Value} (h : putCell S r p i (.t (.dead v)) = some S') : ∀ {c : CV}, alive (kill r (p ++ [i]) S') c = true → killC r (p ++ [i]) c = c ∧ alive S c = true
  | .t _, _ => ⟨rfl, rfl⟩
  | .rptr _ _, _ => ⟨rfl, rfl⟩
  | .nilp, _ => ⟨rfl, rfl⟩
  | .nilf, _ => ⟨rfl, rfl⟩
  | .ptr u k q off, ha => by
    simp only [alive, Bool.or_eq_true] at ha ⊢
    cases q with
    | nil => exact ⟨by simp [killC, pre_nil], .inl rfl⟩
    | cons x q =>
      have hne : x :: q ≠ [] := by simp
      rcases ha with ha | ha
      · simp at ha
      · obtain ⟨h1, h2⟩ := alive_at h ha
        rw [← dropLast_snoc hne] at h1
        exact ⟨by simp only [killC, if_neg h1], .inr h2⟩
  | .bor u k q j off sz n, ha => by
    simp only [alive] at ha ⊢
    obtain ⟨h1, h2⟩ := alive_at h ha
    exact ⟨by simp only [killC, if_neg h1], h2⟩
  | .fn g caps, ha => by
    simp only [alive] at ha ⊢
    obtain ⟨h1, h2⟩ := alives_kill h ha
    exact ⟨by simp only [killC, h1], h2⟩
  | .lst u sz n cs, ha => by
    simp only [alive] at ha ⊢
    obtain ⟨h1, h2⟩ := alives_kill h ha
    exact ⟨by simp only [killC, h1], h2⟩
theorem alives_kill {r : Root} {p : List Nat} {i : Nat} {v : Value} (h : putCell S r p i (.t (.dead v)) = some S') : ∀ {cs : List CV}, alives (kill r (p ++ [i]) S') cs = true → killCs r (p ++ [i]) cs = cs ∧ alives S cs = true
  | [], _ => ⟨rfl, rfl⟩
  | c :: cs, ha => by
    simp only [alives, Bool.and_eq_true] at ha ⊢
    obtain ⟨h1, h2⟩ := alive_kill h ha.1
    obtain ⟨h3, h4⟩ := alives_kill h ha.2
    exact ⟨by simp only [killCs, h1, h3], h2, h4⟩
end

theorem pre_snoc : ∀ {a b : List Nat} {j : Nat}, pre a (b ++ [j]) = true → a = b ++ [j] ∨ pre a b = true
  | [], b, j, _ => .inr rfl
  | x :: a, [], j, h => by
    simp only [List.nil_append, pre, Bool.and_eq_true, beq_iff_eq] at h
    obtain ⟨rfl, h⟩ := h
    cases a with
    | nil => exact .inl rfl
    | cons y a => simp [pre] at h
  | x :: a, y :: b, j, h => by
    simp only [List.cons_append, pre, Bool.and_eq_true, beq_iff_eq] at h
    obtain ⟨rfl, h⟩ := h
    rcases pre_snoc h with e | e
    · exact .inl (by rw [e]; rfl)
    · exact .inr (by simp only [pre, beq_self_eq_true, e, Bool.and_self])

theorem put_dd {r : Root} {p : List Nat} {i : Nat} {b : Value} {sz m : Nat} {ds : List TV} (hput : putCell S r p i (.t (.dead b)) = some S') (hat : at_ S r p i = some (.t (.sl b 0 sz m ds))) {k : Root} {q : List Nat} {j : Nat} {u : Value}
    (h : at_ S k q j = some (.t (.dead u)) ∨ at_ S k q j = none) : at_ (kill r (p ++ [i]) S') k q j = some (.t (.dead u)) ∨ at_ (kill r (p ++ [i]) S') k q j = none := by
  by_cases hk : r = k ∧ pre (p ++ [i]) (q ++ [j]) = true
  · obtain ⟨rfl, hp⟩ := hk
    rcases pre_snoc hp with e | e
    · obtain ⟨rfl, e2⟩ := List.append_inj' e rfl
      simp only [List.cons.injEq, and_true] at e2
      subst e2
      rw [hat] at h
      rcases h with h | h <;> simp at h
    · rcases List.eq_nil_or_concat q with rfl | ⟨q', x, rfl⟩
      · rw [pre_nil] at e; cases e
      · rw [List.concat_eq_append] at e ⊢
        have hl := put_dead (q := q') (j := x) hput e
        right
        rw [at_snoc]
        revert hl
        generalize at_ (kill r (p ++ [i]) S') r q' x = o
        intro hl
        rcases o with _ | c
        · rfl
        · cases c with
          | t y => cases y with
            | sl a tag sz n es => cases tag with
              | zero => simp [isList] at hl
              | succ g => rfl
            | _ => rfl
          | _ => rfl
  · have hem := put_em (ea := []) hput
    rw [at_kill]
    rcases hem.at hk with e | ⟨b', sz', m', ds', es, e1, e2, _⟩
    · rw [← e]
      exact h.imp (fun e => by rw [e]; rfl) (fun e => by rw [e]; rfl)
    · rw [e1] at h
      rcases h with h | h <;> simp at h

theorem hdr_sub {v b : Value} (h : ∀ k ∈ hdr v, k ∈ hdr b) : (hdr v).Sublist (hdr b) := by
  have : hdr v = [] ∨ ∃ k, hdr v = [k] := by
    cases v with
    | slice A n c => cases A <;> simp [hdr]
    | pointer A => cases A <;> simp [hdr]
    | _ => simp [hdr]
  rcases this with e | ⟨k, e⟩
  · rw [e]; exact List.nil_sublist _
  · rw [e] at h ⊢; exact List.singleton_sublist.2 (h k (List.mem_singleton_self _))

theorem takeAt_ok (h : Rel isv w0 E0 P R ea w S tmps) {r : Root} {p : List Nat} {i off sz n : Nat} {v : Value} (hb : BorOk S r p i off sz n v) {t : TU} {Su : SU} (hq : takeAt (V.erS S) () r p i off sz n = some (t, Su)) :
    ∃ (tG : TV) (S2 : SV), erT tG = t ∧ V.erS S2 = Su ∧ valT tG = v ∧ Rel isv w0 E0 P R ea w S2 tmps ∧ Emp ea S S2 ∧ New isv w0 E0 P R ea w S2 (.c (.t tG)) ∧ (∀ b ∈ blkT tG, b ∈ blkR S ea r) := by
  have hm : takeAt (V.erS S) () r p i off sz n = (takeAt S v r p i off sz n).map fun q => (mapT er0 q.1, mapS er0 q.2) := takeAt_map er0 S v r p i off sz n
  rw [hm] at hq
  cases hg : takeAt S v r p i off sz n with
  | none => simp [hg] at hq
  | some q =>
    simp only [hg, Option.map_some, Option.some.injEq, Prod.mk.injEq] at hq
    obtain ⟨rfl, rfl⟩ := hq
    unfold takeAt at hg
    split at hg
    · rename_i b sz' m ds hat
      split at hg
      · rename_i hc
        obtain ⟨hl, rfl, hsz⟩ := hc
        cases hput : putCell S r p i (.t (.dead b)) with
        | none => simp [hput] at hg
        | some S' =>
          simp only [hput, Option.map_some, Option.some.injEq] at hg
          subst hg
          obtain ⟨b', m', ds', hat', hl', hok', hown', hhdr⟩ := bor_own h hb hsz
          rw [hat] at hat'
          simp only [Option.some.injEq, C.t.injEq, T.sl.injEq, true_and] at hat'
          obtain ⟨rfl, rfl, rfl⟩ := hat'
          have hval : (∃ A n c, b = .slice A n c) ∨ ∃ q, b = .pointer q := by
            have := h.at_ok hat
            simp only [okC, okT, if_true] at this
            exact .inl (slice_own this.2.2)
          obtain ⟨h1, h2, h3⟩ := h.empty hat hval hput
          have hem := put_em (ea := ea) hput
          have hsub : (blkT (.sl v 0 sz n ((ds.drop off).take (n * sz)))).Sublist (blkC (.t (.sl b 0 sz m ds))) := by
            simp only [blkT, blkC, if_true]
            refine List.Sublist.append (hdr_sub hhdr) ?_
            rw [blkTs_eq, blkTs_eq]
            exact sublist_flatMap _ ((List.take_sublist _ _).trans (List.drop_sublist _ _))
          have hmem : ∀ k b, b ∈ blkR (kill r (p ++ [i]) S') ea k → b ∈ blkR S ea k := by
            intro k b hb
            by_cases e : k = r
            · subst e; exact h3.subset (List.mem_append_right _ hb)
            · rwa [h2 k e] at hb
          have hin : ∀ k ∈ blkT (.sl v 0 sz n ((ds.drop off).take (n * sz))), k ∈ blkR S ea r := fun k hk => h3.subset (List.mem_append_left _ (hsub.subset hk))
          refine ⟨_, _, rfl, rfl, rfl, h1, ⟨fun w P R c hc ha => ?_, fun c ha => (alive_kill hput ha).2, hmem, fun k q j u hd => put_dd hput hat hd⟩, ?_, hin⟩
          · have := okC_em hem hc
            rwa [(alive_kill hput ha).1] at this
          · have hnd := (h3.nodup_iff).2 (h.nd r)
            rw [List.nodup_append] at hnd
            constructor
            · simp only [okX, okC, okT, if_true]
              exact ⟨by rw [List.length_take, List.length_drop]; omega, okTs_take (okTs_drop hok'), hown'⟩
            · intro d' hd'; simp [refsX, refsC] at hd'
            · exact hsub.nodup hnd.1
            · intro k x hx hx'
              have hx1 := hsub.subset (show x ∈ blkT (.sl v 0 sz n ((ds.drop off).take (n * sz))) from hx)
              by_cases e : k = r
              · subst e; exact hnd.2.2 x hx1 x hx' rfl
              · rw [h2 k e] at hx'
                exact e (h.dis k r x hx' (h3.subset (List.mem_append_left _ hx1)))
            · exact fun x hx => h.lt r x (hin x hx)
            · exact fun x hx => h.own r x (hin x hx)
            · exact fun x hx => h.notR r x (hin x hx)
      · cases hg
    · cases hg
end
end Go.Proofs.YtlkjnlfddadlmaaDoor.V

namespace Go.Proofs.YtlkjnlfddadlmaaDoor.V
open Go.RowKit

structure Bk (w0 : World) (E0 : Nat → Prop) (R : Nat → Prop) (ea : List EA) (w : World) (S : SV) (l : List Nat) : Prop where
  nd : l.Nodup
  sep : ∀ r b, b ∈ l → b ∉ blkR S ea r
  lt : ∀ b ∈ l, b < w.heap.size
  own : ∀ b ∈ l, E0 b ∨ w0.heap.size ≤ b
  notR : ∀ b ∈ l, ¬ R b

section
variable {cx : Ctx} {f : Nat} {isv : Nat → Bool} {w0 : World} {E0 : Nat → Prop} {P : Nat → Nat → Prop} {R R' : Nat → Prop} {ea : List EA} {w w' : World} {S0 S S' S2 S3 : SV} {tmps : Array Value} {Pr : Program} {a : Act} {call : Callee}

theorem New.bk {x : XV} (h : New isv w0 E0 P R ea w S x) : Bk w0 E0 R ea w S (blkX x) := ⟨h.nd, h.sep, h.lt, h.own, h.notR⟩
theorem Bk.emp {l : List Nat} (h : Bk w0 E0 R ea w S l) (he : Emp ea S S2) : Bk w0 E0 R ea w S2 l := ⟨h.nd, fun r b hb hb' => h.sep r b hb (he.blk r b hb'), h.lt, h.own, h.notR⟩
theorem Bk.sub {l m : List Nat} (h : Bk w0 E0 R ea w S l) (hs : m.Sublist l) : Bk w0 E0 R ea w S m := ⟨hs.nodup h.nd, fun r b hb => h.sep r b (hs.subset hb), fun b hb => h.lt b (hs.subset hb), fun b hb => h.own b (hs.subset hb), fun b hb => h.notR b (hs.subset hb)⟩
theorem Bk.append {l m : List Nat} (h : Bk w0 E0 R ea w S l) (k : Bk w0 E0 R ea w S m) (hd : ∀ b ∈ l, b ∉ m) : Bk w0 E0 R ea w S (l ++ m) where
  nd := List.nodup_append.2 ⟨h.nd, k.nd, fun x hx y hy e => hd x hx (e ▸ hy)⟩
  sep r b hb := (List.mem_append.1 hb).elim (h.sep r b) (k.sep r b)
  lt b hb := (List.mem_append.1 hb).elim (h.lt b) (k.lt b)
  own b hb := (List.mem_append.1 hb).elim (h.own b) (k.own b)
  notR b hb := (List.mem_append.1 hb).elim (h.notR b) (k.notR b)
theorem Bk.t {x : TV} (hok : okT w P R x) (h : Bk w0 E0 R ea w S (blkT x)) : New isv w0 E0 P R ea w S (.c (.t x)) :=
  ⟨by simpa [okX, okC] using hok, by simp [refsX, refsC], h.nd, h.sep, h.lt, h.own, h.notR⟩

mutual
theorem settle_ok : ∀ {c : CV} {S : SV} {t : TU} {Su : SU}, Rel isv w0 E0 P R ea w S tmps → Emp ea S0 S → okC w P R S0 ea c → Bk w0 E0 R ea w S (blkC c) → settle (erC c) (V.erS S) = some (t, Su) →
    ∃ (tG : TV) (S2 : SV), erT tG = t ∧ V.erS S2 = Su ∧ valT tG = valC c ∧ Rel isv w0 E0 P R ea w S2 tmps ∧ Emp ea S S2 ∧ okT w P R tG ∧ Bk w0 E0 R ea w S2 (blkT tG) ∧ (∀ b ∈ blkT tG, b ∈ blkC c ∨ ∃ r, b ∈ blkR S ea r)
  | .t x, S, t, Su, h, he, hok, hb, hq => by
    simp only [erC, mapC, settle, Option.some.injEq, Prod.mk.injEq] at hq
    obtain ⟨rfl, rfl⟩ := hq
    exact ⟨x, S, rfl, rfl, rfl, h, Emp.refl, by simpa [okC] using hok, by simpa [blkC] using hb, fun b hb => .inl (by simpa [blkC] using hb)⟩
  | .bor v r p i off sz n, S, t, Su, h, he, hok, hb, hq => by
    cases r with
    | ex j => simp [erC, mapC, settle] at hq
    | sl d =>
      simp only [erC, mapC, settle] at hq
      have hal : alive S (.bor v (.sl d) p i off sz n) = true := by
        have : alive (V.erS S) (erC (.bor v (.sl d) p i off sz n)) = true := by
          simp only [erC, mapC, alive]
          unfold takeAt at hq
          split at hq
          · rename_i heq; rw [heq]; rfl
          · cases hq
        rw [show alive (V.erS S) (erC (.bor v (.sl d) p i off sz n)) = alive S (.bor v (.sl d) p i off sz n) from alive_map er0 S _] at this
        exact this
      have hb := he.ok w P R _ hok hal
      simp only [okC] at hb
      obtain ⟨tG, S2, h1, h2, h3, h4, h5, h6, h7⟩ := takeAt_ok h hb hq
      exact ⟨tG, S2, h1, h2, h3, h4, h5, by simpa [okX, okC] using h6.ok, by simpa [blkX, blkC] using h6.bk, fun b hb => .inr ⟨_, h7 b hb⟩⟩
  | .lst v sz n cs, S, t, Su, h, he, hok, hb, hq => by
    simp only [erC, mapC, mapCs_eq, settle] at hq
    simp only [okC] at hok
    simp only [blkC] at hb
    rw [show cs.map (mapC er0) = cs.map erC from rfl] at hq
    cases hs : settles (cs.map erC) (V.erS S) with
    | none => rw [hs] at hq; simp at hq
    | some q =>
      obtain ⟨ts, Sq⟩ := q
      rw [hs] at hq
      simp only [Option.map_some, Option.some.injEq, Prod.mk.injEq] at hq
      obtain ⟨rfl, rfl⟩ := hq
      obtain ⟨us, S2, h1, h2, h3, h4, h5, h6, h7, h8⟩ := settles_ok h he hok.2.1 (hb.sub (List.sublist_append_right _ _)) hs
      have hlen : us.length = cs.length := by
        have := congrArg List.length h3
        simpa using this
      refine ⟨.sl v 0 sz n us, S2, by simp [erT, mapT, mapTs_eq, er0]; exact h1, h2, rfl, h4, h5, ?_, ?_, ?_⟩
      · simp only [okT, if_true]
        exact ⟨by omega, h6, by rw [h3, ← valCs_eq]; exact hok.2.2⟩
      · simp only [blkT, if_true]
        refine Bk.append ((hb.sub (List.sublist_append_left _ _)).emp h5) h7 ?_
        intro b hb1 hb2
        rcases h8 b hb2 with hb2 | ⟨r, hb2⟩
        · exact (List.nodup_append.1 hb.nd).2.2 b hb1 b hb2 rfl
        · exact hb.sep r b (List.mem_append_left _ hb1) hb2
      · intro b hb'
        simp only [blkT, if_true, List.mem_append] at hb'
        simp only [blkC, List.mem_append]
        rcases hb' with hb' | hb'
        · exact .inl (.inl hb')
        · exact (h8 b hb').imp .inr id
  | .ptr v r p off, S, t, Su, h, he, hok, hb, hq => by simp [erC, mapC, settle] at hq
  | .rptr v cs, S, t, Su, h, he, hok, hb, hq => by simp [erC, mapC, settle] at hq
  | .nilp, S, t, Su, h, he, hok, hb, hq => by simp [erC, mapC, settle] at hq
  | .nilf, S, t, Su, h, he, hok, hb, hq => by simp [erC, mapC, settle] at hq
  | .fn g caps, S, t, Su, h, he, hok, hb, hq => by simp [erC, mapC, settle] at hq
theorem settles_ok : ∀ {cs : List CV} {S : SV} {ts : List TU} {Su : SU}, Rel isv w0 E0 P R ea w S tmps → Emp ea S0 S → okCs w P R S0 ea cs → Bk w0 E0 R ea w S (blkCs cs) → settles (cs.map erC) (V.erS S) = some (ts, Su) →
    ∃ (us : List TV) (S2 : SV), us.map erT = ts ∧ V.erS S2 = Su ∧ us.map valT = cs.map valC ∧ Rel isv w0 E0 P R ea w S2 tmps ∧ Emp ea S S2 ∧ okTs w P R us ∧ Bk w0 E0 R ea w S2 (blkTs us) ∧ (∀ b ∈ blkTs us, b ∈ blkCs cs ∨ ∃ r, b ∈ blkR S ea r)
  | [], S, ts, Su, h, he, hok, hb, hq => by
    simp only [List.map_nil, settles, Option.some.injEq, Prod.mk.injEq] at hq
    obtain ⟨rfl, rfl⟩ := hq
    exact ⟨[], S, rfl, rfl, rfl, h, Emp.refl, by simp [okTs], by simpa [blkTs, blkCs] using hb, by simp [blkTs]⟩
  | c :: cs, S, ts, Su, h, he, hok, hb, hq => by
    simp only [List.map_cons, settles] at hq
    simp only [okCs] at hok
    simp only [blkCs] at hb
    cases h1 : settle (erC c) (V.erS S) with
    | none => rw [h1] at hq; simp at hq
    | some q =>
      obtain ⟨t, Sq⟩ := q
      rw [h1] at hq
      simp only [Option.bind_some] at hq
      cases h2 : settles (cs.map erC) Sq with
      | none => rw [h2] at hq; simp at hq
      | some q2 =>
        obtain ⟨us', Sr⟩ := q2
        rw [h2] at hq
        simp only [Option.map_some, Option.some.injEq, Prod.mk.injEq] at hq
        obtain ⟨rfl, rfl⟩ := hq
        have hbc := hb.sub (List.sublist_append_left (blkC c) (blkCs cs))
        have hbs := hb.sub (List.sublist_append_right (blkC c) (blkCs cs))
        obtain ⟨tG, S2, a1, a2, a3, a4, a5, a6, a7, a8⟩ := settle_ok h he hok.1 hbc h1
        subst a2
        obtain ⟨us, S3, b1, b2, b3, b4, b5, b6, b7, b8⟩ := settles_ok a4 (he.trans a5) hok.2 (hbs.emp a5) h2
        refine ⟨tG :: us, S3, by simp [a1, b1], b2, by simp [a3, b3], b4, a5.trans b5, ⟨a6, b6⟩, ?_, ?_⟩
        · simp only [blkTs]
          refine Bk.append (a7.emp b5) b7 ?_
          intro b hb1 hb2
          rcases b8 b hb2 with hb2 | ⟨r, hb2⟩
          · rcases a8 b hb1 with hb1 | ⟨r, hb1⟩
            · exact (List.nodup_append.1 hb.nd).2.2 b hb1 b hb2 rfl
            · exact hbs.sep r b hb2 hb1
          · exact a7.sep r b hb1 hb2
        · intro b hb'
          simp only [blkTs, List.mem_append] at hb'
          simp only [blkCs, List.mem_append]
          rcases hb' with hb' | hb'
          · exact (a8 b hb').imp .inl id
          · rcases b8 b hb' with hb' | ⟨r, hb'⟩
            · exact .inl (.inr hb')
            · exact .inr ⟨r, a5.blk r b hb'⟩
end
end
end Go.Proofs.YtlkjnlfddadlmaaDoor.V

namespace Go.Proofs.YtlkjnlfddadlmaaDoor.V
open Go.RowKit

section
variable {cx : Ctx} {f : Nat} {isv : Nat → Bool} {w0 : World} {E0 : Nat → Prop} {P : Nat → Nat → Prop} {R R' : Nat → Prop} {ea : List EA} {w w' : World} {S0 S S' S2 S3 : SV} {tmps : Array Value} {Pr : Program} {a : Act} {call : Callee}

theorem take_alive {v : Value} {r : Root} {p : List Nat} {i off sz n : Nat} {q : TU × SU} (hq : takeAt (V.erS S) () r p i off sz n = some q) : alive S (.bor v r p i off sz n) = true := by
  have : alive (V.erS S) (erC (.bor v r p i off sz n)) = true := by
    simp only [erC, mapC, alive]
    unfold takeAt at hq
    split at hq
    · rename_i heq; rw [heq]; rfl
    · cases hq
  rw [show alive (V.erS S) (erC (.bor v r p i off sz n)) = alive S (.bor v r p i off sz n) from alive_map er0 S _] at this
  exact this

def Kept (isv : Nat → Bool) (w0 : World) (E0 : Nat → Prop) (P : Nat → Nat → Prop) (R : Nat → Prop) (ea : List EA) (w : World) (tmps : Array Value) (S0 S : SV) (c : CV) (d : CU) (Su : SU) : Prop :=
  ∃ (cG : CV) (S2 : SV), erC cG = d ∧ V.erS S2 = Su ∧ valC cG = valC c ∧ Rel isv w0 E0 P R ea w S2 tmps ∧ Emp ea S S2 ∧ okC w P R S0 ea cG ∧ Bk w0 E0 R ea w S2 (blkC cG) ∧ (∀ b ∈ blkC cG, b ∈ blkC c ∨ ∃ r, b ∈ blkR S ea r) ∧ ∀ k ∈ refsC cG, k ∈ refsC c

theorem Kept.same (h : Rel isv w0 E0 P R ea w S tmps) {c : CV} (hok : okC w P R S0 ea c) (hb : Bk w0 E0 R ea w S (blkC c)) : Kept isv w0 E0 P R ea w tmps S0 S c (erC c) (V.erS S) :=
  ⟨c, S, rfl, rfl, rfl, h, Emp.refl, hok, hb, fun _ h => .inl h, fun _ h => h⟩

theorem Kept.take (h : Rel isv w0 E0 P R ea w S tmps) (he : Emp ea S0 S) {v : Value} {r : Root} {p : List Nat} {i off sz n : Nat} (hok : okC w P R S0 ea (.bor v r p i off sz n)) {t : TU} {Su : SU}
    (hq : takeAt (V.erS S) () r p i off sz n = some (t, Su)) : Kept isv w0 E0 P R ea w tmps S0 S (.bor v r p i off sz n) (.t t) Su := by
  have hb := he.ok w P R _ hok (take_alive hq)
  simp only [okC] at hb
  obtain ⟨tG, S2, h1, h2, h3, h4, h5, h6, h7⟩ := takeAt_ok h hb hq
  exact ⟨.t tG, S2, by simp [erC, mapC]; exact h1, h2, by simp [valC, h3], h4, h5, by simpa [okX, okC] using h6.ok, by simpa [blkX] using h6.bk, fun b hb => .inr ⟨_, h7 b (by simpa [blkC] using hb)⟩, by simp [refsC]⟩

theorem keep_ok (h : Rel isv w0 E0 P R ea w S tmps) (he : Emp ea S0 S) {c : CV} (hok : okC w P R S0 ea c) (hb : Bk w0 E0 R ea w S (blkC c)) {d : CU} {Su : SU} (hq : keep cx f (erC c) (V.erS S) = some (d, Su)) :
    Kept isv w0 E0 P R ea w tmps S0 S c d Su := by
  cases c with
  | lst v sz n cs =>
    simp only [erC, mapC, keep] at hq
    cases hs : settle (.lst () sz n (mapCs er0 cs)) (V.erS S) with
    | none => rw [show (C.lst (er0 v) sz n (mapCs er0 cs)) = .lst () sz n (mapCs er0 cs) from rfl, hs] at hq; simp at hq
    | some q =>
      obtain ⟨t, Sq⟩ := q
      rw [show (C.lst (er0 v) sz n (mapCs er0 cs)) = .lst () sz n (mapCs er0 cs) from rfl, hs] at hq
      simp only [Option.map_some, Option.some.injEq, Prod.mk.injEq] at hq
      obtain ⟨rfl, rfl⟩ := hq
      obtain ⟨tG, S2, a1, a2, a3, a4, a5, a6, a7, a8⟩ := settle_ok h he hok hb hs
      exact ⟨.t tG, S2, by simp [erC, mapC]; exact a1, a2, by simp [valC, a3], a4, a5, by simpa [okC] using a6, by simpa [blkC] using a7, fun b hb => a8 b (by simpa [blkC] using hb), by simp [refsC]⟩
  | bor v r p i off sz n =>
    cases r with
    | ex j =>
      simp only [erC, mapC, keep] at hq
      split at hq
      · cases ht : takeAt (V.erS S) () (.ex j) p i off sz n with
        | none => rw [show er0 v = () from rfl, ht] at hq; simp at hq
        | some q =>
          obtain ⟨t, Sq⟩ := q
          rw [show er0 v = () from rfl, ht] at hq
          simp only [Option.map_some, Option.some.injEq, Prod.mk.injEq] at hq
          obtain ⟨rfl, rfl⟩ := hq
          exact Kept.take h he hok ht
      · simp only [Option.some.injEq, Prod.mk.injEq] at hq
        obtain ⟨rfl, rfl⟩ := hq
        exact Kept.same h hok hb
    | sl d' =>
      simp only [erC, mapC, keep] at hq
      split at hq
      · simp only [Option.some.injEq, Prod.mk.injEq] at hq
        obtain ⟨rfl, rfl⟩ := hq
        exact Kept.same h hok hb
      · cases ht : takeAt (V.erS S) () (.sl d') p i off sz n with
        | none => rw [show er0 v = () from rfl, ht] at hq; simp at hq
        | some q =>
          obtain ⟨t, Sq⟩ := q
          rw [show er0 v = () from rfl, ht] at hq
          simp only [Option.map_some, Option.some.injEq, Prod.mk.injEq] at hq
          obtain ⟨rfl, rfl⟩ := hq
          exact Kept.take h he hok ht
  | _ =>
    simp only [erC, mapC, keep, Option.some.injEq, Prod.mk.injEq] at hq
    obtain ⟨rfl, rfl⟩ := hq
    exact Kept.same h hok hb
end
end Go.Proofs.YtlkjnlfddadlmaaDoor.V

namespace Go.Proofs.YtlkjnlfddadlmaaDoor.V
open Go.RowKit

section
variable {cx : Ctx} {f : Nat} {isv : Nat → Bool} {w0 : World} {E0 : Nat → Prop} {P : Nat → Nat → Prop} {R R' : Nat → Prop} {ea : List EA} {w w' : World} {S0 S S' S2 S3 : SV} {tmps : Array Value} {Pr : Program} {a : Act} {call : Callee}

theorem keepD_ok {d0 : Nat} (h : Rel isv w0 E0 P R ea w S tmps) (he : Emp ea S0 S) {c : CV} (hok : okC w P R S0 ea c) (hb : Bk w0 E0 R ea w S (blkC c)) {d : CU} {Su : SU} (hq : keepD cx f d0 (erC c) (V.erS S) = some (d, Su)) :
    Kept isv w0 E0 P R ea w tmps S0 S c d Su := by
  cases c with
  | bor v r p i off sz n =>
    cases r with
    | ex j => exact keep_ok (cx := cx) (f := f) h he hok hb (by simpa only [erC, mapC, keepD] using hq)
    | sl d' =>
      simp only [erC, mapC, keepD] at hq
      split at hq
      · cases ht : takeAt (V.erS S) () (.sl d') p i off sz n with
        | none => rw [show er0 v = () from rfl, ht] at hq; simp at hq
        | some q =>
          obtain ⟨t, Sq⟩ := q
          rw [show er0 v = () from rfl, ht] at hq
          simp only [Option.map_some, Option.some.injEq, Prod.mk.injEq] at hq
          obtain ⟨rfl, rfl⟩ := hq
          exact Kept.take h he hok ht
      · exact keep_ok (cx := cx) (f := f) h he hok hb hq
  | _ => exact keep_ok (cx := cx) (f := f) h he hok hb (by simpa only [erC, mapC, keepD] using hq)

theorem keepDs_ok {d0 : Nat} : ∀ {cs : List CV} {S : SV} {ds : List CU} {Su : SU}, Rel isv w0 E0 P R ea w S tmps → Emp ea S0 S → okCs w P R S0 ea cs → Bk w0 E0 R ea w S (blkCs cs) → keepDs cx f d0 (cs.map erC) (V.erS S) = some (ds, Su) →
    ∃ (us : List CV) (S2 : SV), us.map erC = ds ∧ V.erS S2 = Su ∧ us.map valC = cs.map valC ∧ Rel isv w0 E0 P R ea w S2 tmps ∧ Emp ea S S2 ∧ okCs w P R S0 ea us ∧ Bk w0 E0 R ea w S2 (blkCs us) ∧ (∀ b ∈ blkCs us, b ∈ blkCs cs ∨ ∃ r, b ∈ blkR S ea r) ∧ ∀ k ∈ refsCs us, k ∈ refsCs cs
  | [], S, ds, Su, h, he, hok, hb, hq => by
    simp only [List.map_nil, keepDs, Option.some.injEq, Prod.mk.injEq] at hq
    obtain ⟨rfl, rfl⟩ := hq
    exact ⟨[], S, rfl, rfl, rfl, h, Emp.refl, by simp [okCs], hb, fun _ h => .inl h, fun _ h => h⟩
  | c :: cs, S, ds, Su, h, he, hok, hb, hq => by
    simp only [List.map_cons, keepDs] at hq
    simp only [okCs] at hok
    simp only [blkCs] at hb
    cases h1 : keepD cx f d0 (erC c) (V.erS S) with
    | none => rw [h1] at hq; simp at hq
    | some q =>
      obtain ⟨t, Sq⟩ := q
      rw [h1] at hq
      simp only [Option.bind_some] at hq
      cases h2 : keepDs cx f d0 (cs.map erC) Sq with
      | none => rw [h2] at hq; simp at hq
      | some q2 =>
        obtain ⟨us', Sr⟩ := q2
        rw [h2] at hq
        simp only [Option.map_some, Option.some.injEq, Prod.mk.injEq] at hq
        obtain ⟨rfl, rfl⟩ := hq
        have hbc := hb.sub (List.sublist_append_left (blkC c) (blkCs cs))
        have hbs := hb.sub (List.sublist_append_right (blkC c) (blkCs cs))
        obtain ⟨cG, S2, a1, a2, a3, a4, a5, a6, a7, a8, a9⟩ := keepD_ok h he hok.1 hbc h1
        subst a2
        obtain ⟨us, S3, b1, b2, b3, b4, b5, b6, b7, b8, b9⟩ := keepDs_ok a4 (he.trans a5) hok.2 (hbs.emp a5) h2
        refine ⟨cG :: us, S3, by simp [a1, b1], b2, by simp [a3, b3], b4, a5.trans b5, ⟨a6, b6⟩, ?_, ?_, ?_⟩
        · simp only [blkCs]
          refine Bk.append (a7.emp b5) b7 ?_
          intro b hb1 hb2
          rcases b8 b hb2 with hb2 | ⟨r, hb2⟩
          · rcases a8 b hb1 with hb1 | ⟨r, hb1⟩
            · exact (List.nodup_append.1 hb.nd).2.2 b hb1 b hb2 rfl
            · exact hbs.sep r b hb2 hb1
          · exact a7.sep r b hb1 hb2
        · intro b hb'
          simp only [blkCs, List.mem_append] at hb' ⊢
          rcases hb' with hb' | hb'
          · exact (a8 b hb').imp .inl id
          · rcases b8 b hb' with hb' | ⟨r, hb'⟩
            · exact .inl (.inr hb')
            · exact .inr ⟨r, a5.blk r b hb'⟩
        · intro k hk
          simp only [refsCs, List.mem_append] at hk ⊢
          exact hk.imp (a9 k) (b9 k)

theorem alives_iff {cs : List CV} : alives S cs = true ↔ ∀ c ∈ cs, alive S c = true := by
  induction cs with
  | nil => simp [alives]
  | cons c cs ih => simp [alives, ih]

theorem Emp.oks (h : Emp ea S0 S) {cs : List CV} (hok : okCs w P R S0 ea cs) (ha : alives S cs = true) : okCs w P R S ea cs :=
  okCs_iff.2 fun c hc => h.ok w P R c (okCs_iff.1 hok c hc) (alives_iff.1 ha c hc)

theorem New.of_bk {x : XV} (hok : okX w P R S ea x) (hr : ∀ d', Root.sl d' ∈ refsX x → isv d' = true) (hb : Bk w0 E0 R ea w S (blkX x)) : New isv w0 E0 P R ea w S x := ⟨hok, hr, hb.nd, hb.sep, hb.lt, hb.own, hb.notR⟩

theorem keepX_ok {d0 : Nat} (h : Rel isv w0 E0 P R ea w S tmps) {x : XV} (hn : New isv w0 E0 P R ea w S x) {y : XU} {Su : SU} (hq : keepX cx f d0 (erX x) (V.erS S) = some (y, Su)) :
    ∃ (yG : XV) (S2 : SV), erX yG = y ∧ V.erS S2 = Su ∧ valX yG = valX x ∧ Rel isv w0 E0 P R ea w S2 tmps ∧ Emp ea S S2 ∧ New isv w0 E0 P R ea w S2 yG := by
  have hok := hn.ok
  have hb := hn.bk
  cases x with
  | c c =>
    simp only [okX, blkX] at hok hb
    simp only [erX, mapX, keepX] at hq
    cases h1 : keepD cx f d0 (erC c) (V.erS S) with
    | none => rw [show mapC er0 c = erC c from rfl, h1] at hq; simp at hq
    | some q =>
      obtain ⟨t, Sq⟩ := q
      rw [show mapC er0 c = erC c from rfl, h1] at hq
      simp only [Option.bind_some] at hq
      split at hq
      · rename_i hal
        simp only [Option.some.injEq, Prod.mk.injEq] at hq
        obtain ⟨rfl, rfl⟩ := hq
        obtain ⟨cG, S2, a1, a2, a3, a4, a5, a6, a7, a8, a9⟩ := keepD_ok h Emp.refl hok hb h1
        subst a1; subst a2
        rw [show alive (V.erS S2) (erC cG) = alive S2 cG from alive_map er0 S2 cG] at hal
        exact ⟨.c cG, S2, rfl, rfl, by simp [valX, a3], a4, a5, New.of_bk (by simpa [okX] using a5.ok w P R _ a6 hal) (fun d' hd' => hn.refs d' (by simpa [refsX] using a9 _ (by simpa [refsX] using hd'))) (by simpa [blkX] using a7)⟩
      · cases hq
  | agg cs =>
    simp only [okX, blkX] at hok hb
    simp only [erX, mapX, mapCs_eq, keepX] at hq
    cases h1 : keepDs cx f d0 (cs.map erC) (V.erS S) with
    | none => rw [show cs.map (mapC er0) = cs.map erC from rfl, h1] at hq; simp at hq
    | some q =>
      obtain ⟨t, Sq⟩ := q
      rw [show cs.map (mapC er0) = cs.map erC from rfl, h1] at hq
      simp only [Option.bind_some] at hq
      split at hq
      · rename_i hal
        simp only [Option.some.injEq, Prod.mk.injEq] at hq
        obtain ⟨rfl, rfl⟩ := hq
        obtain ⟨us, S2, a1, a2, a3, a4, a5, a6, a7, a8, a9⟩ := keepDs_ok h Emp.refl hok hb h1
        subst a1; subst a2
        rw [show us.map erC = mapCs er0 us from (mapCs_eq er0 us).symm, show alives (V.erS S2) (mapCs er0 us) = alives S2 us from alives_map er0 S2 us] at hal
        exact ⟨.agg us, S2, by simp [erX, mapX, mapCs_eq], rfl, by simp [valX, valCs_eq, a3], a4, a5, New.of_bk (by simpa [okX] using a5.oks a6 hal) (fun d' hd' => hn.refs d' (by simpa [refsX] using a9 _ (by simpa [refsX] using hd'))) (by simpa [blkX] using a7)⟩
      · cases hq
  | box v cs =>
    simp only [erX, mapX, keepX] at hq
    split at hq
    · simp only [Option.some.injEq, Prod.mk.injEq] at hq
      obtain ⟨rfl, rfl⟩ := hq
      exact ⟨.box v cs, S, rfl, rfl, rfl, h, Emp.refl, hn⟩
    · cases hq
  | tup xs => simp [erX, mapX, keepX] at hq
  | undef => simp [erX, mapX, keepX] at hq
end
end Go.Proofs.YtlkjnlfddadlmaaDoor.V

namespace Go.Proofs.YtlkjnlfddadlmaaDoor.V
open Go.RowKit

section
variable {cx : Ctx} {f : Nat} {isv : Nat → Bool} {w0 : World} {E0 : Nat → Prop} {P : Nat → Nat → Prop} {R R' : Nat → Prop} {ea : List EA} {w w' : World} {S0 S S' S2 S3 : SV} {tmps : Array Value} {Pr : Program} {a : Act} {call : Callee}

mutual
theorem killC_id {r : Root} {q : List Nat} : ∀ {c : CV}, r ∉ refsC c → killC r q c = c
  | .t x, _ => rfl
  | .ptr v k p off, h => by
    simp only [refsC, List.mem_singleton] at h
    simp [killC, h]
  | .bor v k p i off sz n, h => by
    simp only [refsC, List.mem_singleton] at h
    simp [killC, h]
  | .rptr v cs, _ => rfl
  | .nilp, _ => rfl
  | .nilf, _ => rfl
  | .fn g caps, h => by simp only [refsC] at h; simp only [killC, killCs_id h]
  | .lst v sz n cs, h => by simp only [refsC] at h; simp only [killC, killCs_id h]
theorem killCs_id {r : Root} {q : List Nat} : ∀ {cs : List CV}, r ∉ refsCs cs → killCs r q cs = cs
  | [], _ => rfl
  | c :: cs, h => by
    simp only [refsCs, List.mem_append, not_or] at h
    simp only [killCs, killC_id h.1, killCs_id h.2]
end

mutual
theorem killC_gone {r : Root} : ∀ c : CV, r ∉ refsC (killC r [] c)
  | .t x => by simp [killC, refsC]
  | .ptr v k p off => by
    by_cases e : r = k
    · simp [killC, e, pre, refsC]
    · simp [killC, e, refsC]
  | .bor v k p i off sz n => by
    by_cases e : r = k
    · simp [killC, e, pre, refsC]
    · simp [killC, e, refsC]
  | .rptr v cs => by simp [killC, refsC]
  | .nilp => by simp [killC, refsC]
  | .nilf => by simp [killC, refsC]
  | .fn g caps => by simp only [killC, refsC]; exact killCs_gone caps
  | .lst v sz n cs => by simp only [killC, refsC]; exact killCs_gone cs
theorem killCs_gone {r : Root} : ∀ cs : List CV, r ∉ refsCs (killCs r [] cs)
  | [] => by simp [killCs, refsCs]
  | c :: cs => by simp only [killCs, refsCs, List.mem_append, not_or]; exact ⟨killC_gone c, killCs_gone cs⟩
end

mutual
theorem killX_gone {r : Root} : ∀ x : XV, r ∉ refsX (killX r [] x)
  | .c x => by simp only [killX, refsX]; exact killC_gone x
  | .agg cs => by simp only [killX, refsX]; exact killCs_gone cs
  | .box v cs => by simp only [killX, refsX]; exact killCs_gone cs
  | .tup xs => by simp only [killX, refsX]; exact killXs_gone xs
  | .undef => by simp [killX, refsX]
theorem killXs_gone {r : Root} : ∀ xs : List XV, r ∉ refsXs (killXs r [] xs)
  | [] => by simp [killXs, refsXs]
  | x :: xs => by simp only [killXs, refsXs, List.mem_append, not_or]; exact ⟨killX_gone x, killXs_gone xs⟩
end

theorem noMen_kill (d : Nat) : NoMen (kill (.sl d) [] S) d :=
  ⟨fun i => killX_gone _, fun j cs hj => by
    simp only [kill, List.getElem?_map] at hj
    cases hc : S.e[j]? with
    | none => simp [hc] at hj
    | some ds =>
      simp only [hc, Option.map_some, Option.some.injEq] at hj
      subst hj
      exact killCs_gone ds⟩

mutual
theorem rootsC_refs : ∀ c : CV, rootsC true (erC c) = refsC c
  | .t x => rfl
  | .ptr v k p off => rfl
  | .bor v k p i off sz n => rfl
  | .rptr v cs => rfl
  | .nilp => rfl
  | .nilf => rfl
  | .fn g caps => by simp only [erC, mapC, rootsC, refsC]; exact rootsCs_refs caps
  | .lst v sz n cs => by simp only [erC, mapC, rootsC, refsC]; exact rootsCs_refs cs
theorem rootsCs_refs : ∀ cs : List CV, rootsCs true (mapCs er0 cs) = refsCs cs
  | [] => rfl
  | c :: cs => by simp only [mapCs, rootsCs, refsCs]; rw [show mapC er0 c = erC c from rfl, rootsC_refs c, rootsCs_refs cs]
end

theorem New.kill {r : Root} {q : List Nat} {x : XV} (hn : New isv w0 E0 P R ea w S x) (hr : killX r q x = x) : New isv w0 E0 P R ea w (V.kill r q S) x := by
  have hok := okX_kill r q hn.ok
  rw [hr] at hok
  exact ⟨hok, hn.refs, hn.nd, fun k b hb hb' => hn.sep k b hb (by rwa [blkR_kill] at hb'), hn.lt, hn.own, hn.notR⟩

theorem New.cleared {d : Nat} {x : XV} (hn : New isv w0 E0 P R ea w S x) (hr : Root.sl d ∉ refsX x) : New isv w0 E0 P R ea w { S with s := upd S.s d .undef } x := by
  refine ⟨okX_same (fun _ _ _ => rfl) (fun _ _ => rfl) hn.ok (fun _ _ => rfl) (fun r hr' => roots_upd (fun e => hr (e ▸ hr'))), hn.refs, hn.nd, fun r b hb hb' => hn.sep r b hb ?_, hn.lt, hn.own, hn.notR⟩
  by_cases e : r = .sl d
  · subst e; simp [blkR, upd, blkX] at hb'
  · rwa [blkR_upd e] at hb'
end
end Go.Proofs.YtlkjnlfddadlmaaDoor.V

namespace Go.Proofs.YtlkjnlfddadlmaaDoor.V
open Go.RowKit

section
variable {cx : Ctx} {f : Nat} {isv : Nat → Bool} {w0 : World} {E0 : Nat → Prop} {P : Nat → Nat → Prop} {R R' : Nat → Prop} {ea : List EA} {w w' : World} {S0 S S' S2 S3 : SV} {tmps : Array Value} {Pr : Program} {a : Act} {call : Callee}

mutual
theorem killX_id {r : Root} {q : List Nat} : ∀ {x : XV}, r ∉ refsX x → killX r q x = x
  | .c x, h => by simp only [refsX] at h; simp only [killX, killC_id h]
  | .agg cs, h => by simp only [refsX] at h; simp only [killX, killCs_id h]
  | .box v cs, h => by simp only [refsX] at h; simp only [killX, killCs_id h]
  | .tup xs, h => by simp only [refsX] at h; simp only [killX, killXs_id h]
  | .undef, _ => rfl
theorem killXs_id {r : Root} {q : List Nat} : ∀ {xs : List XV}, r ∉ refsXs xs → killXs r q xs = xs
  | [], _ => rfl
  | x :: xs, h => by
    simp only [refsXs, List.mem_append, not_or] at h
    simp only [killXs, killX_id h.1, killXs_id h.2]
end

theorem refsOf_er {x : XV} : (∀ ys, x ≠ .tup ys) → refsOf (erX x) = refsX x := by
  intro hne
  cases x with
  | c c => simp only [erX, mapX, refsOf, refsX]; exact rootsC_refs c
  | agg cs => simp only [erX, mapX, refsOf, refsX]; exact rootsCs_refs cs
  | box v cs => simp only [erX, mapX, refsOf, refsX]; exact rootsCs_refs cs
  | tup ys => exact absurd rfl (hne ys)
  | undef => rfl

theorem keepX_tup {d0 : Nat} {x : XU} {S : SU} {ys : List XU} {Su : SU} (h : keepX cx f d0 x S = some (.tup ys, Su)) : False := by
  cases x with
  | c c =>
    simp only [keepX] at h
    cases h1 : keepD cx f d0 c S with
    | none => rw [h1] at h; simp at h
    | some q => rw [h1] at h; simp only [Option.bind_some] at h; split at h <;> simp at h
  | agg cs =>
    simp only [keepX] at h
    cases h1 : keepDs cx f d0 cs S with
    | none => rw [h1] at h; simp at h
    | some q => rw [h1] at h; simp only [Option.bind_some] at h; split at h <;> simp at h
  | box v cs => simp only [keepX] at h; split at h <;> simp at h
  | tup xs => simp [keepX] at h
  | undef => simp [keepX] at h

theorem assign_ok {n d : Nat} {Su Su' : SU} {x : Operand} {t : Nat} (hat : At cx f w0 E0 P R ea n Su a w) (hd : d < n) (hq : assignV cx f Su t d x = some Su') : At cx f w0 E0 P R ea n Su' (a.put (some d) (a.eval x)) w := by
  obtain ⟨S, h, rfl, hdef, hsz⟩ := hat
  unfold assignV at hq
  cases hx : opv cx f (V.erS S) t x with
  | none => simp [hx] at hq
  | some y =>
    simp only [hx, Option.bind_some] at hq
    obtain ⟨xG, hxG⟩ := h.opv rfl hx
    rw [← clr_map] at hq
    cases hk : keepX cx f d y (V.erS (V.clr cx f S x)) with
    | none => rw [hk] at hq; simp at hq
    | some q =>
      obtain ⟨z, Sz⟩ := q
      rw [hk] at hq
      simp only [Option.bind_some] at hq
      have hnt : ∀ ys, z ≠ .tup ys := fun ys e => keepX_tup (e ▸ hk)
      rw [← hxG.er] at hk
      obtain ⟨yG, S2, k1, k2, k3, k4, k5, k6⟩ := keepX_ok (h.clr x) hxG.new hk
      subst k1; subst k2
      have hval : a.eval x = valX yG := by rw [hxG.val, k3]
      rw [hval]
      split at hq
      · split at hq
        · cases hq
        · rename_i hv hno
          simp only [Option.some.injEq] at hq
          subst hq
          have hno' : Root.sl d ∉ refsX yG := by
            rw [← refsOf_er (fun ys e => hnt (ys.map erX) (by rw [e]; simp [erX, mapX, mapXs_eq]))]
            simpa using hno
          have h3 := k4.kill (.sl d) []
          have n3 := k6.kill (r := .sl d) (q := []) (killX_id hno')
          have h4 := h3.clear (noMen_kill d)
          have n4 := n3.cleared hno'
          have h5 := h4.put (d := d) n4 (fun _ => by simp [upd]) (by rw [hsz]; exact hd)
          refine ⟨_, h5, ?_, hdef, by simp [Act.put, hsz]⟩
          simp only [V.erS, kill_map]
          simp only [mapS]
          congr 1
          funext i
          by_cases e : i = d <;> simp [upd, e]
      · rename_i hv
        simp only [Option.some.injEq] at hq
        subst hq
        have h5 := k4.put k6 (fun h' => absurd h' hv) (by rw [hsz]; exact hd)
        exact ⟨_, h5, by simp only [V.erS, mapS, upd_map], hdef, by simp [Act.put, hsz]⟩
end
end Go.Proofs.YtlkjnlfddadlmaaDoor.V

namespace Go.Proofs.YtlkjnlfddadlmaaDoor.V
open Go.RowKit

section
variable {cx : Ctx} {f : Nat} {isv : Nat → Bool} {w0 : World} {E0 : Nat → Prop} {P : Nat → Nat → Prop} {R R' : Nat → Prop} {ea : List EA} {w w' : World} {S0 S S' S2 S3 : SV} {tmps : Array Value} {Pr : Program} {a : Act} {call : Callee}

theorem heap_setCell {b o : Nat} {v : Value} {cur : Array Value} {e : TypeId} (h : w.heap[b]? = some (.cells cur e (0, 0))) : (w.setCell ⟨b, o, none⟩ v).heap[b]? = some (.cells (cur.setIfInBounds o v) e (0, 0)) := by
  simp [World.setCell, Array.getElem?_modify, h]

theorem heap_other {b o k : Nat} {v : Value} (h : k ≠ b) : (w.setCell ⟨b, o, none⟩ v).heap[k]? = w.heap[k]? := Below.heap_setCell w ⟨b, o, none⟩ v k h

theorem OwnAt.store {sz n i cap : Nat} {vs : List Value} {ad : Addr} {v : Value} (h : OwnAt w (.slice (some ad) n cap) sz n vs) (hl : vs.length = n * sz) (hi : i < vs.length) :
    OwnAt (w.setCell ⟨ad.block, ad.off + i, none⟩ v) (.slice (some ad) n cap) sz n (vs.set i v) := by
  rcases h with ⟨h, _⟩ | ⟨b, o, cur, e, ⟨ad', cap', h0, h1, h2, rfl, h3⟩, hh, hv⟩
  · cases h
  · simp only [Value.slice.injEq, Option.some.injEq, true_and] at h0
    obtain ⟨rfl, rfl⟩ := h0
    have hn : n ≠ 0 := by
      intro e0
      rw [e0, Nat.zero_mul] at hl
      omega
    obtain ⟨rfl, h4⟩ := h3.resolve_left (by omega)
    refine .inr ⟨ad.block, ad.off, cur.setIfInBounds (ad.off + i) v, e, ⟨ad, cap, rfl, h1, h2, rfl, .inr ⟨rfl, by simpa using h4⟩⟩, heap_setCell hh, ?_⟩
    intro j u hj
    have hsz : i < n * sz := by omega
    have hcap : n * sz ≤ cap * sz := Nat.mul_le_mul_right _ h1
    by_cases e' : j = i
    · subst e'
      rw [List.getElem?_set_self hi] at hj
      simp only [Option.some.injEq] at hj
      subst hj
      rw [Array.getElem?_setIfInBounds_self_of_lt (by omega)]
    · rw [List.getElem?_set_ne (Ne.symm e')] at hj
      rw [Array.getElem?_setIfInBounds_ne (by omega)]
      exact hv j u hj

theorem nodup_apart {β : Type} (g : β → List Nat) : ∀ {cs : List β} {j k : Nat} {x z : β}, (cs.flatMap g).Nodup → cs[j]? = some x → cs[k]? = some z → j ≠ k → ∀ b ∈ g x, b ∉ g z
  | [], j, k, x, z, _, hj, _, _ => by simp at hj
  | c :: cs, 0, 0, x, z, _, _, _, hne => absurd rfl hne
  | c :: cs, 0, k + 1, x, z, h, hj, hk, _ => by
    simp only [List.flatMap_cons, List.nodup_append] at h
    simp only [List.getElem?_cons_zero, Option.some.injEq] at hj
    simp only [List.getElem?_cons_succ] at hk
    subst hj
    intro b hb hb'
    exact h.2.2 b hb b (List.mem_flatMap.2 ⟨z, List.mem_of_getElem? hk, hb'⟩) rfl
  | c :: cs, j + 1, 0, x, z, h, hj, hk, _ => by
    simp only [List.flatMap_cons, List.nodup_append] at h
    simp only [List.getElem?_cons_zero, Option.some.injEq] at hk
    simp only [List.getElem?_cons_succ] at hj
    subst hk
    intro b hb hb'
    exact h.2.2 b hb' b (List.mem_flatMap.2 ⟨x, List.mem_of_getElem? hj, hb⟩) rfl
  | c :: cs, j + 1, k + 1, x, z, h, hj, hk, hne => by
    simp only [List.flatMap_cons, List.nodup_append] at h
    simp only [List.getElem?_cons_succ] at hj hk
    exact nodup_apart g h.2.1 hj hk (by omega)

theorem nodup_one {β : Type} (g : β → List Nat) : ∀ {cs : List β} {k : Nat} {x : β}, (cs.flatMap g).Nodup → cs[k]? = some x → (g x).Nodup
  | [], k, x, _, hk => by simp at hk
  | c :: cs, 0, x, h, hk => by
    simp only [List.flatMap_cons, List.nodup_append] at h
    simp only [List.getElem?_cons_zero, Option.some.injEq] at hk
    exact hk ▸ h.1
  | c :: cs, k + 1, x, h, hk => by
    simp only [List.flatMap_cons, List.nodup_append] at h
    simp only [List.getElem?_cons_succ] at hk
    exact nodup_one g h.2.1 hk
end
end Go.Proofs.YtlkjnlfddadlmaaDoor.V

namespace Go.Proofs.YtlkjnlfddadlmaaDoor.V
open Go.RowKit

section
variable {cx : Ctx} {f : Nat} {isv : Nat → Bool} {w0 : World} {E0 : Nat → Prop} {P : Nat → Nat → Prop} {R R' : Nat → Prop} {ea : List EA} {w w' : World} {S0 S S' S2 S3 : SV} {tmps : Array Value} {Pr : Program} {a : Act} {call : Callee}

theorem okT_apart {B : Nat} (hw : ∀ k, k ≠ B → w'.heap[k]? = w.heap[k]?) (hP : ∀ t b, P t b → b ≠ B) (hR : ∀ b, R b → b ≠ B) {x : TV} (hx : okT w P R x) (hb : B ∉ blkT x) : okT w' P R x :=
  okT_same (fun t b hb' => hw b (hP t b hb')) (fun b hb' => hw b (hR b hb')) hx (fun b hb' => hw b (fun e => hb (e ▸ hb')))

theorem setT_store {ad : Addr} {i : Nat} {y : TV} (hy : okT (w.setCell ⟨ad.block, ad.off + i, none⟩ (valT y)) P R y) (hP : ∀ t b, P t b → b ≠ ad.block) (hR : ∀ b, R b → b ≠ ad.block) :
    ∀ {p : List Nat} {cs ds : List TV} {m cap sz : Nat} {es : List TV}, p ≠ [] → setT cs p i y = some ds → atT cs p.dropLast (p.getLast?.getD 0) = some (.sl (.slice (some ad) m cap) 0 sz m es) → (blkTs cs).Nodup → okTs w P R cs →
      okTs (w.setCell ⟨ad.block, ad.off + i, none⟩ (valT y)) P R ds ∧ ds.map valT = cs.map valT ∧ ad.block ∈ blkTs cs := by
  have hw : ∀ k, k ≠ ad.block → (w.setCell ⟨ad.block, ad.off + i, none⟩ (valT y)).heap[k]? = w.heap[k]? := fun k hk => heap_other hk
  intro p
  induction p with
  | nil => intro cs ds m cap sz es h; exact absurd rfl h
  | cons k q ih =>
    intro cs ds m cap sz es _ hs hat hnd hok
    simp only [setT] at hs
    split at hs
    · rename_i v sz' n xs hk
      cases hsx : setT xs q i y with
      | none => simp [hsx] at hs
      | some fs =>
        simp only [hsx, Option.map_some, Option.some.injEq] at hs
        subst hs
        have hl := okTs_iff.1 hok _ (List.mem_of_getElem? hk)
        have hlt : k < cs.length := (List.getElem?_eq_some_iff.1 hk).1
        have hndk : (blkT (.sl v 0 sz' n xs)).Nodup := by rw [blkTs_eq] at hnd; exact nodup_one blkT hnd hk
        simp only [okT, if_true] at hl
        simp only [blkT, if_true] at hndk
        rw [List.nodup_append] at hndk
        -- the list in cell k, and that its blocks hold the block
        have key : okT (w.setCell ⟨ad.block, ad.off + i, none⟩ (valT y)) P R (.sl v 0 sz' n fs) ∧ ad.block ∈ blkT (.sl v 0 sz' n xs) := by
          cases q with
          | nil =>
            simp only [List.dropLast_singleton, List.getLast?_singleton, Option.getD_some, atT, sub, Option.bind_some] at hat
            rw [hk] at hat
            simp only [Option.some.injEq, T.sl.injEq, true_and] at hat
            obtain ⟨rfl, rfl, rfl, rfl⟩ := hat
            simp only [setT] at hsx
            split at hsx
            · rename_i hi
              simp only [Option.some.injEq] at hsx
              subst hsx
              have hB : ad.block ∈ hdr (.slice (some ad) n cap) := by simp [hdr]
              refine ⟨?_, by simp only [blkT, if_true, List.mem_append]; exact .inl hB⟩
              simp only [okT, if_true]
              refine ⟨by rw [List.length_set]; exact hl.1, okTs_iff.2 fun z hz => ?_, ?_⟩
              · rcases List.mem_or_eq_of_mem_set hz with hz | rfl
                · refine okT_apart hw hP hR (okTs_iff.1 hl.2.1 z hz) (fun hb => ?_)
                  exact hndk.2.2 ad.block hB ad.block (by rw [blkTs_eq, List.mem_flatMap]; exact ⟨z, hz, hb⟩) rfl
                · exact hy
              · rw [List.map_set]
                exact hl.2.2.store (by simpa using hl.1) (by simpa using hi)
            · cases hsx
          | cons k2 q2 =>
            have hat' : atT xs (k2 :: q2).dropLast ((k2 :: q2).getLast?.getD 0) = some (.sl (.slice (some ad) m cap) 0 sz m es) := by
              have e1 : (k :: k2 :: q2).dropLast = k :: (k2 :: q2).dropLast := rfl
              have e2 : (k :: k2 :: q2).getLast? = (k2 :: q2).getLast? := by simp
              rw [e1, e2] at hat
              simpa [atT, sub, hk] using hat
            obtain ⟨i1, i2, i3⟩ := ih (by simp) hsx hat' hndk.2.1 hl.2.1
            refine ⟨?_, by simp only [blkT, if_true, List.mem_append]; exact .inr i3⟩
            simp only [okT, if_true]
            refine ⟨by rw [setT_length hsx]; exact hl.1, i1, ?_⟩
            rw [i2]
            exact hl.2.2.same (fun b hb => hw b (fun e => hndk.2.2 b hb ad.block i3 e))
        refine ⟨okTs_iff.2 fun z hz => ?_, ?_, ?_⟩
        · obtain ⟨j, hj⟩ := List.getElem?_of_mem hz
          by_cases e : k = j
          · subst e
            rw [List.getElem?_set_self hlt] at hj
            simp only [Option.some.injEq] at hj
            exact hj ▸ key.1
          · rw [List.getElem?_set_ne e] at hj
            refine okT_apart hw hP hR (okTs_iff.1 hok z (List.mem_of_getElem? hj)) (fun hb => ?_)
            rw [blkTs_eq] at hnd
            exact nodup_apart blkT hnd hj hk (Ne.symm e) _ hb key.2
        · rw [List.map_set]
          apply List.ext_getElem?
          intro j
          by_cases e : k = j
          · subst e
            rw [List.getElem?_set_self', List.getElem?_map, hk]
            simp [valT]
          · rw [List.getElem?_set_ne e]
        · rw [blkTs_eq, List.mem_flatMap]
          exact ⟨_, List.mem_of_getElem? hk, key.2⟩
    · cases hs
end
end Go.Proofs.YtlkjnlfddadlmaaDoor.V

namespace Go.Proofs.YtlkjnlfddadlmaaDoor.V
open Go.RowKit

section
variable {cx : Ctx} {f : Nat} {isv : Nat → Bool} {w0 : World} {E0 : Nat → Prop} {P : Nat → Nat → Prop} {R R' : Nat → Prop} {ea : List EA} {w w' : World} {S0 S S' S2 S3 : SV} {tmps : Array Value} {Pr : Program} {a : Act} {call : Callee}

theorem sub_own : ∀ {p q : List Nat} {cs : List TV} {i : Nat} {x : TV}, atT cs p i = some x → isOwn (.t x : CV) = false → ∀ j, pre (p ++ [i]) (q ++ [j]) = true → ∀ z, atT cs q j = some z → isOwn (.t z : CV) = false
  | [], q, cs, i, x, h, ho, j, hp, z, hz => by
    simp only [atT, sub, Option.bind_some] at h
    cases q with
    | nil =>
      simp only [List.nil_append, pre, beq_iff_eq, Bool.and_true] at hp
      subst hp
      simp only [atT, sub, Option.bind_some] at hz
      rw [h] at hz
      simp only [Option.some.injEq] at hz
      exact hz ▸ ho
    | cons k q =>
      simp only [List.nil_append, List.cons_append, pre, beq_iff_eq, Bool.and_true] at hp
      subst hp
      simp only [atT, sub, h] at hz
      split at hz
      · rename_i heq
        simp only [Option.some.injEq] at heq
        subst heq
        simp [isOwn] at ho
      · simp at hz
  | k :: p, q, cs, i, x, h, ho, j, hp, z, hz => by
    cases q with
    | nil =>
      simp only [List.cons_append, List.nil_append, pre, Bool.and_eq_true] at hp
      cases p <;> simp [pre] at hp
    | cons k' q =>
      simp only [List.cons_append, pre, Bool.and_eq_true, beq_iff_eq] at hp
      obtain ⟨rfl, hp⟩ := hp
      simp only [atT, sub] at h hz
      split at h
      · rename_i v sz n es hk
        rw [hk] at hz
        exact sub_own (cs := es) h ho j hp z hz
      · simp at h

theorem subC_own {p q : List Nat} {cs : List CV} {i : Nat} {x : CV} (h : atC cs p i = some x) (ho : isOwn x = false) (j : Nat) (hp : pre (p ++ [i]) (q ++ [j]) = true) : isList (atC cs q j) = false := by
  cases p with
  | nil =>
    simp only [atC, subC, Option.bind_some] at h
    cases q with
    | nil =>
      simp only [List.nil_append, pre, beq_iff_eq, Bool.and_true] at hp
      subst hp
      simp only [atC, subC, Option.bind_some, h]
      cases x with
      | t y => cases y with
        | sl v tag sz n es => cases tag with
          | zero => simp [isOwn] at ho
          | succ m => rfl
        | _ => rfl
      | _ => rfl
    | cons k q =>
      simp only [List.nil_append, List.cons_append, pre, beq_iff_eq, Bool.and_true] at hp
      subst hp
      simp only [atC, subC, h]
      split
      · rename_i heq
        simp only [Option.some.injEq] at heq
        subst heq
        simp [isOwn] at ho
      · rfl
  | cons k p =>
    cases q with
    | nil =>
      simp only [List.cons_append, List.nil_append, pre, Bool.and_eq_true] at hp
      cases p <;> simp [pre] at hp
    | cons k' q =>
      simp only [List.cons_append, pre, Bool.and_eq_true, beq_iff_eq] at hp
      obtain ⟨rfl, hp⟩ := hp
      cases hk : cs[k]? with
      | none => simp [atC, subC, hk] at h
      | some c =>
        by_cases hc : ∃ v sz n es, c = .t (.sl v 0 sz n es)
        · obtain ⟨v, sz, n, es, rfl⟩ := hc
          rw [atC_cons hk] at h ⊢
          cases ha : atT es p i with
          | none => simp [ha] at h
          | some x' =>
            simp only [ha, Option.map_some, Option.some.injEq] at h
            subst h
            cases hz : atT es q j with
            | none => rfl
            | some z =>
              have := sub_own ha ho j hp z hz
              cases z with
              | sl v tag sz n es => cases tag with
                | zero => simp [isOwn] at this
                | succ m => rfl
              | _ => rfl
        · have : atC cs (k :: p) i = none := by
            simp only [atC, subC, hk]
            split
            · rename_i heq
              simp only [Option.some.injEq] at heq
              exact absurd ⟨_, _, _, _, heq⟩ hc
            · rfl
          rw [this] at h
          cases h

mutual
theorem okC_put {r : Root} {q : List Nat} (h : Em S S' ea r q) (hl : q ≠ [] ∧ ∀ p' i', pre q (p' ++ [i']) = true → isList (at_ S r p' i') = false) : ∀ {c : CV}, okC w P R S ea c → okC w P R S' ea c
  | .t x, hc => by simpa [okC] using hc
  | .ptr v k p off, hc => by
    simp only [okC] at hc ⊢
    have hn : ¬ (r = k ∧ pre q p = true) := by
      rintro ⟨rfl, hp⟩
      obtain ⟨ad, had, _⟩ := hc
      simp only [placeAd] at had
      split at had
      · rename_i e
        subst e
        cases q with
        | nil => exact absurd rfl hl.1
        | cons x q => simp [pre] at hp
      · rename_i hne
        rw [dropLast_snoc hne] at hp
        have := hl.2 _ _ hp
        split at had
        · rename_i heq
          simp only [hdrAt] at heq
          split at heq
          · rename_i h2; rw [h2] at this; simp [isList] at this
          · cases heq
        · cases had
    simp only [PtrOk, h.place hn]; exact hc
  | .bor v k p i off sz n, hc => by
    simp only [okC] at hc ⊢
    obtain ⟨b, m, ds, hat, hle, hrest⟩ := hc
    have hn : ¬ (r = k ∧ pre q (p ++ [i]) = true) := by
      rintro ⟨rfl, hp⟩
      have := hl.2 _ _ hp
      rw [hat] at this
      simp [isList] at this
    rcases h.at hn with e | ⟨b', sz', m', ds', es', e1, e2, e3⟩
    · exact ⟨b, m, ds, by rw [← e]; exact hat, hle, hrest⟩
    · rw [hat] at e1
      simp only [Option.some.injEq, C.t.injEq, T.sl.injEq, true_and] at e1
      obtain ⟨rfl, rfl, rfl, rfl⟩ := e1
      exact ⟨b, m, es', e2, by omega, hrest⟩
  | .rptr v cs, hc => by simpa [okC] using hc
  | .nilp, _ => by simp [okC]
  | .nilf, _ => by simp [okC]
  | .fn g caps, hc => by simp only [okC] at hc ⊢; exact ⟨okCs_put h hl hc.1, hc.2⟩
  | .lst v sz n cs, hc => by simp only [okC] at hc ⊢; exact ⟨hc.1, okCs_put h hl hc.2.1, hc.2.2⟩
theorem okCs_put {r : Root} {q : List Nat} (h : Em S S' ea r q) (hl : q ≠ [] ∧ ∀ p' i', pre q (p' ++ [i']) = true → isList (at_ S r p' i') = false) : ∀ {cs : List CV}, okCs w P R S ea cs → okCs w P R S' ea cs
  | [], _ => by simp [okCs]
  | c :: cs, hc => by simp only [okCs] at hc ⊢; exact ⟨okC_put h hl hc.1, okCs_put h hl hc.2⟩
end
end
end Go.Proofs.YtlkjnlfddadlmaaDoor.V

namespace Go.Proofs.YtlkjnlfddadlmaaDoor.V
open Go.RowKit

section
variable {cx : Ctx} {f : Nat} {isv : Nat → Bool} {w0 : World} {E0 : Nat → Prop} {P : Nat → Nat → Prop} {R R' : Nat → Prop} {ea : List EA} {w w' : World} {S0 S S' S2 S3 : SV} {tmps : Array Value} {Pr : Program} {a : Act} {call : Callee}

theorem okC_apart {B : Nat} (hw : ∀ k, k ≠ B → w'.heap[k]? = w.heap[k]?) (hP : ∀ t b, P t b → b ≠ B) (hR : ∀ b, R b → b ≠ B) {c : CV} (hc : okC w P R S ea c) (hb : B ∉ blkC c) : okC w' P R S ea c :=
  okC_same (fun t b hb' => hw b (hP t b hb')) (fun b hb' => hw b (hR b hb')) hc (fun b hb' => hw b (fun e => hb (e ▸ hb'))) (fun _ _ => ⟨rfl, rfl⟩)

theorem okX_apart {B : Nat} (hw : ∀ k, k ≠ B → w'.heap[k]? = w.heap[k]?) (hP : ∀ t b, P t b → b ≠ B) (hR : ∀ b, R b → b ≠ B) {c : XV} (hc : okX w P R S ea c) (hb : B ∉ blkX c) : okX w' P R S ea c :=
  okX_same (fun t b hb' => hw b (hP t b hb')) (fun b hb' => hw b (hR b hb')) hc (fun b hb' => hw b (fun e => hb (e ▸ hb'))) (fun _ _ => ⟨rfl, rfl⟩)

theorem setC_store {ad : Addr} {i : Nat} {y : TV} (hy : okT (w.setCell ⟨ad.block, ad.off + i, none⟩ (valT y)) P R y) (hP : ∀ t b, P t b → b ≠ ad.block) (hR : ∀ b, R b → b ≠ ad.block)
    {p : List Nat} {cs ds : List CV} {m cap sz : Nat} {es : List TV} (hp : p ≠ []) (hs : setC cs p i (.t y) = some ds) (hat : atC cs p.dropLast (p.getLast?.getD 0) = some (.t (.sl (.slice (some ad) m cap) 0 sz m es)))
    (hnd : (blkCs cs).Nodup) (hok : ∀ c ∈ cs, okC w P R S ea c) :
    (∀ c ∈ ds, okC (w.setCell ⟨ad.block, ad.off + i, none⟩ (valT y)) P R S ea c) ∧ valCs ds = valCs cs ∧ ad.block ∈ blkCs cs := by
  have hw : ∀ k, k ≠ ad.block → (w.setCell ⟨ad.block, ad.off + i, none⟩ (valT y)).heap[k]? = w.heap[k]? := fun k hk => heap_other hk
  rcases setC_cases hs with ⟨rfl, _, _⟩ | ⟨k, q, y', v, sz', n, xs, fs, rfl, hy', hk, hsx, rfl⟩
  · exact absurd rfl hp
  · simp only [C.t.injEq] at hy'
    subst hy'
    have hlt : k < cs.length := (List.getElem?_eq_some_iff.1 hk).1
    have hkm := List.mem_of_getElem? hk
    rw [blkCs_eq] at hnd
    have hndk : (blkTs [T.sl v 0 sz' n xs]).Nodup := by
      have := nodup_one blkC hnd hk
      simpa [blkTs, blkC] using this
    have hokk : okTs w P R [T.sl v 0 sz' n xs] := by
      have := hok _ hkm
      simp only [okC] at this
      simpa [okTs] using this
    have h1 : setT [T.sl v 0 sz' n xs] (0 :: q) i y = some [T.sl v 0 sz' n fs] := by
      simp [setT, hsx]
    have h2 : atT [T.sl v 0 sz' n xs] (0 :: q).dropLast ((0 :: q).getLast?.getD 0) = some (.sl (.slice (some ad) m cap) 0 sz m es) := by
      cases q with
      | nil =>
        simp only [List.dropLast_singleton, List.getLast?_singleton, Option.getD_some, atC, subC, Option.bind_some] at hat
        rw [hk] at hat
        simp only [Option.some.injEq, C.t.injEq] at hat
        simp [atT, sub, hat]
      | cons k2 q2 =>
        have e1 : (k :: k2 :: q2).dropLast = k :: (k2 :: q2).dropLast := rfl
        have e2 : (k :: k2 :: q2).getLast? = (k2 :: q2).getLast? := by simp
        have e3 : (0 :: k2 :: q2).dropLast = 0 :: (k2 :: q2).dropLast := rfl
        have e4 : (0 :: k2 :: q2).getLast? = (k2 :: q2).getLast? := by simp
        rw [e1, e2, atC_cons hk] at hat
        rw [e3, e4]
        have e5 : atT [T.sl v 0 sz' n xs] (0 :: (k2 :: q2).dropLast) ((k2 :: q2).getLast?.getD 0) = atT xs (k2 :: q2).dropLast ((k2 :: q2).getLast?.getD 0) := by simp [atT, sub]
        rw [e5]
        cases ha : atT xs (k2 :: q2).dropLast ((k2 :: q2).getLast?.getD 0) with
        | none => simp [ha] at hat
        | some z => simp only [ha, Option.map_some, Option.some.injEq, C.t.injEq] at hat; rw [hat]
    obtain ⟨k1, k2, k3⟩ := setT_store hy hP hR (by simp) h1 h2 hndk hokk
    have hB : ad.block ∈ blkC (.t (.sl v 0 sz' n xs)) := by simpa [blkTs, blkC] using k3
    refine ⟨fun c hc => ?_, ?_, ?_⟩
    · obtain ⟨j, hj⟩ := List.getElem?_of_mem hc
      by_cases e : k = j
      · subst e
        rw [List.getElem?_set_self hlt] at hj
        simp only [Option.some.injEq] at hj
        subst hj
        simp only [okTs] at k1
        simpa only [okC] using k1.1
      · rw [List.getElem?_set_ne e] at hj
        exact okC_apart hw hP hR (hok c (List.mem_of_getElem? hj)) (fun hb => nodup_apart blkC hnd hj hk (Ne.symm e) _ hb hB)
    · rw [valCs_eq, valCs_eq, List.map_set]
      apply List.ext_getElem?
      intro j
      by_cases e : k = j
      · subst e
        rw [List.getElem?_set_self', List.getElem?_map, hk]
        simp [valT, valC]
      · rw [List.getElem?_set_ne e]
    · rw [blkCs_eq, List.mem_flatMap]
      exact ⟨_, hkm, hB⟩

theorem notOwn_blk {c : CV} (h : isOwn c = false) : blkC c = [] := by
  cases c with
  | t x => cases x with
    | sl v tag sz n cs => cases tag with
      | zero => simp [isOwn] at h
      | succ m => simp [blkC, blkT]
    | _ => simp [blkC, blkT]
  | lst v sz n cs => simp [isOwn] at h
  | _ => simp [blkC]

mutual
theorem okX_put {r : Root} {q : List Nat} (h : Em S S' ea r q) (hl : q ≠ [] ∧ ∀ p' i', pre q (p' ++ [i']) = true → isList (at_ S r p' i') = false) : ∀ {x : XV}, okX w P R S ea x → okX w P R S' ea x
  | .c x, hc => by simp only [okX] at hc ⊢; exact okC_put h hl hc
  | .agg cs, hc => by simp only [okX] at hc ⊢; exact okCs_put h hl hc
  | .box v cs, hc => by simp only [okX] at hc ⊢; exact ⟨okCs_put h hl hc.1, hc.2⟩
  | .tup xs, hc => by simp only [okX] at hc ⊢; exact okXs_put h hl hc
  | .undef, _ => by simp [okX]
theorem okXs_put {r : Root} {q : List Nat} (h : Em S S' ea r q) (hl : q ≠ [] ∧ ∀ p' i', pre q (p' ++ [i']) = true → isList (at_ S r p' i') = false) : ∀ {xs : List XV}, okXs w P R S ea xs → okXs w P R S' ea xs
  | [], _ => by simp [okXs]
  | x :: xs, hc => by simp only [okXs] at hc ⊢; exact ⟨okX_put h hl hc.1, okXs_put h hl hc.2⟩
end

theorem oth_mem : ∀ {ys : List XV} {y : XV}, y ∈ ys → (∀ z, y ≠ .c z) → (∀ zs, y ≠ .agg zs) → ∀ b ∈ blkX y, b ∈ othX ys
  | [], y, h, _, _, _, _ => by cases h
  | z :: ys, y, h, h1, h2, b, hb => by
    rcases List.mem_cons.1 h with rfl | h
    · cases y with
      | c x => exact absurd rfl (h1 x)
      | agg x => exact absurd rfl (h2 x)
      | _ => simp only [othX, List.mem_append]; exact .inl hb
    · have := oth_mem h h1 h2 b hb
      cases z with
      | c x => simpa [othX] using this
      | agg x => simpa [othX] using this
      | _ => simp only [othX, List.mem_append]; exact .inr this

theorem setX_okv {x : XV} {cs ds : List CV} (hc : cellsOf x = some cs) (hl : ds.length = cs.length) (hbox : ∀ v ys, x = .box v ys → ∃ ad, v = .pointer (some ad) ∧ BoxAt w' ad ds)
    (ho : ∀ ys, x = .tup ys → ∀ y ∈ ys, (∀ z, y ≠ .c z) → (∀ zs, y ≠ .agg zs) → okX w' P R S ea y) (hd : ∀ c ∈ ds, okC w' P R S ea c) : okX w' P R S ea (setX x ds) := by
  have hds : okCs w' P R S ea ds := okCs_iff.2 hd
  cases x with
  | c y =>
    simp only [cellsOf, Option.some.injEq] at hc
    subst hc
    simp only [List.length_singleton] at hl
    obtain ⟨z, rfl⟩ := List.length_eq_one_iff.1 hl
    simp only [setX, okX]; exact hd z (List.mem_singleton_self _)
  | agg ys => simp only [setX, okX]; exact hds
  | box v ys =>
    obtain ⟨ad, rfl, hb⟩ := hbox _ _ rfl
    simp only [setX, okX]
    exact ⟨hds, ad, rfl, hb⟩
  | tup ys =>
    simp only [cellsOf, Option.some.injEq] at hc
    subst hc
    simp only [setX, okX]
    have hys := ho ys rfl
    clear hbox ho hds
    revert hys
    induction ys generalizing ds with
    | nil => intro _; simp [splitX, okXs]
    | cons y ys ih =>
      intro hys
      have hy := hys y (List.mem_cons_self)
      have hrest : ∀ y ∈ ys, (∀ z, y ≠ .c z) → (∀ zs, y ≠ .agg zs) → okX w' P R S ea y := fun y h => hys y (List.mem_cons_of_mem _ h)
      cases y with
      | c z =>
        cases ds with
        | nil => simp [flatX] at hl
        | cons d ds =>
          simp only [flatX, List.length_cons, Nat.add_right_cancel_iff] at hl
          simp only [splitX, okXs, okX, List.head?_cons, Option.getD_some, List.tail_cons]
          exact ⟨hd d (by simp), ih (fun c hc => hd c (List.mem_cons_of_mem _ hc)) hl hrest⟩
      | agg zs =>
        simp only [flatX, List.length_append] at hl
        simp only [splitX, okXs, okX]
        exact ⟨okCs_iff.2 (fun c hc => hd c (List.mem_of_mem_take hc)), ih (fun c hc => hd c (List.mem_of_mem_drop hc)) (by rw [List.length_drop]; omega) hrest⟩
      | box v zs => simp only [flatX] at hl; simp only [splitX, okXs]; exact ⟨hy (by simp) (by simp), ih hd hl hrest⟩
      | tup zs => simp only [flatX] at hl; simp only [splitX, okXs]; exact ⟨hy (by simp) (by simp), ih hd hl hrest⟩
      | undef => simp only [flatX] at hl; simp only [splitX, okXs]; exact ⟨hy (by simp) (by simp), ih hd hl hrest⟩
  | undef => simp [cellsOf] at hc

end
end Go.Proofs.YtlkjnlfddadlmaaDoor.V

namespace Go.Proofs.YtlkjnlfddadlmaaDoor.V
open Go.RowKit

section
variable {cx : Ctx} {f : Nat} {isv : Nat → Bool} {w0 : World} {E0 : Nat → Prop} {P : Nat → Nat → Prop} {R R' : Nat → Prop} {ea : List EA} {w w' : World} {S0 S S' S2 S3 : SV} {tmps : Array Value} {Pr : Program} {a : Act} {call : Callee}

theorem below_own {r : Root} {p : List Nat} {off : Nat} {old : CV} (hat : at_ S r p off = some old) (hold : isOwn old = false) :
    p ++ [off] ≠ [] ∧ ∀ p' i', pre (p ++ [off]) (p' ++ [i']) = true → isList (at_ S r p' i') = false := by
  refine ⟨by simp, fun p' i' hp => ?_⟩
  rw [at_eq] at hat ⊢
  cases hr : rootCells S r with
  | none => rfl
  | some cs =>
    rw [hr] at hat
    simp only [Option.bind_some] at hat ⊢
    exact subC_own hat hold i' hp

theorem BoxAt.store {ad : Addr} {cs : List CV} {i : Nat} {c : CV} (h : BoxAt w ad cs) (hi : i < cs.length) : BoxAt (w.setCell ⟨ad.block, ad.off + i, none⟩ (valC c)) ad (cs.set i c) := by
  obtain ⟨h1, h2, cur, e, h3, h4⟩ := h
  refine ⟨h1, h2, _, e, heap_setCell h3, ?_⟩
  rw [h1, Nat.zero_add, Array.toList_setIfInBounds, h4, valCs_eq, valCs_eq, List.map_set]

theorem Rel.store (h : Rel isv w0 E0 P R ea w S tmps) {r : Root} {p : List Nat} {off : Nat} {old c : CV} {v : Value} (hat : at_ S r p off = some old) (hold : isOwn old = false) (hp : PtrOk S ea r p off v) (hput : putCell S r p off c = some S')
    (hok : okC w P R S ea c) (hrf : ∀ d', Root.sl d' ∈ refsC c → isv d' = true) (hb : Bk w0 E0 R ea w S (blkC c)) :
    ∃ ad, v = .pointer (some ad) ∧ ad.spot = none ∧ w.cell? ad = some (valC old) ∧ w.frozen? ad = false ∧ ad.block ∈ blkR S ea r ∧ Rel isv w0 E0 P R ea (w.setCell ad (valC c)) S' tmps ∧
      (∀ k, k ≠ r → blkR S' ea k = blkR S ea k) ∧ (blkR S' ea r).Perm (blkC c ++ blkR S ea r) := by
  have hem := put_em (ea := ea) hput
  have hbl := below_own hat hold
  obtain ⟨cs, ds, hr, hs, hS'⟩ := put_facts hput
  have hl := setC_length hs
  have hcs := h.root_ok hr
  have hat0 := hat
  rw [at_eq, hr] at hat
  simp only [Option.bind_some] at hat
  obtain ⟨ad, had, rfl⟩ := hp
  have hnr := h.nd r
  -- the blocks of the touched root
  have hblk : (blkCs ds).Perm (blkC c ++ blkCs cs) := by
    have := setC_blk hs hat
    rwa [notOwn_blk hold, List.nil_append] at this
  have hoth : ∀ k, k ≠ r → blkR S' ea k = blkR S ea k := by
    intro k hk
    subst hS'
    cases r with
    | sl d => exact match k, hk with
      | .sl d', hk => by simp only [blkR, setRoot, upd]; rw [if_neg (by simpa using hk)]
      | .ex j, _ => by simp only [blkR, setRoot]
    | ex j => exact match k, hk with
      | .sl d', _ => by simp only [blkR, setRoot]
      | .ex j', hk => by simp only [blkR, setRoot]; rw [List.getElem?_set_ne (by simpa using Ne.symm hk)]
  have hown : (blkR S' ea r).Perm (blkC c ++ blkR S ea r) := by
    subst hS'
    cases r with
    | sl d =>
      rw [rootCells_sl] at hr
      simp only [blkR, setRoot, upd, if_true]
      have := setX_blk (l := []) (m := blkC c) hr hl (by simpa using hblk)
      simpa using this
    | ex j =>
      simp only [rootCells] at hr
      have hj : j < S.e.length := (List.getElem?_eq_some_iff.1 hr).1
      simp only [blkR, setRoot, hr, List.getElem?_set_self hj]
      refine (List.Perm.append_left _ hblk).trans ?_
      rw [← List.append_assoc, ← List.append_assoc]; exact List.Perm.append_right _ List.perm_append_comm
  have hcsub : ∀ b ∈ blkCs cs, b ∈ blkR S ea r := by
    intro b hb'
    cases r with
    | sl d =>
      rw [rootCells_sl] at hr
      have := setX_blk (ds := cs) (l := []) (m := []) hr rfl (List.Perm.refl _)
      have hsx : ∀ x : XV, cellsOf x = some cs → b ∈ blkX x := by
        intro x hx
        cases x with
        | c y => simp only [cellsOf, Option.some.injEq] at hx; subst hx; simpa [blkX, blkCs] using hb'
        | agg ys => simp only [cellsOf, Option.some.injEq] at hx; subst hx; simpa [blkX] using hb'
        | box v ys => simp only [cellsOf, Option.some.injEq] at hx; subst hx; simp only [blkX, List.mem_append]; exact .inr hb'
        | tup ys => simp only [cellsOf, Option.some.injEq] at hx; subst hx; simp only [blkX]; exact (blk_flat ys).mem_iff.2 (List.mem_append_left _ hb')
        | undef => simp [cellsOf] at hx
      exact hsx _ hr
    | ex j => exact blk_ex hr hb'
  have hcnd : (blkCs cs).Nodup := by
    have hn := h.nd r
    cases r with
    | sl d =>
      rw [rootCells_sl] at hr
      simp only [blkR] at hn
      have hsx : ∀ x : XV, cellsOf x = some cs → (blkX x).Nodup → (blkCs cs).Nodup := by
        intro x hx hn
        cases x with
        | c y => simp only [cellsOf, Option.some.injEq] at hx; subst hx; simpa [blkX, blkCs] using hn
        | agg ys => simp only [cellsOf, Option.some.injEq] at hx; subst hx; simpa [blkX] using hn
        | box v ys => simp only [cellsOf, Option.some.injEq] at hx; subst hx; simp only [blkX] at hn; exact (List.nodup_append.1 hn).2.1
        | tup ys => simp only [cellsOf, Option.some.injEq] at hx; subst hx; simp only [blkX] at hn; exact (List.nodup_append.1 ((blk_flat ys).nodup_iff.1 hn)).1
        | undef => simp [cellsOf] at hx
      exact hsx _ hr hn
    | ex j =>
      simp only [rootCells] at hr
      simp only [blkR, hr] at hn
      exact (List.nodup_append.1 hn).2.1
  have hcput : ∀ c' ∈ cs, okC w P R S' ea c' := fun c' hc' => okC_put hem hbl (okCs_iff.1 hcs c' hc')
  -- what there is of the block, of the cells behind the store, of the boxes
  have key : ad.block ∈ blkR S ea r ∧ (∀ c' ∈ ds, okC (w.setCell ⟨ad.block, ad.off + off, none⟩ (valC c)) P R S' ea c') ∧
      ((p = [] ∧ rootAd S ea r = some ad ∧ ds = cs.set off c ∧ off < cs.length) ∨ (valCs ds = valCs cs ∧ ad.block ∈ blkCs cs)) := by
    have hbB : ad.block ∈ blkR S ea r → ad.block ∉ blkC c := fun h1 h2 => hb.sep r _ h2 h1
    have hw : ∀ k, k ≠ ad.block → (w.setCell ⟨ad.block, ad.off + off, none⟩ (valC c)).heap[k]? = w.heap[k]? := fun k hk => heap_other hk
    have hPB : ad.block ∈ blkR S ea r → ∀ t b, P t b → b ≠ ad.block := fun h1 t b hb' e => h.notR r _ h1 (e ▸ h.PR t b hb')
    have hRB : ad.block ∈ blkR S ea r → ∀ b, R b → b ≠ ad.block := fun h1 b hb' e => h.notR r _ h1 (e ▸ hb')
    by_cases hp : p = []
    · subst hp
      simp only [placeAd, if_true] at had
      have hds : off < cs.length ∧ ds = cs.set off c := by
        rcases setC_cases hs with ⟨_, h1, h2⟩ | ⟨k, q, _, _, _, _, _, _, e, _⟩
        · exact ⟨h1, h2⟩
        · cases e
      have hbox : BoxAt w ad cs ∧ ad.block ∈ blkR S ea r ∧ ad.block ∉ blkCs cs := by
        cases r with
        | sl d =>
          simp only [rootAd] at had
          split at had
          · rename_i ad' ys heq
            simp only [Option.some.injEq] at had
            subst had
            simp only [rootCells, heq, Option.some.injEq] at hr
            subst hr
            have h1 := h.okS d
            rw [heq] at h1
            simp only [okX] at h1
            obtain ⟨_, ad'', e, h2⟩ := h1
            simp only [Value.pointer.injEq, Option.some.injEq] at e
            subst e
            have h3 := h.nd (.sl d)
            simp only [blkR, heq, blkX, hdr] at h3
            refine ⟨h2, by simp [blkR, heq, blkX, hdr], ?_⟩
            simp only [List.cons_append, List.nil_append, List.nodup_cons] at h3
            exact h3.1
          · cases had
        | ex j =>
          simp only [rootAd] at had
          simp only [rootCells] at hr
          have h3 := h.nd (.ex j)
          simp only [blkR, hr, had] at h3
          refine ⟨(h.okE j cs hr).2 ad had, blk_ea had, ?_⟩
          simp only [List.cons_append, List.nil_append, List.nodup_cons] at h3
          exact h3.1
      obtain ⟨hx1, hx2, hx3⟩ := hbox
      refine ⟨hx2, fun c' hc' => ?_, .inl ⟨rfl, had, hds.2, hds.1⟩⟩
      rw [hds.2] at hc'
      rcases List.mem_or_eq_of_mem_set hc' with hc' | rfl
      · refine okC_apart hw (hPB hx2) (hRB hx2) (hcput c' hc') (fun hb' => hx3 ?_)
        rw [blkCs_eq, List.mem_flatMap]; exact ⟨c', hc', hb'⟩
      · exact okC_apart hw (hPB hx2) (hRB hx2) (okC_put hem hbl hok) (hbB hx2)
    · simp only [placeAd, if_neg hp] at had
      split at had
      · rename_i ad' m cap heq
        simp only [Option.some.injEq] at had
        subst had
        simp only [hdrAt] at heq
        split at heq
        · rename_i v' sz n es hat2
          simp only [Option.some.injEq] at heq
          subst heq
          obtain rfl : m = n := by
            have hlist := h.at_ok hat2
            simp only [okC, okT, if_true] at hlist
            rcases hlist.2.2 with ⟨h, _⟩ | ⟨b, o, cur, e, ⟨ad', cap', h0, _⟩, _⟩
            · cases h
            · simp only [Value.slice.injEq] at h0; exact h0.2.1
          have hat3 := hat2
          rw [at_eq, hr] at hat3
          simp only [Option.bind_some] at hat3
          obtain ⟨y, rfl⟩ : ∃ y, c = .t y := by
            rcases setC_cases hs with ⟨e, _⟩ | ⟨k, q, y', _, _, _, _, _, _, e, _⟩
            · exact absurd e hp
            · exact ⟨y', e⟩
          have hBr : ad'.block ∈ blkR S ea r := at_blk hat2 _ (by simp [blkC, blkT, hdr])
          have hy : okT (w.setCell ⟨ad'.block, ad'.off + off, none⟩ (valT y)) P R y := by
            have h1 := okC_apart hw (hPB hBr) (hRB hBr) hok (hbB hBr)
            simpa only [okC, valC] using h1
          obtain ⟨k1, k2, k3⟩ := setC_store (S := S') (ea := ea) hy (hPB hBr) (hRB hBr) hp hs hat3 hcnd hcput
          exact ⟨hBr, k1, .inr ⟨k2, k3⟩⟩
        · cases heq
      · cases had
  have hw : ∀ k, k ≠ ad.block → (w.setCell ⟨ad.block, ad.off + off, none⟩ (valC c)).heap[k]? = w.heap[k]? := fun k hk => heap_other hk
  obtain ⟨hB, hdok, hcase⟩ := key
  have hPB : ∀ t b, P t b → b ≠ ad.block := fun t b hb' e => h.notR r _ hB (e ▸ h.PR t b hb')
  have hRB : ∀ b, R b → b ≠ ad.block := fun b hb' e => h.notR r _ hB (e ▸ hb')
  have hsize : (w.setCell ⟨ad.block, ad.off + off, none⟩ (valC c)).heap.size = w.heap.size := by simp [World.setCell]
  have hsl : ∀ i, (r ≠ .sl i ∧ S'.s i = S.s i) ∨ (r = .sl i ∧ S'.s i = setX (S.s i) ds ∧ cellsOf (S.s i) = some cs) := by
    intro i
    subst hS'
    cases r with
    | sl d =>
      by_cases e : i = d
      · subst e; right; exact ⟨rfl, by simp [setRoot, upd], by rw [← rootCells_sl]; exact hr⟩
      · left; exact ⟨by simpa using Ne.symm e, by simp [setRoot, upd, e]⟩
    | ex j => left; exact ⟨by simp, rfl⟩
  have hec : ∀ (j : Nat) es, S'.e[j]? = some es → (r ≠ .ex j ∧ S.e[j]? = some es) ∨ (r = .ex j ∧ es = ds ∧ S.e[j]? = some cs) := by
    intro j es hj
    subst hS'
    cases r with
    | sl d => left; exact ⟨by simp, hj⟩
    | ex j' =>
      by_cases e : j' = j
      · subst e
        right
        have hlt : j' < S.e.length := (List.getElem?_eq_some_iff.1 hr).1
        simp only [setRoot, List.getElem?_set_self hlt, Option.some.injEq] at hj
        exact ⟨rfl, hj.symm, hr⟩
      · left
        exact ⟨by simpa using e, by simpa [setRoot, List.getElem?_set_ne e] using hj⟩
  have hnB : ∀ k, k ≠ r → ad.block ∉ blkR S ea k := fun k hk hb' => hk (h.dis k r _ hb' hB)
  have hmem : ∀ k b, b ∈ blkR S' ea k → b ∈ blkR S ea k ∨ (k = r ∧ b ∈ blkC c) := by
    intro k b hb'
    by_cases e : k = r
    · subst e
      rcases List.mem_append.1 (hown.subset hb') with h' | h'
      · exact .inr ⟨rfl, h'⟩
      · exact .inl h'
    · rw [hoth k e] at hb'; exact .inl hb'
  obtain ⟨hcell, hfz⟩ := h.cell_at had hat0
  refine ⟨⟨ad.block, ad.off + off, none⟩, rfl, rfl, hcell, hfz, hB, ?_, hoth, hown⟩
  constructor
  case val =>
    intro i hi
    rcases hsl i with ⟨_, e⟩ | ⟨hri, e, hc⟩
    · rw [e]; exact h.val i hi
    · rcases h.val i hi with e' | e'
      · rw [e'] at hc; simp [cellsOf] at hc
      · right
        rw [e, e']
        rcases hcase with ⟨_, h2, _⟩ | ⟨h2, _⟩
        · subst hri
          simp only [rootAd] at h2
          split at h2
          · rename_i heq; rw [heq]; rfl
          · cases h2
        · rw [setX_val hc h2]
  case hi =>
    intro i hi
    rcases hsl i with ⟨_, e⟩ | ⟨_, e, hc⟩
    · rw [e]; exact h.hi i hi
    · rw [h.hi i hi] at hc; simp [cellsOf] at hc
  case okS =>
    intro i
    rcases hsl i with ⟨hri, e⟩ | ⟨hri, e, hc⟩
    · rw [e]
      exact okX_apart hw hPB hRB (okX_put hem hbl (h.okS i)) (fun hb' => hnB (.sl i) (Ne.symm hri) hb')
    · rw [e]
      subst hri
      refine setX_okv hc hl ?_ ?_ hdok
      · intro v ys hv
        have h1 := h.okS i
        rw [hv] at h1 hc
        simp only [cellsOf, Option.some.injEq] at hc
        subst hc
        simp only [okX] at h1
        obtain ⟨_, ad', rfl, h2⟩ := h1
        refine ⟨ad', rfl, ?_⟩
        rcases hcase with ⟨_, h3, h4, h5⟩ | ⟨h3, h4⟩
        · simp only [rootAd, hv, Option.some.injEq] at h3
          subst h3
          rw [h4]; exact h2.store h5
        · have hne : ad'.block ≠ ad.block := by
            intro e'
            simp only [blkR, hv, blkX, hdr, List.cons_append, List.nil_append, List.nodup_cons] at hnr
            exact hnr.1 (e' ▸ h4)
          obtain ⟨e1, e2, cur, e', e3, e4⟩ := h2
          exact ⟨e1, e2, cur, e', (hw _ hne).trans e3, by rw [h3]; exact e4⟩
      · intro ys hv y hy h1 h2
        have h3 := h.okS i
        rw [hv] at h3 hc
        simp only [cellsOf, Option.some.injEq] at hc
        subst hc
        simp only [okX] at h3
        have h4 := okX_put hem hbl (okXs_iff.1 h3 y hy)
        refine okX_apart hw hPB hRB h4 (fun hb' => ?_)
        rcases hcase with ⟨_, h5, _⟩ | ⟨_, h5⟩
        · simp [rootAd, hv] at h5
        · have h6 := (blk_flat ys).nodup_iff.1 (by simpa only [blkR, hv, blkX] using hnr)
          exact (List.nodup_append.1 h6).2.2 _ h5 _ (oth_mem hy h1 h2 _ hb') rfl
  case okE =>
    intro j es hj
    rcases hec j es hj with ⟨hrj, e⟩ | ⟨hrj, rfl, e⟩
    · have h1 := okCs_put hem hbl (h.okE j es e).1
      refine ⟨okCs_iff.2 fun c' hc' => okC_apart hw hPB hRB (okCs_iff.1 h1 c' hc') (fun hb' => hnB (.ex j) (Ne.symm hrj) (blk_ex e (by rw [blkCs_eq, List.mem_flatMap]; exact ⟨c', hc', hb'⟩))), fun ad' had' => ?_⟩
      exact ((h.okE j es e).2 ad' had').same (hw _ (fun e' => hnB (.ex j) (Ne.symm hrj) (e' ▸ blk_ea had')))
    · refine ⟨okCs_iff.2 hdok, fun ad' had' => ?_⟩
      have h2 := (h.okE j cs e).2 ad' had'
      subst hrj
      rcases hcase with ⟨_, h3, h4, h5⟩ | ⟨h3, h4⟩
      · simp only [rootAd] at h3
        rw [had'] at h3
        simp only [Option.some.injEq] at h3
        subst h3
        rw [h4]; exact h2.store h5
      · have hne : ad'.block ≠ ad.block := by
          intro e'
          simp only [blkR, e, had', List.cons_append, List.nil_append, List.nodup_cons] at hnr
          exact hnr.1 (e' ▸ h4)
        obtain ⟨e1, e2, cur, e', e3, e4⟩ := h2
        exact ⟨e1, e2, cur, e', (hw _ hne).trans e3, by rw [h3]; exact e4⟩
  case eaL =>
    rw [h.eaL, hS']
    cases r <;> simp [setRoot]
  case row =>
    intro j vs es hea hj
    rcases hec j es hj with ⟨_, e⟩ | ⟨hrj, rfl, e⟩
    · exact h.row j vs es hea e
    · subst hrj
      rcases hcase with ⟨_, h3, _⟩ | ⟨h3, _⟩
      · simp [rootAd, hea, EA.ad] at h3
      · rw [h3]; exact h.row j vs cs hea e
  case refS =>
    intro i d' hd'
    rcases hsl i with ⟨_, e⟩ | ⟨_, e, hc⟩
    · rw [e] at hd'; exact h.refS i d' hd'
    · rw [e] at hd'
      rcases setX_refs hc hl _ hd' with hd' | hd'
      · exact h.refS i d' hd'
      · rcases setC_refs hs _ hd' with hd' | hd'
        · refine h.refS i d' ?_
          rw [refsCs_eq, List.mem_flatMap] at hd'
          obtain ⟨c', hca, hk⟩ := hd'
          cases hs' : S.s i with
          | c y => rw [hs'] at hc; simp only [cellsOf, Option.some.injEq] at hc; subst hc; simp only [List.mem_singleton] at hca; subst hca; simpa [refsX] using hk
          | agg ys => rw [hs'] at hc; simp only [cellsOf, Option.some.injEq] at hc; subst hc; simp only [refsX, refsCs_eq, List.mem_flatMap]; exact ⟨c', hca, hk⟩
          | box v ys => rw [hs'] at hc; simp only [cellsOf, Option.some.injEq] at hc; subst hc; simp only [refsX, refsCs_eq, List.mem_flatMap]; exact ⟨c', hca, hk⟩
          | tup ys => rw [hs'] at hc; simp only [cellsOf, Option.some.injEq] at hc; subst hc; simp only [refsX]; exact mem_flatX hca _ hk
          | undef => rw [hs'] at hc; simp [cellsOf] at hc
        · exact hrf d' hd'
  case refE =>
    intro j es d' hj hd'
    rcases hec j es hj with ⟨_, e⟩ | ⟨_, rfl, e⟩
    · exact h.refE j es d' e hd'
    · rcases setC_refs hs _ hd' with hd' | hd'
      · exact h.refE j cs d' e hd'
      · exact hrf d' hd'
  case dis =>
    intro k k' b hb1 hb2
    rcases hmem k b hb1 with h1 | ⟨rfl, h1⟩ <;> rcases hmem k' b hb2 with h2 | ⟨rfl, h2⟩
    · exact h.dis k k' b h1 h2
    · exact absurd h1 (hb.sep k b h2)
    · exact absurd h2 (hb.sep k' b h1)
    · rfl
  case nd =>
    intro k
    by_cases e : k = r
    · subst e
      rw [hown.nodup_iff, List.nodup_append]
      exact ⟨hb.nd, h.nd k, fun x hx y hy e => hb.sep k x hx (e ▸ hy)⟩
    · rw [hoth k e]; exact h.nd k
  case lt =>
    intro k b hb'
    rw [hsize]
    exact (hmem k b hb').elim (h.lt k b) (fun h' => hb.lt b h'.2)
  case own => exact fun k b hb' => (hmem k b hb').elim (h.own k b) (fun h' => hb.own b h'.2)
  case notR => exact fun k b hb' => (hmem k b hb').elim (h.notR k b) (fun h' => hb.notR b h'.2)
  case PR => exact h.PR
  case ltR => intro b hb'; rw [hsize]; exact h.ltR b hb'
  case frm =>
    refine ⟨h.frm.os, h.frm.tape, h.frm.output, by rw [hsize]; exact h.frm.size, fun k hk hE => ?_⟩
    have : k ≠ ad.block := by
      rintro rfl
      exact (h.own r _ hB).elim hE (fun h' => by omega)
    exact (hw k this).trans (h.frm.block k hk hE)
end
end Go.Proofs.YtlkjnlfddadlmaaDoor.V

namespace Go.Proofs.YtlkjnlfddadlmaaDoor.V
open Go.RowKit

section
variable {cx : Ctx} {f : Nat} {isv : Nat → Bool} {w0 : World} {E0 : Nat → Prop} {P : Nat → Nat → Prop} {R R' : Nat → Prop} {ea : List EA} {w w' : World} {S0 S S' S2 S3 : SV} {tmps : Array Value} {Pr : Program} {a : Act} {call : Callee}

def killsC {α : Type} (r : Root) (qs : List (List Nat)) (c : C α) : C α := qs.foldl (fun c q => killC r q c) c

theorem killsC_snoc {α : Type} (r : Root) (qs : List (List Nat)) (q : List Nat) (c : C α) : killsC r (qs ++ [q]) c = killC r q (killsC r qs c) := by
  simp [killsC, List.foldl_append]

theorem killsC_map (r : Root) : ∀ (qs : List (List Nat)) (c : CV), killsC r qs (erC c) = erC (killsC r qs c)
  | [], c => rfl
  | q :: qs, c => by
    have h1 : killsC r (q :: qs) (erC c) = killsC r qs (killC r q (erC c)) := rfl
    have h2 : killsC r (q :: qs) c = killsC r qs (killC r q c) := rfl
    rw [h1, h2, show killC r q (erC c) = erC (killC r q c) from killC_map er0 r q c]
    exact killsC_map r qs _

theorem killsC_val (r : Root) : ∀ (qs : List (List Nat)) (c : CV), valC (killsC r qs c) = valC c
  | [], c => rfl
  | q :: qs, c => by
    have h2 : killsC r (q :: qs) c = killsC r qs (killC r q c) := rfl
    rw [h2, killsC_val r qs, killC_val]

theorem killsC_blk (r : Root) : ∀ (qs : List (List Nat)) (c : CV), blkC (killsC r qs c) = blkC c
  | [], c => rfl
  | q :: qs, c => by
    have h2 : killsC r (q :: qs) c = killsC r qs (killC r q c) := rfl
    rw [h2, killsC_blk r qs, killC_blk]

theorem killsC_refs (r : Root) : ∀ (qs : List (List Nat)) (c : CV), ∀ k ∈ refsC (killsC r qs c), k ∈ refsC c
  | [], c => fun k h => h
  | q :: qs, c => fun k h => killC_refs r q c k (killsC_refs r qs _ k h)

theorem placeAd_put {r : Root} {p : List Nat} {off : Nat} (hem : Em S S' ea r (p ++ [off])) : placeAd S' ea r p = placeAd S ea r p := by
  refine hem.place ?_
  rintro ⟨_, h⟩
  have : ∀ (p : List Nat) (off : Nat), pre (p ++ [off]) p = false := by
    intro p off
    induction p with
    | nil => rfl
    | cons x p ih => simp [pre, ih]
  rw [this] at h
  cases h

theorem setT_get : ∀ {p : List Nat} {cs ds : List TV} {i : Nat} {y : TV}, setT cs p i y = some ds → atT ds p i = some y
  | [], cs, ds, i, y, h => by
    simp only [setT] at h
    split at h
    · rename_i hi
      simp only [Option.some.injEq] at h
      subst h
      simp [atT, sub, hi]
    · cases h
  | k :: p, cs, ds, i, y, h => by
    simp only [setT] at h
    split at h
    · rename_i v sz n xs hk
      cases hx : setT xs p i y with
      | none => simp [hx] at h
      | some fs =>
        simp only [hx, Option.map_some, Option.some.injEq] at h
        subst h
        have hlt : k < cs.length := (List.getElem?_eq_some_iff.1 hk).1
        have ih := setT_get hx
        simp only [atT, sub, List.getElem?_set_self hlt] at ih ⊢
        exact ih
    · cases h

theorem setC_get {cs ds : List CV} {p : List Nat} {off : Nat} {y : CV} (h : setC cs p off y = some ds) : atC ds p off = some y := by
  rcases setC_cases h with ⟨rfl, hl, rfl⟩ | ⟨k, q, y', v, sz, n, es, fs, rfl, rfl, hk, hs, rfl⟩
  · simp [atC, subC, hl]
  · have hlt : k < cs.length := (List.getElem?_eq_some_iff.1 hk).1
    rw [atC_cons (v := v) (sz := sz) (n := n) (es := fs) (by rw [List.getElem?_set_self hlt]), setT_get hs]
    rfl

theorem put_at {r : Root} {p : List Nat} {off : Nat} {c : CV} (h : putCell S r p off c = some S') : at_ S' r p off = some c := by
  obtain ⟨cs, ds, hr, hs, rfl⟩ := put_facts h
  rw [at_eq, rootCells_set hr (setC_length hs), if_pos rfl]
  exact setC_get hs

theorem putCells_ok {r : Root} {p : List Nat} {ad : Addr} : ∀ {cs : List CV} {w : World} {S : SV} {off : Nat} {qs : List (List Nat)} {Su : SU}, Rel isv w0 E0 P R ea w S tmps → placeAd S ea r p = some ad →
    okCs w P R S ea (cs.map (killsC r qs)) → (∀ d', Root.sl d' ∈ refsCs cs → isv d' = true) → Bk w0 E0 R ea w S (blkCs cs) → putCells cx f r p off qs (cs.map erC) (V.erS S) = some Su →
    ∃ S2, V.erS S2 = Su ∧ Rel isv w0 E0 P R ea (w.setCells ad.block (ad.off + off) (cs.map valC)) S2 tmps ∧
      ∀ j, j < cs.length → (w.cell? ⟨ad.block, ad.off + off + j, none⟩).isSome = true ∧ w.frozen? ⟨ad.block, ad.off + off + j, none⟩ = false
  | [], w, S, off, qs, Su, h, _, _, _, _, hq => by
    simp only [List.map_nil, putCells, Option.some.injEq] at hq
    exact ⟨S, hq, h, fun j hj => by simp at hj⟩
  | c :: cs, w, S, off, qs, Su, h, had, hok, hrf, hb, hq => by
    simp only [List.map_cons, putCells] at hq
    rw [V.erS, at_map] at hq
    cases hat : at_ S r p off with
    | none => simp [hat] at hq
    | some old =>
      simp only [hat, Option.map_some, Option.bind_some, isOwn_map] at hq
      simp only [List.map_cons, okCs] at hok
      simp only [blkCs] at hb
      -- the store itself, at a place that holds no list of one's own
      have main : ∀ {S1 : SV} {old' : CV} {qs' : List (List Nat)}, Rel isv w0 E0 P R ea w S1 tmps → at_ S1 r p off = some old' → isOwn old' = false → placeAd S1 ea r p = some ad →
          okC w P R S1 ea (killsC r qs' c) → okCs w P R S1 ea (cs.map (killsC r qs')) → Bk w0 E0 R ea w S1 (blkC c ++ blkCs cs) → ∀ {St : SU}, putCell (V.erS S1) r p off (killsC r qs' (erC c)) = some St → putCells cx f r p (off + 1) qs' (cs.map erC) St = some Su →
          ∃ S2, V.erS S2 = Su ∧ Rel isv w0 E0 P R ea (w.setCells ad.block (ad.off + off) ((c :: cs).map valC)) S2 tmps ∧
            ∀ j, j < (c :: cs).length → (w.cell? ⟨ad.block, ad.off + off + j, none⟩).isSome = true ∧ w.frozen? ⟨ad.block, ad.off + off + j, none⟩ = false := by
        intro S1 old' qs' h1 hat1 hown1 had1 hok1 hoks1 hb1 St hput hrest
        rw [killsC_map] at hput
        have hpm : putCell (V.erS S1) r p off (erC (killsC r qs' c)) = (putCell S1 r p off (killsC r qs' c)).map V.erS := putCell_map er0 S1 r p off _
        rw [hpm] at hput
        cases hput1 : putCell S1 r p off (killsC r qs' c) with
        | none => simp [hput1] at hput
        | some S1' =>
          simp only [hput1, Option.map_some, Option.some.injEq] at hput
          subst hput
          have hbc : Bk w0 E0 R ea w S1 (blkC (killsC r qs' c)) := by rw [killsC_blk]; exact hb1.sub (List.sublist_append_left _ _)
          obtain ⟨ad', hv, hspot, hcell, hfz, hB, hrel, hoth, hown⟩ := h1.store hat1 hown1 ⟨ad, had1, rfl⟩ hput1 hok1 (fun d' hd' => hrf d' (by simp only [refsCs, List.mem_append]; exact .inl (killsC_refs r qs' c _ hd'))) hbc
          simp only [Value.pointer.injEq, Option.some.injEq] at hv
          subst hv
          rw [killsC_val] at hrel
          have hem := put_em (ea := ea) hput1
          have hbl := below_own hat1 hown1
          have hw : ∀ k, k ≠ ad.block → (w.setCell ⟨ad.block, ad.off + off, none⟩ (valC c)).heap[k]? = w.heap[k]? := fun k hk => heap_other hk
          have hPB : ∀ t b, P t b → b ≠ ad.block := fun t b hb' e => h1.notR r _ hB (e ▸ h1.PR t b hb')
          have hRB : ∀ b, R b → b ≠ ad.block := fun b hb' e => h1.notR r _ hB (e ▸ hb')
          have hoks2 : okCs (w.setCell ⟨ad.block, ad.off + off, none⟩ (valC c)) P R S1' ea (cs.map (killsC r qs')) := by
            refine okCs_iff.2 fun x hx => ?_
            refine okC_apart hw hPB hRB (okC_put hem hbl (okCs_iff.1 hoks1 x hx)) (fun hbx => ?_)
            obtain ⟨y, hy, rfl⟩ := List.mem_map.1 hx
            rw [killsC_blk] at hbx
            exact hb1.sep r _ (List.mem_append_right _ (by rw [blkCs_eq, List.mem_flatMap]; exact ⟨y, hy, hbx⟩)) hB
          have hb2 : Bk w0 E0 R ea (w.setCell ⟨ad.block, ad.off + off, none⟩ (valC c)) S1' (blkCs cs) := by
            have hb3 := hb1.sub (List.sublist_append_right (blkC c) (blkCs cs))
            have hnd := List.nodup_append.1 hb1.nd
            refine ⟨hb3.nd, fun k b hbm hbk => ?_, fun b hbm => ?_, hb3.own, hb3.notR⟩
            · by_cases e : k = r
              · subst e
                rcases List.mem_append.1 (hown.subset hbk) with h' | h'
                · rw [killsC_blk] at h'
                  exact hnd.2.2 b h' b hbm rfl
                · exact hb3.sep k b hbm h'
              · rw [hoth k e] at hbk; exact hb3.sep k b hbm hbk
            · have := hb3.lt b hbm
              simpa [World.setCell] using this
          obtain ⟨S2, e1, e2, e3⟩ := putCells_ok (cs := cs) hrel (by rw [placeAd_put hem]; exact had1) hoks2 (fun d' hd' => hrf d' (by simp only [refsCs, List.mem_append]; exact .inr hd')) hb2 hrest
          refine ⟨S2, e1, ?_, fun j hj => ?_⟩
          · simpa only [List.map_cons, World.setCells, Nat.add_assoc] using e2
          · cases j with
            | zero => simp [hcell, hfz]
            | succ j =>
              have := e3 j (by simpa using hj)
              rw [World.cell?_setCell_other _ _ _ _ (by simp; omega), World.frozen?_setCell] at this
              simpa only [Nat.add_assoc, Nat.add_comm 1 j] using this
      split at hq
      · rename_i hown
        split at hq
        · cases hq
        · have hpm : putCell (V.erS S) r p off (C.t (T.dead ())) = (putCell S r p off (.t (.dead (valC old)))).map V.erS := putCell_map er0 S r p off (.t (.dead (valC old)))
          change ((putCell (V.erS S) r p off (.t (.dead ()))).bind _) = _ at hq
          rw [hpm] at hq
          cases hput0 : putCell S r p off (.t (.dead (valC old))) with
          | none => simp [hput0] at hq
          | some S0 =>
            simp only [hput0, Option.map_some, Option.bind_some] at hq
            have hval : (∃ A n c, valC old = .slice A n c) ∨ ∃ q, valC old = .pointer q := by
              have hko := h.at_ok hat
              cases old with
              | t x => cases x with
                | sl v tag sz n es => cases tag with
                  | zero => simp only [okC, okT, if_true] at hko; exact .inl (slice_own hko.2.2)
                  | succ m => simp [isOwn] at hown
                | _ => simp [isOwn] at hown
              | lst v sz n es => simp only [okC] at hko; exact .inl (slice_own hko.2.2)
              | _ => simp [isOwn] at hown
            obtain ⟨h1, h2, h3⟩ := h.empty hat hval hput0
            have hem := put_em (ea := ea) hput0
            have hk : kill r (p ++ [off]) (V.erS S0) = V.erS (kill r (p ++ [off]) S0) := kill_map er0 S0 r (p ++ [off])
            rw [hk] at hq
            cases hput : putCell (V.erS (kill r (p ++ [off]) S0)) r p off (List.foldl (fun c q => killC r q c) (erC c) (qs ++ [p ++ [off]])) with
            | none => rw [hput] at hq; simp at hq
            | some St =>
              rw [hput] at hq
              simp only [Option.bind_some] at hq
              have hat1 : at_ (kill r (p ++ [off]) S0) r p off = some (.t (.dead (valC old))) := by
                rw [at_kill]
                have : at_ S0 r p off = some (.t (.dead (valC old))) := put_at hput0
                rw [this]; rfl
              refine main (S1 := kill r (p ++ [off]) S0) (qs' := qs ++ [p ++ [off]]) h1 hat1 rfl (by rw [placeAd_kill, placeAd_put hem]; exact had) ?_ ?_ ?_ hput hq
              · rw [killsC_snoc]; exact okC_em hem hok.1
              · refine okCs_iff.2 fun x hx => ?_
                obtain ⟨y, hy, rfl⟩ := List.mem_map.1 hx
                rw [killsC_snoc]
                exact okC_em hem (okCs_iff.1 hok.2 _ (List.mem_map_of_mem hy))
              · refine ⟨hb.nd, fun k b hbm hbk => ?_, hb.lt, hb.own, hb.notR⟩
                by_cases e : k = r
                · subst e
                  exact hb.sep k b hbm (h3.subset (List.mem_append_right _ hbk))
                · rw [h2 k e] at hbk; exact hb.sep k b hbm hbk
      · rename_i hown
        change ((putCell (V.erS S) r p off (killsC r qs (erC c))).bind _) = _ at hq
        cases hput : putCell (V.erS S) r p off (killsC r qs (erC c)) with
        | none => rw [hput] at hq; simp at hq
        | some St =>
          rw [hput] at hq
          simp only [Option.bind_some] at hq
          exact main h hat (by simpa using hown) had hok.1 hok.2 hb hput hq

theorem okC_clr {o : Operand} {c : CV} (hc : okC w P R S ea c) (hr : ∀ d', Root.sl d' ∈ refsC c → isVar cx f d' = true) : okC w P R (V.clr cx f S o) ea c := by
  cases o with
  | tmp d =>
    simp only [V.clr]
    split
    · exact hc
    · rename_i hv
      split
      · refine okC_same (fun _ _ _ => rfl) (fun _ _ => rfl) hc (fun _ _ => rfl) (fun r hr' => roots_upd (fun e => ?_))
        subst e
        exact hv (hr d hr')
      · exact hc
  | _ => exact hc

theorem at_alive {v : Value} {r : Root} {p : List Nat} {off : Nat} {c : CV} (h : at_ S r p off = some c) : alive S (.ptr v r p off) = true := by
  simp only [alive, Bool.or_eq_true, List.isEmpty_iff]
  by_cases hp : p = []
  · exact .inl hp
  · right
    rw [dropLast_snoc hp, at_snoc] at h
    split at h
    · rename_i heq; rw [heq]; rfl
    · cases h

theorem run_store_cells (hty : TyOk Pr cx.ty) {t : Nat} (ht : (cx.ty t).ok = true) {b o : Nat} {v : Value} {vs : List Value} (hv : v.cells.toList = vs) (hl : vs.length = (cx.ty t).sz) (h1 : ∀ v ∈ vs, v.oneCell' = true)
    (hc : ∀ j, j < vs.length → (w.cell? ⟨b, o + j, none⟩).isSome = true ∧ w.frozen? ⟨b, o + j, none⟩ = false) :
    (Instr.storeAt t (.pointer (some ⟨b, o, none⟩)) v).run Pr w = .ok () (w.setCells b o vs) := by
  obtain ⟨ti, d, zz, hf⟩ := hty.facts ht
  have hsz : (sizeOf t).run Pr w = .ok vs.length w := by simp [sizeOf, typeInfo, hf.info, hf.size, hl]
  have hst := run_storeCells_cells (P := Pr) b o vs 0 w (fun j hj => by rw [Nat.add_zero]; exact (hc j hj).1) (fun j hj => by rw [Nat.add_zero]; exact (hc j hj).2) h1
  rw [Nat.add_zero] at hst
  have hsize : v.cells.size = vs.length := by rw [← hv, Array.length_toList]
  simp [Instr.storeAt, Instr.sureAddr, storeVar, hsz, hsize, hv, hst]

def StoresAt (Pr : Program) (a : Act) (o : Oper) (w w' : World) (b i : Nat) (vs : List Value) : Prop :=
  w' = w.setCells b i vs ∧ (∀ j, j < vs.length → (w.cell? ⟨b, i + j, none⟩).isSome = true ∧ w.frozen? ⟨b, i + j, none⟩ = false) ∧
  ∀ w2 : World, (∀ j, j < vs.length → (w2.cell? ⟨b, i + j, none⟩).isSome = true ∧ w2.frozen? ⟨b, i + j, none⟩ = false) → (execOp a.eval o).run Pr w2 = .ok .skip (w2.setCells b i vs)

theorem storeV_okA (hty : TyOk Pr cx.ty) (h : Rel (isVar cx f) w0 E0 P R ea w S tmps) (ha : a.tmps = tmps) {o : Oper} {t : Nat} {x y : Operand} (ho : o.op = .store t x y) {Su : SU} (hq : storeV cx f (V.erS S) t x y = some Su) :
    ∃ w' S2 b i vs, V.erS S2 = Su ∧ Rel (isVar cx f) w0 E0 P R ea w' S2 tmps ∧ a.eval x = .pointer (some ⟨b, i, none⟩) ∧ StoresAt Pr a o w w' b i vs := by
  unfold storeV at hq
  split at hq
  · rename_i _ r p off hx
    obtain ⟨aG, haG, hav, haok, har⟩ := opv_c h ha hx
    obtain ⟨v, rfl⟩ := er_ptr haG
    cases hy : opv cx f (V.erS S) t y with
    | none => simp [hy] at hq
    | some z =>
      simp only [hy, Option.bind_some] at hq
      cases hc : cellsX z with
      | none => simp [hc] at hq
      | some cs =>
        simp only [hc, Option.bind_some] at hq
        split at hq
        · rename_i hok
          obtain ⟨xG, hxG⟩ := h.opv ha hy
          have hrc := h.clr y
          obtain ⟨ds, d1, d2, d3, d4, d5, d6⟩ := cells_ok hxG.new.ok (by rw [hxG.er]; exact hc)
          subst d1
          have hn := New.agg_of hxG.new d3 d4 d5
          have hbk : Bk w0 E0 R ea w (V.clr cx f S y) (blkCs ds) := by simpa only [blkX] using hn.bk
          have hrd : ∀ d', Root.sl d' ∈ refsCs ds → isVar cx f d' = true := fun d' hd' => hn.refs d' (by simpa only [refsX] using hd')
          have hptr : okC w P R (V.clr cx f S y) ea (.ptr v r p off) := okC_clr haok har
          have hlen : ds.length = (cx.ty t).sz := by simpa using hok.2
          have hval : a.eval x = v := by simpa [valC] using hav
          rw [← clr_map] at hq
          have fin : ∀ {us : List CV} {S2 : SV}, Rel (isVar cx f) w0 E0 P R ea w S2 tmps → (alive S2 (.ptr v r p off) = true → okC w P R S2 ea (.ptr v r p off)) → okCs w P R S2 ea us → (∀ d', Root.sl d' ∈ refsCs us → isVar cx f d' = true) →
              Bk w0 E0 R ea w S2 (blkCs us) → us.map valC = ds.map valC → putCells cx f r p off [] (us.map erC) (V.erS S2) = some Su →
              ∃ w' S2 b i vs, V.erS S2 = Su ∧ Rel (isVar cx f) w0 E0 P R ea w' S2 tmps ∧ a.eval x = .pointer (some ⟨b, i, none⟩) ∧ StoresAt Pr a o w w' b i vs := by
            intro us S2 h2 hp2 hok2 hr2 hb2 hv2 hput
            have hlu : us.length = ds.length := by simpa using congrArg List.length hv2
            cases us with
            | nil =>
              simp only [List.map_nil, putCells, Option.some.injEq] at hput
              have hds : ds = [] := List.length_eq_zero_iff.1 hlu.symm
              subst hds
              simp only [okC] at haok
              obtain ⟨ad, had, rfl⟩ := haok
              refine ⟨w, S2, ad.block, ad.off + off, [], hput, h2, hval, rfl, fun j hj => absurd hj (Nat.not_lt_zero _), fun w2 _ => ?_⟩
              have hrun := run_store_cells (w := w2) hty hok.1 (b := ad.block) (o := ad.off + off) (v := valX xG) (vs := []) (by simpa using d2) (by simpa using hlen) (by simp) (by simp)
              simp [execOp, ho, hval, hxG.val, hrun, World.setCells]
            | cons c us =>
              have hat : ∃ old, at_ S2 r p off = some old := by
                simp only [List.map_cons, putCells] at hput
                rw [V.erS, at_map] at hput
                cases hat : at_ S2 r p off with
                | none => simp [hat] at hput
                | some old => exact ⟨old, rfl⟩
              obtain ⟨old, hat⟩ := hat
              have hp3 := hp2 (at_alive hat)
              simp only [okC] at hp3
              obtain ⟨ad, had, rfl⟩ := hp3
              have hk0 : (c :: us).map (killsC r []) = c :: us := (List.map_congr_left (fun _ _ => rfl)).trans (List.map_id _)
              obtain ⟨S3, e1, e2, e3⟩ := putCells_ok (qs := []) (cs := c :: us) h2 had (by rw [hk0]; exact hok2) hr2 hb2 hput
              refine ⟨_, S3, ad.block, ad.off + off, (c :: us).map valC, e1, e2, hval, rfl, fun j hj => e3 j (by simpa using hj), fun w2 hw2 => ?_⟩
              have hrun := run_store_cells (w := w2) hty hok.1 (b := ad.block) (o := ad.off + off) (v := valX xG) (vs := (c :: us).map valC) (by rw [hv2]; exact d2) (by rw [List.length_map, hlu]; exact hlen) (by
                rw [hv2]
                intro v hv
                obtain ⟨c', hc', rfl⟩ := List.mem_map.1 hv
                exact d6 c' hc') hw2
              simp only [List.map_cons] at hrun
              simp [execOp, ho, hval, hxG.val, hrun]
          have set_case : ∀ {q : List TU × SU}, settles (ds.map erC) (V.erS (V.clr cx f S y)) = some q → putCells cx f r p off [] (toT q.1) q.2 = some Su →
              ∃ w' S2 b i vs, V.erS S2 = Su ∧ Rel (isVar cx f) w0 E0 P R ea w' S2 tmps ∧ a.eval x = .pointer (some ⟨b, i, none⟩) ∧ StoresAt Pr a o w w' b i vs := by
            rintro ⟨ts, Sq⟩ hs hput
            obtain ⟨us, S2, e1, e2, e3, e4, e5, e6, e7, _⟩ := settles_ok hrc Emp.refl d3 hbk hs
            subst e2
            have hmm : toT ts = (us.map C.t).map erC := by rw [← e1]; simp only [toT, List.map_map]; rfl
            rw [hmm] at hput
            have hnr : ∀ (us : List TV), refsCs (us.map C.t) = [] := fun us => by rw [refsCs_eq, List.flatMap_eq_nil_iff]; intro c hc; obtain ⟨y, _, rfl⟩ := List.mem_map.1 hc; rfl
            have hbb : ∀ (us : List TV), blkCs (us.map C.t) = blkTs us := fun us => by rw [blkCs_eq, blkTs_eq, List.flatMap_map]; rfl
            refine fin e4 (fun hal => e5.ok w P R _ hptr hal) ?_ (fun d' hd' => by rw [hnr] at hd'; cases hd') (by rw [hbb]; exact e7) ?_ hput
            · refine okCs_iff.2 fun c hc => ?_
              obtain ⟨y, hy, rfl⟩ := List.mem_map.1 hc
              simpa only [okC] using okTs_iff.1 e6 y hy
            · rw [List.map_map, ← e3]; rfl
          split at hq
          · rename_i d
            cases hk : keepDs cx f d (ds.map erC) (V.erS (V.clr cx f S y)) with
            | none => rw [hk] at hq; simp at hq
            | some q =>
              obtain ⟨ks, Sk⟩ := q
              rw [hk] at hq
              simp only [Option.bind_some] at hq
              split at hq
              · rename_i hal
                obtain ⟨us, S2, e1, e2, e3, e4, e5, e6, e7, e8, e9⟩ := keepDs_ok hrc Emp.refl d3 hbk hk
                subst e1; subst e2
                have hal' : alives S2 us = true := by
                  have h0 := alives_map er0 S2 us
                  rw [mapCs_eq] at h0
                  rw [← h0]; exact hal
                exact fin e4 (fun hal => e5.ok w P R _ hptr hal) (e5.oks e6 hal') (fun d' hd' => hrd d' (e9 _ hd')) e7 e3 hq
              · cases hq
          · cases hs : settles (ds.map erC) (V.erS (V.clr cx f S y)) with
            | none => rw [hs] at hq; simp at hq
            | some q => rw [hs] at hq; simp only [Option.bind_some] at hq; exact set_case hs hq
        · cases hq
  · cases hq

theorem storeV_ok (hty : TyOk Pr cx.ty) (h : Rel (isVar cx f) w0 E0 P R ea w S tmps) (ha : a.tmps = tmps) {o : Oper} {t : Nat} {x y : Operand} (ho : o.op = .store t x y) {Su : SU} (hq : storeV cx f (V.erS S) t x y = some Su) :
    ∃ w' S2, V.erS S2 = Su ∧ Rel (isVar cx f) w0 E0 P R ea w' S2 tmps ∧ (execOp a.eval o).run Pr w = .ok .skip w' := by
  obtain ⟨w', S2, b, i, vs, h1, h2, _, h4, h5, h6⟩ := storeV_okA hty h ha ho hq
  exact ⟨w', S2, h1, h2, by rw [h6 w h5, h4]⟩
end
end Go.Proofs.YtlkjnlfddadlmaaDoor.V

namespace Go.Proofs.YtlkjnlfddadlmaaDoor.V
open Go.RowKit

section
variable {cx : Ctx} {f : Nat} {isv : Nat → Bool} {w0 : World} {E0 : Nat → Prop} {P : Nat → Nat → Prop} {R R' : Nat → Prop} {ea : List EA} {w w' : World} {S0 S S' S2 S3 : SV} {tmps : Array Value} {Pr : Program} {a : Act} {call : Callee}

theorem skip_ok {o : Oper} {n : Nat} {Su Su' : SU} {S2 : SV} (hr : Rel (isVar cx f) w0 E0 P R ea w' S2 a.tmps) (hS : V.erS S2 = Su) (hd : a.defers = []) (hsz : a.tmps.size = n) (hdst : ∀ d, o.dst = some d → d < n)
    (hq : putQ cx f Su o.dst (.tup []) = some Su') : At cx f w0 E0 P R ea n Su' (a.put o.dst undef) w' := by
  have hn : New (isVar cx f) w0 E0 P R ea w' S2 (.tup []) := New.plain (by simp [okX, okXs]) (by simp [blkX, blkXs]) (by simp [refsX, refsXs])
  exact putQ_ok (xG := .tup []) hr hn (by simp [erX, mapX, mapXs]) hS hd hsz hdst hq

theorem step_store (hty : TyOk Pr cx.ty) {ops : Array Oper} {o : Oper} {i n : Nat} {Su Su' : SU} {t : Nat} {x y : Operand} (hat : At cx f w0 E0 P R ea n Su a w) (ho : o.op = .store t x y) (hi : ops[i]? = some o)
    (hdst : ∀ d, o.dst = some d → d < n) (hq : stepOp cx f call Su ops o = some Su') {K : Act → World → Prop} {Q : Exit → Act → World → Prop} (hk : ∀ a' w', At cx f w0 E0 P R ea n Su' a' w' → K a' w') : wpOp Pr ops Q i K a w := by
  obtain ⟨S, hr, rfl, hd, hsz⟩ := hat
  simp only [wpOp, hi]
  unfold stepOp at hq
  cases hw : wantedV (V.erS S) ops o with
  | none => simp [hw] at hq
  | some b =>
    have hwt := wanted_ok hr hw
    cases b with
    | false =>
      rw [if_neg (by rw [hwt]; simp)]
      simp only [hw] at hq
      exact hk _ _ (skip_ok hr rfl hd hsz hdst hq)
    | true =>
      rw [if_pos hwt]
      refine .inl ?_
      simp only [hw, ho] at hq
      cases hv : storeV cx f (V.erS S) t x y with
      | none => simp [hv] at hq
      | some r =>
        simp only [hv, Option.bind_some] at hq
        obtain ⟨w', S2, e1, e2, e3⟩ := storeV_ok hty hr rfl ho hv
        exact wp_skip' e3 (hk _ _ (skip_ok e2 e1 hd hsz hdst hq))

theorem step_assign {ops : Array Oper} {o : Oper} {i n : Nat} {Su Su' : SU} {x : Operand} (hat : At cx f w0 E0 P R ea n Su a w) (ho : o.op = .assign x) (hi : ops[i]? = some o)
    (hdst : ∀ d, o.dst = some d → d < n) (hq : stepOp cx f call Su ops o = some Su') {K : Act → World → Prop} {Q : Exit → Act → World → Prop} (hk : ∀ a' w', At cx f w0 E0 P R ea n Su' a' w' → K a' w') : wpOp Pr ops Q i K a w := by
  have hat0 := hat
  obtain ⟨S, hr, rfl, hd, hsz⟩ := hat
  simp only [wpOp, hi]
  unfold stepOp at hq
  cases hw : wantedV (V.erS S) ops o with
  | none => simp [hw] at hq
  | some b =>
    have hwt := wanted_ok hr hw
    cases b with
    | false =>
      rw [if_neg (by rw [hwt]; simp)]
      simp only [hw] at hq
      exact hk _ _ (skip_ok hr rfl hd hsz hdst hq)
    | true =>
      rw [if_pos hwt]
      refine .inl ?_
      simp only [hw, ho] at hq
      cases hdo : o.dst with
      | none => simp [hdo] at hq
      | some d =>
        simp only [hdo] at hq
        have h1 := assign_ok hat0 (hdst d hdo) hq
        have hrun : (execOp a.eval o).run Pr w = .ok (.value (a.eval x)) w := by simp [execOp, ho]
        exact wp_value hrun (by rw [hdo]; exact hk _ _ h1)
end
end Go.Proofs.YtlkjnlfddadlmaaDoor.V

namespace Go.Proofs.YtlkjnlfddadlmaaDoor.V

def clear {α : Type} (L : List Nat) (S : St α) : St α := { S with s := fun t => if t ∈ L then .undef else S.s t }

theorem clear_nil {α : Type} (S : St α) : clear [] S = S := by cases S; simp [clear]
theorem clear_app {α : Type} (L M : List Nat) (S : St α) : clear M (clear L S) = clear (L ++ M) S := by
  simp only [clear, List.mem_append]
  congr 1
  funext t
  by_cases h1 : t ∈ L <;> by_cases h2 : t ∈ M <;> simp [h1, h2]

section
variable {cx : Ctx} {f : Nat} {call : Callee} {S1 S2 : SU}

structure Agr (S1 S2 : SU) (os : List Operand) : Prop where
  sl : ∀ d, Operand.tmp d ∈ os → S1.s d = .undef ∨ S1.s d = S2.s d
  rt : ∀ d, Operand.tmp d ∈ os → ∀ r ∈ refsOf (S1.s d), rootCells S1 r = none ∨ rootCells S1 r = rootCells S2 r

theorem Agr.sub {os os' : List Operand} (h : Agr S1 S2 os) (hs : ∀ x ∈ os', x ∈ os) : Agr S1 S2 os' := ⟨fun d hd => h.sl d (hs _ hd), fun d hd => h.rt d (hs _ hd)⟩

theorem Agr.clear {os : List Operand} (h : Agr S1 S2 os) {L : List Nat} (hL : ∀ t ∈ L, isVar cx f t = false) (hr : ∀ d, Operand.tmp d ∈ os → ∀ k, Root.sl k ∈ refsOf (S1.s d) → k ∉ L) : Agr (V.clear L S1) (V.clear L S2) os := by
  refine ⟨fun d hd => ?_, fun d hd r hr' => ?_⟩
  · simp only [V.clear]
    split
    · exact .inl rfl
    · exact h.sl d hd
  · simp only [V.clear] at hr'
    split at hr'
    · simp [refsOf] at hr'
    · have := h.rt d hd r hr'
      cases r with
      | sl k =>
        have hk := hr d hd k hr'
        simpa [rootCells, V.clear, hk] using this
      | ex j => simpa [rootCells, V.clear] using this

theorem Agr.refl {os : List Operand} : Agr S1 S1 os := ⟨fun _ _ => .inr rfl, fun _ _ _ _ => .inr rfl⟩

def HR (cx : Ctx) (f : Nat) (S1 S2 : SU) (os : List Operand) : Prop := S1 = S2 ∨ ∀ d, Operand.tmp d ∈ os → ∀ k, Root.sl k ∈ refsOf (S1.s d) → isVar cx f k = true

theorem HR.agr {os : List Operand} (hr : HR cx f S1 S2 os) (h : Agr S1 S2 os) {L : List Nat} (hL : ∀ t ∈ L, isVar cx f t = false) : Agr (V.clear L S1) (V.clear L S2) os := by
  rcases hr with rfl | hr
  · exact Agr.refl
  · exact h.clear (cx := cx) (f := f) hL (fun d hd k hk hkL => by
      have := hr d hd k hk
      rw [hL k hkL] at this; cases this)

theorem HR.clear {os : List Operand} (hr : HR cx f S1 S2 os) (L : List Nat) : HR cx f (V.clear L S1) (V.clear L S2) os := by
  rcases hr with rfl | hr
  · exact .inl rfl
  · refine .inr fun d hd k hk => ?_
    simp only [V.clear] at hk
    split at hk
    · simp [refsOf] at hk
    · exact hr d hd k hk

theorem opv_mono {os : List Operand} (h : Agr S1 S2 os) {t : Nat} {o : Operand} {x : XU} (ho : o ∈ os) (hx : opv cx f S1 t o = some x) : opv cx f S2 t o = some x := by
  cases o with
  | tmp d =>
    simp only [opv] at hx ⊢
    rcases h.sl d ho with e | e
    · rw [e] at hx; simp [rdS] at hx
    · rw [← e]; exact hx
  | const v => exact hx
  | func g => exact hx
  | global g => exact hx

theorem clr_mono {os : List Operand} (h : Agr S1 S2 os) {t : Nat} {o : Operand} {x : XU} (ho : o ∈ os) (hx : opv cx f S1 t o = some x) :
    ∃ L, clr cx f S1 o = clear L S1 ∧ clr cx f S2 o = clear L S2 ∧ ∀ t ∈ L, Operand.tmp t ∈ os ∧ isVar cx f t = false ∧ hasOwn (S1.s t) = true := by
  cases o with
  | tmp d =>
    simp only [opv] at hx
    have e : S1.s d = S2.s d := by
      rcases h.sl d ho with e | e
      · rw [e] at hx; simp [rdS] at hx
      · exact e
    simp only [clr]
    by_cases hv : isVar cx f d = true
    · exact ⟨[], by simp [hv, clear_nil], by simp [hv, clear_nil], by simp⟩
    · by_cases hw : hasOwn (S1.s d) = true
      · refine ⟨[d], ?_, ?_, fun t ht => ?_⟩
        · simp only [hv, hw, if_true, clear, List.mem_singleton]; rfl
        · rw [← e]; simp only [hv, hw, if_true, clear, List.mem_singleton]; rfl
        · simp only [List.mem_singleton] at ht; subst ht; exact ⟨ho, by simpa using hv, hw⟩
      · exact ⟨[], by simp [hv, hw, clear_nil], by rw [← e]; simp [hv, hw, clear_nil], by simp⟩
  | const v => exact ⟨[], by simp [clr, clear_nil], by simp [clr, clear_nil], by simp⟩
  | func g => exact ⟨[], by simp [clr, clear_nil], by simp [clr, clear_nil], by simp⟩
  | global g => exact ⟨[], by simp [clr, clear_nil], by simp [clr, clear_nil], by simp⟩

theorem rootsC_rdc (r : Root) (p : List Nat) (i : Nat) : ∀ c : CU, ∀ k ∈ rootsC true (rdc r p i c), k = r ∨ k ∈ rootsC true c := by
  intro c k hk
  cases c with
  | t x => cases x with
    | sl v tag sz n cs => cases tag with
      | zero => simp only [rdc, rootsC, if_true, List.mem_singleton] at hk; exact .inl hk
      | succ m => simp [rdc, rootsC] at hk
    | _ => simp [rdc, rootsC] at hk
  | lst v sz n cs => simp [rdc, rootsC] at hk
  | _ => exact .inr hk

theorem rootsCs_rdcs (r : Root) : ∀ (i : Nat) (cs : List CU), ∀ k ∈ rootsCs true (rdcs r i cs), k = r ∨ k ∈ rootsCs true cs
  | _, [], k, hk => by simp [rdcs, rootsCs] at hk
  | i, c :: cs, k, hk => by
    simp only [rdcs, rootsCs, List.mem_append] at hk ⊢
    rcases hk with hk | hk
    · exact (rootsC_rdc r [] i c k hk).imp id .inl
    · exact (rootsCs_rdcs r (i + 1) cs k hk).imp id .inr

theorem zeroIs_roots {c : CU} {v : Value} (h : zeroIs c v = true) : rootsC true c = [] := by
  unfold zeroIs at h
  split at h <;> first | rfl | cases h

theorem zerosAre_roots : ∀ {cs : List CU} {vs : List Value}, zerosAre cs vs = true → rootsCs true cs = []
  | [], vs, _ => rfl
  | c :: cs, [], h => by simp [zerosAre] at h
  | c :: cs, v :: vs, h => by
    simp only [zerosAre, Bool.and_eq_true] at h
    simp only [rootsCs, zeroIs_roots h.1, zerosAre_roots h.2, List.append_nil]

theorem constX_refs {t : Nat} {v : Value} {x : XU} (h : constX cx t v = some x) : refsOf x = [] := by
  unfold constX at h
  split at h
  all_goals (try split at h)
  all_goals (cases h; try rfl)
  next hc =>
    simp only [Bool.and_eq_true] at hc
    simp only [refsOf, zerosAre_roots hc.2]

theorem opv_roots {os : List Operand} (h : Agr S1 S2 os) {t : Nat} {o : Operand} {x : XU} (ho : o ∈ os) (hx : opv cx f S1 t o = some x) : ∀ r ∈ refsOf x, rootCells S1 r = none ∨ rootCells S1 r = rootCells S2 r := by
  intro r hr
  cases o with
  | tmp d =>
    simp only [opv] at hx
    have e : S1.s d = S2.s d := by
      rcases h.sl d ho with e | e
      · rw [e] at hx; simp [rdS] at hx
      · exact e
    have own : rootCells S1 (.sl d) = rootCells S2 (.sl d) := by simp only [rootCells, e]
    have hrt := h.rt d ho
    cases hs : S1.s d with
    | undef => rw [hs] at hx; simp [rdS] at hx
    | tup xs =>
      rw [hs] at hx
      simp only [rdS] at hx
      split at hx
      · cases hx
      · simp only [Option.some.injEq] at hx; subst hx; simp [refsOf] at hr
    | c y =>
      rw [hs] at hx hrt
      simp only [rdS] at hx
      split at hx <;> simp only [Option.some.injEq] at hx <;> subst hx
      · rcases rootsC_rdc (.sl d) [] 0 y r hr with rfl | hr
        · exact .inr own
        · exact hrt r hr
      · exact hrt r hr
    | agg cs =>
      rw [hs] at hx hrt
      simp only [rdS] at hx
      split at hx <;> simp only [Option.some.injEq] at hx <;> subst hx
      · rcases rootsCs_rdcs (.sl d) 0 cs r hr with rfl | hr
        · exact .inr own
        · exact hrt r hr
      · exact hrt r hr
    | box v cs =>
      rw [hs] at hx hrt
      simp only [rdS] at hx
      split at hx <;> simp only [Option.some.injEq] at hx <;> subst hx
      · simp only [refsOf, rootsC, List.mem_singleton] at hr
        subst hr; exact .inr own
      · exact hrt r hr
  | const v => rw [constX_refs hx] at hr; simp at hr
  | func g => simp only [opv, Option.some.injEq] at hx; subst hx; simp [refsOf, rootsC, rootsCs] at hr
  | global g => simp [opv] at hx

theorem at_mono {r : Root} (h : rootCells S1 r = none ∨ rootCells S1 r = rootCells S2 r) {p : List Nat} {i : Nat} {c : CU} (ha : at_ S1 r p i = some c) : at_ S2 r p i = some c := by
  simp only [at_] at ha ⊢
  rcases h with e | e
  · rw [e] at ha; simp at ha
  · rw [← e]; exact ha

theorem loadN_mono {r : Root} (h : rootCells S1 r = none ∨ rootCells S1 r = rootCells S2 r) {p : List Nat} : ∀ {n off : Nat} {cs : List CU}, loadN S1 r p off n = some cs → loadN S2 r p off n = some cs
  | 0, off, cs, hl => hl
  | n + 1, off, cs, hl => by
    simp only [loadN] at hl ⊢
    cases ha : at_ S1 r p off with
    | none => simp [ha] at hl
    | some c =>
      simp only [ha, Option.bind_some] at hl
      rw [at_mono h ha]
      cases hn : loadN S1 r p (off + 1) n with
      | none => simp [hn] at hl
      | some ds => rw [hn] at hl; simp only [Option.bind_some]; rw [loadN_mono h hn]; exact hl

theorem listAt_mono {r : Root} (h : rootCells S1 r = none ∨ rootCells S1 r = rootCells S2 r) {p : List Nat} {i off m : Nat} {cs : List TU} (hl : listAt S1 r p i off m = some cs) : listAt S2 r p i off m = some cs := by
  unfold listAt at hl ⊢
  cases ha : at_ S1 r p i with
  | none => simp [ha] at hl
  | some c => rw [ha] at hl; rw [at_mono h ha]; exact hl

mutual
theorem snapC_mono : ∀ {c d : CU}, (∀ r ∈ rootsC true c, rootCells S1 r = none ∨ rootCells S1 r = rootCells S2 r) → snapC S1 c = some d → snapC S2 c = some d
  | .t x, d, _, hs => by simpa only [snapC] using hs
  | .bor v r p i off sz n, d, h, hs => by
    simp only [snapC] at hs ⊢
    split at hs
    · rename_i hz
      rw [if_pos hz]
      cases hl : listAt S1 r p i off (n * sz) with
      | none => simp [hl] at hs
      | some ds => rw [hl] at hs; rw [listAt_mono (h r (by simp [rootsC])) hl]; exact hs
    · cases hs
  | .rptr v cs, d, _, hs => by simpa only [snapC] using hs
  | .nilp, d, _, hs => by simpa only [snapC] using hs
  | .nilf, d, _, hs => by simpa only [snapC] using hs
  | .fn g [], d, _, hs => by simpa only [snapC] using hs
  | .fn g (c :: cs), d, _, hs => by simp [snapC] at hs
  | .ptr v r p off, d, _, hs => by simp [snapC] at hs
  | .lst v sz n cs, d, h, hs => by
    simp only [snapC] at hs ⊢
    cases hc : snapCs S1 cs with
    | none => simp [hc] at hs
    | some ds => rw [hc] at hs; rw [snapCs_mono (by simpa only [rootsC] using h) hc]; exact hs
theorem snapCs_mono : ∀ {cs ds : List CU}, (∀ r ∈ rootsCs true cs, rootCells S1 r = none ∨ rootCells S1 r = rootCells S2 r) → snapCs S1 cs = some ds → snapCs S2 cs = some ds
  | [], ds, _, hs => by simpa only [snapCs] using hs
  | c :: cs, ds, h, hs => by
    simp only [snapCs] at hs ⊢
    simp only [rootsCs, List.mem_append] at h
    cases hc : snapC S1 c with
    | none => simp [hc] at hs
    | some d =>
      simp only [hc, Option.bind_some] at hs
      rw [snapC_mono (fun r hr => h r (.inl hr)) hc]
      cases hcs : snapCs S1 cs with
      | none => simp [hcs] at hs
      | some es => rw [hcs] at hs; simp only [Option.bind_some]; rw [snapCs_mono (fun r hr => h r (.inr hr)) hcs]; exact hs
end

theorem snapX_mono {x y : XU} (h : ∀ r ∈ refsOf x, rootCells S1 r = none ∨ rootCells S1 r = rootCells S2 r) (hs : snapX S1 x = some y) : snapX S2 x = some y := by
  cases x with
  | c c =>
    simp only [snapX] at hs ⊢
    cases hc : snapC S1 c with
    | none => simp [hc] at hs
    | some d => rw [hc] at hs; rw [snapC_mono h hc]; exact hs
  | agg cs =>
    simp only [snapX] at hs ⊢
    cases hc : snapCs S1 cs with
    | none => simp [hc] at hs
    | some d => rw [hc] at hs; rw [snapCs_mono h hc]; exact hs
  | _ => simp [snapX] at hs

theorem snapArgs_mono : ∀ {as : List Operand} {ts : List Nat} {xs : List XU}, Agr S1 S2 as → snapArgs cx f S1 as ts = some xs → snapArgs cx f S2 as ts = some xs
  | [], ts, xs, _, hs => by simpa only [snapArgs] using hs
  | o :: os, ts, xs, h, hs => by
    simp only [snapArgs] at hs ⊢
    cases hx : opv cx f S1 (ts.head?.getD 0) o with
    | none => simp [hx] at hs
    | some x =>
      simp only [hx, Option.bind_some] at hs
      rw [opv_mono h List.mem_cons_self hx]
      simp only [Option.bind_some]
      cases hy : snapX S1 x with
      | none => simp [hy] at hs
      | some y =>
        simp only [hy, Option.bind_some] at hs
        rw [snapX_mono (opv_roots h List.mem_cons_self hx) hy]
        simp only [Option.bind_some]
        cases hz : snapArgs cx f S1 os ts.tail with
        | none => simp [hz] at hs
        | some zs => rw [hz] at hs; rw [snapArgs_mono (h.sub (fun x hx => List.mem_cons_of_mem _ hx)) hz]; exact hs

end
end Go.Proofs.YtlkjnlfddadlmaaDoor.V

namespace Go.Proofs.YtlkjnlfddadlmaaDoor.V

section
variable {cx : Ctx} {f : Nat} {call : Callee} {S1 S2 : SU}

def Mono (cx : Ctx) (f : Nat) (S1 S2 : SU) (os : List Operand) (S1' : SU) (Q : SU → Prop) : Prop :=
  ∃ L, S1' = clear L S1 ∧ Q (clear L S2) ∧ ∀ t ∈ L, Operand.tmp t ∈ os ∧ isVar cx f t = false ∧ hasOwn (S1.s t) = true

theorem Mono.none {os : List Operand} {Q : SU → Prop} (h : Q S2) : Mono cx f S1 S2 os S1 Q := ⟨[], (clear_nil S1).symm, by rw [clear_nil]; exact h, by simp⟩

theorem Mono.clr {os : List Operand} {Q : SU → Prop} (h : Agr S1 S2 os) {t : Nat} {o : Operand} {x : XU} (ho : o ∈ os) (hx : opv cx f S1 t o = some x) (hQ : Q (V.clr cx f S2 o)) : Mono cx f S1 S2 os (V.clr cx f S1 o) Q := by
  obtain ⟨L, e1, e2, e3⟩ := clr_mono h ho hx
  exact ⟨L, e1, by rw [← e2]; exact hQ, e3⟩

theorem buildV_mono (place : Nat → Option (Nat × Nat)) : ∀ {ps : List (Nat × Operand)} {cells : List CU} {S1 S2 : SU} {os : List Operand} {r : List CU × SU}, Agr S1 S2 os → (∀ p ∈ ps, p.2 ∈ os) → HR cx f S1 S2 os →
    buildV cx f place ps cells S1 = some r → Mono cx f S1 S2 os r.2 fun S2' => buildV cx f place ps cells S2 = some (r.1, S2')
  | [], cells, S1, S2, os, r, _, _, _, hq => by
    simp only [buildV, Option.some.injEq] at hq
    subst hq
    exact Mono.none rfl
  | (i, o) :: ps, cells, S1, S2, os, r, h, hp, hr, hq => by
    simp only [buildV] at hq
    have ho : o ∈ os := hp (i, o) List.mem_cons_self
    cases hpl : place i with
    | none => simp [hpl] at hq
    | some q =>
      simp only [hpl, Option.bind_some] at hq
      cases hx : opv cx f S1 q.2 o with
      | none => simp [hx] at hq
      | some x =>
        simp only [hx, Option.bind_some] at hq
        cases hc : cellsX x with
        | none => simp [hc] at hq
        | some cs =>
          simp only [hc, Option.bind_some] at hq
          split at hq
          · rename_i hok
            obtain ⟨L, e1, e2, e3⟩ := clr_mono h ho hx
            rw [e1] at hq
            have hag : Agr (clear L S1) (clear L S2) os := hr.agr h (fun t ht => (e3 t ht).2.1)
            have hr' := hr.clear L
            obtain ⟨M, f1, f2, f3⟩ := buildV_mono place hag (fun p hp' => hp p (List.mem_cons_of_mem _ hp')) hr' hq
            refine ⟨L ++ M, by rw [f1, clear_app], ?_, fun t ht => ?_⟩
            · simp only [buildV, hpl, Option.bind_some, opv_mono h ho hx, hc, if_pos hok, e2]
              rw [← clear_app]; exact f2
            · rcases List.mem_append.1 ht with ht | ht
              · exact e3 t ht
              · obtain ⟨g1, g2, g3⟩ := f3 t ht
                refine ⟨g1, g2, ?_⟩
                simp only [clear] at g3
                split at g3
                · simp [hasOwn] at g3
                · exact g3
          · cases hq

theorem optInt_mono {os : List Operand} (h : Agr S1 S2 os) {o : Option Operand} (ho : ∀ x, o = some x → x ∈ os) {n : Option Int} (hn : optInt cx f S1 o = some n) : optInt cx f S2 o = some n := by
  cases o with
  | none => exact hn
  | some o =>
    simp only [optInt] at hn ⊢
    cases hx : opv cx f S1 0 o with
    | none => simp [hx, intOf] at hn
    | some x => rw [hx] at hn; rw [opv_mono h (ho o rfl) hx]; exact hn

theorem capsV_mono : ∀ {os : List Operand} {cs : List CU}, Agr S1 S2 os → capsV cx f S1 os = some cs → capsV cx f S2 os = some cs
  | [], cs, _, hc => by simpa only [capsV] using hc
  | o :: os, cs, h, hc => by
    simp only [capsV] at hc ⊢
    cases hx : opv cx f S1 0 o with
    | none => simp [hx] at hc
    | some x =>
      rw [hx] at hc
      rw [opv_mono h List.mem_cons_self hx]
      simp only [Option.bind_some] at hc ⊢
      cases x with
      | c c =>
        simp only at hc ⊢
        split at hc
        · cases hc
        · rename_i hno
          rw [if_neg hno]
          cases hy : capsV cx f S1 os with
          | none => simp [hy] at hc
          | some ds => rw [hy] at hc; rw [capsV_mono (h.sub (fun x hx => List.mem_cons_of_mem _ hx)) hy]; exact hc
      | _ => simp at hc

theorem intOf_mono {os : List Operand} (h : Agr S1 S2 os) {t : Nat} {o : Operand} (ho : o ∈ os) {n : Int} (hn : intOf (opv cx f S1 t o) = some n) : intOf (opv cx f S2 t o) = some n := by
  cases hx : opv cx f S1 t o with
  | none => simp [hx, intOf] at hn
  | some x => rw [hx] at hn; rw [opv_mono h ho hx]; exact hn

theorem int64Of_mono {os : List Operand} (h : Agr S1 S2 os) {t : Nat} {o : Operand} (ho : o ∈ os) {n : Int} (hn : int64Of (opv cx f S1 t o) = some n) : int64Of (opv cx f S2 t o) = some n := by
  cases hx : opv cx f S1 t o with
  | none => simp [hx, int64Of] at hn
  | some x => rw [hx] at hn; rw [opv_mono h ho hx]; exact hn

theorem boolOf_mono {os : List Operand} (h : Agr S1 S2 os) {t : Nat} {o : Operand} (ho : o ∈ os) {n : Bool} (hn : boolOf (opv cx f S1 t o) = some n) : boolOf (opv cx f S2 t o) = some n := by
  cases hx : opv cx f S1 t o with
  | none => simp [hx, boolOf] at hn
  | some x => rw [hx] at hn; rw [opv_mono h ho hx]; exact hn

theorem readL_mono {c : CU} (h : ∀ r ∈ rootsC true c, rootCells S1 r = none ∨ rootCells S1 r = rootCells S2 r) {q : Nat × Nat × List TU} (hq : readL S1 c = some q) : readL S2 c = some q := by
  cases c with
  | t x => cases x with
    | sl v tag sz n cs => exact hq
    | _ => simp [readL] at hq
  | bor v r p i off sz n =>
    simp only [readL] at hq ⊢
    cases hl : listAt S1 r p i off (n * sz) with
    | none => simp [hl] at hq
    | some cs => rw [hl] at hq; rw [listAt_mono (h r (by simp [rootsC])) hl]; exact hq
  | _ => simp [readL] at hq

theorem convV_mono {so : Bool} {ks kd : Nat} {c d : CU} (h : ∀ r ∈ rootsC true c, rootCells S1 r = none ∨ rootCells S1 r = rootCells S2 r) (hq : convV so ks kd S1 c = some d) : convV so ks kd S2 c = some d := by
  have key : ∀ {e : CU}, (if kd = 3 ∧ ks = 4 then (readL S1 e).bind fun q => if q.1 = 1 then (bytesOf q.2.2).map fun bs => C.t (T.str bs) else none else none) = some d → (∀ r ∈ rootsC true e, rootCells S1 r = none ∨ rootCells S1 r = rootCells S2 r) →
      (if kd = 3 ∧ ks = 4 then (readL S2 e).bind fun q => if q.1 = 1 then (bytesOf q.2.2).map fun bs => C.t (T.str bs) else none else none) = some d := by
    intro e he hr
    split at he
    · rename_i hk
      rw [if_pos hk]
      cases hl : readL S1 e with
      | none => simp [hl] at he
      | some q => rw [hl] at he; rw [readL_mono hr hl]; exact he
    · cases he
  cases c with
  | t x => cases x with
    | int k n => exact hq
    | str s => exact hq
    | _ => exact key hq h
  | _ => exact key hq h

theorem quietCall_mono {os : List Operand} (h : Agr S1 S2 os) {fo : Operand} {args : List Operand} {ts : List Nat} (hf : fo ∈ os) (ha : ∀ x ∈ args, x ∈ os) {x : XU} (hq : quietCall cx f call S1 fo args ts = some x) : quietCall cx f call S2 fo args ts = some x := by
  unfold quietCall at hq ⊢
  cases hx : opv cx f S1 0 fo with
  | none => simp [hx] at hq
  | some y =>
    rw [hx] at hq
    rw [opv_mono h hf hx]
    cases y with
    | c c => cases c with
      | fn g caps => cases caps with
        | nil =>
          simp only at hq ⊢
          split at hq
          · cases hq
          · rename_i hno
            rw [if_neg hno]
            cases hs : snapArgs cx f S1 args ts with
            | none => simp [hs] at hq
            | some xs => rw [hs] at hq; rw [snapArgs_mono (h.sub ha) hs]; exact hq
        | cons => simp at hq
      | _ => simp at hq
    | _ => simp at hq

theorem extractV_mono {os : List Operand} (h : Agr S1 S2 os) {o : Operand} {i : Nat} (ho : o ∈ os) {x : XU} (hq : extractV cx f S1 o i = some x) : extractV cx f S2 o i = some x := by
  cases o with
  | tmp d =>
    simp only [extractV] at hq ⊢
    rcases h.sl d ho with e | e
    · rw [e] at hq; simp at hq
    · rw [← e]; exact hq
  | _ => simp [extractV] at hq

theorem growV_mono {c : Call} (h : Agr S1 S2 c.operands.toList) {x : XU} (hq : growV cx f S1 c = some x) : growV cx f S2 c = some x := by
  have hargs : ∀ y ∈ c.args.toList, y ∈ c.operands.toList := by
    intro y hy; simp only [Call.operands, Array.toList_append, List.mem_append]; exact .inr hy
  unfold growV at hq ⊢
  split at hq
  · next g y hcal hax =>
    try simp only [hcal, hax]
    split at hq
    · next q n hg hn =>
      simp only [hg, int64Of_mono h (hargs y (by rw [hax]; simp)) hn]
      exact hq
    · cases hq
  · cases hq

theorem qcall_mono {t : Nat} {c : Call} {x : XU} {S1' : SU} (h : Agr S1 S2 c.operands.toList) (hq : qcall cx f call S1 t c = some (x, S1')) : S1' = S1 ∧ qcall cx f call S2 t c = some (x, S2) := by
  have hargs : ∀ y ∈ c.args.toList, y ∈ c.operands.toList := by
    intro y hy; simp only [Call.operands, Array.toList_append, List.mem_append]; exact .inr hy
  unfold qcall at hq ⊢
  split at hq
  · rename_i y t' hcal hax hts
    have hy : y ∈ c.operands.toList := hargs y (by rw [hax]; simp)
    try simp only [hcal, hax, hts]
    cases hz : opv cx f S1 t' y with
    | none => simp [hz] at hq
    | some z =>
      rw [hz] at hq
      rw [opv_mono h hy hz]
      cases z with
      | c z =>
        simp only at hq ⊢
        split at hq
        · rename_i hl
          rw [if_pos hl]
          cases hv : lenV z with
          | none => simp [hv] at hq
          | some n =>
            simp only [hv, Option.map_some, Option.some.injEq, Prod.mk.injEq] at hq ⊢
            exact ⟨hq.2.symm, hq.1, trivial⟩
        · cases hq
      | _ => simp at hq
  · rename_i b y z hcal hax
    try simp only [hcal, hax]
    have hy : y ∈ c.operands.toList := hargs y (by rw [hax]; simp)
    have hz : z ∈ c.operands.toList := hargs z (by rw [hax]; simp)
    simp only [mmV] at hq ⊢
    split at hq
    · rename_i a b' h1 h2
      rw [int64Of_mono h hy h1, int64Of_mono h hz h2]
      cases hm : mm b a b' with
      | none => simp [hm] at hq
      | some n =>
        simp only [hm, Option.map_some, Option.some.injEq, Prod.mk.injEq] at hq ⊢
        exact ⟨hq.2.symm, hq.1, trivial⟩
    · cases hq
  · rename_i fo hcal
    try simp only [hcal]
    split at hq
    · next hg =>
      rw [if_pos hg]
      cases hz : growV cx f S1 c with
      | none => simp [hz] at hq
      | some z =>
        rw [growV_mono h hz]
        simp only [hz, Option.map_some, Option.some.injEq, Prod.mk.injEq] at hq ⊢
        exact ⟨hq.2.symm, hq.1, trivial⟩
    · next hg =>
      rw [if_neg hg]
      cases hz : quietCall cx f call S1 fo c.args.toList c.argTypes.toList with
      | none => simp [hz] at hq
      | some z =>
        rw [quietCall_mono h (by simp [Call.operands, hcal]) hargs hz]
        simp only [hz, Option.map_some, Option.some.injEq, Prod.mk.injEq] at hq ⊢
        exact ⟨hq.2.symm, hq.1, trivial⟩
  · cases hq
end
end Go.Proofs.YtlkjnlfddadlmaaDoor.V

namespace Go.Proofs.YtlkjnlfddadlmaaDoor.V

section
variable {cx : Ctx} {f : Nat} {call : Callee} {S1 S2 : SU}

theorem qval_mono {t : Nat} {op : Op} {x : XU} {S1' : SU} (h : Agr S1 S2 op.operands.toList) (hr : HR cx f S1 S2 op.operands.toList) (hq : qval cx f call S1 t op = some (x, S1')) :
    Mono cx f S1 S2 op.operands.toList S1' fun S2' => qval cx f call S2 t op = some (x, S2') := by
  cases op with
  | move y =>
    simp only [qval] at hq ⊢
    have hy : y ∈ (Op.move y).operands.toList := by simp [Op.operands]
    cases hx : opv cx f S1 t y with
    | none => simp [hx] at hq
    | some z =>
      simp only [hx, Option.map_some, Option.some.injEq, Prod.mk.injEq] at hq
      obtain ⟨rfl, rfl⟩ := hq
      exact Mono.clr h hy hx (by simp [opv_mono h hy hx])
  | pick c y z =>
    simp only [qval] at hq ⊢
    have hc : c ∈ (Op.pick c y z).operands.toList := by simp [Op.operands]
    have hy : y ∈ (Op.pick c y z).operands.toList := by simp [Op.operands]
    have hz : z ∈ (Op.pick c y z).operands.toList := by simp [Op.operands]
    split at hq
    · rename_i hb
      cases hx : opv cx f S1 t y with
      | none => simp [hx] at hq
      | some v =>
        simp only [hx, Option.map_some, Option.some.injEq, Prod.mk.injEq] at hq
        obtain ⟨rfl, rfl⟩ := hq
        exact Mono.clr h hy hx (by simp [boolOf_mono h hc hb, opv_mono h hy hx])
    · rename_i hb
      cases hx : opv cx f S1 t z with
      | none => simp [hx] at hq
      | some v =>
        simp only [hx, Option.map_some, Option.some.injEq, Prod.mk.injEq] at hq
        obtain ⟨rfl, rfl⟩ := hq
        exact Mono.clr h hz hx (by simp [boolOf_mono h hc hb, opv_mono h hz hx])
    · cases hq
  | alloc e =>
    simp only [qval] at hq ⊢
    split at hq
    · rename_i hok
      simp only [Option.some.injEq, Prod.mk.injEq] at hq
      obtain ⟨rfl, rfl⟩ := hq
      exact Mono.none (by simp [hok])
    · cases hq
  | box e y =>
    simp only [qval] at hq ⊢
    have hy : y ∈ (Op.box e y).operands.toList := by simp [Op.operands]
    cases hx : opv cx f S1 e y with
    | none => simp [hx] at hq
    | some z =>
      simp only [hx, Option.bind_some] at hq
      cases hc : cellsX z with
      | none => simp [hc] at hq
      | some cs =>
        simp only [hc, Option.bind_some] at hq
        split at hq
        · rename_i hok
          simp only [Option.some.injEq, Prod.mk.injEq] at hq
          obtain ⟨rfl, rfl⟩ := hq
          exact Mono.clr h hy hx (by simp only [opv_mono h hy hx, Option.bind_some, hc, if_pos hok])
        · cases hq
  | build e ps =>
    simp only [qval] at hq ⊢
    split at hq
    · rename_i hok
      cases hb : buildV cx f (fun i => (cx.ty e).fs[i]?) ps.toList (cx.ty e).zs S1 with
      | none => simp [hb] at hq
      | some r =>
        simp only [hb, Option.map_some, Option.some.injEq, Prod.mk.injEq] at hq
        obtain ⟨rfl, rfl⟩ := hq
        obtain ⟨L, e1, e2, e3⟩ := buildV_mono (cx := cx) (f := f) _ h (fun p hp => by simp only [Op.operands, List.mem_map]; exact ⟨p, hp, rfl⟩) hr hb
        exact ⟨L, e1, by simp only [if_pos hok, e2, Option.map_some], e3⟩
    · cases hq
  | buildSlice e n ps =>
    simp only [qval] at hq ⊢
    split at hq
    · rename_i el he
      split at hq
      · rename_i hok
        cases hb : buildV cx f (fun i => if i < n then some (i * (cx.ty el).sz, el) else none) ps.toList (repl n (cx.ty el).zs) S1 with
        | none => simp [hb] at hq
        | some r =>
          simp only [hb, Option.map_some, Option.some.injEq, Prod.mk.injEq] at hq
          obtain ⟨rfl, rfl⟩ := hq
          obtain ⟨L, e1, e2, e3⟩ := buildV_mono (cx := cx) (f := f) _ h (fun p hp => by simp only [Op.operands, List.mem_map]; exact ⟨p, hp, rfl⟩) hr hb
          exact ⟨L, e1, by simp only [he, if_pos hok, e2, Option.map_some], e3⟩
      · cases hq
    · cases hq
  | load e y =>
    simp only [qval] at hq ⊢
    have hy : y ∈ (Op.load e y).operands.toList := by simp [Op.operands]
    split at hq
    · rename_i _ r p off hx
      rw [opv_mono h hy hx]
      have hroot := opv_roots h hy hx r (by simp [refsOf, rootsC])
      simp only
      split at hq
      · rename_i hok
        cases hl : loadN S1 r p off (cx.ty e).sz with
        | none => simp [hl] at hq
        | some cs =>
          simp only [hl, Option.bind_some] at hq
          cases hm : mkX cx e cs with
          | none => simp [hm] at hq
          | some z =>
            simp only [hm, Option.map_some, Option.some.injEq, Prod.mk.injEq] at hq
            obtain ⟨rfl, rfl⟩ := hq
            exact Mono.none (by simp only [if_pos hok, loadN_mono hroot hl, Option.bind_some, hm, Option.map_some])
      · cases hq
    · rename_i _ cs hx
      rw [opv_mono h hy hx]
      simp only
      split at hq
      · rename_i hok
        cases hm : mkX cx e ((cs.take (cx.ty e).sz).map .t) with
        | none => rw [hm] at hq; cases hq
        | some z =>
          simp only [hm, Option.map_some, Option.some.injEq, Prod.mk.injEq] at hq
          obtain ⟨rfl, rfl⟩ := hq
          exact Mono.none (by simp only [if_pos hok, hm, Option.map_some])
      · cases hq
    · cases hq
  | fieldAddr e y i =>
    simp only [qval] at hq ⊢
    have hy : y ∈ (Op.fieldAddr e y i).operands.toList := by simp [Op.operands]
    split at hq
    · rename_i off ft z hf hx
      rw [hf, opv_mono h hy hx]
      simp only
      split at hq
      · rename_i hok
        cases ha : addrV z off with
        | none => simp [ha] at hq
        | some u =>
          simp only [ha, Option.map_some, Option.some.injEq, Prod.mk.injEq] at hq
          obtain ⟨rfl, rfl⟩ := hq
          exact Mono.none (by simp only [if_pos hok, ha, Option.map_some])
      · cases hq
    · cases hq
  | field e y i =>
    simp only [qval] at hq ⊢
    have hy : y ∈ (Op.field e y i).operands.toList := by simp [Op.operands]
    split at hq
    · rename_i off ft cs hf hx
      split at hq
      · rename_i hok
        cases hm : mkX cx ft ((cs.drop off).take (cx.ty ft).sz) with
        | none => simp [hm] at hq
        | some z =>
          simp only [hm, Option.map_some, Option.some.injEq, Prod.mk.injEq] at hq
          obtain ⟨rfl, rfl⟩ := hq
          exact Mono.clr h hy hx (by simp only [hf, opv_mono h hy hx, if_pos hok, hm, Option.map_some])
      · cases hq
    · cases hq
  | indexAddr e y i =>
    simp only [qval] at hq ⊢
    have hy : y ∈ (Op.indexAddr e y i).operands.toList := by simp [Op.operands]
    have hi : i ∈ (Op.indexAddr e y i).operands.toList := by simp [Op.operands]
    split at hq
    · rename_i el _ r p j off sz n k he hx hk
      rw [he, opv_mono h hy hx, intOf_mono h hi hk]
      simp only
      split at hq
      · rename_i hok
        simp only [Option.some.injEq, Prod.mk.injEq] at hq
        obtain ⟨rfl, rfl⟩ := hq
        exact Mono.none (by simp only [if_pos hok])
      · cases hq
    · rename_i el _ tag sz n cs k he hx hk
      rw [he, opv_mono h hy hx, intOf_mono h hi hk]
      simp only
      split at hq
      · rename_i hok
        simp only [Option.some.injEq, Prod.mk.injEq] at hq
        obtain ⟨rfl, rfl⟩ := hq
        exact Mono.none (by simp only [if_pos hok])
      · cases hq
    · cases hq
  | index e y i =>
    simp only [qval] at hq ⊢
    have hy : y ∈ (Op.index e y i).operands.toList := by simp [Op.operands]
    have hi : i ∈ (Op.index e y i).operands.toList := by simp [Op.operands]
    split at hq
    · rename_i s k hx hk
      rw [opv_mono h hy hx, intOf_mono h hi hk]
      simp only
      split at hq
      · rename_i hok
        simp only [Option.some.injEq, Prod.mk.injEq] at hq
        obtain ⟨rfl, rfl⟩ := hq
        exact Mono.none (by simp only [if_pos hok])
      · cases hq
    · cases hq
  | binOp op xt y z yt =>
    simp only [qval] at hq ⊢
    have hy : y ∈ (Op.binOp op xt y z yt).operands.toList := by simp [Op.operands]
    have hz : z ∈ (Op.binOp op xt y z yt).operands.toList := by simp [Op.operands]
    split at hq
    · rename_i u v hu hv
      rw [opv_mono h hy hu, opv_mono h hz hv]
      simp only
      cases hb : binV (kindOf cx xt) (isConstO y || isConstO z) op u v with
      | none => simp [hb] at hq
      | some c =>
        simp only [hb, Option.map_some, Option.some.injEq, Prod.mk.injEq] at hq
        obtain ⟨rfl, rfl⟩ := hq
        exact Mono.none rfl
    · cases hq
  | nilCheck y =>
    simp only [qval] at hq ⊢
    have hy : y ∈ (Op.nilCheck y).operands.toList := by simp [Op.operands]
    split at hq
    · rename_i v r p off hu
      rw [opv_mono h hy hu]
      simp only [Option.some.injEq, Prod.mk.injEq] at hq ⊢
      obtain ⟨rfl, rfl⟩ := hq
      exact Mono.none ⟨rfl, rfl⟩
    · rename_i v cs hu
      rw [opv_mono h hy hu]
      simp only [Option.some.injEq, Prod.mk.injEq] at hq ⊢
      obtain ⟨rfl, rfl⟩ := hq
      exact Mono.none ⟨rfl, rfl⟩
    · cases hq
  | unOp op xt y =>
    simp only [qval] at hq ⊢
    have hy : y ∈ (Op.unOp op xt y).operands.toList := by simp [Op.operands]
    split at hq
    · rename_i u hu
      rw [opv_mono h hy hu]
      simp only
      cases hb : unV op u with
      | none => simp [hb] at hq
      | some c =>
        simp only [hb, Option.map_some, Option.some.injEq, Prod.mk.injEq] at hq
        obtain ⟨rfl, rfl⟩ := hq
        exact Mono.none rfl
    · cases hq
  | convert s d y =>
    simp only [qval] at hq ⊢
    have hy : y ∈ (Op.convert s d y).operands.toList := by simp [Op.operands]
    split at hq
    · rename_i u hu
      rw [opv_mono h hy hu]
      have hroot := opv_roots h hy hu
      simp only
      cases hb : convV (cx.ty s).ok (kindOf cx s) (kindOf cx d) S1 u with
      | none => simp [hb] at hq
      | some c =>
        simp only [hb, Option.map_some, Option.some.injEq, Prod.mk.injEq] at hq
        obtain ⟨rfl, rfl⟩ := hq
        exact Mono.none (by rw [convV_mono hroot hb]; rfl)
    · cases hq
  | extract y i =>
    simp only [qval] at hq ⊢
    have hy : y ∈ (Op.extract y i).operands.toList := by simp [Op.operands]
    cases hx : extractV cx f S1 y i with
    | none => simp [hx] at hq
    | some z =>
      simp only [hx, Option.map_some, Option.some.injEq, Prod.mk.injEq] at hq
      obtain ⟨rfl, rfl⟩ := hq
      exact Mono.none (by rw [extractV_mono h hy hx]; rfl)
  | slice e y lo hi mx =>
    cases mx with
    | some m => simp [qval] at hq
    | none =>
      simp only [qval] at hq ⊢
      have hy : y ∈ (Op.slice e y lo hi none).operands.toList := by simp [Op.operands]
      have hlo : ∀ z, lo = some z → z ∈ (Op.slice e y lo hi none).operands.toList := by rintro z rfl; simp [Op.operands]
      have hhi : ∀ z, hi = some z → z ∈ (Op.slice e y lo hi none).operands.toList := by rintro z rfl; simp [Op.operands]
      split at hq
      · rename_i u l k hu hl hk
        rw [opv_mono h hy hu, optInt_mono h hlo hl, optInt_mono h hhi hk]
        simp only
        split at hq
        · rename_i hok
          cases hs : sliceV u l k with
          | none => simp [hs] at hq
          | some c =>
            simp only [hs, Option.map_some, Option.some.injEq, Prod.mk.injEq] at hq
            obtain ⟨rfl, rfl⟩ := hq
            exact Mono.none (by simp only [if_pos hok, hs, Option.map_some])
        · cases hq
      · cases hq
  | makeSlice e l c =>
    simp only [qval] at hq ⊢
    have hl : l ∈ (Op.makeSlice e l c).operands.toList := by simp [Op.operands]
    have hc : c ∈ (Op.makeSlice e l c).operands.toList := by simp [Op.operands]
    split at hq
    · rename_i el n m he hn hm
      rw [he, intOf_mono h hl hn, intOf_mono h hc hm]
      simp only
      split at hq
      · rename_i hok
        cases hz : allT (cx.ty el).zs with
        | none => simp [hz] at hq
        | some zs =>
          simp only [hz, Option.map_some, Option.some.injEq, Prod.mk.injEq] at hq
          obtain ⟨rfl, rfl⟩ := hq
          exact Mono.none (by simp only [if_pos hok, hz, Option.map_some])
      · cases hq
    · cases hq
  | makeFunc g first caps =>
    cases g with
    | func g =>
      simp only [qval] at hq ⊢
      split at hq
      · rename_i hok
        cases hz : capsV cx f S1 caps.toList with
        | none => simp [hz] at hq
        | some zs =>
          simp only [hz, Option.map_some, Option.some.injEq, Prod.mk.injEq] at hq
          obtain ⟨rfl, rfl⟩ := hq
          exact Mono.none (by simp only [if_pos hok, capsV_mono (h.sub (fun x hx => by simp only [Op.operands, Array.toList_append, List.mem_append]; exact .inr hx)) hz, Option.map_some])
      · cases hq
    | _ => simp [qval] at hq
  | call c =>
    simp only [qval] at hq ⊢
    obtain ⟨rfl, h2⟩ := qcall_mono h hq
    exact Mono.none h2
  | _ => simp [qval] at hq
end
end Go.Proofs.YtlkjnlfddadlmaaDoor.V

namespace Go.Proofs.YtlkjnlfddadlmaaDoor.V

section
variable {cx : Ctx} {f : Nat} {call : Callee} {S1 S2 : SU}

theorem listU_mono {os : List Operand} (h : Agr S1 S2 os) {t : Nat} {o : Operand} {x : XU} (ho : o ∈ os) (hx : opv cx f S1 t o = some x) {r : Root} {p : List Nat} {i off m : Nat} (hr : r ∈ refsOf x) {cs : List TU} (hl : listAt S1 r p i off m = some cs) : listAt S2 r p i off m = some cs :=
  listAt_mono (opv_roots h ho hx r hr) hl

theorem headV_soft {os : List Operand} (h : Agr S1 S2 os) {o : Operand} (ho : o ∈ os) {t : Nat} {v : Unit} {tag sz n : Nat} {cs : List TU} (hx : opv cx f S1 t o = some (.c (.t (.sl v tag sz n cs)))) (htag : tag = 0) {q : List TU × Nat × Nat × SU} (hq : headV cx f S1 o t = some q) :
    ∃ L, q = (cs, sz, n, clear L S1) ∧ headV cx f S2 o t = some (cs, sz, n, clear L S2) ∧ ∀ t ∈ L, Operand.tmp t ∈ os ∧ isVar cx f t = false ∧ hasOwn (S1.s t) = true := by
  subst htag
  obtain ⟨L, e1, e2, e3⟩ := clr_mono h ho hx
  refine ⟨L, ?_, ?_, e3⟩
  · simp only [headV, hx, Option.some.injEq, e1] at hq; exact hq.symm
  · simp only [headV, opv_mono h ho hx, e2]

theorem appendV_mono {c : Call} {s x : Operand} {t t' : Nat} (h : Agr S1 S2 c.operands.toList) (hr : HR cx f S1 S2 c.operands.toList) (hs : s ∈ c.operands.toList) (hx : x ∈ c.operands.toList)
    (hsoft : ((match opv cx f S1 t s with
        | some (.c (.t (.sl _ 0 _ _ _))) => true
        | _ => false) && (match opv cx f S1 t' x with
        | some (.c (.t _)) => true
        | some (.c (.bor _ _ _ _ _ _ _)) => match (cx.ty t).el with
          | some el => (cx.ty el).flat
          | none => false
        | _ => false)) = true) {z : XU} {S1' : SU} (hq : appendV cx f S1 [t, t'] s x = some (z, S1')) :
    Mono cx f S1 S2 c.operands.toList S1' fun S2' => appendV cx f S2 [t, t'] s x = some (z, S2') := by
  simp only [Bool.and_eq_true] at hsoft
  obtain ⟨hs1, hs2⟩ := hsoft
  simp only [appendV] at hq ⊢
  cases hel : (cx.ty t).el with
  | none => simp [hel] at hq
  | some el =>
    simp only [hel] at hq hs2 ⊢
    cases ht : tailV cx f S1 x t' (cx.ty el).flat with
    | none => simp [ht] at hq
    | some q =>
      obtain ⟨ys, sz', m, Sa⟩ := q
      simp only [ht, Option.bind_some] at hq
      -- the tail
      have tail : ∃ L, Sa = clear L S1 ∧ tailV cx f S2 x t' (cx.ty el).flat = some (ys, sz', m, clear L S2) ∧ ∀ t ∈ L, Operand.tmp t ∈ c.operands.toList ∧ isVar cx f t = false ∧ hasOwn (S1.s t) = true := by
        cases hxv : opv cx f S1 t' x with
        | none => simp [hxv] at hs2
        | some xv =>
          cases xv with
          | c xc =>
            cases xc with
            | t y =>
              cases y with
              | sl v tag sz n cs =>
                cases tag with
                | zero =>
                  simp only [tailV, hxv] at ht
                  obtain ⟨L, e1, e2, e3⟩ := headV_soft h hx hxv rfl ht
                  simp only [Prod.mk.injEq] at e1
                  obtain ⟨rfl, rfl, rfl, rfl⟩ := e1
                  exact ⟨L, rfl, by simp only [tailV, opv_mono h hx hxv]; exact e2, e3⟩
                | succ g =>
                  simp only [tailV, hxv, Option.some.injEq, Prod.mk.injEq] at ht
                  obtain ⟨rfl, rfl, rfl, rfl⟩ := ht
                  exact ⟨[], (clear_nil _).symm, by simp only [tailV, opv_mono h hx hxv, clear_nil], by simp⟩
              | str b =>
                simp only [tailV, hxv, Option.some.injEq, Prod.mk.injEq] at ht
                obtain ⟨rfl, rfl, rfl, rfl⟩ := ht
                exact ⟨[], (clear_nil _).symm, by simp only [tailV, opv_mono h hx hxv, clear_nil], by simp⟩
              | _ => simp [tailV, hxv, headV] at ht
            | bor v r p i off sz n =>
              simp only [hxv] at hs2
              simp only [tailV, hxv, hs2, if_true] at ht
              cases hl : listAt S1 r p i off (n * sz) with
              | none => simp [hl] at ht
              | some cs =>
                simp only [hl, Option.bind_some] at ht
                split at ht
                · rename_i hfl
                  simp only [Option.some.injEq, Prod.mk.injEq] at ht
                  obtain ⟨rfl, rfl, rfl, rfl⟩ := ht
                  exact ⟨[], (clear_nil _).symm, by simp only [tailV, opv_mono h hx hxv, hs2, if_true, listU_mono h hx hxv (by simp [refsOf, rootsC]) hl, Option.bind_some, if_pos hfl, clear_nil], by simp⟩
                · cases ht
            | _ => simp [hxv] at hs2
          | _ => simp [hxv] at hs2
      obtain ⟨L, rfl, e2, e3⟩ := tail
      have hag : Agr (clear L S1) (clear L S2) c.operands.toList := hr.agr h (fun t ht => (e3 t ht).2.1)
      rw [e2]
      simp only [Option.bind_some]
      cases hh : headV cx f (clear L S1) s t with
      | none => simp [hh] at hq
      | some q =>
        obtain ⟨zs, sz, n, Sb⟩ := q
        simp only [hh, Option.bind_some] at hq
        cases hsv : opv cx f S1 t s with
        | none => simp [hsv] at hs1
        | some sv =>
          rw [hsv] at hs1
          -- the head was not used up by the tail
          have hsv' : opv cx f (clear L S1) t s = some sv := by
            cases s with
            | tmp d =>
              simp only [opv, clear] at hh hsv ⊢
              by_cases hd : d ∈ L
              · exfalso
                simp [headV, opv, clear, hd, rdS] at hh
              · simp only [hd, if_false]; exact hsv
            | _ => exact hsv
          split at hs1
          · rename_i heq
            simp only [Option.some.injEq] at heq
            subst heq
            obtain ⟨M, f1, f2, f3⟩ := headV_soft hag hs hsv' rfl hh
            simp only [Prod.mk.injEq] at f1
            obtain ⟨rfl, rfl, rfl, rfl⟩ := f1
            split at hq
            · rename_i hok
              simp only [Option.some.injEq, Prod.mk.injEq] at hq
              obtain ⟨rfl, rfl⟩ := hq
              refine ⟨L ++ M, clear_app L M S1, ?_, fun k hk => ?_⟩
              · simp only [f2, Option.bind_some, if_pos hok, clear_app]
              · rcases List.mem_append.1 hk with hk | hk
                · exact e3 k hk
                · obtain ⟨g1, g2, g3⟩ := f3 k hk
                  refine ⟨g1, g2, ?_⟩
                  simp only [clear] at g3
                  split at g3
                  · simp [hasOwn] at g3
                  · exact g3
            · cases hq
          · cases hs1

structure Eff where
  dst : Option Nat
  x : XU
  L : List Nat

def Eff.app (e : Eff) (S : SU) : SU :=
  match e.dst with
  | none => clear e.L S
  | some d => { clear e.L S with s := upd (clear e.L S).s d e.x }

theorem clear_congr {L M : List Nat} {S : SU} (h : clear L S1 = clear M S1) (hL : ∀ t ∈ L, hasOwn (S1.s t) = true) (hM : ∀ t ∈ M, hasOwn (S1.s t) = true) : clear L S = clear M S := by
  have key : ∀ t, (t ∈ L) = (t ∈ M) := by
    intro t
    have ht := congrFun (congrArg St.s h) t
    simp only [clear] at ht
    apply propext
    constructor
    · intro hl
      by_cases hm : t ∈ M
      · exact hm
      · rw [if_pos hl, if_neg hm] at ht
        have := hL t hl
        rw [← ht] at this
        simp [hasOwn] at this
    · intro hm
      by_cases hl : t ∈ L
      · exact hl
      · rw [if_neg hl, if_pos hm] at ht
        have := hM t hm
        rw [ht] at this
        simp [hasOwn] at this
  simp only [clear, key]

theorem mem_looks {ops : Array Oper} {o : Oper} {d : Nat} (h : Operand.tmp d ∈ o.op.operands.toList) : d ∈ o.looksAt ops := by
  simp only [Oper.looksAt, List.mem_append, List.mem_filterMap]
  exact .inl ⟨_, h, rfl⟩

theorem wanted_mono {ops : Array Oper} {o : Oper} (h : ∀ d ∈ o.looksAt ops, S1.s d = .undef ∨ S1.s d = S2.s d) {b : Bool} (hw : wantedV S1 ops o = some b) : wantedV S2 ops o = some b := by
  unfold wantedV at hw ⊢
  cases hg : o.guard with
  | none => rw [hg] at hw; exact hw
  | some g =>
    obtain ⟨j, want⟩ := g
    rw [hg] at hw
    simp only at hw ⊢
    cases hd : (ops[j]?).bind (·.dst) with
    | none => rw [hd] at hw; cases hw
    | some d =>
      rw [hd] at hw
      simp only at hw ⊢
      have hm : d ∈ o.looksAt ops := by
        simp only [Oper.looksAt, hg, hd, List.mem_append]
        right; simp
      rcases h d hm with e | e
      · rw [e] at hw; simp at hw
      · rw [← e]; exact hw

def softV (cx : Ctx) (f : Nat) (call : Callee) (S : SU) (o : Oper) : Option (XU × SU) :=
  match o.op with
  | .call c => if isActive cx (.call c) then (match c.callee, c.args.toList with
      | .builtin .append, [s, x] => appendV cx f S c.argTypes.toList s x
      | _, _ => none) else qcall cx f call S o.type c
  | op => qval cx f call S o.type op

theorem softV_mono {o : Oper} (hsoft : (!isActive cx o.op || softApp cx f S1 o) = true) (h : Agr S1 S2 o.op.operands.toList) (hr : HR cx f S1 S2 o.op.operands.toList) {x : XU} {S1' : SU} (hq : softV cx f call S1 o = some (x, S1')) :
    Mono cx f S1 S2 o.op.operands.toList S1' fun S2' => softV cx f call S2 o = some (x, S2') := by
  by_cases hact : isActive cx o.op = true
  · simp only [hact, Bool.not_true, Bool.false_or] at hsoft
    cases ho : o.op with
    | call c =>
      rw [ho] at hact h hr
      simp only [softV, ho, hact, if_true] at hq ⊢
      simp only [softApp, ho] at hsoft
      split at hsoft
      · rename_i s y t t' hcal hargs hts
        simp only [hcal, hargs, hts] at hq ⊢
        exact appendV_mono h hr (by simp [Op.operands, Call.operands, hargs]) (by simp [Op.operands, Call.operands, hargs]) hsoft hq
      · cases hsoft
    | _ => simp [softApp, ho] at hsoft
  · have e : ∀ S, softV cx f call S o = qval cx f call S o.type o.op := by
      intro S
      simp only [softV]
      split
      · rename_i c hc
        rw [hc] at hact ⊢
        rw [if_neg hact]; rfl
      · rfl
    rw [e] at hq
    simp only [e]
    exact qval_mono h hr hq

theorem stepOp_soft {ops : Array Oper} {o : Oper} {S : SU} (hsoft : (!isActive cx o.op || softApp cx f S o) = true) (hw : wantedV S ops o = some true) : stepOp cx f call S ops o = (softV cx f call S o).bind fun r => putQ cx f r.2 o.dst r.1 := by
  by_cases hact : isActive cx o.op = true
  · simp only [hact, Bool.not_true, Bool.false_or] at hsoft
    cases ho : o.op with
    | call c =>
      rw [ho] at hact
      simp only [softApp, ho] at hsoft
      split at hsoft
      · rename_i s y t t' hcal hargs hts
        simp only [stepOp, hw, ho, softV, hact, if_true, hcal, hargs]
      · cases hsoft
    | _ => simp [softApp, ho] at hsoft
  · cases ho : o.op with
    | call c => rw [ho] at hact; simp only [stepOp, hw, ho, softV, hact]; rfl
    | assign x => simp [ho, isActive] at hact
    | store t x y => simp [ho, isActive] at hact
    | _ => simp only [stepOp, hw, ho, softV]

theorem putQ_app {o : Oper} {x : XU} {L : List Nat} {S S' : SU} (hL : ∀ t ∈ L, isVar cx f t = false) (h : putQ cx f (clear L S) o.dst x = some S') : S' = (⟨o.dst, x, L⟩ : Eff).app S ∧ ∀ d, o.dst = some d → isVar cx f d = true → S.s d = .undef := by
  cases hd : o.dst with
  | none => rw [hd] at h; simp only [putQ, Option.some.injEq] at h; exact ⟨h.symm, fun d h => by cases h⟩
  | some d =>
    rw [hd] at h
    simp only [putQ] at h
    split at h
    · cases h
    · rename_i hc
      simp only [Option.some.injEq] at h
      refine ⟨h.symm, fun d' hd' hv => ?_⟩
      simp only [Option.some.injEq] at hd'
      subst hd'
      rw [hv] at hc
      have hn : d ∉ L := fun hd => by have := hL d hd; rw [hv] at this; cases this
      simp only [clear, hn, if_false, Bool.true_and, Bool.not_eq_true', Bool.not_eq_false] at hc
      cases hs : S.s d <;> simp [hs, isUndef] at hc
      rfl

theorem app_putQ {o : Oper} {x : XU} {L : List Nat} {S : SU} (hL : ∀ t ∈ L, isVar cx f t = false) (h : ∀ d, o.dst = some d → isVar cx f d = true → S.s d = .undef) : putQ cx f (clear L S) o.dst x = some ((⟨o.dst, x, L⟩ : Eff).app S) := by
  cases hd : o.dst with
  | none => rfl
  | some d =>
    simp only [putQ]
    rw [if_neg]
    · rfl
    · intro hc
      simp only [Bool.and_eq_true, Bool.not_eq_true'] at hc
      have hn : d ∉ L := fun hd => by have := hL d hd; rw [hc.1] at this; cases this
      have := h d hd hc.1
      simp [clear, hn, this, isUndef] at hc

theorem softApp_mono {o : Oper} (h : Agr S1 S2 o.op.operands.toList) (hs : softApp cx f S1 o = true) : softApp cx f S2 o = true := by
  unfold softApp at hs ⊢
  cases ho : o.op with
  | call c =>
    rw [ho] at hs h
    simp only at hs ⊢
    split at hs
    · rename_i s x t t' hcal hargs hts
      have hsm : s ∈ (Op.call c).operands.toList := by simp [Op.operands, Call.operands, hargs]
      have hxm : x ∈ (Op.call c).operands.toList := by simp [Op.operands, Call.operands, hargs]
      try simp only [hcal, hargs, hts]
      cases h1 : opv cx f S1 t s with
      | none => simp [h1] at hs
      | some v =>
        cases h2 : opv cx f S1 t' x with
        | none => simp [h2] at hs
        | some u => rw [h1, h2] at hs; rw [opv_mono h hsm h1, opv_mono h hxm h2]; exact hs
    · cases hs
  | _ => rw [ho] at hs; cases hs

theorem soft_eff {ops : Array Oper} {o : Oper} {S1' : SU} (hsoft : softC cx f ops S1 o = true) (hq : stepOp cx f call S1 ops o = some S1') :
    ∃ e : Eff, e.dst = o.dst ∧ S1' = e.app S1 ∧ (∀ t ∈ e.L, Operand.tmp t ∈ o.op.operands.toList ∧ isVar cx f t = false ∧ hasOwn (S1.s t) = true) ∧ (∀ d, o.dst = some d → isVar cx f d = true → S1.s d = .undef) ∧
      ∀ S2, (∀ d ∈ o.looksAt ops, S1.s d = .undef ∨ S1.s d = S2.s d) → Agr S1 S2 o.op.operands.toList → HR cx f S1 S2 o.op.operands.toList → (∀ d, o.dst = some d → isVar cx f d = true → S2.s d = .undef) →
        stepOp cx f call S2 ops o = some (e.app S2) ∧ softC cx f ops S2 o = true := by
  cases hw : wantedV S1 ops o with
  | none => simp [stepOp, hw] at hq
  | some b =>
    cases b with
    | false =>
      simp only [stepOp, hw] at hq
      have hq' : putQ cx f (clear [] S1) o.dst (.tup []) = some S1' := by rw [clear_nil]; exact hq
      obtain ⟨h1, h2⟩ := putQ_app (L := []) (by simp) hq'
      refine ⟨⟨o.dst, .tup [], []⟩, rfl, h1, by simp, h2, fun S2 hl _ _ hd => ?_⟩
      simp only [stepOp, softC, wanted_mono hl hw]
      have := app_putQ (cx := cx) (f := f) (x := .tup []) (L := []) (by simp) hd
      rw [clear_nil] at this
      exact ⟨this, by simp⟩
    | true =>
      have hsoft' : (!isActive cx o.op || softApp cx f S1 o) = true := by simpa [softC, hw] using hsoft
      rw [stepOp_soft hsoft' hw] at hq
      cases hv : softV cx f call S1 o with
      | none => simp [hv] at hq
      | some r =>
        obtain ⟨x, Sx⟩ := r
        simp only [hv, Option.bind_some] at hq
        obtain ⟨L, rfl, _, hL⟩ := softV_mono hsoft' (S2 := S1) Agr.refl (.inl rfl) hv
        obtain ⟨h1, h2⟩ := putQ_app (fun t ht => (hL t ht).2.1) hq
        refine ⟨⟨o.dst, x, L⟩, rfl, h1, hL, h2, fun S2 hl hag hr hd => ?_⟩
        have hs2 : (!isActive cx o.op || softApp cx f S2 o) = true := by
          simp only [Bool.or_eq_true] at hsoft' ⊢
          exact hsoft'.imp id (softApp_mono hag)
        refine ⟨?_, by simp only [softC, Bool.or_eq_true] at hs2 ⊢; exact hs2.imp .inl id⟩
        rw [stepOp_soft hs2 (wanted_mono hl hw)]
        obtain ⟨M, m1, m2, hM⟩ := softV_mono hsoft' hag hr hv
        rw [m2]
        simp only [Option.bind_some]
        rw [← clear_congr m1 (fun t ht => (hL t ht).2.2) (fun t ht => (hM t ht).2.2)]
        exact app_putQ (fun t ht => (hL t ht).2.1) hd
end
end Go.Proofs.YtlkjnlfddadlmaaDoor.V

namespace Go.Proofs.YtlkjnlfddadlmaaDoor.V

section
variable {cx : Ctx} {f : Nat} {call : Callee}

theorem app_s (e : Eff) (S : SU) (t : Nat) : (e.app S).s t = if e.dst = some t then e.x else if t ∈ e.L then .undef else S.s t := by
  unfold Eff.app
  cases hd : e.dst with
  | none => simp [clear]
  | some d =>
    simp only [upd, clear, Option.some.injEq]
    by_cases h : t = d
    · subst h; simp
    · simp [h, Ne.symm h]

theorem app_e (e : Eff) (S : SU) : (e.app S).e = S.e := by
  unfold Eff.app
  cases e.dst <;> rfl

theorem St.ext' {S T : SU} (h1 : ∀ t, S.s t = T.s t) (h2 : S.e = T.e) : S = T := by
  cases S; cases T
  simp only at h1 h2
  subst h2
  congr 1
  funext t; exact h1 t

theorem app_comm {a b : Eff} {S : SU} (h1 : ∀ d, a.dst = some d → b.dst ≠ some d) (h2 : ∀ d, a.dst = some d → d ∉ b.L) (h3 : ∀ d, b.dst = some d → d ∉ a.L) : a.app (b.app S) = b.app (a.app S) := by
  refine St.ext' (fun t => ?_) (by simp only [app_e])
  simp only [app_s]
  by_cases ha : a.dst = some t
  · have hb := h1 t ha
    have hl := h2 t ha
    simp [ha, hb, hl]
  · by_cases hb : b.dst = some t
    · have hl := h3 t hb
      simp [ha, hb, hl]
    · by_cases hla : t ∈ a.L <;> by_cases hlb : t ∈ b.L <;> simp [ha, hb, hla, hlb]

def replay (eff : Nat → Eff) (L : Nat → Bool) (b : Nat) : Nat → SU → SU
  | 0, S => S
  | m + 1, S => if L (b + m) then (eff (b + m)).app (replay eff L b m S) else replay eff L b m S

theorem replay_e (eff : Nat → Eff) (L : Nat → Bool) (b : Nat) (S : SU) : ∀ m, (replay eff L b m S).e = S.e
  | 0 => rfl
  | m + 1 => by
    simp only [replay]
    split
    · rw [app_e]; exact replay_e eff L b S m
    · exact replay_e eff L b S m

theorem replay_congr {eff : Nat → Eff} {L L' : Nat → Bool} {b : Nat} {S : SU} : ∀ {m}, (∀ k, b ≤ k → k < b + m → L k = L' k) → replay eff L b m S = replay eff L' b m S
  | 0, _ => rfl
  | m + 1, h => by
    have ih := replay_congr (eff := eff) (S := S) (m := m) (fun k h1 h2 => h k h1 (by omega))
    simp only [replay, h (b + m) (by omega) (by omega), ih]

def ons (o : Oper) : List Nat := (o.after.toList.filter (Region.binds .any ·)).map (·.on)

def maskOf (T : List Nat) : List Nat → Nat
  | [] => 0
  | j :: js => 2 ^ j ||| T.getD j 0 ||| maskOf T js

theorem maskOf_spec {T : List Nat} {i : Nat} : ∀ {D : List Nat}, (maskOf T D).testBit i = true → ∃ j ∈ D, i = j ∨ (T.getD j 0).testBit i = true
  | [], h => by simp [maskOf] at h
  | j :: js, h => by
    simp only [maskOf, Nat.testBit_or, Bool.or_eq_true] at h
    rcases h with (h | h) | h
    · rw [Nat.testBit_two_pow] at h
      exact ⟨j, List.mem_cons_self, .inl (by simpa using Eq.symm (of_decide_eq_true h))⟩
    · exact ⟨j, List.mem_cons_self, .inr h⟩
    · obtain ⟨k, hk, h'⟩ := maskOf_spec h
      exact ⟨k, List.mem_cons_of_mem _ hk, h'⟩

def befT : List Oper → List Nat → List Nat
  | [], acc => acc
  | o :: os, acc => befT os (acc ++ [maskOf acc (ons o)])

def tmpsOf (o : Oper) : List Nat := o.op.operands.toList.filterMap fun | .tmp t => some t | _ => none

theorem mem_tmpsOf {o : Oper} {t : Nat} : t ∈ tmpsOf o ↔ Operand.tmp t ∈ o.op.operands.toList := by
  simp only [tmpsOf, List.mem_filterMap]
  constructor
  · rintro ⟨x, hx, h⟩
    split at h
    · simp only [Option.some.injEq] at h; subst h; exact hx
    · cases h
  · intro h; exact ⟨_, h, rfl⟩

def pairCk (cx : Ctx) (f id : Nat) (ops : Array Oper) (T : List Nat) (k : Nat) (ok : Oper) (i : Nat) : Bool :=
  match ops[i]? with
  | none => true
  | some oi => (oi.dst.isNone || oi.dst != ok.dst || cx.ord f id i || cx.ord f id k) && ((T.getD k 0).testBit i ||
      (!cx.ord f id k && !cx.ord f id i && oi.apart ops ok && (oi.looksAt ops).all fun t => !(tmpsOf ok).contains t || (cx.shr f id k).contains t) ||
      (cx.ord f id k && !cx.ord f id i && oi.apart ops ok && ((cx.pnd f id k).contains i || (cx.pal f id k).contains i)))

def isAct3 : Op → Bool
  | .assign _ => true
  | .store _ _ _ => true
  | .call _ => true
  | _ => false

def isZ : CU → Bool
  | .t (.int _ _) => true
  | .t (.bool _) => true
  | .t (.str _) => true
  | .t (.sl _ 0 _ _ _) => true
  | .t .nili => true
  | .nilp => true
  | .nilf => true
  | _ => false

def palOne (cx : Ctx) (f id : Nat) (ops : Array Oper) (y : Nat) : Bool :=
  match ops[y]? with
  | some o => match o.guard, o.dst, o.op with
    | none, some d, .alloc e => isVar cx f d && !cx.ord f id y && (cx.ty e).ok && (cx.ty e).zs.all isZ && (cx.shr f id y).isEmpty
    | _, _, _ => false
  | none => false

def isCallV (cx : Ctx) (op : Op) : Bool :=
  isActive cx op && match op with
  | .call c => match c.callee with
    | .value _ => true
    | _ => false
  | _ => false

def drawCk (cx : Ctx) (f id : Nat) (ops : Array Oper) (T : List Nat) : Bool :=
  (List.range ops.size).all fun k => match ops[k]? with
    | none => true
    | some o => ((!cx.ord f id k || (cx.pnd f id k).isEmpty || isAct3 o.op) && (!cx.ord f id k || (cx.pal f id k).isEmpty || ((cx.pnd f id k).isEmpty && isCallV cx o.op && (cx.pal f id k).all (palOne cx f id ops)))) && (ons o).all (fun j => decide (j < k)) && T.getD k 0 == maskOf T (ons o) && (List.range k).all (pairCk cx f id ops T k o)

structure DrawOk (cx : Ctx) (f id : Nat) (ops : Array Oper) (T : List Nat) : Prop where
  on : ∀ k o, ops[k]? = some o → ∀ e ∈ o.after, Region.binds .any e = true → e.on < k
  bef : ∀ k o, ops[k]? = some o → ∀ i, (T.getD k 0).testBit i = true → ∃ e ∈ o.after, Region.binds .any e = true ∧ (i = e.on ∨ (T.getD e.on 0).testBit i = true)
  dst : ∀ i k oi ok d, i ≠ k → ops[i]? = some oi → ops[k]? = some ok → oi.dst = some d → ok.dst = some d → cx.ord f id i = true ∨ cx.ord f id k = true
  ord : ∀ i k oi ok, i < k → ops[i]? = some oi → ops[k]? = some ok → cx.ord f id i = true ∨ cx.ord f id k = true → (T.getD k 0).testBit i = true ∨ (cx.ord f id k = true ∧ cx.ord f id i = false ∧ (i ∈ cx.pnd f id k ∨ i ∈ cx.pal f id k))
  apart : ∀ i k oi ok, i < k → ops[i]? = some oi → ops[k]? = some ok → (T.getD k 0).testBit i = false → oi.apart ops ok = true
  shr : ∀ i k oi ok, i < k → ops[i]? = some oi → ops[k]? = some ok → (T.getD k 0).testBit i = false → cx.ord f id k = false → ∀ t ∈ oi.looksAt ops, Operand.tmp t ∈ ok.op.operands.toList → t ∈ cx.shr f id k
  act : ∀ k o, ops[k]? = some o → cx.ord f id k = true → cx.pnd f id k ≠ [] → isAct3 o.op = true
  pal : ∀ k o, ops[k]? = some o → cx.ord f id k = true → cx.pal f id k ≠ [] → cx.pnd f id k = [] ∧ isCallV cx o.op = true ∧ ∀ y ∈ cx.pal f id k, palOne cx f id ops y = true

theorem drawCk_spec {id : Nat} {ops : Array Oper} {T : List Nat} (h : drawCk cx f id ops T = true) : DrawOk cx f id ops T := by
  simp only [drawCk, List.all_eq_true, List.mem_range] at h
  have hk0 : ∀ k o, ops[k]? = some o → ((cx.ord f id k = true → cx.pnd f id k ≠ [] → isAct3 o.op = true) ∧ (cx.ord f id k = true → cx.pal f id k ≠ [] → cx.pnd f id k = [] ∧ isCallV cx o.op = true ∧ ∀ y ∈ cx.pal f id k, palOne cx f id ops y = true)) ∧ (∀ j ∈ ons o, j < k) ∧ T.getD k 0 = maskOf T (ons o) ∧ ∀ i, i < k → pairCk cx f id ops T k o i = true := by
    intro k o ho
    have := h k (Array.getElem?_eq_some_iff.1 ho).1
    rw [ho] at this
    simp only [Bool.and_eq_true, List.all_eq_true, decide_eq_true_eq, beq_iff_eq, List.mem_range, Bool.or_eq_true, Bool.not_eq_true', List.isEmpty_iff] at this
    refine ⟨⟨fun h1 h2 => ?_, fun h1 h2 => ?_⟩, this.1.1.2, this.1.2, this.2⟩
    · rcases this.1.1.1.1 with (h3 | h3) | h3
      · rw [h1] at h3; cases h3
      · exact absurd h3 h2
      · exact h3
    · rcases this.1.1.1.2 with (h3 | h3) | h3
      · rw [h1] at h3; cases h3
      · exact absurd h3 h2
      · exact ⟨h3.1.1, h3.1.2, h3.2⟩
  have hk : ∀ k o, ops[k]? = some o → (∀ j ∈ ons o, j < k) ∧ T.getD k 0 = maskOf T (ons o) ∧ ∀ i, i < k → pairCk cx f id ops T k o i = true := fun k o ho => (hk0 k o ho).2
  have hons : ∀ (o : Oper) j, j ∈ ons o ↔ ∃ e ∈ o.after, Region.binds .any e = true ∧ j = e.on := by
    intro o j
    simp only [ons, List.mem_map, List.mem_filter, Array.mem_toList_iff]
    constructor
    · rintro ⟨e, ⟨h1, h2⟩, rfl⟩; exact ⟨e, h1, h2, rfl⟩
    · rintro ⟨e, h1, h2, rfl⟩; exact ⟨e, ⟨h1, h2⟩, rfl⟩
  have hp : ∀ i k oi ok, i < k → ops[i]? = some oi → ops[k]? = some ok → (oi.dst = none ∨ oi.dst ≠ ok.dst ∨ cx.ord f id i = true ∨ cx.ord f id k = true) ∧ ((T.getD k 0).testBit i = true ∨
      (cx.ord f id k = false ∧ cx.ord f id i = false ∧ oi.apart ops ok = true ∧ ∀ t ∈ oi.looksAt ops, Operand.tmp t ∈ ok.op.operands.toList → t ∈ cx.shr f id k) ∨
      (cx.ord f id k = true ∧ cx.ord f id i = false ∧ oi.apart ops ok = true ∧ (i ∈ cx.pnd f id k ∨ i ∈ cx.pal f id k))) := by
    intro i k oi ok hik hi hk'
    have := (hk k ok hk').2.2 i hik
    simp only [pairCk, hi, Bool.and_eq_true, Bool.or_eq_true, Option.isNone_iff_eq_none, bne_iff_ne, ne_eq, Bool.not_eq_true', List.all_eq_true, List.contains_iff_mem] at this
    refine ⟨by rcases this.1 with ((h | h) | h) | h <;> simp [h], ?_⟩
    rcases this.2 with (h | h) | h
    · exact .inl h
    · refine .inr (.inl ⟨h.1.1.1, h.1.1.2, h.1.2, fun t ht hto => ?_⟩)
      rcases h.2 t ht with h' | h'
      · have := mem_tmpsOf.2 hto
        simp [this] at h'
      · exact h'
    · exact .inr (.inr ⟨h.1.1.1, h.1.1.2, h.1.2, h.2⟩)
  constructor
  · intro k o ho e he hb
    exact (hk k o ho).1 _ ((hons o _).2 ⟨e, he, hb, rfl⟩)
  · intro k o ho i hi
    rw [(hk k o ho).2.1] at hi
    obtain ⟨j, hj, h'⟩ := maskOf_spec hi
    obtain ⟨e, he, hb, rfl⟩ := (hons o j).1 hj
    exact ⟨e, he, hb, h'⟩
  · intro i k oi ok d hne hi hk' hdi hdk
    rcases Nat.lt_or_gt_of_ne hne with hlt | hlt
    · rcases (hp i k oi ok hlt hi hk').1 with h' | h' | h' | h'
      · rw [hdi] at h'; cases h'
      · rw [hdi, hdk] at h'; exact absurd rfl h'
      · exact .inl h'
      · exact .inr h'
    · rcases (hp k i ok oi hlt hk' hi).1 with h' | h' | h' | h'
      · rw [hdk] at h'; cases h'
      · rw [hdi, hdk] at h'; exact absurd rfl h'
      · exact .inr h'
      · exact .inl h'
  · intro i k oi ok hik hi hk' ho
    rcases (hp i k oi ok hik hi hk').2 with h' | h' | h'
    · exact .inl h'
    · rcases ho with ho | ho
      · rw [h'.2.1] at ho; cases ho
      · rw [h'.1] at ho; cases ho
    · exact .inr ⟨h'.1, h'.2.1, h'.2.2.2⟩
  · intro i k oi ok hik hi hk' hb
    rcases (hp i k oi ok hik hi hk').2 with h' | h' | h'
    · rw [hb] at h'; cases h'
    · exact h'.2.2.1
    · exact h'.2.2.1
  · intro i k oi ok hik hi hk' hb hno
    rcases (hp i k oi ok hik hi hk').2 with h' | h' | h'
    · rw [hb] at h'; cases h'
    · exact h'.2.2.2
    · rw [h'.1] at hno; cases hno
  · exact fun k o ho => (hk0 k o ho).1.1
  · exact fun k o ho => (hk0 k o ho).1.2

def Closed (ops : Array Oper) (L : Nat → Bool) : Prop := ∀ k o, L k = true → ops[k]? = some o → ∀ e ∈ o.after, Region.binds .any e = true → L e.on = true

theorem DrawOk.closed {id : Nat} {ops : Array Oper} {T : List Nat} (h : DrawOk cx f id ops T) {L : Nat → Bool} (hc : Closed ops L) : ∀ (n k : Nat) (o : Oper), k < n → ops[k]? = some o → (∀ e ∈ o.after, Region.binds .any e = true → L e.on = true) → ∀ i, (T.getD k 0).testBit i = true → L i = true ∧ i < k
  | 0, k, o, hk, _, _, _, _ => by omega
  | n + 1, k, o, hk, ho, hr, i, hi => by
    obtain ⟨e, he, hb, h'⟩ := h.bef k o ho i hi
    have hlt := h.on k o ho e he hb
    rcases h' with rfl | h'
    · exact ⟨hr e he hb, hlt⟩
    · have hlt2 : k < ops.size := (Array.getElem?_eq_some_iff.1 ho).1
      have hoe : ops[e.on]? = some (ops[e.on]'(by omega)) := Array.getElem?_eq_getElem (by omega)
      have := DrawOk.closed h hc n e.on _ (by omega) hoe (fun e' he' hb' => hc e.on _ (hr e he hb) hoe e' he' hb') i h'
      exact ⟨this.1, by omega⟩
end
end Go.Proofs.YtlkjnlfddadlmaaDoor.V
