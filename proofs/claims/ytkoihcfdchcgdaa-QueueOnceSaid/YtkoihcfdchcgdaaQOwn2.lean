import Derived.Test.YtkoihcfdchcgdaaQOwn
set_option linter.unusedVariables false
set_option linter.unusedSimpArgs false
namespace Go.Proofs.Ytkoihcfdchcgdaa
open Go.RowKit Go.Shelf

def mgL (l : List (Mg × Value)) : List Value := l.flatMap fun x => mcs x.1 x.2
/-- A message that is dead, or none. -/
def deadM (e : Option En) (v : Value) : Value := match e with | some e => mgv e.m v | none => .agg zMsg.toArray
/-- What is dropped when the old ones go. -/
def expL (L : List En) (now : Int) : List En := (ordQ false L).filter fun e => oldE e now
def expQ (L : List En) (now : Int) : List En := less ((expL L now).map (·.id)) L
theorem mem_less_sub {D : List Nat} {L : List En} {e : En} (h : e ∈ less D L) : e ∈ L := (mem_less.1 h).1
section
variable {w0 w w' : World} {Z : List Nat} {q room limit last : Nat} {L : List En}
/-- Of the items only what they were is left; bodies are the same. -/
theorem QF.sub {F : List Nat} {bk : Nat → Nat} {bv rv rv' : Nat → Value} {L' : List En} (hh : QF w0 w Z q room limit last L) (h1 : Qq w w0.heap.size F q room limit last L bk bv rv) (h2 : ∀ k ∈ Z, k ∉ F ∧ ∀ e ∈ L, bblk (bv e.id) e.m.body ≠ some k)
    (hq : Qq w' w0.heap.size F q room limit last L' bk bv rv') (hs : ∀ x ∈ L', ∃ y ∈ L, y.id = x.id ∧ y.m.body = x.m.body) (t : Tch F w w') : QF w0 w' Z q room limit last L' ∧ Kz Z w0 w w' := by
  obtain ⟨_, h3, h4⟩ := hh
  refine ⟨⟨⟨F, bk, bv, rv', hq, fun k hk => ⟨(h2 k hk).1, fun x hx hb => ?_⟩⟩, h3.trans (t.below h3.size fun k hk => h1.fB k hk), fun k hk => ⟨(h4 k hk).1, Nat.lt_of_lt_of_le (h4 k hk).2 t.size⟩⟩, kz_tch t (fun k hk => ⟨fun hm => (h2 k hm).1 hk, h1.fB k hk⟩) (fun k hk => (h4 k hk).2) h3.size⟩
  obtain ⟨y, hy, h5, h6⟩ := hs x hx
  rw [← h5, ← h6] at hb
  exact (h2 k hk).2 y hy hb
theorem bumpE_body (o : Oc) (e : En) : (bumpE o e).m.body = e.m.body := by unfold bumpE bump; simp only; split <;> rfl
theorem findH_mem {id : Int} {e : En} (h : findH L id = some e) : e ∈ L ∧ (e.id : Int) = id ∧ e.held = true := ⟨List.mem_of_find?_eq_some h, of_decide_eq_true (List.find?_some (p := fun e : En => decide ((e.id : Int) = id ∧ e.held = true)) h)⟩
theorem setQ_sub {id : Int} {o : Oc} {x : En} (h : x ∈ (setQ limit L id o).1) : ∃ y ∈ L, y.id = x.id ∧ y.m.body = x.m.body := by
  unfold setQ at h
  cases hf : findH L id with
  | none => rw [hf] at h; exact ⟨x, h, rfl, rfl⟩
  | some e =>
    rw [hf] at h
    simp only at h
    have he := (findH_mem hf).1
    have hmod : ∀ e' : En, e'.id = e.id → e'.m.body = e.m.body → x ∈ modL e' L → ∃ y ∈ L, y.id = x.id ∧ y.m.body = x.m.body := fun e' h1 h2 h3 => by
      rcases mem_modL h3 with rfl | ⟨h4, _⟩
      · exact ⟨e, he, h1.symm, h2.symm⟩
      · exact ⟨x, h4, rfl, rfl⟩
    split at h
    · exact ⟨x, mem_less_sub h, rfl, rfl⟩
    · split at h
      · exact ⟨x, mem_less_sub h, rfl, rfl⟩
      · split at h
        · exact hmod (freeE e) rfl rfl h
        · split at h
          · split at h
            · exact ⟨x, mem_less_sub h, rfl, rfl⟩
            · exact hmod (freeE (bumpE o e)) rfl (bumpE_body o e) h
          · exact ⟨x, h, rfl, rfl⟩
theorem setQ_dead {id : Int} {o : Oc} {x : En} (h : (setQ limit L id o).2.2 = some x) : ∃ y ∈ L, y.id = x.id ∧ y.m.body = x.m.body := by
  unfold setQ at h
  cases hf : findH L id with
  | none => rw [hf] at h; cases h
  | some e =>
    rw [hf] at h
    simp only at h
    have he := (findH_mem hf).1
    split at h
    · cases h
    · split at h
      · cases h; exact ⟨_, he, rfl, rfl⟩
      · split at h
        · cases h
        · split at h
          · split at h
            · cases h; exact ⟨e, he, rfl, (bumpE_body o e).symm⟩
            · cases h
          · cases h
theorem qf_set (h : QF w0 w Z q room limit last L) (id : Int) (o : Oc) :
    Calls Try.prog 13 #[.pointer (some ⟨q, 0, none⟩), .int .i64 id, .agg (occ o).toArray] w fun r w' => ∃ v, r = .returned (.tuple #[deadM (setQ limit L id o).2.2 v, .bool (setQ limit L id o).2.2.isSome, .int .i64 (setQ limit L id o).2.1]) ∧ (∀ e, (setQ limit L id o).2.2 = some e → Bdv w' v e.m.body) ∧ QF w0 w' Z q room limit last (setQ limit L id o).1 ∧ Kz Z w0 w w' := by
  have hh := h
  obtain ⟨⟨F, bk, bv, rv, h1, h2⟩, h3, h4⟩ := h
  refine (qset_loop h1 id o).mono ?_
  rintro r w' ⟨rv', r1, r2, r3⟩
  have := hh.sub h1 h2 r2 (fun x hx => setQ_sub hx) r3
  cases hd : (setQ limit L id o).2.2 with
  | none => exact ⟨.slice none 0 0, by rw [r1, hd]; rfl, fun e he => (by cases he), this⟩
  | some e =>
    refine ⟨bv e.id, by rw [r1, hd]; rfl, fun e' he => ?_, this⟩
    cases he
    obtain ⟨y, hy, h5, h6⟩ := setQ_dead hd
    rw [← h5, ← h6]
    exact (h1.bod y hy).tch r3 h1.nob
theorem qf_exp (h : QF w0 w Z q room limit last L) (now : Int) :
    Calls Try.prog 25 #[.pointer (some ⟨q, 0, none⟩), .int .i64 now] w fun r w' => ∃ (v : Value) (ms : List (Mg × Value)), r = .returned v ∧ ms.map (·.1) = (expL L now).map (·.m) ∧ OwnC 32 5 (fun _ => True) w' w.heap.size v ms.length (mgL ms) ∧ (∀ x ∈ ms, Bdv w' x.2 x.1.body) ∧ QF w0 w' (v.ownBlock.toList ++ Z) q room limit last (expQ L now) ∧ Kz Z w0 w w' := by
  have hh := h
  obtain ⟨⟨F, bk, bv, rv, h1, h2⟩, h3, h4⟩ := h
  refine (qexp_calls h1 now).mono ?_
  rintro r w' ⟨v, rv', r1, r2, r3, r4⟩
  obtain ⟨q1, q2⟩ := hh.sub h1 h2 r3 (fun x hx => ⟨x, mem_less_sub hx, rfl, rfl⟩) r4
  refine ⟨v, (expL L now).map fun e => (e.m, bv e.id), r1, by rw [List.map_map]; rfl, ?_, fun x hx => ?_, ?_, q2⟩
  · rw [List.length_map]
    have : mgL ((expL L now).map fun e => (e.m, bv e.id)) = mcsL bv (expL L now) := by unfold mgL mcsL; rw [List.flatMap_map]
    rw [this]
    exact r2
  · obtain ⟨e, he, rfl⟩ := List.mem_map.1 hx
    exact (h1.bod e (mem_ord (List.mem_filter.1 he).1).1).tch r4 h1.nob
  · obtain ⟨⟨F', bk', bv', rv2, g1, g2⟩, g3, g4⟩ := q1
    have hl := fun k hk => r2.lt k hk
    refine ⟨⟨F, bk, bv, rv', r3, fun k hk => ?_⟩, g3, fun k hk => ?_⟩
    · rcases List.mem_append.1 hk with hk | hk
      · have := hl k (by simpa using hk)
        exact ⟨fun hm => by have := h1.lt k hm; omega, fun x hx hb => by have := (h1.bod x (mem_less_sub hx)).bl hb; omega⟩
      · exact ⟨(h2 k hk).1, fun x hx => (h2 k hk).2 x (mem_less_sub hx)⟩
    · rcases List.mem_append.1 hk with hk | hk
      · have := hl k (by simpa using hk)
        exact ⟨Nat.le_trans h3.size this.1, this.2⟩
      · exact g4 k hk
theorem qf_put_bad (h : QF w0 w Z q room limit last L) (m : Mg) (A : Option Addr) (c n : Nat) (hn : m.body.length = n) (hbad : okMg m = false) (now : Int) :
    Calls Try.prog 11 #[.pointer (some ⟨q, 0, none⟩), mgv m (.slice A n c), .int .i64 now] w fun r w' => r = .returned (.tuple #[.int .i64 0, .int .i64 1]) ∧ Below w.heap.size w w' := by
  obtain ⟨⟨F, bk, bv, rv, h1, h2⟩, h3, h4⟩ := h
  exact qput_bad h1 m A c n hn hbad now
theorem qf_put_full (h : QF w0 w Z q room limit last L) (m : Mg) (A : Option Addr) (c n : Nat) (hn : m.body.length = n) (hok : okMg m = true) (hr : L.length = room) (now : Int) :
    Calls Try.prog 11 #[.pointer (some ⟨q, 0, none⟩), mgv m (.slice A n c), .int .i64 now] w fun r w' => r = .returned (.tuple #[.int .i64 0, .int .i64 4]) ∧ Below w.heap.size w w' := by
  obtain ⟨⟨F, bk, bv, rv, h1, h2⟩, h3, h4⟩ := h
  exact qput_full h1 m A c n hn hok hr now
theorem qf_put_ok (h : QF w0 w Z q room limit last L) (m : Mg) (A : Option Addr) (c n : Nat) (hn : m.body.length = n) (hrd : Rd w A c m.body) (hm : WfM m) (hr : L.length < room) (hlast : last < 1000000) (now : Int) :
    Calls Try.prog 11 #[.pointer (some ⟨q, 0, none⟩), mgv m (.slice A n c), .int .i64 now] w fun r w' => r = .returned (.tuple #[.int .i64 ((last + 1 : Nat) : Int), .int .i64 0]) ∧ QF w0 w' Z q room limit (last + 1) (L ++ [newE last m now]) ∧ Kz Z w0 w w' := by
  obtain ⟨⟨F, bk, bv, rv, h1, h2⟩, h3, h4⟩ := h
  refine (qput_ok h1 m A c n hn hrd hm hr hlast h3.size now).mono ?_
  rintro r w' ⟨r1, ⟨F', bk', bd, rv', r2, r3, r5⟩, r4⟩
  refine ⟨r1, ⟨⟨F', bk', _, rv', r2, fun k hk => ⟨fun hm => ?_, fun x hx hb => ?_⟩⟩, h3.trans (r4.below h3.size fun k hk => h1.fB k hk), fun k hk => ⟨(h4 k hk).1, Nat.lt_of_lt_of_le (h4 k hk).2 r4.size⟩⟩, kz_tch r4 (fun k hk => ⟨fun hm => (h2 k hm).1 hk, h1.fB k hk⟩) (fun k hk => (h4 k hk).2) h3.size⟩
  · rcases r3 k hm with h5 | h5
    · exact (h2 k hk).1 h5
    · have := (h4 k hk).2; omega
  · rcases List.mem_append.1 hx with hx | hx
    · have hne : x.id ≠ last + 1 := by have := (h1.wf.ids x hx).2; omega
      simp only [upd, if_neg hne] at hb
      exact (h2 k hk).2 x hx hb
    · simp only [List.mem_singleton] at hx
      subst hx
      simp only [upd, newE, if_pos] at hb
      unfold bblk at hb
      split at hb
      · cases hb
      · split at hb
        · rename_i ad n' c'
          have := r5 ad n' c' rfl
          simp only [Option.some.injEq] at hb
          have := (h4 k hk).2
          omega
        · cases hb
end
theorem qf_new_bad (room limit : Int) (w : World) (h : okNew room limit = false) (hr : (Lit.int .i64 room).wf = true) (hl : (Lit.int .i64 limit).wf = true) :
    Calls Try.prog 10 #[.int .i64 room, .int .i64 limit] w fun r w' => r = .returned (.tuple #[.pointer none, .int .i64 1]) ∧ w = w' := qnew_bad room limit w h hr hl
theorem qf_new {w0 w : World} (room limit : Nat) (hb : Below w0.heap.size w0 w) (h1 : 1 ≤ room) (h2 : room ≤ 64) (h3 : limit ≤ 1000) :
    Calls Try.prog 10 #[.int .i64 room, .int .i64 limit] w fun r w' => r = .returned (.tuple #[.pointer (some ⟨w.heap.size, 0, none⟩), .int .i64 0]) ∧ QF w0 w' [] w.heap.size room limit 0 [] ∧ Below w.heap.size w w' := by
  refine (qnew_ok room limit w h1 h2 h3 (fun _ => 0) (fun _ => .slice none 0 0)).mono ?_
  rintro r w' ⟨r1, r2, r3⟩
  refine ⟨r1, ⟨⟨[w.heap.size], fun _ => 0, fun _ => .slice none 0 0, fun _ => .slice none 0 0, ⟨r2.hd, fun p hp => (r2.rows p hp).base hb.size, r2.ent, r2.bod, r2.wf, r2.inj, r2.rdis, r2.fq, r2.fr, r2.fe, fun k hk => Nat.le_trans hb.size (r2.fB k hk), r2.ft⟩, by simp⟩, below_then hb hb.size r3, by simp⟩, r3⟩
end Go.Proofs.Ytkoihcfdchcgdaa
