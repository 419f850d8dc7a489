import Derived.Test.YtkoihcfdchcgdaaQNilL
set_option linter.unusedVariables false
set_option linter.unusedSimpArgs false
namespace Go.Proofs.Ytkoihcfdchcgdaa
open Go.RowKit Go.Shelf

/-- What is told. -/
structure Tol where
  n : Nat
  ms : List Mg
  is : Bool
  e : Nat
/-- What becomes of a queue when something is done with it, and what is told. -/
def stepQ (room limit last : Nat) (L : List En) (x : QOp) : List En × Nat × Tol :=
  if x.kind = 0 then (if okMg x.m = false then (L, last, ⟨0, [], false, 1⟩) else if L.length = room then (L, last, ⟨0, [], false, 4⟩) else (L ++ [newE last x.m x.now], last + 1, ⟨last + 1, [], false, 0⟩))
  else if x.kind = 1 then (match acqQ L x.now with | none => (L, last, ⟨0, [zMg], false, 0⟩) | some e => (modL (holdE e) L, last, ⟨e.id, [e.m], true, 0⟩))
  else if x.kind = 2 then ((setQ limit L x.id x.o).1, last, ⟨0, [match (setQ limit L x.id x.o).2.2 with | none => zMg | some e => e.m], (setQ limit L x.id x.o).2.2.isSome, (setQ limit L x.id x.o).2.1⟩)
  else if x.kind = 3 then (expQ L x.now, last, ⟨0, (expL L x.now).map (·.m), false, 0⟩)
  else (L, last, ⟨0, [], false, 0⟩)
/-- The value that tells it. -/
def TV (W : World) (base : Nat) (v : Value) (t : Tol) : Prop := ∃ (sv : Value) (ms : List (Mg × Value)), v = .agg (tdc t.n sv t.is t.e).toArray ∧ Msl W base sv ms ∧ ms.map (·.1) = t.ms
theorem msl_nil {W : World} {base : Nat} : Msl W base (.slice none 0 0) [] := ⟨OwnC.nil_, by simp⟩
theorem Bdv.nil_ {W : World} : Bdv W (.slice none 0 0) [] := ⟨none, 0, rfl, Rd.zero (by decide) (fun _ => rfl), fun ad h => by cases h⟩

theorem qf_does {w0 w : World} {Z : List Nat} {q room limit last : Nat} {L : List En} (h : QF w0 w Z q room limit last L) (d : OpD) (hk : OkD w d) (hn : d.x.m.body.length ≤ 4096) (hl : last < 1000000) :
    Calls Try.prog 18 #[.pointer (some ⟨q, 0, none⟩), .agg (opd d).toArray] w fun r w' =>
      TV w' w.heap.size (match r with | .returned v => v | _ => undef) (stepQ room limit last L d.x).2.2 ∧ (∃ v, r = .returned v) ∧ QF w0 w' Z q room limit (stepQ room limit last L d.x).2.1 (stepQ room limit last L d.x).1 ∧ Kz Z w0 w w' := by
  have G := gi_qf w0 q room limit last L
  by_cases h0 : d.x.kind = 0
  · by_cases hb : okMg d.x.m = false
    · have hs : stepQ room limit last L d.x = (L, last, ⟨0, [], false, 1⟩) := by unfold stepQ; rw [if_pos h0, if_pos hb]
      rw [hs]
      refine (does_put G G h (some ⟨q, 0, none⟩) d.x d.A d.c _ rfl hk.rd hn h0 0 1 fun Z W A c h hr => (qf_put_bad h d.x.m A c _ rfl hb d.x.now).mono fun r w' ⟨e1, e2⟩ => ⟨e1, G.below h e2, G.kz h e2⟩).mono ?_
      rintro r w' ⟨rfl, h1, h2⟩
      exact ⟨⟨_, [], rfl, msl_nil, rfl⟩, ⟨_, rfl⟩, h1, h2⟩
    · have hb : okMg d.x.m = true := by simpa using hb
      by_cases hr : L.length = room
      · have hs : stepQ room limit last L d.x = (L, last, ⟨0, [], false, 4⟩) := by unfold stepQ; rw [if_pos h0, if_neg (by simp [hb]), if_pos hr]
        rw [hs]
        refine (does_put G G h (some ⟨q, 0, none⟩) d.x d.A d.c _ rfl hk.rd hn h0 0 4 fun Z W A c h _ => (qf_put_full h d.x.m A c _ rfl hb hr d.x.now).mono fun r w' ⟨e1, e2⟩ => ⟨e1, G.below h e2, G.kz h e2⟩).mono ?_
        rintro r w' ⟨rfl, h1, h2⟩
        exact ⟨⟨_, [], rfl, msl_nil, rfl⟩, ⟨_, rfl⟩, h1, h2⟩
      · have hs : stepQ room limit last L d.x = (L ++ [newE last d.x.m d.x.now], last + 1, ⟨last + 1, [], false, 0⟩) := by unfold stepQ; rw [if_pos h0, if_neg (by simp [hb]), if_neg hr]
        rw [hs]
        have hm : WfM d.x.m := by
          have h1 : d.x.m.pr ≤ 9 ∧ d.x.m.ids.length ≤ 64 ∧ d.x.m.body.length ≤ 2048 := of_decide_eq_true hb
          exact ⟨by omega, h1.2.2, h1.2.1, hk.ttl, hk.cnt⟩
        have hlt : L.length < room := by have := h.wf.len; omega
        refine (does_put G (gi_qf w0 q room limit (last + 1) (L ++ [newE last d.x.m d.x.now])) h (some ⟨q, 0, none⟩) d.x d.A d.c _ rfl hk.rd hn h0 ((last + 1 : Nat) : Int) 0 fun Z W A c h hr => (qf_put_ok h d.x.m A c _ rfl hr hm hlt hl d.x.now)).mono ?_
        rintro r w' ⟨rfl, h1, h2⟩
        exact ⟨⟨_, [], rfl, msl_nil, rfl⟩, ⟨_, rfl⟩, h1, h2⟩
  by_cases h1 : d.x.kind = 1
  · cases hA : acqQ L d.x.now with
    | none =>
      have hs : stepQ room limit last L d.x = (L, last, ⟨0, [zMg], false, 0⟩) := by unfold stepQ; rw [if_neg h0, if_pos h1, hA]
      rw [hs]
      refine (does_acq G G h (some ⟨q, 0, none⟩) d.x _ ⟨_, _, _, rfl⟩ h1 zEn false (by decide) fun Z W h => (qf_acq h d.x.now).mono fun r w' hx => ?_).mono ?_
      · rcases hx with ⟨-, rfl, e3, e4⟩ | ⟨e, v, e1, -⟩
        · exact ⟨.slice none 0 0, rfl, OwnB.nil_, e3, G.kz h e4⟩
        · rw [hA] at e1; cases e1
      · rintro r w' ⟨sv, v, rfl, h1, h2, h3⟩
        exact ⟨⟨_, _, rfl, h1, rfl⟩, ⟨_, rfl⟩, h2, h3⟩
    | some e =>
      have hs : stepQ room limit last L d.x = (modL (holdE e) L, last, ⟨e.id, [e.m], true, 0⟩) := by unfold stepQ; rw [if_neg h0, if_pos h1, hA]
      rw [hs]
      refine (does_acq G (gi_qf w0 q room limit last (modL (holdE e) L)) h (some ⟨q, 0, none⟩) d.x _ ⟨_, _, _, rfl⟩ h1 e true (by have := (h.wf.ok e (acq_mem hA).1).body; omega) fun Z W h => (qf_acq h d.x.now).mono fun r w' hx => ?_).mono ?_
      · rcases hx with ⟨e1, -⟩ | ⟨e', v, e1, e2, e3, e4, e5⟩
        · rw [hA] at e1; cases e1
        · rw [hA] at e1
          cases e1
          exact ⟨v, e2, e3, e4, e5⟩
      · rintro r w' ⟨sv, v, rfl, h1, h2, h3⟩
        exact ⟨⟨_, _, rfl, h1, rfl⟩, ⟨_, rfl⟩, h2, h3⟩
  by_cases h2 : d.x.kind = 2
  · have hs : stepQ room limit last L d.x = ((setQ limit L d.x.id d.x.o).1, last, ⟨0, [match (setQ limit L d.x.id d.x.o).2.2 with | none => zMg | some e => e.m], (setQ limit L d.x.id d.x.o).2.2.isSome, (setQ limit L d.x.id d.x.o).2.1⟩) := by unfold stepQ; rw [if_neg h0, if_neg h1, if_pos h2]
    rw [hs]
    refine (does_set G (gi_qf w0 q room limit last (setQ limit L d.x.id d.x.o).1) h (some ⟨q, 0, none⟩) d.x _ ⟨_, _, _, rfl⟩ h2 (match (setQ limit L d.x.id d.x.o).2.2 with | none => zMg | some e => e.m) (setQ limit L d.x.id d.x.o).2.2.isSome (setQ limit L d.x.id d.x.o).2.1 fun Z W h => (qf_set h d.x.id d.x.o).mono fun r w' hx => ?_).mono ?_
    · obtain ⟨v, e1, e2, e3, e4⟩ := hx
      cases hd : (setQ limit L d.x.id d.x.o).2.2 with
      | none =>
        rw [hd] at e1
        exact ⟨.slice none 0 0, e1, Bdv.nil_, e3, e4⟩
      | some e =>
        rw [hd] at e1
        exact ⟨v, e1, e2 e hd, e3, e4⟩
    · rintro r w' ⟨sv, v, rfl, h1, h2, h3⟩
      exact ⟨⟨_, _, rfl, h1, rfl⟩, ⟨_, rfl⟩, h2, h3⟩
  by_cases h3 : d.x.kind = 3
  · have hs : stepQ room limit last L d.x = (expQ L d.x.now, last, ⟨0, (expL L d.x.now).map (·.m), false, 0⟩) := by unfold stepQ; rw [if_neg h0, if_neg h1, if_neg h2, if_pos h3]
    rw [hs]
    refine (does_exp G (gi_qf w0 q room limit last (expQ L d.x.now)) h (some ⟨q, 0, none⟩) d.x _ ⟨_, _, _, rfl⟩ h3 ((expL L d.x.now).map (·.m)) fun Z W h => (qf_exp h d.x.now).mono fun r w' hx => ?_).mono ?_
    · obtain ⟨v, ms, e1, e2, e3, e4, e5, e6⟩ := hx
      exact ⟨v, ms, e1, e2, ⟨e3, e4⟩, e5.less fun k hk => List.mem_append_right _ hk, e6⟩
    · rintro r w' ⟨sv, ms, rfl, h0, h1, h2, h3⟩
      exact ⟨⟨_, _, rfl, h1, h0⟩, ⟨_, rfl⟩, h2, h3⟩
  · have hs : stepQ room limit last L d.x = (L, last, ⟨0, [], false, 0⟩) := by unfold stepQ; rw [if_neg h0, if_neg h1, if_neg h2, if_neg h3]
    rw [hs]
    refine (does_other G h (some ⟨q, 0, none⟩) d.x _ ⟨_, _, _, rfl⟩ h0 h1 h2 h3).mono ?_
    rintro r w' ⟨rfl, h1, h2⟩
    exact ⟨⟨_, [], rfl, msl_nil, rfl⟩, ⟨_, rfl⟩, h1, h2⟩
end Go.Proofs.Ytkoihcfdchcgdaa
