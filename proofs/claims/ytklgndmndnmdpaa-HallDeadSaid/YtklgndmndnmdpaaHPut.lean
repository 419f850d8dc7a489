import Derived.Test.YtklgndmndnmdpaaHCfg
set_option linter.unusedVariables false
set_option linter.unusedSimpArgs false
namespace Go.Proofs.Ytklgndmndnmdpaa
open Go.RowKit Go.Shelf

def putN (room last : Nat) (L : List En) (m : Mg) : Nat := if okMg m = false then 0 else if L.length = room then 0 else last + 1
/-- A queue's Put, whatever comes of it. -/
theorem qf_put_any {w0 w : World} {Z : List Nat} {q room limit last : Nat} {L : List En} (h : QF w0 w Z q room limit last L) (m : Mg) (A : Option Addr) (c n : Nat) (hn : m.body.length = n) (hrd : Rd w A c m.body) (ht : m.ttl ≤ 4294967295) (hc : m.cnt ≤ 4294967295) (hl : last < 1000000) (now : Int) :
    Calls Try.prog 51 #[.pointer (some ⟨q, 0, none⟩), mgv m (.slice A n c), .int .i64 now] w fun r w' => r = .returned (.tuple #[.int .i64 (putN room last L m), .int .i64 (putQ room last L m now).2]) ∧ QF w0 w' Z q room limit (putQ room last L m now).1.1 (putQ room last L m now).1.2 ∧ Kz Z w0 w w' := by
  unfold putQ putN
  by_cases hb : okMg m = false
  · rw [if_pos hb, if_pos hb]
    refine (qf_put_bad h m A c n hn hb now).mono ?_
    rintro r w' ⟨rfl, hb⟩
    exact ⟨rfl, h.below hb, h.kz_of hb⟩
  · rw [if_neg hb, if_neg hb]
    have hb : okMg m = true := by simpa using hb
    by_cases hr : L.length = room
    · rw [if_pos hr, if_pos hr]
      refine (qf_put_full h m A c n hn hb hr now).mono ?_
      rintro r w' ⟨rfl, hb⟩
      exact ⟨rfl, h.below hb, h.kz_of hb⟩
    · rw [if_neg hr, if_neg hr]
      have hm : WfM m := by
        have h1 : m.pr ≤ 9 ∧ m.ids.length ≤ 64 ∧ m.body.length ≤ 2048 := of_decide_eq_true hb
        exact ⟨by omega, h1.2.2, h1.2.1, ht, hc⟩
      refine (qf_put_ok h m A c n hn hrd hm (by have := h.wf.len; omega) hl now).mono ?_
      rintro r w' ⟨rfl, h1, h2⟩
      exact ⟨rfl, h1, h2⟩
section
variable {w0 w : World} {G : List Nat} {h lost : Nat} {C : List Cf} {Qs : List Qu}
set_option maxRecDepth 100000 in
theorem hwithI_none (hf : HF w0 w G h C Qs lost) (name : List UInt8) (hq : qAt C Qs name = none) (p1 p2 : Value) :
    Calls Try.prog 49 #[.pointer (some ⟨h, 0, none⟩), str name, .func (.func 50) #[] #[p1, p2]] w fun e w' => e = .returned (.tuple #[.int .i64 0, .int .i64 5]) ∧ w = w' := by
  have hcl := hqueue_calls hf name
  rw [hq] at hcl
  unfold str at hcl ⊢
  have HCL := Lib.hid hcl
  clear hcl hq hf
  go_enter Try.func49, Try.ntmps49
  go_wp2_with fail
  refine HCL.out.mono ?_
  rintro e w' ⟨rfl, rfl⟩
  go_wp2_with fail
  refine bodyPost_ret (results_tt rfl rfl rfl) rfl ⟨rfl, rfl⟩
set_option maxRecDepth 100000 in
theorem hwithI_some (hf : HF w0 w G h C Qs lost) (name : List UInt8) {a : Addr} (hq : qAt C Qs name = some a) (p1 p2 : Value) (N E : Int) (R : World → Prop)
    (hp : Calls Try.prog 50 #[.pointer (some a), p1, p2] w fun e w' => e = .returned (.tuple #[.int .i64 N, .int .i64 E]) ∧ R w') :
    Calls Try.prog 49 #[.pointer (some ⟨h, 0, none⟩), str name, .func (.func 50) #[] #[p1, p2]] w fun e w' => e = .returned (.tuple #[.int .i64 N, .int .i64 E]) ∧ R w' := by
  have hcl := hqueue_calls hf name
  rw [hq] at hcl
  unfold str at hcl ⊢
  have HCL := Lib.hid hcl
  have HP := Lib.hid hp
  clear hcl hq hf hp
  go_enter Try.func49, Try.ntmps49
  go_wp2_with fail
  refine HCL.out.mono ?_
  rintro e w' ⟨rfl, rfl⟩
  go_wp2_with fail
  refine HP.out.mono ?_
  rintro e w2 ⟨rfl, hR⟩
  have HR := Lib.hid hR
  clear hR
  go_wp2_with fail
  refine bodyPost_ret (results_tt rfl rfl rfl) rfl ⟨rfl, HR.out⟩
set_option maxRecDepth 100000 in
theorem hwithI_nil (name : List UInt8) (p1 p2 : Value) (w : World) :
    Calls Try.prog 49 #[.pointer none, str name, .func (.func 50) #[] #[p1, p2]] w fun e w' => e = .returned (.tuple #[.int .i64 0, .int .i64 2]) ∧ w = w' := by
  unfold str
  go_enter Try.func49, Try.ntmps49
  go_wp2_with fail
  refine bodyPost_ret (results_tt rfl rfl rfl) rfl ⟨rfl, rfl⟩
set_option maxRecDepth 100000 in
/-- The closure of Put. -/
theorem hput1_calls {q gm gn : Nat} (m : Mg) (v : Value) (now : Int) (hm : Bx w gm 41 (mcs m v)) (hn : Bx w gn 2 [.int .i64 now]) (N E : Int) (R : World → Prop)
    (hp : Calls Try.prog 51 #[.pointer (some ⟨q, 0, none⟩), mgv m v, .int .i64 now] w fun e w' => e = .returned (.tuple #[.int .i64 N, .int .i64 E]) ∧ R w') :
    Calls Try.prog 50 #[.pointer (some ⟨q, 0, none⟩), .pointer (some ⟨gm, 0, none⟩), .pointer (some ⟨gn, 0, none⟩)] w fun e w' => e = .returned (.tuple #[.int .i64 N, .int .i64 E]) ∧ R w' := by
  have m0 := hm.cell 0 (.int .u8 m.pr) rfl
  have m1 := hm.cell 1 (.int .u32 m.ttl) rfl
  have m2 := hm.cell 2 (.int .u32 m.cnt) rfl
  have m3 := hm.cell 3 (.string ⟨m.ids.toArray⟩) rfl
  have m4 := hm.cell 4 v rfl
  have n0 := hn.cell 0 (.int .i64 now) rfl
  unfold mgv str at hp
  have HP := Lib.hid hp
  clear hm hn hp
  go_enter Try.func50, Try.ntmps50
  go_wp2_with fail
  refine HP.out.mono ?_
  rintro e w2 ⟨rfl, hR⟩
  have HR := Lib.hid hR
  clear hR m0 m1 m2 m3 m4 n0
  go_wp2_with fail
  refine bodyPost_ret (results_tt rfl rfl rfl) rfl ⟨rfl, HR.out⟩
end

theorem mgv_eq' (m : Mg) (v : Value) : mgv m v = .agg #[.int .u8 m.pr, .int .u32 m.ttl, .int .u32 m.cnt, .string ⟨m.ids.toArray⟩, v] := by unfold mgv str; rfl
section
variable {w0 w : World} {G : List Nat} {h lost : Nat} {C : List Cf} {Qs : List Qu}
theorem qAt_set (C : List Cf) (Qs : List Qu) (i : Nat) (hi : i < Qs.length) (x' : Qu) (hx : x'.q = (Qs[i]).q) (n : List UInt8) : qAt C (Qs.set i x') n = qAt C Qs n := by
  unfold qAt
  cases atC C n with
  | none => rfl
  | some j =>
    show ((Qs.set i x')[j]?).map _ = (Qs[j]?).map _
    by_cases hj : i = j
    · subst hj
      rw [List.getElem?_set_self hi, List.getElem?_eq_getElem hi]
      simp [hx]
    · rw [List.getElem?_set_ne hj]
/-- One queue of a hall is turned by a function of its own. -/
theorem HF.step (hf : HF w0 w G h C Qs lost) (i : Nat) (hi : i < Qs.length) : ∃ Z, QF w0 w Z (Qs[i]).q (Qs[i]).room (Qs[i]).limit (Qs[i]).last (Qs[i]).L ∧ (∀ k ∈ G, k ∈ Z) ∧
    ∀ (last' : Nat) (L' : List En) (w' : World), QF w0 w' Z (Qs[i]).q (Qs[i]).room (Qs[i]).limit last' L' → Kz Z w0 w w' → HF w0 w' G h C (Qs.set i { Qs[i] with last := last', L := L' }) lost ∧ Kz G w0 w w' := by
  obtain ⟨⟨cv, r, D, h1, h2, h3, h4, h5, h9⟩, h6, h7, h8⟩ := hf
  obtain ⟨⟨e1, e2⟩, zf, e3, e4⟩ := h5
  refine ⟨zf i, (e3 i hi).1, fun k hk => (e3 i hi).2 k (List.mem_append_right _ hk), fun last' L' w' hq hkz => ?_⟩
  have hfin : HQs w0 w' ((h :: r :: cv.ownBlock.toList) ++ G) (Qs.set i { Qs[i] with last := last', L := L' }) ∧ ∀ k ∈ (h :: r :: cv.ownBlock.toList) ++ G, w'.heap[k]? = w.heap[k]? := hqs_step e1 e2 zf e3 e4 i hi _ hq hkz
  obtain ⟨f1, f2⟩ := hfin
  refine ⟨⟨⟨cv, r, D, h1.keep (f2 _ (by simp)), h2.keep fun k hk => f2 k (by simp [hk]), h3.keep (f2 _ (by simp)), fun n => ?_, f1, h9⟩, by rw [List.length_set]; exact h6, fun j a b => ?_, h8⟩, hkz.size, fun k hk => ?_, hkz.sty⟩
  rotate_left 2
  · rcases hk with hk | hk
    · exact f2 k (List.mem_append_right _ hk)
    · exact hkz.block k (.inr hk)
  · rw [h4, qAt_set C Qs i hi { Qs[i] with last := last', L := L' } rfl]
  · rw [List.length_set] at a
    by_cases hj : i = j
    · subst hj
      rw [List.getElem_set_self]
      exact h7 i hi b
    · rw [List.getElem_set_ne hj]
      exact h7 j a b
/-- What becomes of a hall's queues when a message is put, and the error. -/
def hputR (C : List Cf) (Qs : List Qu) (name : List UInt8) (m : Mg) (now : Int) : List Qu × Nat :=
  match (atC C name).bind fun i => (Qs[i]?).map fun x => (i, x) with
  | none => (Qs, 5)
  | some (i, x) => (Qs.set i { x with last := (putQ x.room x.last x.L m now).1.1, L := (putQ x.room x.last x.L m now).1.2 }, (putQ x.room x.last x.L m now).2)
theorem qAt_none {C : List Cf} {Qs : List Qu} {name : List UInt8} (hq : qAt C Qs name = none) : ((atC C name).bind fun i => (Qs[i]?).map fun x => (i, x)) = none := by
  unfold qAt at hq
  cases hA : atC C name with
  | none => rfl
  | some i =>
    rw [hA] at hq
    cases hQ : Qs[i]? with
    | none => simp [hQ]
    | some x => simp [hQ] at hq
theorem qAt_some {C : List Cf} {Qs : List Qu} {name : List UInt8} {a : Addr} (hq : qAt C Qs name = some a) : ∃ i, ∃ hi : i < Qs.length, atC C name = some i ∧ a = ⟨(Qs[i]).q, 0, none⟩ ∧ ((atC C name).bind fun i => (Qs[i]?).map fun x => (i, x)) = some (i, Qs[i]) := by
  unfold qAt at hq
  cases hA : atC C name with
  | none => rw [hA] at hq; cases hq
  | some i =>
    rw [hA] at hq
    cases hQ : Qs[i]? with
    | none => simp [hQ] at hq
    | some x =>
      obtain ⟨hi, hx⟩ := List.getElem?_eq_some_iff.1 hQ
      simp only [Option.bind_some, hQ, Option.map_some, Option.some.injEq] at hq
      exact ⟨i, hi, rfl, by rw [hx]; exact hq.symm, by simp [hQ, hx]⟩
theorem HF.old (hf : HF w0 w G h C Qs lost) : w0.heap.size ≤ w.heap.size := by
  obtain ⟨⟨cv, r, D, h1, h2, h3, h4, h5⟩, -, -, -⟩ := hf
  exact h5.1.1.1.size
theorem HF.glt (hf : HF w0 w G h C Qs lost) : ∀ k ∈ G, k < w.heap.size := by
  obtain ⟨⟨cv, r, D, h1, h2, h3, h4, h5⟩, -, -, -⟩ := hf
  exact fun k hk => (h5.1.1.2 k (List.mem_append_right _ hk)).2

theorem HF.kz_of {w' : World} (hf : HF w0 w G h C Qs lost) (hb : Below w.heap.size w w') : Kz G w0 w w' := Kz.of_below hb hf.old hf.glt
set_option maxRecDepth 100000 in
theorem hput_calls (hf : HF w0 w G h C Qs lost) (name : List UInt8) (m : Mg) (A : Option Addr) (c n : Nat) (hn : m.body.length = n) (hrd : Rd w A c m.body) (ht : m.ttl ≤ 4294967295) (hc : m.cnt ≤ 4294967295) (hl : ∀ x ∈ Qs, x.last < 1000000) (now : Int) :
    Calls Try.prog 21 #[.pointer (some ⟨h, 0, none⟩), str name, mgv m (.slice A n c), .int .i64 now] w fun e w' => e = .returned (.int .i64 (hputR C Qs name m now).2) ∧ HF w0 w' G h C (hputR C Qs name m now).1 lost ∧ Kz G w0 w w' := by
  have hb : Below w.heap.size w ((w.alloc (.cells (mcs m (.slice A n c)).toArray 41)).alloc (.cells #[.int .i64 now] 2)) := (below_alloc w _).alloc (by simp) _
  have hf1 := hf.below hb
  have hk1 : Kz G w0 w ((w.alloc (.cells (mcs m (.slice A n c)).toArray 41)).alloc (.cells #[.int .i64 now] 2)) := hf.kz_of hb
  have hbm : Bx ((w.alloc (.cells (mcs m (.slice A n c)).toArray 41)).alloc (.cells #[.int .i64 now] 2)) w.heap.size 41 (mcs m (.slice A n c)) := (Bx.new w 41 (mcs m (.slice A n c))).alloc _
  have hbn : Bx ((w.alloc (.cells (mcs m (.slice A n c)).toArray 41)).alloc (.cells #[.int .i64 now] 2)) (w.heap.size + 1) 2 [.int .i64 now] := Bx.new' (w.alloc _) 2 [.int .i64 now] (by simp)
  have hcl : Calls Try.prog 49 #[.pointer (some ⟨h, 0, none⟩), str name, .func (.func 50) #[] #[.pointer (some ⟨w.heap.size, 0, none⟩), .pointer (some ⟨w.heap.size + 1, 0, none⟩)]] ((w.alloc (.cells (mcs m (.slice A n c)).toArray 41)).alloc (.cells #[.int .i64 now] 2)) fun e w' => ∃ N : Int, e = .returned (.tuple #[.int .i64 N, .int .i64 (hputR C Qs name m now).2]) ∧ HF w0 w' G h C (hputR C Qs name m now).1 lost ∧ Kz G w0 w w' := by
    cases hq : qAt C Qs name with
    | none =>
      have hR : hputR C Qs name m now = (Qs, 5) := by unfold hputR; rw [qAt_none hq]
      rw [hR]
      refine (hwithI_none hf1 name hq _ _).mono ?_
      rintro e w' ⟨rfl, rfl⟩
      exact ⟨0, rfl, hf1, hk1⟩
    | some a =>
      obtain ⟨i, hi, hA, rfl, hbd⟩ := qAt_some hq
      have hR : hputR C Qs name m now = (Qs.set i { Qs[i] with last := (putQ (Qs[i]).room (Qs[i]).last (Qs[i]).L m now).1.1, L := (putQ (Qs[i]).room (Qs[i]).last (Qs[i]).L m now).1.2 }, (putQ (Qs[i]).room (Qs[i]).last (Qs[i]).L m now).2) := by unfold hputR; rw [hbd]
      rw [hR]
      obtain ⟨Z, g1, g2, g3⟩ := hf1.step i hi
      refine (hwithI_some hf1 name hq _ _ (putN (Qs[i]).room (Qs[i]).last (Qs[i]).L m : Nat) ((putQ (Qs[i]).room (Qs[i]).last (Qs[i]).L m now).2 : Nat) (fun w' => HF w0 w' G h C (Qs.set i { Qs[i] with last := (putQ (Qs[i]).room (Qs[i]).last (Qs[i]).L m now).1.1, L := (putQ (Qs[i]).room (Qs[i]).last (Qs[i]).L m now).1.2 }) lost ∧ Kz G w0 w w')
        (hput1_calls m (.slice A n c) now hbm hbn _ _ _ ((qf_put_any g1 m A c n hn (hrd.below hb) ht hc (hl _ (List.getElem_mem hi)) now).mono fun r w' hx => ⟨hx.1, (g3 _ _ w' hx.2.1 hx.2.2).1, hk1.trans (g3 _ _ w' hx.2.1 hx.2.2).2⟩))).mono ?_
      rintro e w' ⟨rfl, h1, h2⟩
      exact ⟨_, rfl, h1, h2⟩
  have HCL := Lib.hid hcl
  have hmk : ∀ W, (Instr.makeFunc (Fn.func 50) #[] #[.pointer (some ⟨w.heap.size, 0, none⟩), .pointer (some ⟨w.heap.size + 1, 0, none⟩)]).run Try.prog W = .ok (.func (.func 50) #[] #[.pointer (some ⟨w.heap.size, 0, none⟩), .pointer (some ⟨w.heap.size + 1, 0, none⟩)]) W := fun W => rfl
  clear hcl hb hf1 hk1 hbm hbn hrd hl hf hn
  obtain ⟨E, hE⟩ : ∃ E, (hputR C Qs name m now).2 = E := ⟨_, rfl⟩
  rw [hE] at HCL ⊢
  unfold str at HCL ⊢
  rw [mgv_eq']
  go_enter Try.func21, Try.ntmps21
  go_wp2_with fail
  refine HCL.out.mono ?_
  rintro e w' ⟨N, rfl, h1, h2⟩
  have H1 := Lib.hid h1
  have H2 := Lib.hid h2
  clear h1 h2 hmk
  go_wp2_with fail
  go_ret
  exact ⟨rfl, H1.out, H2.out⟩
end
end Go.Proofs.Ytklgndmndnmdpaa
