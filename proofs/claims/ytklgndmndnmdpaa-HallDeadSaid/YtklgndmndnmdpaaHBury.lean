import Derived.Test.YtklgndmndnmdpaaHAcq2
set_option linter.unusedVariables false
set_option linter.unusedSimpArgs false
namespace Go.Proofs.Ytklgndmndnmdpaa
open Go.RowKit Go.Shelf

theorem wfm_stale_body (m : Mg) : (stale m).body = m.body := rfl
/-- What becomes of a hall's queues, and of the number of lost ones, when a dead message of a name's queue goes where it goes. -/
def hburyR (C : List Cf) (Qs : List Qu) (lost : Nat) (name : List UInt8) (m : Mg) (now : Int) : List Qu × Nat :=
  if (hputR C Qs (cfgAt C name).dead (stale m) now).2 = 0 then ((hputR C Qs (cfgAt C name).dead (stale m) now).1, lost) else (Qs, lost + 1)
theorem hputR_err {C : List Cf} {Qs : List Qu} {name : List UInt8} {m : Mg} {now : Int} (h : (hputR C Qs name m now).2 ≠ 0) : (hputR C Qs name m now).1 = Qs := by
  unfold hputR at h ⊢
  cases hb : (atC C name).bind fun i => (Qs[i]?).map fun x => (i, x) with
  | none => rfl
  | some p =>
    obtain ⟨i, x⟩ := p
    simp only [hb] at h ⊢
    have hx : Qs[i]? = some x := by
      cases hA : atC C name with
      | none => simp [hA] at hb
      | some j =>
        simp only [hA, Option.bind_some, Option.map_eq_some_iff, Prod.mk.injEq] at hb
        obtain ⟨y, h1, rfl, rfl⟩ := hb
        exact h1
    obtain ⟨hi, rfl⟩ := List.getElem?_eq_some_iff.1 hx
    have hp : (putQ (Qs[i]).room (Qs[i]).last (Qs[i]).L m now).1 = ((Qs[i]).last, (Qs[i]).L) := by
      unfold putQ at h ⊢
      split
      · rfl
      · split
        · rfl
        · rename_i h1 h2
          rw [if_neg h1, if_neg h2] at h
          exact absurd rfl h
    rw [hp]
    exact List.set_getElem_self hi
section
variable {w0 w : World} {G : List Nat} {h lost : Nat} {C : List Cf} {Qs : List Qu}
/-- A message is put into the queue of a name. -/
theorem hq_put (hf : HF w0 w G h C Qs lost) (name : List UInt8) {a : Addr} (hq : qAt C Qs name = some a) (m : Mg) (v : Value) (hb : Bdv w v m.body) (ht : m.ttl ≤ 4294967295) (hc : m.cnt ≤ 4294967295) (hl : ∀ x ∈ Qs, x.last < 1000000) (now : Int) :
    Calls Try.prog 51 #[.pointer (some a), mgv m v, .int .i64 now] w fun e w' => ∃ N : Int, e = .returned (.tuple #[.int .i64 N, .int .i64 (hputR C Qs name m now).2]) ∧ HF w0 w' G h C (hputR C Qs name m now).1 lost ∧ Kz G w0 w w' := by
  obtain ⟨i, hi, hA, rfl, hbd⟩ := qAt_some hq
  have hR : hputR C Qs name m now = (Qs.set i { Qs[i] with last := (putQ (Qs[i]).room (Qs[i]).last (Qs[i]).L m now).1.1, L := (putQ (Qs[i]).room (Qs[i]).last (Qs[i]).L m now).1.2 }, (putQ (Qs[i]).room (Qs[i]).last (Qs[i]).L m now).2) := by unfold hputR; rw [hbd]
  rw [hR]
  obtain ⟨Z, g1, g2, g3⟩ := hf.step i hi
  obtain ⟨A, c, rfl, hrd, -⟩ := hb
  exact (qf_put_any g1 m A c _ rfl hrd ht hc (hl _ (List.getElem_mem hi)) now).mono fun r w' hx => ⟨_, hx.1, g3 _ _ w' hx.2.1 hx.2.2⟩
/-- One more is lost. -/
theorem HF.setLost (hf : HF w0 w G h C Qs lost) {w' : World} {v : Value} (hw : w' = w.setCell ⟨h, 2, none⟩ v) {l' : Nat} (hv : v = .int .i64 l') : HF w0 w' G h C Qs l' ∧ Kz G w0 w w' := by
  subst hw; subst hv
  obtain ⟨⟨cv, r, D, h1, h2, h3, h4, h5, h9⟩, h6, h7, h8⟩ := hf
  have hhB := h5.1.2 h (by simp)
  have hcv : h ∉ cv.ownBlock.toList := fun hm => h2.ne_bx h1 (by decide) (by simpa using hm)
  have hrh : r ≠ h := by
    rintro rfl
    have e1 := h3
    have e2 := h1
    obtain ⟨_, es, clock, hb, _⟩ := e1
    rw [show w.heap[r]? = _ from e2] at hb
    cases hb
  have t : Tch [h] w (w.setCell ⟨h, 2, none⟩ (.int .i64 l')) := (Tch.refl _ w).setCell _ (.inl (by simp))
  refine ⟨⟨⟨cv, r, D, (h1.set 2 _).to rfl, h2.tch t fun k hk hm => ?_, h3.keep (t.block r ?_ (by simpa using hrh)), h4, h5.zset (t.mono (by simp)), h9⟩, h6, h7, h8⟩, t.size, fun k hk => t.block k ?_ ?_, fun k cs ty fr hty hk => t.block k (heap_lt hk) fun hm => ?_⟩
  · simp only [List.mem_singleton] at hm
    subst hm
    exact hcv (by simpa using hk)
  · exact (h5.1.2 r (by simp)).2
  · rcases hk with hk | hk
    · exact (h5.1.2 k (List.mem_append_right _ hk)).2
    · have := h5.1.1.size; omega
  · intro hm
    simp only [List.mem_singleton] at hm
    subst hm
    rcases hk with hk | hk
    · exact h9 _ hk (by simp)
    · omega
  · simp only [List.mem_singleton] at hm
    subst hm
    rw [show w.heap[k]? = _ from h1] at hk
    cases hk
    rcases hty with h | h | h <;> exact absurd h (by decide)
end

section
variable {w0 w : World} {G : List Nat} {h lost : Nat} {C : List Cf} {Qs : List Qu}
set_option maxRecDepth 100000 in
set_option maxHeartbeats 1000000 in
theorem hbury_calls (hf : HF w0 w G h C Qs lost) (name : List UInt8) (m : Mg) (v : Value) (hb : Bdv w v m.body) (hl : ∀ x ∈ Qs, x.last < 1000000) (hlo : lost < 1000000) (now : Int) :
    Calls Try.prog 57 #[.pointer (some ⟨h, 0, none⟩), str name, mgv m v, .int .i64 now] w fun e w' => (∃ u, e = .returned u) ∧ HF w0 w' G h C (hburyR C Qs lost name m now).1 (hburyR C Qs lost name m now).2 ∧ Kz G w0 w w' := by
  obtain ⟨cf, hcf⟩ : ∃ cf, cfgAt C name = cf := ⟨_, rfl⟩
  obtain ⟨g, hg⟩ : ∃ g, w.heap.size = g := ⟨_, rfl⟩
  have hba : Below w.heap.size w (w.alloc (.cells (mcs m v).toArray 41)) := below_alloc w _
  have hcl := hconfig_calls (hf.guest (N := [g]) hba (fun k hk => by simp at hk; simp; omega)) name
  rw [hcf] at hcl
  have hv1 := hb.one
  obtain ⟨A, c, rfl, hrd, hbl⟩ := hb
  obtain ⟨n, hn⟩ : ∃ n, m.body.length = n := ⟨_, rfl⟩
  obtain ⟨P, hP⟩ : ∃ P, qAt C Qs cf.dead = P := ⟨_, rfl⟩
  have H := Lib.hid hf
  have HB := Lib.hid (show Bdv w (.slice A n c) m.body from hn ▸ ⟨A, c, rfl, hrd, hbl⟩)
  have HL := Lib.hid hl
  have HCF := Lib.hid hcf
  have HP := Lib.hid hP
  have HN := Lib.hid hn
  rw [hn] at hcl hba hv1 ⊢
  have HBA := Lib.hid hba
  obtain ⟨PW, hPW⟩ : ∃ PW : World → Prop, PW = fun W => HF w0 W ([g] ++ G) h C Qs lost ∧ Kz G w0 w W ∧ Bx W g 41 (mcs (stale m) (.slice A n c)) ∧ Bdv W (.slice A n c) m.body := ⟨_, rfl⟩
  have hqc : ∀ W, PW W → Calls Try.prog 47 #[.pointer (some ⟨h, 0, none⟩), .string ⟨cf.dead.toArray⟩] W fun e w' => e = .returned (.pointer P) ∧ PW w' := fun W hW => by
    have h1 := hW
    rw [hPW] at h1
    rw [← hP]
    refine (hqueue_calls h1.1 cf.dead).mono ?_
    rintro e w' ⟨rfl, rfl⟩
    exact ⟨rfl, hW⟩
  have HPW := Lib.hid hPW
  have HQC := Lib.hid hqc
  have HCL := Lib.hid hcl
  have HG := Lib.hid hg
  clear hcl hqc hPW hP hcf hl hf hrd hbl hba hn
  rw [mgv_eq']
  unfold cfs str at HCL
  unfold str
  go_enter Try.func57, Try.ntmps57
  go_wp2_with fail
  refine HCL.out.mono ?_
  rintro e w1 ⟨rfl, b1⟩
  have k1 := ((Bx.new' w 41 (mcs m (.slice A n c)) hg.symm)).below b1
  have B1 := Lib.hid (below_then HBA.out HBA.out.size b1)
  have n1 := k1.cell 1 _ rfl
  have n2 := k1.cell 2 _ rfl
  have f1 := k1.froz 1
  have f2 := k1.froz 2
  have hl1 := k1.lt
  have K1 := Lib.hid k1
  clear b1 k1
  go_wp2_with fail
  refine (HQC.out _ ?_).mono ?_
  · rw [HPW.out]
    have hbW : Below w.heap.size w (((w1.setCell ⟨g, 1, none⟩ (.int .u32 0)).setCell ⟨g, 2, none⟩ (.int .u32 0)).alloc (.cells #[.string ⟨cf.name.toArray⟩, .int .i64 cf.room, .int .i64 cf.limit, .string ⟨cf.dead.toArray⟩] 23)) := ((B1.out.setCell (by have := HG.out; dsimp only; omega) _).setCell (by have := HG.out; dsimp only; omega) _).alloc (by simp; exact B1.out.size) _
    refine ⟨H.out.guest (N := [g]) hbW (fun k hk => ?_), H.out.kz_of hbW, ?_, HB.out.below hbW⟩
    · simp only [List.mem_singleton] at hk
      subst hk
      exact ⟨by have := HG.out; omega, by simp; omega⟩
    · with_reducible refine Bx.to (((K1.out.set 1 _).set 2 _).alloc _) ?_
      rfl
  rintro e W ⟨rfl, hW⟩
  have hW2 := hW
  rw [HPW.out] at hW2
  obtain ⟨hW3, hW4, hW5, hW6⟩ := hW2
  have d0 := hW5.cell 0 (.int .u8 m.pr) rfl
  have d1 := hW5.cell 1 (.int .u32 0) rfl
  have d2 := hW5.cell 2 (.int .u32 0) rfl
  have d3 := hW5.cell 3 (.string ⟨m.ids.toArray⟩) rfl
  have d4 := hW5.cell 4 (.slice A n c) rfl
  have W3 := Lib.hid hW3
  have W4 := Lib.hid hW4
  have W6 := Lib.hid hW6
  -- the last step: one more is lost
  have hlast : ∀ V, HF w0 V ([g] ++ G) h C Qs lost → Kz G w0 w V → ∃ cv r, V.cell? ⟨h, 2, none⟩ = some (.int .i64 lost) ∧ V.frozen? ⟨h, 2, none⟩ = false ∧ Hid (HF w0 (V.setCell ⟨h, 2, none⟩ (.int .i64 ((lost : Int) + 1))) G h C Qs (lost + 1) ∧ Kz G w0 w (V.setCell ⟨h, 2, none⟩ (.int .i64 ((lost : Int) + 1)))) := fun V hV hk => by
    have hs := hV.setLost rfl (l' := lost + 1) (v := .int .i64 ((lost : Int) + 1)) (by push_cast; rfl)
    obtain ⟨⟨cv, r, D, h1, -⟩, -, -, -⟩ := hV
    exact ⟨cv, r, h1.cell 2 _ rfl, h1.froz 2, Lib.hid ⟨hs.1.less fun k hk => List.mem_append_right _ hk, hk.trans (hs.2.mono fun k hk => List.mem_append_right _ hk)⟩⟩
  have HLA := Lib.hid hlast
  clear hW hW3 hW4 hW5 hW6 hlast n1 n2 f1 f2 hl1
  cases P with
  | none =>
    have HR := Lib.hid (show hburyR C Qs lost name m now = (Qs, lost + 1) by
      unfold hburyR
      rw [HCF.out]
      have h5 : hputR C Qs cf.dead (stale m) now = (Qs, 5) := by unfold hputR; rw [qAt_none HP.out]
      rw [h5]; rfl)
    obtain ⟨cv, r, e1, e2, HS⟩ := HLA.out W W3.out W4.out
    have hlo' : (lost : Int) < 1000000 := by omega
    go_wp2_with fail
    refine bodyPost_end (results_none rfl _ _ _) rfl ⟨⟨_, rfl⟩, ?_⟩
    rw [HR.out]
    exact HS.out
  | some a =>
    obtain ⟨E, hE⟩ : ∃ E : Int, ((hputR C Qs cf.dead (stale m) now).2 : Int) = E := ⟨_, rfl⟩
    have hput := hq_put W3.out cf.dead HP.out (stale m) (.slice A n c) W6.out (Nat.zero_le _) (Nat.zero_le _) HL.out now
    rw [hE, mgv_eq'] at hput
    have HPUT := Lib.hid hput
    have HE := Lib.hid hE
    clear hput hE
    go_wp2_with fail
    refine HPUT.out.mono ?_
    rintro e V ⟨N, rfl, v1, v2⟩
    have V1 := Lib.hid v1
    have V2 := Lib.hid (W4.out.trans (v2.mono fun k hk => List.mem_append_right _ hk))
    clear v1 v2 d0 d1 d2 d3 d4
    by_cases hE0 : E = 0
    · subst hE0
      have HR := Lib.hid (show hburyR C Qs lost name m now = ((hputR C Qs cf.dead (stale m) now).1, lost) by
        unfold hburyR
        rw [HCF.out, if_pos (by have := HE.out; omega)])
      go_wp2_with fail
      refine bodyPost_ret (results_none rfl _ _ _) rfl ⟨⟨_, rfl⟩, ?_⟩
      rw [HR.out]
      exact ⟨V1.out.less fun k hk => List.mem_append_right _ hk, V2.out⟩
    · have HR := Lib.hid (show hburyR C Qs lost name m now = (Qs, lost + 1) by
        unfold hburyR
        rw [HCF.out, if_neg (by have := HE.out; omega)])
      have hV := V1.out
      rw [hputR_err (by have := HE.out; omega)] at hV
      obtain ⟨cv, r, e1, e2, HS⟩ := HLA.out V hV V2.out
      have hwr : IntKind.i64.wrap ((lost : Int) + 1) = (lost : Int) + 1 := by rw [IntKind.wrap_i64]; omega
      clear hlo
      go_wp2_with fail
      refine bodyPost_end (results_none rfl _ _ _) rfl ⟨⟨_, rfl⟩, ?_⟩
      rw [HR.out]
      exact HS.out
end
end Go.Proofs.Ytklgndmndnmdpaa
