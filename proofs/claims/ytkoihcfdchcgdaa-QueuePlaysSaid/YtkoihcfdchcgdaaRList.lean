import Derived.Test.YtkoihcfdchcgdaaRSm
import Derived.Test.YtkoihcfdchcgdaaHeld
set_option linter.unusedVariables false
set_option linter.unusedSimpArgs false
namespace Go.Proofs.Ytkoihcfdchcgdaa
open Go.RowKit Go.Shelf

theorem idx_map (L : List En) : (idxs L).map (fun i => L.getD i zEn) = ordQ false L := by
  rw [← idx_ord]
  have : ∀ l : List Nat, (∀ i ∈ l, i < L.length) → l.map (fun i => L.getD i zEn) = l.filterMap fun i => L[i]? := by
    intro l
    induction l with
    | nil => intro _; rfl
    | cons i l ih =>
      intro h
      have hi := h i (by simp)
      rw [List.map_cons, ih fun j hj => h j (by simp [hj]), List.filterMap_cons_some (List.getElem?_eq_getElem hi), List.getD_eq_getElem?_getD, List.getElem?_eq_getElem hi]
      rfl
  exact this _ fun i hi => idx_lt hi
/-- The item at place i, with where its body lies. -/
def itAt (L : List En) (bv : Nat → Value) (i : Nat) : En × Value := (L.getD i zEn, bv (L.getD i zEn).id)

set_option maxRecDepth 100000 in
set_option maxHeartbeats 4000000 in
theorem rlist_calls {w : World} {Z : List Nat} {r room limit last : Nat} {L : List En} (h : Rq w Z r room limit last L) :
    Calls Try.prog 21 #[.pointer (some ⟨r, 0, none⟩)] w fun e w' => ∃ (v : Value) (its : List (En × Value)), e = .returned v ∧ its.map (·.1) = ordQ false L ∧ OwnC 64 8 (fun _ => True) w' w.heap.size v its.length (eits its) ∧ (∀ x ∈ its, Bdv w' x.2 x.1.m.body) ∧ Below w.heap.size w w' := by
  have HW := Lib.hid (rwait h)
  obtain ⟨⟨lv, bv, h1, h2, h3, h4⟩, h5, h6⟩ := h
  obtain ⟨A, c, rfl, hr⟩ := h2.rd
  obtain ⟨n, hn⟩ : ∃ n, L.length = n := ⟨_, rfl⟩
  rw [hn] at h1 hr
  have hn64 : n ≤ 64 := by have := h6.len; have := h6.room2; omega
  obtain ⟨I, hI⟩ : ∃ I, idxs L = I := ⟨_, rfl⟩
  rw [hI] at HW
  have hIlt : ∀ i ∈ I, i < n := fun i hi => by rw [← hI] at hi; rw [← hn]; exact idx_lt hi
  have hIlen : I.length ≤ 64 := by rw [← hI, idx_len]; exact ord_len h6
  have hIm : I.map (fun i => L.getD i zEn) = ordQ false L := by rw [← hI]; exact idx_map L
  obtain ⟨m, hm⟩ : ∃ m, I.length = m := ⟨_, rfl⟩
  rw [hm] at HW hIlen
  have H1 := Lib.hid h1
  have HR := Lib.hid hr
  have HN := Lib.hid hn
  have HM := Lib.hid hm
  have HIL := Lib.hid hIlt
  have HIM := Lib.hid hIm
  have H4 := Lib.hid h4
  have hlc := hr.2.1
  have hmx := hr.2.2.1
  clear h1 h2 h3 h4 h5 h6 hr hn hI hIlt hm hIm
  go_enter Try.func21, Try.ntmps21
  go_wp2_with fail
  refine HW.out.mono ?_
  rintro e w1 ⟨v, rfl, o1, b1⟩
  obtain ⟨A1, c1, rfl, -⟩ := o1.rd
  have HO1 := Lib.hid o1
  have HB1 := Lib.hid b1
  clear o1 b1
  go_wp2_with fail
  go_loopw [3, 5] (fun v i wr => ∃ (k : Nat), k ≤ m ∧ i = .int .i64 k ∧ OwnC 64 8 (fun _ => True) wr w1.heap.size v k (eits ((I.take k).map (itAt L bv))) ∧ Below w1.heap.size w1 wr) (fun _ i _ => m - (intOf i).toNat)
  case atStart => exact ⟨0, by omega, rfl, OwnC.nil_, Below.refl _ _⟩
  case round =>
    obtain ⟨k, hk, rfl, ho, hb⟩ := hrel
    have HO := Lib.hid ho
    have HB := Lib.hid hb
    have HBB := Lib.hid (below_then HB1.out HB1.out.size hb)
    clear ho hb
    by_cases hkm : k < m
    · have hkm' : (k : Int) < m := by omega
      obtain ⟨gi, ci, hgi, -⟩ := HO1.out.form (by omega)
      simp only [Value.slice.injEq] at hgi
      obtain ⟨rfl, -, rfl⟩ := hgi
      have hkI : k < I.length := by rw [HM.out]; exact hkm
      obtain ⟨j, hj⟩ : ∃ j, I[k] = j := ⟨_, rfl⟩
      have hjn : j < n := HIL.out j (by rw [← hj]; exact List.getElem_mem _)
      have d1 : wr.cell? ⟨gi, k, none⟩ = some (.int .i64 j) := ((HO1.out.below HB.out).cell_at k (iv j) (by rw [List.getElem?_map, List.getElem?_eq_getElem hkI, hj]; rfl)).1
      have d0 : wr.cell? ⟨r, 2, none⟩ = some (.slice A n c) := (H1.out.below HBB.out).cell 2 _ rfl
      have hjL : j < L.length := by rw [HN.out]; exact hjn
      obtain ⟨b0, o0, hA, hcw⟩ := flat_cells eit 8 (by decide) eit_length HR.out j (by rw [List.length_map]; exact hjL)
      subst hA
      rw [List.getElem_map] at hcw
      have hb0 : b0 < w.heap.size := World.block_lt_of_cell? _ _ (hcw 0 _ rfl)
      have hcell := fun j u hj => stays HBB.out (hcw j u hj) hb0
      clear hcw
      obtain ⟨e, he⟩ : ∃ e, L[j] = e := ⟨_, rfl⟩
      rw [he] at hcell
      have hmem : e ∈ L := by rw [← he]; exact List.getElem_mem _
      obtain ⟨Ab, cb, hbv, -⟩ := (H4.out e hmem).1
      have hia : itAt L bv j = (e, bv e.id) := by unfold itAt; rw [List.getD_eq_getElem?_getD, List.getElem?_eq_getElem hjL, he]; rfl
      have HST := Lib.hid (show (I.take (k + 1)).map (itAt L bv) = (I.take k).map (itAt L bv) ++ [(e, bv e.id)] by rw [List.take_succ_eq_append_getElem hkI, List.map_append, hj, List.map_cons, hia]; rfl)
      have HBV := Lib.hid hbv
      have d2 := hcell 0 (.int .i64 e.id) rfl
      have d3 := hcell 1 (.int .u8 e.m.pr) rfl
      have d4 := hcell 2 (.int .u32 e.m.ttl) rfl
      have d5 := hcell 3 (.int .u32 e.m.cnt) rfl
      have d6 := hcell 4 (.string ⟨e.m.ids.toArray⟩) rfl
      have d7 := hcell 5 (.slice Ab e.m.body.length cb) (by show some (bv e.id) = _; rw [hbv])
      have d8 := hcell 6 (.int .i64 e.tm) rfl
      have d9 := hcell 7 (.bool e.held) rfl
      simp only [← Nat.add_assoc, Nat.add_zero] at d2 d3 d4 d5 d6 d7 d8 d9
      clear hcell he hbv hmem hia hj hkI hjL
      go_wp2_with fail
      obtain ⟨S, hSd⟩ : ∃ S : World → Prop, S = fun W' : World => W'.cell? ⟨r, 2, none⟩ = some (.slice (some ⟨b0, o0, none⟩) n c) ∧ W'.cell? ⟨gi, k, none⟩ = some (.int .i64 j) ∧ W'.cell? ⟨b0, o0 + j * 8, none⟩ = some (.int .i64 e.id) ∧ W'.cell? ⟨b0, o0 + j * 8 + 1, none⟩ = some (.int .u8 e.m.pr) ∧ W'.cell? ⟨b0, o0 + j * 8 + 2, none⟩ = some (.int .u32 e.m.ttl) ∧ W'.cell? ⟨b0, o0 + j * 8 + 3, none⟩ = some (.int .u32 e.m.cnt) ∧ W'.cell? ⟨b0, o0 + j * 8 + 4, none⟩ = some (.string ⟨e.m.ids.toArray⟩) ∧ W'.cell? ⟨b0, o0 + j * 8 + 5, none⟩ = some (.slice Ab e.m.body.length cb) ∧ W'.cell? ⟨b0, o0 + j * 8 + 6, none⟩ = some (.int .i64 e.tm) ∧ W'.cell? ⟨b0, o0 + j * 8 + 7, none⟩ = some (.bool e.held) := ⟨_, rfl⟩
      have hSk : ∀ A' W' : World, S A' → (∀ b o v, b = r ∨ b = gi ∨ b = b0 → A'.cell? ⟨b, o, none⟩ = some v → W'.cell? ⟨b, o, none⟩ = some v) → S W' := fun A' W' h hk => by
        rw [hSd] at h ⊢
        obtain ⟨e0, e1, e2, e3, e4, e5, e6, e7, e8, e9⟩ := h
        exact ⟨hk _ _ _ (.inl rfl) e0, hk _ _ _ (.inr (.inl rfl)) e1, hk _ _ _ (.inr (.inr rfl)) e2, hk _ _ _ (.inr (.inr rfl)) e3, hk _ _ _ (.inr (.inr rfl)) e4, hk _ _ _ (.inr (.inr rfl)) e5, hk _ _ _ (.inr (.inr rfl)) e6, hk _ _ _ (.inr (.inr rfl)) e7, hk _ _ _ (.inr (.inr rfl)) e8, hk _ _ _ (.inr (.inr rfl)) e9⟩
      have hS : S wr.drew := by rw [hSd]; exact ⟨d0, d1, d2, d3, d4, d5, d6, d7, d8, d9⟩
      have HSd := Lib.hid hSd
      have HSk := Lib.hid hSk
      have hgi : gi < w1.heap.size := (HO1.out.lt gi rfl).2
      have hw1 : w.heap.size ≤ w1.heap.size := HB1.out.size
      have hrl : r < w.heap.size := H1.out.lt
      clear hSd hSk d0 d1 d2 d3 d4 d5 d6 d7 d8 d9
      refine (wpIn_wide (n := 0)).1 ?_
      refine s_region [] S (by kernel_rfl) ?_
      refine s_take (fun _ => trivial) (by kernel_rfl) 0 rfl (by kernel_rfl) (by kernel_rfl) (by kernel_rfl) (by kernel_rfl) (fun _ _ _ h => h) (by rfl) (by intro w' hw; rw [HSd.out] at hw; obtain ⟨h0, h1, h2, h3, h4, h5, h6, h7, h8, h9⟩ := hw; go_simp; try (with_reducible rfl)) hS ?_
      simp only [List.getElem_toArray, List.getElem_cons_succ, List.getElem_cons_zero, Act.put, List.setIfInBounds_toArray, List.set_cons_zero, List.set_cons_succ]
      refine s_take (fun _ => trivial) (by kernel_rfl) 1 rfl (by kernel_rfl) (by kernel_rfl) (by kernel_rfl) (by kernel_rfl) (fun _ _ _ h => h) (by rfl) (by intro w' hw; rw [HSd.out] at hw; obtain ⟨h0, h1, h2, h3, h4, h5, h6, h7, h8, h9⟩ := hw; go_simp; try (with_reducible rfl)) hS ?_
      simp only [List.getElem_toArray, List.getElem_cons_succ, List.getElem_cons_zero, Act.put, List.setIfInBounds_toArray, List.set_cons_zero, List.set_cons_succ]
      refine s_take (fun _ => trivial) (by kernel_rfl) 2 rfl (by kernel_rfl) (by kernel_rfl) (by kernel_rfl) (by kernel_rfl) (fun _ _ _ h => h) (by rfl) (by intro w' hw; rw [HSd.out] at hw; obtain ⟨h0, h1, h2, h3, h4, h5, h6, h7, h8, h9⟩ := hw; go_simp; try (with_reducible rfl)) hS ?_
      simp only [List.getElem_toArray, List.getElem_cons_succ, List.getElem_cons_zero, Act.put, List.setIfInBounds_toArray, List.set_cons_zero, List.set_cons_succ]
      refine s_take (fun _ => trivial) (by kernel_rfl) 3 rfl (by kernel_rfl) (by kernel_rfl) (by kernel_rfl) (by kernel_rfl) (fun _ _ _ h => h) (by rfl) (by intro w' hw; rw [HSd.out] at hw; obtain ⟨h0, h1, h2, h3, h4, h5, h6, h7, h8, h9⟩ := hw; go_simp; try (with_reducible rfl)) hS ?_
      simp only [List.getElem_toArray, List.getElem_cons_succ, List.getElem_cons_zero, Act.put, List.setIfInBounds_toArray, List.set_cons_zero, List.set_cons_succ]
      refine s_take (fun _ => trivial) (by kernel_rfl) 4 rfl (by kernel_rfl) (by kernel_rfl) (by kernel_rfl) (by kernel_rfl) (fun _ _ _ h => h) (by rfl) (by intro w' hw; rw [HSd.out] at hw; obtain ⟨h0, h1, h2, h3, h4, h5, h6, h7, h8, h9⟩ := hw; go_simp; try (with_reducible rfl)) hS ?_
      simp only [List.getElem_toArray, List.getElem_cons_succ, List.getElem_cons_zero, Act.put, List.setIfInBounds_toArray, List.set_cons_zero, List.set_cons_succ]
      refine s_take (fun _ => trivial) (by kernel_rfl) 5 rfl (by kernel_rfl) (by kernel_rfl) (by kernel_rfl) (by kernel_rfl) (fun _ _ _ h => h) (by rfl) (by intro w' hw; rw [HSd.out] at hw; obtain ⟨h0, h1, h2, h3, h4, h5, h6, h7, h8, h9⟩ := hw; go_simp; try (with_reducible rfl)) hS ?_
      simp only [List.getElem_toArray, List.getElem_cons_succ, List.getElem_cons_zero, Act.put, List.setIfInBounds_toArray, List.set_cons_zero, List.set_cons_succ]
      refine s_take (fun _ => trivial) (by kernel_rfl) 6 rfl (by kernel_rfl) (by kernel_rfl) (by kernel_rfl) (by kernel_rfl) (fun _ _ _ h => h) (by rfl) (by intro w' hw; rw [HSd.out] at hw; obtain ⟨h0, h1, h2, h3, h4, h5, h6, h7, h8, h9⟩ := hw; go_simp; try (with_reducible rfl)) hS ?_
      simp only [List.getElem_toArray, List.getElem_cons_succ, List.getElem_cons_zero, Act.put, List.setIfInBounds_toArray, List.set_cons_zero, List.set_cons_succ]
      refine s_take (fun _ => trivial) (by kernel_rfl) 7 rfl (by kernel_rfl) (by kernel_rfl) (by kernel_rfl) (by kernel_rfl) (fun _ _ _ h => h) (by rfl) (by intro w' hw; rw [HSd.out] at hw; obtain ⟨h0, h1, h2, h3, h4, h5, h6, h7, h8, h9⟩ := hw; go_simp; try (with_reducible rfl)) hS ?_
      simp only [List.getElem_toArray, List.getElem_cons_succ, List.getElem_cons_zero, Act.put, List.setIfInBounds_toArray, List.set_cons_zero, List.set_cons_succ]
      refine s_take (fun _ => trivial) (by kernel_rfl) 8 rfl (by kernel_rfl) (by kernel_rfl) (by kernel_rfl) (by kernel_rfl) (fun _ _ _ h => h) (by rfl) (by intro w' hw; rw [HSd.out] at hw; obtain ⟨h0, h1, h2, h3, h4, h5, h6, h7, h8, h9⟩ := hw; go_simp; try (with_reducible rfl)) hS ?_
      simp only [List.getElem_toArray, List.getElem_cons_succ, List.getElem_cons_zero, Act.put, List.setIfInBounds_toArray, List.set_cons_zero, List.set_cons_succ]
      refine s_take (fun _ => trivial) (by kernel_rfl) 9 rfl (by kernel_rfl) (by kernel_rfl) (by kernel_rfl) (by kernel_rfl) (fun _ _ _ h => h) (by rfl) (by intro w' hw; rw [HSd.out] at hw; obtain ⟨h0, h1, h2, h3, h4, h5, h6, h7, h8, h9⟩ := hw; go_simp; try (with_reducible rfl)) hS ?_
      simp only [List.getElem_toArray, List.getElem_cons_succ, List.getElem_cons_zero, Act.put, List.setIfInBounds_toArray, List.set_cons_zero, List.set_cons_succ]
      refine s_take (fun _ => trivial) (by kernel_rfl) 10 rfl (by kernel_rfl) (by kernel_rfl) (by kernel_rfl) (by kernel_rfl) (fun _ _ _ h => h) (by rfl) (by intro w' hw; rw [HSd.out] at hw; obtain ⟨h0, h1, h2, h3, h4, h5, h6, h7, h8, h9⟩ := hw; go_simp; try (with_reducible rfl)) hS ?_
      simp only [List.getElem_toArray, List.getElem_cons_succ, List.getElem_cons_zero, Act.put, List.setIfInBounds_toArray, List.set_cons_zero, List.set_cons_succ]
      refine s_one 11 (by kernel_rfl) rfl (by rfl) (fun K hK => ?_)
      go_simp
      have hS1 := HSk.out _ _ hS fun b o v _ h => keeps_alloc h (.cells #[.int .i64 e.id, .int .u8 e.m.pr, .int .u32 e.m.ttl, .int .u32 e.m.cnt, .string ⟨e.m.ids.toArray⟩, .slice Ab e.m.body.length cb, .int .i64 e.tm, .bool e.held] 64)
      refine hK.out _ _ (fun _ => hS1) ?_
      clear hK K hS
      refine s_one 12 (by kernel_rfl) rfl (by rfl) (fun K hK => ?_)
      obtain ⟨i0, hi, hz0, hz1, hz2⟩ := info_parts Try.info_ritem
      refine wpIn_appC (fun _ => trivial) _ _ _ rfl w1.heap.size i0 _ 80 Try.underlying61 hi hz0 hz1 hz2 rfl (by decide) (fun _ _ => trivial) u3 k (eits ((I.take k).map (itAt L bv))) rfl ?own (some ⟨wr.heap.size, 0, none⟩) 1 1 (eit (e, bv e.id)) rfl ?rd ?hb ?h63 ?hbase ?_
      case own => exact (HO.out.drew).alloc _
      case rd =>
        have : eit (e, bv e.id) = [.int .i64 e.id, .int .u8 e.m.pr, .int .u32 e.m.ttl, .int .u32 e.m.cnt, .string ⟨e.m.ids.toArray⟩, .slice Ab e.m.body.length cb, .int .i64 e.tm, .bool e.held] := by unfold eit ecs str; rw [HBV.out]
        rw [this]
        exact rdc_box (w := wr.drew) [.int .i64 e.id, .int .u8 e.m.pr, .int .u32 e.m.ttl, .int .u32 e.m.cnt, .string ⟨e.m.ids.toArray⟩, .slice Ab e.m.body.length cb, .int .i64 e.tm, .bool e.held] 1 8 rfl (by simp [Value.oneCell']) (by decide)
      case hb => omega
      case h63 => omega
      case hbase => exact Nat.le_trans HB.out.size (by show wr.heap.size ≤ (wr.alloc _).heap.size; simp)
      rintro v3 w3 ho' hg' - -
      have hb2 : Below w1.heap.size w1 w3 := below_grown (((Tch.of_below [] HB.out).alloc _).drew.below0) (Nat.le_trans HB.out.size (by show wr.heap.size ≤ (wr.alloc _).heap.size; simp)) hg' (fun q hq => (HO.out.lt q hq).1)
      have hS3 := HSk.out _ _ hS1 fun b o v hb h => grown_cell hg' (fun hq => by have := (HO.out.lt b hq).1; rcases hb with rfl | rfl | rfl <;> omega) h
      refine hK.out _ _ (fun _ => hS3) ?_
      have hS := hS3
      clear hK K hS3 hS1 hg'
      have B3 := Lib.hid hb2
      have O3 := Lib.hid ho'
      clear hb2 ho'
      simp only [Act.put, List.setIfInBounds_toArray, List.set_cons_zero, List.set_cons_succ]
      refine s_take (fun _ => trivial) (by kernel_rfl) 13 rfl (by kernel_rfl) (by kernel_rfl) (by kernel_rfl) (by kernel_rfl) (fun _ _ _ h => h) (by rfl) (by intro w' hw; rw [HSd.out] at hw; obtain ⟨h0, h1, h2, h3, h4, h5, h6, h7, h8, h9⟩ := hw; go_simp; try (with_reducible rfl)) hS ?_
      simp only [List.getElem_toArray, List.getElem_cons_succ, List.getElem_cons_zero, Act.put, List.setIfInBounds_toArray, List.set_cons_zero, List.set_cons_succ]
      refine s_done (by kernel_rfl) ?_ _
      go_wp2_with fail
      go_roundw
      case rel => exact ⟨k + 1, by omega, by go_num, by have := O3.out; rw [HST.out]; unfold eits at this ⊢; rw [List.flatMap_append, List.flatMap_cons, List.flatMap_nil, List.append_nil]; exact this, B3.out⟩
      case measure => simp [intOf]; omega
    · obtain rfl : k = m := by omega
      go_wp2_with fail
      go_ret
      have hI : List.take k I = I := by rw [← HM.out, List.take_length]
      have ho := HO.out
      rw [hI] at ho
      refine ⟨_, I.map (itAt L bv), rfl, ?_, ?_, fun x hx => ?_, HBB.out⟩
      · rw [List.map_map, ← HIM.out]; rfl
      · rw [List.length_map, HM.out]; exact OwnC.base ho HB1.out.size
      · obtain ⟨i, hi, rfl⟩ := List.mem_map.1 hx
        have hin := HIL.out i hi
        rw [← HN.out] at hin
        have hia : itAt L bv i = (L[i], bv (L[i]).id) := by unfold itAt; rw [List.getD_eq_getElem?_getD, List.getElem?_eq_getElem hin]; rfl
        rw [hia]
        exact (H4.out _ (List.getElem_mem hin)).1.below HBB.out
end Go.Proofs.Ytkoihcfdchcgdaa
