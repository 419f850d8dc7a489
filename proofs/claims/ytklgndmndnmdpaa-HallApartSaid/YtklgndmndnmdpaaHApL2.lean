import Derived.Test.YtklgndmndnmdpaaHApL
set_option linter.unusedVariables false
set_option linter.unusedSimpArgs false
namespace Go.Proofs.Ytklgndmndnmdpaa
open Go.RowKit Go.Shelf

def apQ (q0 q1 : Nat) : Nat → List Qu
  | 0 => [⟨q0, 9, 2, 0, []⟩, ⟨q1, 9, 0, 0, []⟩]
  | 1 => [⟨q0, 9, 2, 0, []⟩, ⟨q1, 9, 0, 1, [⟨1, bM1, 0, false⟩]⟩]
  | _ => [⟨q0, 9, 2, 0, []⟩, ⟨q1, 9, 0, 2, [⟨1, bM1, 0, false⟩, ⟨2, bM2, 0, false⟩]⟩]
theorem ap_put1 (q0 q1 : Nat) : hputR CB (apQ q0 q1 0) [98] bM1 0 = (apQ q0 q1 1, 0) := by kernel_rfl
theorem ap_put2 (q0 q1 : Nat) : hputR CB (apQ q0 q1 1) [98] bM2 0 = (apQ q0 q1 2, 0) := by kernel_rfl
theorem ap_acq1 (q0 q1 : Nat) : hacqR CB (apQ q0 q1 2) [98] 0 = ([⟨q0, 9, 2, 0, []⟩, apX q1], some ⟨1, bM1, 0, false⟩) := by kernel_rfl
theorem ap_len (x0 : Qu) (q1 : Nat) : (ordQ false (qLs CB [x0, apX q1] [98])).length = 1 ∧ (ordQ true (qLs CB [x0, apX q1] [98])).length = 1 := ⟨by kernel_rfl, by kernel_rfl⟩
theorem ap_list (x0 : Qu) (q1 : Nat) : (ordQ false (qLs CB [x0, apX q1] [98])).map (·.m) = [bM2] := by kernel_rfl
theorem ap_has (x0 : Qu) (q1 : Nat) : hasQ CB [x0, apX q1] [98] = 0 := by
  unfold hasQ qAt
  rw [atC_b]
  rfl
theorem ap_set2 (x0 : Qu) (q1 lost : Nat) : (hsetR CB [x0, apX q1] lost [98] 1 ⟨2, 0, 0, []⟩ 0).2 = 0 := by
  unfold hsetR
  rw [atC_b]
  kernel_rfl
theorem nd_CB : (CB.map (·.name)).Nodup := by decide
set_option maxRecDepth 100000 in
set_option maxHeartbeats 8000000 in
theorem apart_row {w : World} (A : Option Addr) (c : Nat) (l : List OpD) (h : RdO w A c l) :
    Calls Try.prog 7 #[.slice A l.length c] w fun e w' => e = .returned (.bool true) ∧ Below w.heap.size w w' := by
  obtain ⟨hr, hok⟩ := h
  obtain ⟨n, hn⟩ : ∃ n, l.length = n := ⟨_, rfl⟩
  rw [hn] at hr ⊢
  have HR := Lib.hid hr
  have HN := Lib.hid hn
  have HOK := Lib.hid hok
  have HVA := Lib.hid (vast_calls none 0 0 A n c l w hr (by decide))
  have hlc := hr.2.1
  have hmx := hr.2.2.1
  clear hr hn hok
  cases hv : vastL 0 l with
  | true =>
    rw [hv] at HVA
    clear hv
    go_enter Try.func7, Try.ntmps7
    go_wp2_with fail
    refine HVA.out.mono ?_
    rintro e w1 ⟨rfl, rfl⟩
    go_wp2_with fail
    refine (works_calls _).mono ?_
    rintro e w2 ⟨rfl, b2⟩
    have B2 := Lib.hid b2
    clear b2
    go_wp2_with fail
    go_ret
    exact ⟨rfl, B2.out⟩
  | false =>
    have HVF := Lib.hid (vastL_false hv)
    have hn150 : n ≤ 150 := by have := HVF.out.2.1; have := HN.out; omega
    rw [hv] at HVA
    clear hv
    have hnw := hnew_calls (w0 := w) (w := w.alloc (.cells (CB.flatMap cfs).toArray 23)) (below_alloc w _) (some ⟨w.heap.size, 0, none⟩) 2 2 CB (rdc_box (CB.flatMap cfs) 2 4 rfl (by decide) (by decide)) (by decide) (by decide)
    have HNW := Lib.hid hnw
    have hcb : (CB.flatMap cfs).toArray = #[.string ⟨#[97]⟩, .int .i64 9, .int .i64 2, .string ⟨#[]⟩, .string ⟨#[98]⟩, .int .i64 9, .int .i64 0, .string ⟨#[]⟩] := by kernel_rfl
    rw [hcb] at HNW
    clear hnw hcb
    have kc := fun (w : World) (C : Array Value) (n c : Nat) => Lib.run_convert_bytes_const (P := Try.prog) w 39 5 C n c Try.underlying39 Try.underlying5
    go_enter Try.func7, Try.ntmps7
    go_wp2_with fail
    refine HVA.out.mono ?_
    rintro e w1 ⟨rfl, rfl⟩
    go_wp2_with fail
    refine HNW.out.mono ?_
    rintro e w2 ⟨p, rfl, hb2, -, h0⟩
    obtain ⟨h, Qs, rfl, hf, hnew⟩ := h0 newH_CB
    obtain ⟨qs, hql, rfl⟩ := startQ_of hf hnew
    obtain ⟨q0, q1, rfl⟩ : ∃ q0 q1, qs = [q0, q1] := by
      match qs, hql with
      | [a, b], _ => exact ⟨a, b, rfl⟩
    have HF0 : Hid (HF w w2 [] h CB (apQ q0 q1 0) 0) := Lib.hid hf
    rw [newH_CB]
    clear h0 hf hnew hql HNW hb2 HVA
    go_wp2_with fail
    have hpt := hput_calls (HF0.out.below (below_alloc w2 (.cells #[.int .u8 111, .int .u8 110, .int .u8 101] 5 (3, 4)))) [98] bM1 (some ⟨w2.heap.size, 0, none⟩) 3 3 rfl (rd_const rfl rfl (by decide)) (by decide) (by decide) (by intro x hx; simp only [apQ, List.mem_cons, List.not_mem_nil, or_false] at hx; rcases hx with rfl | rfl <;> exact Nat.le_of_ble_eq_true rfl) 0
    rw [ap_put1] at hpt
    refine hpt.mono ?_
    rintro e w3 ⟨rfl, hf3, -⟩
    have HF3 := Lib.hid hf3
    clear hpt hf3 HF0
    go_wp2_with fail
    have hpt := hput_calls (HF3.out.below (below_alloc w3 (.cells #[.int .u8 116, .int .u8 119, .int .u8 111] 5 (3, 4)))) [98] bM2 (some ⟨w3.heap.size, 0, none⟩) 3 3 rfl (rd_const rfl rfl (by decide)) (by decide) (by decide) (by intro x hx; simp only [apQ, List.mem_cons, List.not_mem_nil, or_false] at hx; rcases hx with rfl | rfl <;> exact Nat.le_of_ble_eq_true rfl) 0
    rw [ap_put2] at hpt
    refine hpt.mono ?_
    rintro e w4 ⟨rfl, hf4, -⟩
    have HF4 := Lib.hid hf4
    clear hpt hf4 HF3 kc
    go_wp2_with fail
    refine (hacq_calls HF4.out [98] 0).mono ?_
    rintro e w5 ⟨hor, hf5, -⟩
    rw [ap_acq1] at hor hf5
    obtain ⟨e5, v5, he5, rfl, hbd⟩ : ∃ e5 v5, (some (⟨1, bM1, 0, false⟩ : En)) = some e5 ∧ e = .returned (.tuple #[.agg (kcs [98] e5.id).toArray, mgv e5.m v5, .bool true]) ∧ Bdv w5 v5 e5.m.body := by
      rcases hor with ⟨h1, -⟩ | ⟨e5, v5, h1, h2, h3⟩
      · cases h1
      · exact ⟨e5, v5, h1, h2, h3⟩
    cases he5
    obtain ⟨A5, c5, rfl, -⟩ := hbd
    have HF5 := Lib.hid hf5
    clear hf5 hor HF4
    rw [show (kcs [98] (⟨1, bM1, 0, false⟩ : En).id).toArray = #[.string ⟨#[98]⟩, .int .i64 1] from rfl, show mgv (⟨1, bM1, 0, false⟩ : En).m (.slice A5 ((⟨1, bM1, 0, false⟩ : En).m.body.length) c5) = .agg #[.int .u8 0, .int .u32 0, .int .u32 0, .string ⟨#[]⟩, .slice A5 3 c5] from rfl]
    go_wp2_with fail
    obtain ⟨kb, hkb⟩ : ∃ kb, w5.heap.size = kb := ⟨_, rfl⟩
    rw [hkb]
    refine forget (fun W => HF w W ([kb] ++ []) h CB [⟨q0, 9, 2, 0, []⟩, apX q1] 0 ∧ Bx W kb 37 (kcs [98] 1)) ⟨HF5.out.guest (N := [kb]) (below2 w5 _ _) (fun k hk => by simp at hk; simp; omega), (Bx.new' w5 37 (kcs [98] 1) hkb.symm).alloc _⟩ ?_
    rintro W6 ⟨hf6, hk6⟩
    have HF6 := Lib.hid hf6
    have HK6 := Lib.hid hk6
    clear hf6 hk6 HF5 hkb
    go_loopw [8, 9, 10, 11] (fun i _ _ _ wr => ∃ (k : Nat), k ≤ n ∧ i = .int .i64 k ∧ Hid (∃ x0 lost, HF w wr ([kb] ++ []) h CB [x0, apX q1] lost ∧ (∀ x ∈ [x0, apX q1], x.last ≤ 2 + 512 * k) ∧ lost ≤ 2 + 512 * k ∧ Bx wr kb 37 (kcs [98] 1))) (fun i _ _ _ _ => n - (intOf i).toNat)
    case atStart => exact ⟨0, by omega, rfl, Lib.hid ⟨_, _, HF6.out, by intro x hx; simp only [List.mem_cons, List.not_mem_nil, or_false] at hx; rcases hx with rfl | rfl <;> simp [apX], by omega, HK6.out⟩⟩
    case round =>
      obtain ⟨k, hk, rfl, HJ⟩ := hrel
      obtain ⟨x0, lost, hf, hla, hlo, hkx⟩ := HJ.out
      have HFJ := Lib.hid hf
      have HLA := Lib.hid hla
      have HLO := Lib.hid hlo
      have HKX := Lib.hid hkx
      clear HJ hf hla hlo HF6 HK6
      by_cases hkn : k < n
      · clear hkx
        have hkn' : (k : Int) < n := by omega
        have hkl : k < l.length := by rw [HN.out]; exact hkn
        obtain ⟨b0, o0, e, hcell⟩ := flat_cells opd 13 (by decide) opd_length (HR.out.below HFJ.out.blw) k hkl
        subst e
        obtain ⟨d, hd⟩ : ∃ d, l[k] = d := ⟨_, rfl⟩
        rw [hd] at hcell
        have hdm : d ∈ l := by rw [← hd]; exact List.getElem_mem _
        have g0 := hcell 0 (.int .i64 d.x.kind) rfl
        have g1 := hcell 1 (.int .i64 d.x.id) rfl
        have g2 := hcell 2 (.string ⟨d.x.name.toArray⟩) rfl
        have g3 := hcell 3 (.int .u8 d.x.m.pr) rfl
        have g4 := hcell 4 (.int .u32 d.x.m.ttl) rfl
        have g5 := hcell 5 (.int .u32 d.x.m.cnt) rfl
        have g6 := hcell 6 (.string ⟨d.x.m.ids.toArray⟩) rfl
        have g7 := hcell 7 (.slice d.A d.x.m.body.length d.c) rfl
        have g8 := hcell 8 (.int .u8 d.x.o.k) rfl
        have g9 := hcell 9 (.int .u64 d.x.o.a) rfl
        have g10 := hcell 10 (.int .u64 d.x.o.b) rfl
        have g11 := hcell 11 (.string ⟨d.x.o.c.toArray⟩) rfl
        have g12 := hcell 12 (.int .i64 d.x.now) rfl
        simp only [← Nat.add_assoc, Nat.add_zero] at g0 g1 g2 g3 g4 g5 g6 g7 g8 g9 g10 g11 g12
        have HDO := Lib.hid (fun W (hbW : Below wr.heap.size wr W) => hdoes_calls (r := ([x0, apX q1], lost)) (HFJ.out.below hbW) nd_CB (B := 2 + 512 * k) (by omega) HLA.out HLO.out { d.x with name := [97] } d.A d.c ⟨((HOK.out d hdm).rd.below (HFJ.out.blw)).below hbW, HVF.out.2.2 d hdm, (HOK.out d hdm).ttl, (HOK.out d hdm).cnt⟩)
        have hoc' : ∀ v, (hoc { d.x with name := [97] } v).toArray = #[.int .i64 d.x.kind, .int .i64 d.x.id, .string ⟨#[97]⟩, .int .u8 d.x.m.pr, .int .u32 d.x.m.ttl, .int .u32 d.x.m.cnt, .string ⟨d.x.m.ids.toArray⟩, v, .int .u8 d.x.o.k, .int .u64 d.x.o.a, .int .u64 d.x.o.b, .string ⟨d.x.o.c.toArray⟩, .int .i64 d.x.now] := fun v => by unfold hoc str; rfl
        have HHO := Lib.hid hoc'
        clear hcell hd hkl hdm hoc'
        go_wp2_with fail
        rw [← HHO.out]
        refine (HDO.out _ (below_alloc wr _)).mono ?_
        rintro e w7 ⟨v7, rfl, -, hf7, kz7, hla7, hlo7⟩
        obtain ⟨x0', lost', hE⟩ := ap_do q1 (x0 := x0) (lost := lost) { d.x with name := [97] } rfl
        rw [hE] at hf7 hla7 hlo7
        have HF7 := Lib.hid hf7
        have HLA7 := Lib.hid hla7
        have HLO7 := Lib.hid hlo7
        have HK7 := Lib.hid (kz7.bx (HKX.out.alloc (.cells (hoc { d.x with name := [97] } (.slice d.A d.x.m.body.length d.c)).toArray 49)) (.inl (by simp)))
        rw [HHO.out]
        obtain ⟨tv, htv⟩ : ∃ tv, Value.agg (tcs (hdoR CB ([x0, apX q1], lost) { d.x with name := [97] }).2 v7).toArray = tv := ⟨_, rfl⟩
        rw [htv]
        clear hf7 kz7 hla7 hlo7 hE htv g0 g1 g2 g3 g4 g5 g6 g7 g8 g9 g10 g11 g12 HDO HHO
        go_wp2_with fail
        refine (hlen_calls HF7.out [98]).mono ?_
        rintro e w8 ⟨rfl, b8⟩
        rw [(ap_len x0' q1).1, (ap_len x0' q1).2]
        have HF8 := Lib.hid (HF7.out.below b8)
        have HK8 := Lib.hid (HK7.out.below b8)
        clear b8 HF7 HK7
        go_wp2_with fail
        exact ⟨⟨k + 1, by omega, by go_num, Lib.hid ⟨x0', lost', HF8.out, fun x hx => by have := HLA7.out x hx; omega, by have := HLO7.out; omega, HK8.out⟩⟩, by simp [intOf]; omega⟩
      · obtain rfl : k = n := by omega
        have hk0 := hkx.cell 0 (.string ⟨#[98]⟩) rfl
        have hk1 := hkx.cell 1 (.int .i64 1) rfl
        clear hkx
        go_wp2_with fail
        refine (hlist_calls HFJ.out [98]).mono ?_
        rintro e w7 ⟨v, ms, rfl, hms, hml, b7⟩
        rw [ap_list] at hms
        obtain ⟨bv, rfl⟩ : ∃ bv, ms = [(bM2, bv)] := by
          match ms, hms with
          | [(m, bv)], h => exact ⟨bv, by simpa using h⟩
        obtain ⟨A7, c7, rfl⟩ := hml.1.slice
        obtain ⟨g7, c7', hv, -⟩ := hml.1.form Nat.one_pos
        cases hv
        obtain ⟨Ab, cb, hbv, hrd, -⟩ := hml.2 _ (List.mem_singleton.2 rfl)
        simp only at hbv
        subst hbv
        rw [ap_has]
        have e4 := (hml.1.cell_at 4 (.slice Ab 3 cb) rfl).1
        obtain ⟨ad, rfl, -⟩ := hrd.cell 0 (u8 116) rfl
        have hcv : (convert 39 9 (.slice (some ad) 3 cb)).run Try.prog w7 = .ok (.string ⟨#[116, 119, 111]⟩) w7 := conv_rd hrd
        have HF7 := Lib.hid (HFJ.out.below b7)
        have hk7 := HKX.out.below b7
        have l0 := hk7.cell 0 (.string ⟨#[98]⟩) rfl
        have l1 := hk7.cell 1 (.int .i64 1) rfl
        have hst := hset_calls HF7.out [98] 1 ⟨2, 0, 0, []⟩ 0 (fun x hx => by have := HLA.out x hx; omega) (by have := HLO.out; omega)
        rw [ap_set2] at hst
        have HST := Lib.hid hst
        clear hms hml b7 hrd hk7 hk0 hk1 HKX HFJ hst
        go_wp2_with fail
        refine HST.out.mono ?_
        rintro e w8 ⟨rfl, hf8, -⟩
        have HF8 := Lib.hid hf8.blw
        clear hf8 HST HF7 l0 l1 e4 hcv
        go_wp2_with fail
        refine (works_calls _).mono ?_
        rintro e w9 ⟨rfl, b9⟩
        have B9 := Lib.hid b9
        clear b9
        go_wp2_with fail
        go_ret
        exact ⟨rfl, below_then HF8.out HF8.out.size B9.out⟩
end Go.Proofs.Ytklgndmndnmdpaa
