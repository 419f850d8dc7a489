import Derived.Test.YtklgndmndnmdpaaQDrop
import Derived.Deep.RegionHeld3
set_option linter.unusedVariables false
set_option linter.unusedSimpArgs false
namespace Go.Proofs.Ytklgndmndnmdpaa
open Go.RowKit Go.Shelf

set_option maxRecDepth 100000 in
set_option maxHeartbeats 2000000 in
theorem qdrop_calls {w : World} {B : Nat} {F : List Nat} {q room limit last : Nat} {L : List En} {bk : Nat → Nat} {bv rv : Nat → Value} {e : En} (h : Qq w B F q room limit last L bk bv rv) (he : e ∈ L) :
    Calls Try.prog 74 #[.pointer (some ⟨q, 0, none⟩), ev (bk e.id)] w fun r w' => ∃ v', r = .returned (mgv e.m (bv e.id)) ∧ Qq w' B F q room limit last (less [e.id] L) bk bv (rvSet rv e.m.pr v') ∧ Tch F w w' := by
  have hp := (h.wf.ok e he).pr
  have hent : Bx w (bk e.id) 145 (ecs e (bv e.id)) := h.ent e he
  have hrow := h.rows _ hp
  obtain ⟨A, c, hv, hrd⟩ := hrow.rd
  obtain ⟨AB, cB, hbv, -⟩ := h.bod e he
  have e1 := hent.cell 1 _ rfl
  have e2 := hent.cell 2 _ rfl
  have e3 := hent.cell 3 _ rfl
  have e4 := hent.cell 4 _ rfl
  have e5 := hent.cell 5 _ rfl
  rw [hbv] at e5
  have hcr := h.cr _ hp
  have hqb : Bx w q 125 (hcs room limit last rv) := h.hd
  rw [hv] at hcr
  obtain ⟨p, hpe⟩ : ∃ p, e.m.pr = p := ⟨_, rfl⟩
  have hmg : mgv e.m (bv e.id) = .agg #[.int .u8 p, .int .u32 e.m.ttl, .int .u32 e.m.cnt, str e.m.ids, .slice AB e.m.body.length cB] := by unfold mgv; rw [hpe, hbv]
  obtain ⟨g, hg⟩ : ∃ g, w.heap.size = g := ⟨_, rfl⟩
  have hql := hqb.lt
  have hel := hent.lt
  unfold str at e4 hmg
  unfold ev
  have H := Lib.hid h
  have HE := Lib.hid he
  have HEnt := Lib.hid hent
  have HQb := Lib.hid hqb
  have HV := Lib.hid hv
  have HP := Lib.hid hpe
  have HM := Lib.hid hmg
  have HG := Lib.hid hg
  rw [hpe] at e1 hcr hp
  have hpi : (p : Int) < 10 := by omega
  clear h he hent hrow hv hrd hqb hpe hmg hbv hg
  go_enter Try.func74, Try.ntmps74
  go_wp2_with fail
  rw [HG.out]
  refine forget (fun W => Tch [] w W ∧ Bx W g 143 [.pointer (some ⟨bk e.id, 0, none⟩)] ∧ Bx W (g + 1) 41 [.int .u8 0, .int .u32 0, .int .u32 0, .string ⟨#[]⟩, .slice none 0 0]) ⟨((Tch.refl _ w).alloc _).alloc _, ((Bx.new' _ _ [_] HG.out.symm).alloc _), Bx.new' _ _ [_, _, _, _, _] (by simp [HG.out])⟩ ?_
  rintro W1 ⟨ht1, hb1, hb2⟩
  have g0 := hb1.cell 0 _ rfl
  have e1 := ht1.cell e1 (by simp)
  have e2 := ht1.cell e2 (by simp)
  have e3 := ht1.cell e3 (by simp)
  have e4 := ht1.cell e4 (by simp)
  have e5 := ht1.cell e5 (by simp)
  have hcr := ht1.cell hcr (by simp)
  have HT1 := Lib.hid ht1
  have HB1 := Lib.hid hb1
  have HB2 := Lib.hid hb2
  clear ht1 hb1 hb2
  go_quiet (fail)
  refine forgetX (fun W => Tch [] w W ∧ Bx W g 143 [.pointer (some ⟨bk e.id, 0, none⟩)] ∧ Bx W (g + 1) 41 [.int .u8 0, .int .u32 0, .int .u32 0, .string ⟨#[]⟩, .slice none 0 0]) ⟨HT1.out.drewN nq, HB1.out, HB2.out⟩ ?_
  clear g0 e1 e2 e3 e4 e5 hcr HT1 HB1 HB2 nq W1
  rintro W1 ⟨ht1, hb1, hb2⟩
  have g0 := hb1.cell 0 _ rfl
  have hq1 := (H.out.tch ht1 (by simp))
  have hcr := hq1.cr p hp
  have hv1 : rv p = .slice A (rowp L p).length c := by rw [← HP.out]; exact HV.out
  rw [hv1] at hcr
  have fq := (show Bx W1 q 125 (hcs room limit last rv) from hq1.hd).froz (3 + p)
  have hmk : ∀ W, (Instr.makeFunc (Fn.func 85) #[] #[.pointer (some ⟨g, 0, none⟩)]).run Try.prog W = .ok (.func (.func 85) #[] #[.pointer (some ⟨g, 0, none⟩)]) W := fun W => by rfl
  have HT1 := Lib.hid ht1
  have HB1 := Lib.hid hb1
  have HB2 := Lib.hid hb2
  have HQ1 := Lib.hid hq1
  have HV1 := Lib.hid hv1
  clear ht1 hb1 hb2 hq1 hv1
  go_wp2_with fail
  obtain ⟨bs, hbs⟩ : ∃ bs, bs = (rowp L p).map fun x => bk x.id := ⟨_, rfl⟩
  have hown := HQ1.out.rows p hp
  rw [HV1.out] at hown
  have hown' : OwnC 143 1 (fun _ => True) W1 0 (.slice A (rowp L p).length c) (rowp L p).length (bs.map ev) := by
    rw [hbs, List.map_map]
    exact hown.base (Nat.zero_le _)
  refine (deln_calls _ _ g bs (bk e.id) W1 hown' (HB1.out.cell 0 _ rfl) ?_ ?_ ?_).mono ?_
  · intro hk
    have h1 := H.out.lt g (H.out.fr p hp g (by rw [HV1.out]; exact hk))
    have h2 := HG.out
    omega
  · intro x hx
    rw [hbs] at hx
    obtain ⟨y, hy, rfl⟩ := List.mem_map.1 hx
    exact ⟨_, _, HQ1.out.ent y (mem_rowp.1 hy).1⟩
  · exact ⟨_, _, HQ1.out.ent e HE.out⟩
  rintro r w2 ⟨v', rfl, ho2, hvo, ht2⟩
  obtain ⟨A2, c2, rfl, -⟩ := ho2.rd
  have hne : ∀ k t cs, Bx W1 k t cs → t ≠ 143 → w2.heap[k]? = W1.heap[k]? := fun k t cs hB h1 => ht2.block k hB.lt fun hm => hown'.ne_bx hB h1.symm (by simpa using hm)
  have hE1 : Bx W1 (bk e.id) 145 (ecs e (bv e.id)) := HQ1.out.ent e HE.out
  have hE2 := hE1.keep (hne _ _ _ hE1 (by decide))
  have hB2 := HB2.out.keep (hne _ _ _ HB2.out (by decide))
  have hg2 : w2.heap[g]? = W1.heap[g]? := ht2.block g HB1.out.lt fun hm => by
    have h1 := H.out.lt g (H.out.fr p hp g (by rw [HV1.out]; simpa using hm))
    have h2 := HG.out
    omega
  have g0' := (HB1.out.keep hg2).cell 0 _ rfl
  have hqb1 : Bx W1 q 125 (hcs room limit last rv) := HQ1.out.hd
  have hqb2 := hqb1.keep (hne _ _ _ hqb1 (by decide))
  have fq2 := hqb2.froz (3 + p)
  have cq2 : w2.cell? ⟨q, 3 + p, none⟩ = some (.slice A (rowp L p).length c) := cell_of_block (hne _ _ _ hqb1 (by decide)) hcr
  have e1 := hE2.cell 1 _ rfl
  have e2 := hE2.cell 2 _ rfl
  have e3 := hE2.cell 3 _ rfl
  have e4 := hE2.cell 4 _ rfl
  have e5 := hE2.cell 5 _ rfl
  unfold str at e4
  rw [HP.out] at e1
  obtain ⟨AB', cB', hbv', -⟩ := H.out.bod e HE.out
  have hm5 : mgv e.m (bv e.id) = .agg #[.int .u8 p, .int .u32 e.m.ttl, .int .u32 e.m.cnt, .string ⟨e.m.ids.toArray⟩, .slice AB' e.m.body.length cB'] := by unfold mgv str; rw [HP.out, hbv']
  rw [hbv'] at e5
  have i0 := hB2.cell 0 _ rfl
  have i1 := hB2.cell 1 _ rfl
  have i2 := hB2.cell 2 _ rfl
  have i3 := hB2.cell 3 _ rfl
  have i4 := hB2.cell 4 _ rfl
  have j0 := hB2.froz 0
  have j1 := hB2.froz 1
  have j2 := hB2.froz 2
  have j3 := hB2.froz 3
  have j4 := hB2.froz 4
  have HE2 := Lib.hid hE2
  have HHB2 := Lib.hid hB2
  have HQB2 := Lib.hid hqb2
  have HO2 := Lib.hid ho2
  have HVO := Lib.hid hvo
  have HT2 := Lib.hid ht2
  have HM5 := Lib.hid hm5
  have HBS := Lib.hid hbs
  have HNE := Lib.hid hne
  have hqe : q ≠ bk e.id := hqb2.ne hE2 (by decide)
  have hqg : q ≠ g := fun e' => by have := HG.out; omega
  have hqg1 : q ≠ g + 1 := fun e' => by have := HG.out; omega
  have heg1 : bk e.id ≠ g + 1 := fun e' => by have := HG.out; omega
  clear hE2 hB2 hqb2 ho2 hvo ht2 hm5 hbs hne hown hown' hE1 hg2 hqb1 hbv' g0 hcr fq
  go_wp2_with fail
  refine forgetX (fun W => Bx W q 125 ((hcs room limit last rv).set (3 + p) (.slice A2 (dropN bs (bk e.id)).length c2)) ∧ Bx W (g + 1) 41 [.int .u8 p, .int .u32 e.m.ttl, .int .u32 e.m.cnt, .string ⟨e.m.ids.toArray⟩, .slice AB' e.m.body.length cB'] ∧ Tch [q, g + 1] w2 W) ⟨?_, ?_, ?_⟩ ?_
  · with_reducible exact (((((HQB2.out.set (3 + p) _).off (g := g + 1) hqg1).off (g := g + 1) hqg1).off (g := g + 1) hqg1).off (g := g + 1) hqg1).off (g := g + 1) hqg1
  · (with_reducible refine Bx.to ((((((HHB2.out.off (g := q) hqg1.symm).set 0 _).set 1 _).set 2 _).set 3 _).set 4 _) ?_); rfl
  · with_reducible repeat first | exact Tch.refl _ _ | refine Tch.setCell ?_ _ (.inl (by simp))
  rintro W3 ⟨hq3, hb3, ht3⟩
  refine bodyPost_ret (results_c rfl rfl (hb3.loadAgg (by kernel_rfl) (by kernel_rfl))) rfl ?_
  refine ⟨.slice A2 (dropN bs (bk e.id)).length c2, by rw [HM5.out], ?_, ?_⟩
  · have hbs2 : dropN bs (bk e.id) = (rowp (less [e.id] L) e.m.pr).map fun x => bk x.id := by
      rw [rowp_less_self H.out.wf.sorted HE.out, HBS.out, HP.out]
      exact dropN_map _ bk _ fun x hx hb => H.out.inj x (mem_rowp.1 hx).1 e HE.out hb
    refine Qq.dropped H.out HE.out ?_ ?_ ?_ ?_
    · have h1 := HO2.out.keepT (w' := W3) fun k cs' hB => ht3.block k hB.lt fun hm => by
        simp only [List.mem_cons, List.not_mem_nil, or_false] at hm
        rcases hm with rfl | rfl
        · exact hB.ne HQB2.out (by decide) rfl
        · exact hB.ne HHB2.out (by decide) rfl
      rw [hbs2, List.length_map, List.map_map] at h1
      rw [hbs2, List.length_map]
      exact h1
    · rw [HVO.out, HP.out, HV1.out]
    · rw [HP.out, ← hcs_set _ _ _ _ _ _ hp]; exact hq3
    · intro k h1 h2 h3
      have hkg : k ≠ g + 1 := fun e' => by have := HG.out; omega
      rw [ht3.block k (Nat.lt_of_lt_of_le h3 (Nat.le_trans HT1.out.size HT2.out.size)) (by simp [h1, hkg])]
      rw [HT2.out.block k (Nat.lt_of_lt_of_le h3 HT1.out.size) (fun hm => h2 (by rw [HP.out, HV1.out]; exact (by simpa using hm : _ = _).symm))]
      exact HT1.out.block k h3 (by simp)
  · have t1 : Tch F w w2 := (HT1.out.mono (by simp)).trans HT2.out fun j hj => .inl (H.out.fr p hp j (by rw [HV1.out]; simpa using hj))
    exact t1.trans ht3 fun j hj => by
      simp only [List.mem_cons, List.not_mem_nil, or_false] at hj
      rcases hj with rfl | rfl
      · exact .inl H.out.fq
      · exact .inr (by have := HG.out; omega)
end Go.Proofs.Ytklgndmndnmdpaa
