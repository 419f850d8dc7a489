import Derived.Test.YtklgndmndnmdpaaHOpen
set_option linter.unusedVariables false
set_option linter.unusedSimpArgs false
namespace Go.Proofs.Ytklgndmndnmdpaa
open Go.RowKit Go.Shelf

set_option maxRecDepth 100000 in
set_option maxHeartbeats 4000000 in
theorem nil_row {w : World} (d : OpD) (hk : OkD w d) :
    Calls Try.prog 8 #[.agg (opd d).toArray] w fun e w' => e = .returned (.bool true) ∧ Below w.heap.size w w' := by
  have HK := Lib.hid hk
  have HBOX := Lib.hid (fun (W : World) => (rdc_box (w := W) (e := 49) (opd d) 1 13 rfl (opd_one d) (by decide)))
  clear hk
  have hopd : (opd d).toArray = #[.int .i64 d.x.kind, .int .i64 d.x.id, .string ⟨d.x.name.toArray⟩, .int .u8 d.x.m.pr, .int .u32 d.x.m.ttl, .int .u32 d.x.m.cnt, .string ⟨d.x.m.ids.toArray⟩, .slice d.A d.x.m.body.length d.c, .int .u8 d.x.o.k, .int .u64 d.x.o.a, .int .u64 d.x.o.b, .string ⟨d.x.o.c.toArray⟩, .int .i64 d.x.now] := by unfold opd hoc str; rfl
  have HO := Lib.hid hopd
  rw [hopd]
  clear hopd
  cases hv : vastL 0 [d] with
  | true =>
    have HV := Lib.hid hv
    clear hv
    go_enter Try.func8, Try.ntmps8
    go_wp2_with fail
    have hbx := HBOX.out (w.alloc (.cells (opd d).toArray 49))
    simp only [World.size_alloc] at hbx
    rw [HO.out] at hbx
    refine (vast_calls none 0 0 _ 1 1 [d] _ (by unfold opds; simpa using hbx) (by decide)).mono ?_
    rintro e w1 ⟨rfl, rfl⟩
    rw [HV.out]
    clear hbx
    go_wp2_with fail
    refine (works_calls _).mono ?_
    rintro e w2 ⟨rfl, b2⟩
    have B2 := Lib.hid b2
    clear b2
    go_wp2_with fail
    go_ret
    exact ⟨rfl, ((below_alloc w _).trans ((below_alloc _ _).mono (by simp))).trans (B2.out.mono (by simp; omega))⟩
  | false =>
    have HV := Lib.hid hv
    have hn : d.x.m.body.length ≤ 4096 := (vastL_false hv).2.2 d (by simp)
    clear hv
    go_enter Try.func8, Try.ntmps8
    go_wp2_with fail
    have hbx := HBOX.out (w.alloc (.cells (opd d).toArray 49))
    simp only [World.size_alloc] at hbx
    rw [HO.out] at hbx
    refine (vast_calls none 0 0 _ 1 1 [d] _ (by unfold opds; simpa using hbx) (by decide)).mono ?_
    rintro e w1 ⟨rfl, rfl⟩
    rw [HV.out]
    clear hbx
    go_wp2_with fail
    rw [← HO.out]
    have hb0 := below2 w (.cells (opd d).toArray 49) (.cells (opd d).toArray 49)
    refine (hdoes_nil d.x d.A d.c ⟨HK.out.rd.below hb0, hn, HK.out.ttl, HK.out.cnt⟩).mono ?_
    rintro e w2 ⟨A, n, c, rfl, b2⟩
    have BW := Lib.hid (below_then hb0 hb0.size b2)
    have hop : Bx w2 w.heap.size 49 (opd d) := ((Bx.new w 49 (opd d)).alloc _).below b2
    have hk0 := hop.cell 0 (.int .i64 d.x.kind) rfl
    have hk2 := hop.cell 2 (.string ⟨d.x.name.toArray⟩) rfl
    have hz := hop.lt
    have HOP := Lib.hid hop
    rw [HO.out]
    obtain ⟨E, hE⟩ : ∃ E : Int, ((if d.x.kind = 0 ∨ d.x.kind = 2 then 2 else 0 : Nat) : Int) = E := ⟨_, rfl⟩
    unfold tcs zTd zMg str
    dsimp only
    rw [hE]
    have HE := Lib.hid hE
    obtain ⟨K, hK⟩ : ∃ K, d.x.kind = K := ⟨_, rfl⟩
    have hKK := hK
    rw [hK] at hk0
    obtain ⟨TT, hTT⟩ : ∃ TT, (Value.agg #[Value.int .i64 d.x.kind, .int .i64 d.x.id, .string ⟨d.x.name.toArray⟩, .int .u8 d.x.m.pr, .int .u32 d.x.m.ttl, .int .u32 d.x.m.cnt, .string ⟨d.x.m.ids.toArray⟩, .slice d.A d.x.m.body.length d.c, .int .u8 d.x.o.k, .int .u64 d.x.o.a, .int .u64 d.x.o.b, .string ⟨d.x.o.c.toArray⟩, .int .i64 d.x.now]) = TT := ⟨_, rfl⟩
    rw [hTT]
    clear hK hTT b2 hE hop hb0
    by_cases hK0 : K = 0
    · subst hK0
      have HK0 : Hid (d.x.kind = 0) := Lib.hid hKK
      obtain rfl : E = 2 := by rw [← HE.out, if_pos (.inl hKK)]; rfl
      clear HE hKK
      go_wp2_with fail
      refine (hlen_nil d.x.name _).mono ?_
      rintro e w3 ⟨rfl, b3⟩
      have B3 := Lib.hid (below_then (below_alloc w2 _) (by simp) b3)
      have hop3 := HOP.out.below B3.out
      have k0 := hop3.cell 0 (.int .i64 d.x.kind) rfl
      have k2 := hop3.cell 2 (.string ⟨d.x.name.toArray⟩) rfl
      have kt := (Bx.new w2 43 [.string ⟨#[]⟩, .int .i64 0, .int .u8 0, .int .u32 0, .int .u32 0, .string ⟨#[]⟩, .slice A n c, .bool false, .int .i64 2]).below b3
      have kt7 := kt.cell 7 (.bool false) rfl
      have kt8 := kt.cell 8 (.int .i64 2) rfl
      rw [HK0.out] at k0
      clear b3 hop3 kt
      go_wp2_with fail
      refine (hlist_nil d.x.name _).mono ?_
      rintro e w4 ⟨rfl, rfl⟩
      go_wp2_with fail
      refine (hnames_nil _).mono ?_
      rintro e w5 ⟨rfl, b5⟩
      have B5 := Lib.hid b5
      clear b5 k0 k2 kt7 kt8 hk0 hk2
      go_wp2_with fail
      refine (hlost_nil _).mono ?_
      rintro e w6 ⟨rfl, rfl⟩
      go_wp2_with fail
      refine (works_calls _).mono ?_
      rintro e w7 ⟨rfl, b7⟩
      have B7 := Lib.hid b7
      clear b7
      go_wp2_with fail
      go_ret
      exact ⟨rfl, below_then (below_then (below_then BW.out BW.out.size B3.out) (Nat.le_trans BW.out.size B3.out.size) B5.out) (Nat.le_trans (Nat.le_trans BW.out.size B3.out.size) B5.out.size) B7.out⟩
    by_cases hK2 : K = 2
    · subst hK2
      have HK0 : Hid (d.x.kind = 2) := Lib.hid hKK
      obtain rfl : E = 2 := by rw [← HE.out, if_pos (.inr hKK)]; rfl
      clear HE hKK hK0
      go_wp2_with fail
      refine (hlen_nil d.x.name _).mono ?_
      rintro e w3 ⟨rfl, b3⟩
      have B3 := Lib.hid (below_then (below_alloc w2 _) (by simp) b3)
      have hop3 := HOP.out.below B3.out
      have k0 := hop3.cell 0 (.int .i64 d.x.kind) rfl
      have k2 := hop3.cell 2 (.string ⟨d.x.name.toArray⟩) rfl
      have kt := (Bx.new w2 43 [.string ⟨#[]⟩, .int .i64 0, .int .u8 0, .int .u32 0, .int .u32 0, .string ⟨#[]⟩, .slice A n c, .bool false, .int .i64 2]).below b3
      have kt7 := kt.cell 7 (.bool false) rfl
      have kt8 := kt.cell 8 (.int .i64 2) rfl
      rw [HK0.out] at k0
      clear b3 hop3 kt
      go_wp2_with fail
      refine (hlist_nil d.x.name _).mono ?_
      rintro e w4 ⟨rfl, rfl⟩
      go_wp2_with fail
      refine (hnames_nil _).mono ?_
      rintro e w5 ⟨rfl, b5⟩
      have B5 := Lib.hid b5
      clear b5 k0 k2 kt7 kt8 hk0 hk2
      go_wp2_with fail
      refine (hlost_nil _).mono ?_
      rintro e w6 ⟨rfl, rfl⟩
      go_wp2_with fail
      refine (works_calls _).mono ?_
      rintro e w7 ⟨rfl, b7⟩
      have B7 := Lib.hid b7
      clear b7
      go_wp2_with fail
      go_ret
      exact ⟨rfl, below_then (below_then (below_then BW.out BW.out.size B3.out) (Nat.le_trans BW.out.size B3.out.size) B5.out) (Nat.le_trans (Nat.le_trans BW.out.size B3.out.size) B5.out.size) B7.out⟩
    have HK0 : Hid (d.x.kind = K) := Lib.hid hKK
    have e1 : (K == 0) = false := by simp [hK0]
    have e2 : (K == 2) = false := by simp [hK2]
    clear HE hKK
    go_wp2_with fail
    refine (hlen_nil d.x.name _).mono ?_
    rintro e w3 ⟨rfl, b3⟩
    have B3 := Lib.hid (below_then (below_alloc w2 _) (by simp) b3)
    have hop3 := HOP.out.below B3.out
    have k0 := hop3.cell 0 (.int .i64 d.x.kind) rfl
    have k2 := hop3.cell 2 (.string ⟨d.x.name.toArray⟩) rfl
    have kt := (Bx.new w2 43 [.string ⟨#[]⟩, .int .i64 0, .int .u8 0, .int .u32 0, .int .u32 0, .string ⟨#[]⟩, .slice A n c, .bool false, .int .i64 E]).below b3
    have kt7 := kt.cell 7 (.bool false) rfl
    have kt8 := kt.cell 8 (.int .i64 E) rfl
    rw [HK0.out] at k0
    clear b3 hop3 kt
    go_wp2_with fail
    refine (hlist_nil d.x.name _).mono ?_
    rintro e w4 ⟨rfl, rfl⟩
    go_wp2_with fail
    refine (hnames_nil _).mono ?_
    rintro e w5 ⟨rfl, b5⟩
    have B5 := Lib.hid b5
    clear b5 k0 k2 kt7 kt8 hk0 hk2
    go_wp2_with fail
    refine (hlost_nil _).mono ?_
    rintro e w6 ⟨rfl, rfl⟩
    go_wp2_with fail
    refine (works_calls _).mono ?_
    rintro e w7 ⟨rfl, b7⟩
    have B7 := Lib.hid b7
    clear b7
    go_wp2_with fail
    go_ret
    exact ⟨rfl, below_then (below_then (below_then BW.out BW.out.size B3.out) (Nat.le_trans BW.out.size B3.out.size) B5.out) (Nat.le_trans (Nat.le_trans BW.out.size B3.out.size) B5.out.size) B7.out⟩
end Go.Proofs.Ytklgndmndnmdpaa
