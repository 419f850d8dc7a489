import Derived.Test.YtklgndmndnmdpaaHBury
set_option linter.unusedVariables false
set_option linter.unusedSimpArgs false
namespace Go.Proofs.Ytklgndmndnmdpaa
open Go.RowKit Go.Shelf

def kci (name : List UInt8) (id : Int) : List Value := [str name, .int .i64 id]
/-- What becomes of a hall's queues, and of the number of lost ones, when an item is settled, and the error. -/
def hsetR (C : List Cf) (Qs : List Qu) (lost : Nat) (name : List UInt8) (id : Int) (o : Oc) (now : Int) : (List Qu × Nat) × Nat :=
  match (atC C name).bind fun i => (Qs[i]?).map fun x => (i, x) with
  | none => ((Qs, lost), 5)
  | some (i, x) =>
    match (setQ x.limit x.L id o).2.2 with
    | none => ((Qs.set i { x with L := (setQ x.limit x.L id o).1 }, lost), (setQ x.limit x.L id o).2.1)
    | some e => (hburyR C (Qs.set i { x with L := (setQ x.limit x.L id o).1 }) lost name e.m now, (setQ x.limit x.L id o).2.1)
theorem qf_set_any {w0 w : World} {Z : List Nat} {q room limit last : Nat} {L : List En} (h : QF w0 w Z q room limit last L) (id : Int) (o : Oc) :
    Calls Try.prog 56 #[.pointer (some ⟨q, 0, none⟩), .int .i64 id, .agg (occ o).toArray] w fun r w' => ∃ (md : Mg) (v : Value), r = .returned (.tuple #[mgv md v, .bool (setQ limit L id o).2.2.isSome, .int .i64 (setQ limit L id o).2.1]) ∧ (∀ e, (setQ limit L id o).2.2 = some e → md = e.m) ∧ Bdv w' v md.body ∧ QF w0 w' Z q room limit last (setQ limit L id o).1 ∧ Kz Z w0 w w' := by
  refine (qf_set h id o).mono ?_
  rintro r w' ⟨v, rfl, h1, h2, h3⟩
  cases hd : (setQ limit L id o).2.2 with
  | none => exact ⟨zMg, .slice none 0 0, rfl, fun e he => (by cases he), bdv_nil w', h2, h3⟩
  | some e => exact ⟨e.m, v, rfl, fun e' he => (by cases he; rfl), h1 e hd, h2, h3⟩
section
variable {w0 w : World} {G : List Nat} {h lost : Nat} {C : List Cf} {Qs : List Qu}
set_option maxRecDepth 100000 in
set_option maxHeartbeats 1000000 in
/-- The closure of Settle. -/
theorem hset1_calls (hf : HF w0 w G h C Qs lost) (name : List UInt8) (i : Nat) (hi : i < Qs.length) (hA : atC C name = some i) {kb ob hb nb : Nat} (id : Int) (o : Oc) (now : Int) (hG : ∀ k ∈ [kb, ob, hb, nb], k ∈ G)
    (hk : Bx w kb 37 (kci name id)) (ho : Bx w ob 47 (occ o)) (hh : Bx w hb 24 [.pointer (some ⟨h, 0, none⟩)]) (hn : Bx w nb 2 [.int .i64 now]) (hl : ∀ x ∈ Qs, x.last < 1000000) (hlo : lost < 1000000) :
    Calls Try.prog 55 #[.pointer (some ⟨(Qs[i]).q, 0, none⟩), .pointer (some ⟨kb, 0, none⟩), .pointer (some ⟨ob, 0, none⟩), .pointer (some ⟨hb, 0, none⟩), .pointer (some ⟨nb, 0, none⟩)] w fun e w' => ∃ b : Bool, e = .returned (.tuple #[.bool b, .int .i64 (hsetR C Qs lost name id o now).2]) ∧ HF w0 w' G h C (hsetR C Qs lost name id o now).1.1 (hsetR C Qs lost name id o now).1.2 ∧ Kz G w0 w w' := by
  obtain ⟨R, hR⟩ : ∃ R, hsetR C Qs lost name id o now = R := ⟨_, rfl⟩
  rw [hR]
  obtain ⟨S, hS⟩ : ∃ S, setQ (Qs[i]).limit (Qs[i]).L id o = S := ⟨_, rfl⟩
  have hR2 : R = (match S.2.2 with | none => ((Qs.set i { Qs[i] with L := S.1 }, lost), S.2.1) | some e => (hburyR C (Qs.set i { Qs[i] with L := S.1 }) lost name e.m now, S.2.1)) := by
    rw [← hR, ← hS]
    unfold hsetR
    rw [hA]
    simp only [Option.bind_some, List.getElem?_eq_getElem hi, Option.map_some]
  obtain ⟨Z, g1, g2, g3⟩ := hf.step i hi
  have hcl := qf_set_any g1 id o
  rw [hS] at hcl
  have hz : ∀ k ∈ [kb, ob, hb, nb], k ∈ Z := fun k hk => g2 k (hG k hk)
  have z1 := hz kb (by simp)
  have z2 := hz ob (by simp)
  have z3 := hz hb (by simp)
  have z4 := hz nb (by simp)
  obtain ⟨q, hq⟩ : ∃ q, (Qs[i]).q = q := ⟨_, rfl⟩
  rw [hq] at hcl ⊢
  have HCL := Lib.hid hcl
  have H := Lib.hid hf
  have HR2 := Lib.hid hR2
  have HL := Lib.hid hl
  have G3 := Lib.hid (show ∀ (L' : List En) (w' : World), QF w0 w' Z q (Qs[i]).room (Qs[i]).limit (Qs[i]).last L' → Kz Z w0 w w' → HF w0 w' G h C (Qs.set i { Qs[i] with L := L' }) lost ∧ Kz G w0 w w' from fun L' w' a b => g3 (Qs[i]).last L' w' (by rw [hq]; exact a) b)
  have K1 := Lib.hid hk
  have K2 := Lib.hid ho
  have K3 := Lib.hid hh
  have K4 := Lib.hid hn
  have a0 := hk.cell 0 (.string ⟨name.toArray⟩) rfl
  have a1 := hk.cell 1 (.int .i64 id) rfl
  have b0 := ho.cell 0 (.int .u8 o.k) rfl
  have b1 := ho.cell 1 (.int .u64 o.a) rfl
  have b2 := ho.cell 2 (.int .u64 o.b) rfl
  have b3 := ho.cell 3 (.string ⟨o.c.toArray⟩) rfl
  have Z1 := Lib.hid z1
  have Z2 := Lib.hid z2
  have Z3 := Lib.hid z3
  have Z4 := Lib.hid z4
  have HLS := Lib.hid (show ∀ L', ∀ x ∈ Qs.set i { Qs[i] with L := L' }, x.last < 1000000 from fun L' x hx => by
    rcases List.mem_or_eq_of_mem_set hx with hx | rfl
    · exact hl x hx
    · exact (hl (Qs[i]) (List.getElem_mem hi) :))
  clear hcl hf hR2 hl g1 g2 g3 hk ho hh hn z1 z2 z3 z4 hG hz hR hA hq hS
  unfold occ str at HCL
  go_enter Try.func55, Try.ntmps55
  go_wp2_with fail
  refine HCL.out.mono ?_
  rintro e w1 ⟨md, v, rfl, h1, h2, h3, h4⟩
  rw [mgv_eq']
  have hv1 := h2.one
  have V2 := Lib.hid h2
  have V4 := Lib.hid h4
  obtain ⟨f1, f2⟩ := G3.out S.1 w1 h3 h4
  have F1 := Lib.hid f1
  have F2 := Lib.hid f2
  have V1 := Lib.hid h1
  have c0 := (h4.bx K1.out (.inl Z1.out)).cell 0 (.string ⟨name.toArray⟩) rfl
  have c1 := (h4.bx K3.out (.inl Z3.out)).cell 0 _ rfl
  have c2 := (h4.bx K4.out (.inl Z4.out)).cell 0 _ rfl
  have e1 := (h4.bx K1.out (.inl Z1.out)).lt
  have e2 := (h4.bx K3.out (.inl Z3.out)).lt
  have e3 := (h4.bx K4.out (.inl Z4.out)).lt
  clear h1 h2 h3 h4 f1 f2 a0 a1 b0 b1 b2 b3
  obtain ⟨A, n, c, rfl⟩ : ∃ A n c, v = .slice A n c := by obtain ⟨A, c, hv, -⟩ := V2.out; exact ⟨A, _, c, hv⟩
  cases hd : S.2.2 with
  | none =>
    have HRE := Lib.hid (show R = ((Qs.set i { Qs[i] with L := S.1 }, lost), S.2.1) by rw [HR2.out, hd])
    obtain ⟨E, hE⟩ : ∃ E : Int, (S.2.1 : Int) = E := ⟨_, rfl⟩
    rw [hE]
    have HE := Lib.hid hE
    clear hE hd
    go_wp2_with fail
    have hE2 : (R.2 : Int) = E := by rw [HRE.out]; exact HE.out
    refine bodyPost_ret (results_tt rfl rfl rfl) rfl ⟨_, by rw [hE2]; rfl, ?_⟩
    rw [HRE.out]
    exact ⟨F1.out.below (below_alloc w1 _), F2.out.trans (F1.out.kz_of (below_alloc w1 _))⟩
  | some e =>
    have HRE := Lib.hid (show R = (hburyR C (Qs.set i { Qs[i] with L := S.1 }) lost name e.m now, S.2.1) by rw [HR2.out, hd])
    have hmd := V1.out e hd
    subst hmd
    obtain ⟨E, hE⟩ : ∃ E : Int, (S.2.1 : Int) = E := ⟨_, rfl⟩
    rw [hE]
    have HE := Lib.hid hE
    have hbu := hbury_calls (F1.out.below (below_alloc w1 (.cells (mcs e.m (.slice A n c)).toArray 41))) name e.m (.slice A n c) (V2.out.below (below_alloc w1 _)) (HLS.out S.1) hlo now
    rw [mgv_eq'] at hbu
    unfold str at hbu
    have HBU := Lib.hid hbu
    clear hE hd hbu
    go_wp2_with fail
    refine HBU.out.mono ?_
    rintro e' w2 ⟨⟨u, rfl⟩, j1, j2⟩
    have J1 := Lib.hid j1
    have J2 := Lib.hid j2
    clear j1 j2 c0 c1 c2 e1 e2 e3
    go_wp2_with fail
    have hE2 : (R.2 : Int) = E := by rw [HRE.out]; exact HE.out
    refine bodyPost_ret (results_tt rfl rfl rfl) rfl ⟨_, by rw [hE2]; rfl, ?_⟩
    rw [HRE.out]
    exact ⟨J1.out, (F2.out.trans (F1.out.kz_of (below_alloc w1 _))).trans J2.out⟩
end

section
variable {w0 w : World} {G : List Nat} {h lost : Nat} {C : List Cf} {Qs : List Qu}
set_option maxRecDepth 100000 in
theorem hwithB_none (hf : HF w0 w G h C Qs lost) (name : List UInt8) (hq : qAt C Qs name = none) (p1 p2 p3 p4 : Value) :
    Calls Try.prog 54 #[.pointer (some ⟨h, 0, none⟩), str name, .func (.func 55) #[] #[p1, p2, p3, p4]] w fun e w' => e = .returned (.tuple #[.bool false, .int .i64 5]) ∧ w = w' := by
  have hcl := hqueue_calls hf name
  rw [hq] at hcl
  unfold str at hcl ⊢
  have HCL := Lib.hid hcl
  clear hcl hq hf
  go_enter Try.func54, Try.ntmps54
  go_wp2_with fail
  refine HCL.out.mono ?_
  rintro e w' ⟨rfl, rfl⟩
  go_wp2_with fail
  refine bodyPost_ret (results_tt rfl rfl rfl) rfl ⟨rfl, rfl⟩
set_option maxRecDepth 100000 in
theorem hwithB_some (hf : HF w0 w G h C Qs lost) (name : List UInt8) {a : Addr} (hq : qAt C Qs name = some a) (p1 p2 p3 p4 : Value) (E : Int) (R : World → Prop)
    (hp : Calls Try.prog 55 #[.pointer (some a), p1, p2, p3, p4] w fun e w' => ∃ b : Bool, e = .returned (.tuple #[.bool b, .int .i64 E]) ∧ R w') :
    Calls Try.prog 54 #[.pointer (some ⟨h, 0, none⟩), str name, .func (.func 55) #[] #[p1, p2, p3, p4]] w fun e w' => ∃ b : Bool, e = .returned (.tuple #[.bool b, .int .i64 E]) ∧ R w' := by
  have hcl := hqueue_calls hf name
  rw [hq] at hcl
  unfold str at hcl ⊢
  have HCL := Lib.hid hcl
  have HP := Lib.hid hp
  clear hcl hq hf hp
  go_enter Try.func54, Try.ntmps54
  go_wp2_with fail
  refine HCL.out.mono ?_
  rintro e w' ⟨rfl, rfl⟩
  go_wp2_with fail
  refine HP.out.mono ?_
  rintro e w2 ⟨b, rfl, hR⟩
  have HR := Lib.hid hR
  clear hR
  go_wp2_with fail
  refine bodyPost_ret (results_tt rfl rfl rfl) rfl ⟨_, rfl, HR.out⟩
set_option maxRecDepth 100000 in
theorem hwithB_nil (name : List UInt8) (p1 p2 p3 p4 : Value) (w : World) :
    Calls Try.prog 54 #[.pointer none, str name, .func (.func 55) #[] #[p1, p2, p3, p4]] w fun e w' => e = .returned (.tuple #[.bool false, .int .i64 2]) ∧ w = w' := by
  unfold str
  go_enter Try.func54, Try.ntmps54
  go_wp2_with fail
  refine bodyPost_ret (results_tt rfl rfl rfl) rfl ⟨rfl, rfl⟩
end
section
variable {w0 w : World} {G : List Nat} {h lost : Nat} {C : List Cf} {Qs : List Qu}
theorem below4 (w : World) (o1 o2 o3 o4 : Obj) : Below w.heap.size w ((((w.alloc o1).alloc o2).alloc o3).alloc o4) := ((((below_alloc w o1).alloc (by simp) o2).alloc (by simp; omega) o3).alloc (by simp; omega) o4)
def setW (w : World) (p : Option Addr) (name : List UInt8) (id : Int) (o : Oc) (now : Int) : World :=
  (((w.alloc (.cells #[.pointer p] 24)).alloc (.cells #[.string ⟨name.toArray⟩, .int .i64 id] 37)).alloc (.cells #[.int .u8 o.k, .int .u64 o.a, .int .u64 o.b, .string ⟨o.c.toArray⟩] 47)).alloc (.cells #[.int .i64 now] 2)
set_option maxRecDepth 100000 in
theorem hset_of (p : Option Addr) (name : List UInt8) (id : Int) (o : Oc) (now : Int) (E : Int) (R : World → Prop)
    (hcl : Calls Try.prog 54 #[.pointer p, str name, .func (.func 55) #[] #[.pointer (some ⟨w.heap.size + 1, 0, none⟩), .pointer (some ⟨w.heap.size + 1 + 1, 0, none⟩), .pointer (some ⟨w.heap.size, 0, none⟩), .pointer (some ⟨w.heap.size + 1 + 1 + 1, 0, none⟩)]] (setW w p name id o now) fun e w' => ∃ b : Bool, e = .returned (.tuple #[.bool b, .int .i64 E]) ∧ R w') :
    Calls Try.prog 24 #[.pointer p, .agg (kci name id).toArray, .agg (occ o).toArray, .int .i64 now] w fun e w' => e = .returned (.int .i64 E) ∧ R w' := by
  unfold setW str at hcl
  have HCL := Lib.hid hcl
  have hmk : ∀ W, (Instr.makeFunc (Fn.func 55) #[] #[.pointer (some ⟨w.heap.size + 1, 0, none⟩), .pointer (some ⟨w.heap.size + 1 + 1, 0, none⟩), .pointer (some ⟨w.heap.size, 0, none⟩), .pointer (some ⟨w.heap.size + 1 + 1 + 1, 0, none⟩)]).run Try.prog W = .ok (.func (.func 55) #[] #[.pointer (some ⟨w.heap.size + 1, 0, none⟩), .pointer (some ⟨w.heap.size + 1 + 1, 0, none⟩), .pointer (some ⟨w.heap.size, 0, none⟩), .pointer (some ⟨w.heap.size + 1 + 1 + 1, 0, none⟩)]) W := fun W => rfl
  clear hcl
  unfold kci occ str
  go_enter Try.func24, Try.ntmps24
  go_wp2_with fail
  refine HCL.out.mono ?_
  rintro e w' ⟨b, rfl, h1⟩
  have H1 := Lib.hid h1
  clear h1 hmk
  go_wp2_with fail
  go_ret
  exact ⟨rfl, H1.out⟩
theorem hset_nil (name : List UInt8) (id : Int) (o : Oc) (now : Int) (w : World) :
    Calls Try.prog 24 #[.pointer none, .agg (kci name id).toArray, .agg (occ o).toArray, .int .i64 now] w fun e w' => e = .returned (.int .i64 2) ∧ Below w.heap.size w w' := by
  refine hset_of none name id o now 2 _ ((hwithB_nil name _ _ _ _ _).mono ?_)
  rintro e w' ⟨rfl, rfl⟩
  exact ⟨false, rfl, below4 w _ _ _ _⟩
theorem hset_calls (hf : HF w0 w G h C Qs lost) (name : List UInt8) (id : Int) (o : Oc) (now : Int) (hl : ∀ x ∈ Qs, x.last < 1000000) (hlo : lost < 1000000) :
    Calls Try.prog 24 #[.pointer (some ⟨h, 0, none⟩), .agg (kci name id).toArray, .agg (occ o).toArray, .int .i64 now] w fun e w' => e = .returned (.int .i64 (hsetR C Qs lost name id o now).2) ∧ HF w0 w' G h C (hsetR C Qs lost name id o now).1.1 (hsetR C Qs lost name id o now).1.2 ∧ Kz G w0 w w' := by
  have hb : Below w.heap.size w (setW w (some ⟨h, 0, none⟩) name id o now) := below4 w _ _ _ _
  have hf1 := hf.guest (N := [w.heap.size + 1, w.heap.size + 1 + 1, w.heap.size, w.heap.size + 1 + 1 + 1]) hb (fun k hk => by
    unfold setW
    simp only [List.mem_cons, List.not_mem_nil, or_false] at hk
    simp only [World.size_alloc]
    omega)
  refine hset_of (some ⟨h, 0, none⟩) name id o now _ _ ?_
  cases hq : qAt C Qs name with
  | none =>
    have hR : hsetR C Qs lost name id o now = ((Qs, lost), 5) := by unfold hsetR; rw [qAt_none hq]
    rw [hR]
    refine (hwithB_none hf1 name hq _ _ _ _).mono ?_
    rintro e w' ⟨rfl, rfl⟩
    exact ⟨false, rfl, hf.below hb, hf.kz_of hb⟩
  | some a =>
    obtain ⟨i, hi, hA, rfl, hbd⟩ := qAt_some hq
    refine hwithB_some hf1 name hq _ _ _ _ _ _ ?_
    refine (hset1_calls hf1 name i hi hA id o now (fun k hk => List.mem_append_left _ hk) ?_ ?_ ?_ ?_ hl hlo).mono ?_
    · exact ((Bx.new' (w.alloc _) 37 (kci name id) (by simp)).alloc _).alloc _
    · exact (Bx.new' ((w.alloc _).alloc _) 47 (occ o) (by simp)).alloc _
    · exact (((Bx.new w 24 [.pointer (some ⟨h, 0, none⟩)]).alloc _).alloc _).alloc _
    · exact Bx.new' (((w.alloc _).alloc _).alloc _) 2 [.int .i64 now] (by simp)
    · rintro e w' ⟨b, rfl, h1, h2⟩
      exact ⟨b, rfl, h1.less fun k hk => List.mem_append_right _ hk, (hf.kz_of hb).trans (h2.mono fun k hk => List.mem_append_right _ hk)⟩
end
end Go.Proofs.Ytklgndmndnmdpaa
