import Derived.Test.YtkoihcfdchcgdaaQNilL
set_option linter.unusedVariables false
set_option linter.unusedSimpArgs false
namespace Go.Proofs.Ytkoihcfdchcgdaa
open Go.RowKit Go.Shelf

def iv (k : Nat) : Value := .int .i64 k
/-- Does item i of a queue wait, of priority p? -/
def wtP (L : List En) (p i : Nat) : Bool := match L[i]? with | some e => !e.held && e.m.pr == p | none => false
def idxP (L : List En) (p k : Nat) : List Nat := (List.range k).filter (wtP L p)
def idxU (L : List En) (k : Nat) : List Nat := (prs.take k).flatMap fun p => idxP L p L.length
def idxs (L : List En) : List Nat := idxU L 10
theorem idxP_succ (L : List En) (p k : Nat) : idxP L p (k + 1) = idxP L p k ++ (if wtP L p k then [k] else []) := by
  unfold idxP
  rw [List.range_succ, List.filter_append]
  congr 1
  by_cases h : wtP L p k <;> simp [h]
theorem prs_upto (k : Nat) (hk : k < 10) : prs.take (k + 1) = prs.take k ++ [9 - k] := by
  have : ∀ k, k < 10 → prs.take (k + 1) = prs.take k ++ [9 - k] := by decide
  exact this k hk
theorem idxU_succ (L : List En) (k : Nat) (hk : k < 10) : idxU L (k + 1) = idxU L k ++ idxP L (9 - k) L.length := by
  unfold idxU
  rw [prs_upto k hk, List.flatMap_append]
  simp
theorem idxP_len (L : List En) (p k : Nat) : (idxP L p k).length ≤ k := by
  unfold idxP
  exact Nat.le_trans (List.length_filter_le _ _) (by simp)
theorem idxU_len (L : List En) (k : Nat) (hk : k ≤ 10) : (idxU L k).length ≤ k * L.length := by
  induction k with
  | zero => simp [idxU]
  | succ k ih =>
    rw [idxU_succ L k (by omega), List.length_append, Nat.succ_mul]
    have := ih (by omega)
    have := idxP_len L (9 - k) L.length
    omega
theorem idxP_map (L : List En) (p : Nat) : ∀ k, k ≤ L.length → (idxP L p k).filterMap (fun i => L[i]?) = (L.take k).filter (fun e => !e.held && e.m.pr == p)
  | 0, _ => by simp [idxP]
  | k + 1, hk => by
    rw [idxP_succ, List.filterMap_append, idxP_map L p k (by omega), List.take_succ_eq_append_getElem (by omega), List.filter_append]
    congr 1
    have hg : L[k]? = some L[k] := List.getElem?_eq_getElem (by omega)
    have hw : wtP L p k = (!(L[k]).held && (L[k]).m.pr == p) := by unfold wtP; rw [hg]
    rw [hw]
    by_cases h : (!(L[k]).held && (L[k]).m.pr == p) = true
    · simp only [List.filter_cons, List.filter_nil]
      rw [if_pos h, if_pos h]; simp [hg]
    · simp only [List.filter_cons, List.filter_nil]
      rw [if_neg h, if_neg h]; simp
theorem idx_ord (L : List En) : (idxs L).filterMap (fun i => L[i]?) = ordQ false L := by
  unfold idxs idxU ordQ
  rw [show prs.take 10 = prs from rfl, List.filterMap_flatMap]
  congr 1
  funext p
  rw [idxP_map L p L.length (Nat.le_refl _), List.take_length]
  unfold ask rowp
  rw [List.filter_filter]
  congr 1
  funext e
  cases e.held <;> simp
theorem idx_lt {L : List En} {i : Nat} (h : i ∈ idxs L) : i < L.length := by
  unfold idxs idxU at h
  obtain ⟨p, _, hp⟩ := List.mem_flatMap.1 h
  unfold idxP at hp
  have := (List.mem_filter.1 hp).1
  simpa using this
/-- An item of the document's queue: its cells are an entry's. -/
def eit (x : En × Value) : List Value := ecs x.1 x.2
theorem eit_length (x : En × Value) : (eit x).length = 8 := rfl
def eits (l : List (En × Value)) : List Value := l.flatMap eit
theorem Try.info_int : (Try.prog.info? 3).map (fun i => (i.zero, i.size, i.bytes)) = some (some (.int .i64 0), 1, 8) := by kernel_rfl
def rcs (room limit last : Nat) (lv : Value) : List Value := [.int .i64 room, .int .i64 limit, lv, .int .i64 last]

set_option maxRecDepth 100000 in
set_option maxHeartbeats 4000000 in
theorem wait_calls (w : World) (r room limit last : Nat) (A : Option Addr) (n c : Nat) (L : List (En × Value)) (h1 : Bx w r 90 (rcs room limit last (.slice A n c))) (h2 : RdC 8 w A n c (eits L)) (hn : n ≤ 1000) (hpr : ∀ x ∈ L, x.1.m.pr < 10) :
    Calls Try.prog 36 #[.pointer (some ⟨r, 0, none⟩)] w fun e w' => ∃ v, e = .returned v ∧ OwnC 3 1 (fun _ => True) w' w.heap.size v (idxs (L.map (·.1))).length ((idxs (L.map (·.1))).map iv) ∧ Below w.heap.size w w' := by
  have hl : n = L.length := by have := h2.1; rw [eits, flat_length eit 8 eit_length] at this; omega
  have H1 := Lib.hid h1
  have HPR := Lib.hid hpr
  have H2 := Lib.hid h2
  have HL := Lib.hid hl
  obtain ⟨E, hE⟩ : ∃ E, L.map (·.1) = E := ⟨_, rfl⟩
  have hEl : E.length = n := by rw [← hE, List.length_map]; exact hl.symm
  have HE := Lib.hid hE
  have HEL := Lib.hid hEl
  rw [hE]
  have c2 := h1.cell 2 _ rfl
  have hmx := h2.2.2.1
  have hlc := h2.2.1
  clear h1 h2 hl hE hEl hpr
  go_enter Try.func36, Try.ntmps36
  go_wp2_with fail
  go_loopw [3, 4, 5] (fun v p _ wr => ∃ (k : Nat), k ≤ 10 ∧ p = .int .i64 (9 - k) ∧ OwnC 3 1 (fun _ => True) wr w.heap.size v (idxU E k).length ((idxU E k).map iv) ∧ Below w.heap.size w wr) (fun _ p _ _ => (intOf p + 1).toNat)
  case atStart => exact ⟨0, by omega, rfl, OwnC.nil_, Below.refl _ _⟩
  case round =>
    obtain ⟨k, hk, rfl, ho, hb⟩ := hrel
    have HO := Lib.hid ho
    have HB := Lib.hid hb
    clear ho hb
    by_cases hk10 : k < 10
    · have hk' : (0 : Int) ≤ 9 - (k : Int) := by omega
      go_wp2_with fail
      have e9 : decide ((k : Int) ≤ 9) = true := decide_eq_true (by omega)
      rw [e9]
      clear e9
      go_loopw [3, 5] (fun v i W => ∃ (j : Nat), j ≤ n ∧ i = .int .i64 j ∧ OwnC 3 1 (fun _ => True) W w.heap.size v (idxU E k ++ idxP E (9 - k) j).length ((idxU E k ++ idxP E (9 - k) j).map iv) ∧ Below w.heap.size w W) (fun _ i _ => n - (intOf i).toNat)
      case atStart => exact ⟨0, by omega, rfl, by rw [show idxP E (9 - k) 0 = [] from rfl, List.append_nil]; exact HO.out, HB.out⟩
      case round =>
        obtain ⟨j, hj, rfl, ho, hb⟩ := hrel
        have HO2 := Lib.hid ho
        have HB2 := Lib.hid hb
        have c3 : wr.cell? ⟨r, 2, none⟩ = some (.slice A n c) := stays hb c2 (H1.out.lt)
        clear ho hb
        by_cases hjn : j < n
        · have hjL : j < L.length := by rw [← HL.out]; exact hjn
          have hjn' : (j : Int) < n := by omega
          obtain ⟨b0, o0, hA, hcell⟩ := flat_cells eit 8 (by decide) eit_length (H2.out.below HB2.out) j hjL
          subst hA
          obtain ⟨⟨e, ev⟩, he⟩ : ∃ q, L[j] = q := ⟨_, rfl⟩
          have hep : e.m.pr < 10 := by have := HPR.out L[j] (List.getElem_mem _); rw [he] at this; exact this
          rw [he] at hcell
          have g7 := hcell 7 _ rfl
          have g1 := hcell 1 _ rfl
          simp only [← Nat.add_assoc] at g1 g7
          have hw : wtP E (9 - k) j = (!e.held && e.m.pr == 9 - k) := by
            have : E[j]? = some e := by rw [← HE.out, List.getElem?_map, List.getElem?_eq_getElem hjL, he]; rfl
            unfold wtP
            rw [this]
          have hsu := idxP_succ E (9 - k) j
          rw [hw] at hsu
          have HW := Lib.hid hsu
          clear hw hsu hcell he
          cases hh : e.held with
          | true =>
            rw [hh] at g7
            have hx : idxP E (9 - k) (j + 1) = idxP E (9 - k) j := by rw [HW.out, hh]; simp
            have HX := Lib.hid hx
            clear hx hh
            go_wp2_with fail
            go_roundw
            case rel => exact ⟨j + 1, by omega, by go_num, by rw [HX.out]; exact HO2.out, HB2.out⟩
            case measure => simp [intOf]; omega
          | false =>
            rw [hh] at g7
            by_cases hp : e.m.pr = 9 - k
            · have hp' : (e.m.pr : Int) = 9 - k := by omega
              have hx : idxP E (9 - k) (j + 1) = idxP E (9 - k) j ++ [j] := by rw [HW.out, hh, hp]; simp
              have HX := Lib.hid hx
              have hlen := idxU_len E k (by omega)
              have hlen2 := idxP_len E (9 - k) j
              rw [HEL.out] at hlen
              have hlen3 : k * n ≤ 10 * 1000 := Nat.mul_le_mul hk hn
              have HLN := Lib.hid (show (idxU E k ++ idxP E (9 - k) j).length ≤ 20000 by rw [List.length_append]; omega)
              clear hx hh hlen hlen2 hlen3 hp
              obtain ⟨i0, hi, hz0, hz1, hz2⟩ := info_parts Try.info_int
              go_wp2_with (at_builtin; refine wpList_appC _ rfl _ _ _ rfl w.heap.size i0 _ 8 Try.underlying94 hi hz0 hz1 hz2 rfl (by decide) (fun _ _ => trivial) u3 (idxU E k ++ idxP E (9 - k) j).length ((idxU E k ++ idxP E (9 - k) j).map iv) rfl ?own (some ⟨wr.heap.size, 0, none⟩) 1 1 [iv j] rfl ?rd ?hb ?h63 ?hbase ?_)
              case own => exact HO2.out.alloc _
              case rd => exact rdc_box [iv j] 1 1 rfl (by simp [iv, Value.oneCell']) (by decide)
              case hb => have := HLN.out; omega
              case h63 => have := HLN.out; omega
              case hbase => have := HB2.out.size; simp; omega
              intro v1 w2 h1 h2 h3 h4
              have H1' := Lib.hid h1
              have H2' := Lib.hid (below_grown (HB2.out.alloc HB2.out.size _) (by have := HB2.out.size; simp; omega) h2 (fun k hk => (HO2.out.lt k hk).1))
              clear h1 h2 h3 h4
              go_wp2_with fail
              go_roundw
              case measure => simp [intOf]; omega
              case rel => exact ⟨j + 1, by omega, by go_num, by have := H1'.out; rw [HX.out]; simpa [List.append_assoc, Nat.add_assoc] using this, H2'.out⟩
            · have hp' : ¬ (e.m.pr : Int) = 9 - k := by omega
              have hpb : ((e.m.pr : Int) == 9 - (k : Int)) = false := by simp; omega
              have hx : idxP E (9 - k) (j + 1) = idxP E (9 - k) j := by rw [HW.out]; simp [hp]
              have HX := Lib.hid hx
              clear hx hh hp
              go_wp2_with fail
              go_roundw
              case rel => exact ⟨j + 1, by omega, by go_num, by rw [HX.out]; exact HO2.out, HB2.out⟩
              case measure => simp [intOf]; omega
        · obtain rfl : j = n := by omega
          go_wp2_with fail
          go_roundw
          case rel => exact ⟨k + 1, by omega, by go_num, by rw [idxU_succ E k hk10, HEL.out]; exact HO2.out, HB2.out⟩
          case measure => simp [intOf]; omega
    · obtain rfl : k = 10 := by omega
      go_wp2_with fail
      go_ret
      exact ⟨_, rfl, HO.out, HB.out⟩
end Go.Proofs.Ytkoihcfdchcgdaa
