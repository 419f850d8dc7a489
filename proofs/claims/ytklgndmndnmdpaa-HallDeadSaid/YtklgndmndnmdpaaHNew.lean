import Derived.Test.YtklgndmndnmdpaaHList
import Derived.StillTailTactics
set_option linter.unusedVariables false
set_option linter.unusedSimpArgs false
namespace Go.Proofs.Ytklgndmndnmdpaa
open Go.RowKit Go.Shelf

section pure
variable {κ : Type} [DecidableEq κ]
/-- A map of pairs, put one by one. -/
def dmap (ps : List (κ × Value)) : List (κ × Value) := ps.foldl (fun D p => mput D p.1 p.2) []
theorem dmap_snoc (ps : List (κ × Value)) (p : κ × Value) : dmap (ps ++ [p]) = mput (dmap ps) p.1 p.2 := by unfold dmap; rw [List.foldl_append]; rfl
theorem snoc_ind {α : Type} {P : List α → Prop} (h0 : P []) (h1 : ∀ l a, P l → P (l ++ [a])) (l : List α) : P l := by
  have : ∀ (n : Nat) (l : List α), l.length = n → P l := fun n => by
    induction n with
    | zero => intro l hl; rw [List.eq_nil_of_length_eq_zero hl]; exact h0
    | succ n ih =>
      intro l hl
      have hne : l ≠ [] := by intro e; subst e; cases hl
      rw [← List.dropLast_concat_getLast hne]
      exact h1 _ _ (ih _ (by rw [List.length_dropLast]; omega))
  exact this _ l rfl
theorem dmap_some (ps : List (κ × Value)) : ∀ n, (luk (dmap ps) n).isSome ↔ n ∈ ps.map (·.1) := by
  induction ps using snoc_ind with
  | h0 => intro n; simp [dmap, luk]
  | h1 ps p ih =>
    intro n
    rw [dmap_snoc, luk_put, List.map_append, List.mem_append, ← ih n]
    by_cases h : n = p.1
    · simp [h]
    · simp [h]
theorem dmap_nodup (ps : List (κ × Value)) : (ps.map (·.1)).Nodup → dmap ps = ps := by
  induction ps using snoc_ind with
  | h0 => intro _; rfl
  | h1 ps p ih =>
    intro h
    rw [List.map_append, List.nodup_append] at h
    rw [dmap_snoc]
    have hn : ¬ (luk (dmap ps) p.1).isSome := by
      rw [dmap_some]
      intro hm
      exact h.2.2 _ hm p.1 (by simp) rfl
    unfold mput
    rw [if_neg hn, ih h.1]
theorem mput_len (D : List (κ × Value)) (k : κ) (v : Value) : (mput D k v).length = if (luk D k).isSome then D.length else D.length + 1 := by
  unfold mput
  split <;> simp
theorem dmap_len (ps : List (κ × Value)) : (dmap ps).length ≤ ps.length ∧ (¬ (ps.map (·.1)).Nodup → (dmap ps).length < ps.length) := by
  induction ps using snoc_ind with
  | h0 => exact ⟨Nat.le_refl _, fun h => absurd List.nodup_nil h⟩
  | h1 ps p ih =>
    rw [dmap_snoc, mput_len, List.length_append, List.length_singleton]
    constructor
    · have := ih.1; split <;> omega
    · intro hn
      split
      · have := ih.1; omega
      · rename_i h1
        rw [dmap_some] at h1
        have : ¬ (ps.map (·.1)).Nodup := fun h2 => hn (by
          rw [List.map_append, List.nodup_append]
          refine ⟨h2, by simp, fun a ha b hb e => ?_⟩
          simp at hb
          subst hb e
          exact h1 ha)
        have := ih.2 this
        omega
end pure
/-- The pairs of a hall's map. -/
def pairsC (C : List Cf) (Qs : List Qu) : List (List UInt8 × Value) := List.zipWith (fun c x => (c.name, Value.pointer (some ⟨x.q, 0, none⟩))) C Qs
theorem pairsC_keys : ∀ (C : List Cf) (Qs : List Qu), Qs.length = C.length → (pairsC C Qs).map (·.1) = C.map (·.name)
  | [], [], _ => rfl
  | c :: C, x :: Qs, h => by
    have := pairsC_keys C Qs (by simpa using h)
    unfold pairsC at this ⊢
    simp only [List.zipWith_cons_cons, List.map_cons, this]
  | [], _ :: _, h => by cases h
  | _ :: _, [], h => by cases h
theorem pairsC_luk : ∀ (C : List Cf) (Qs : List Qu), Qs.length = C.length → ∀ n, luk (pairsC C Qs) n = (qAt C Qs n).map fun a => Value.pointer (some a)
  | [], [], _, n => rfl
  | c :: C, x :: Qs, h, n => by
    have ih := pairsC_luk C Qs (by simpa using h) n
    show luk ((c.name, Value.pointer (some ⟨x.q, 0, none⟩)) :: pairsC C Qs) n = _
    rw [luk_cons, ih]
    unfold qAt atC
    rw [List.findIdx?_cons]
    by_cases hc : c.name = n
    · simp [hc]
    · simp only [hc, decide_false, if_false]
      cases hA : List.findIdx? (fun c => decide (c.name = n)) C with
      | none => simp
      | some i => simp
  | [], _ :: _, h, _ => by cases h
  | _ :: _, [], h, _ => by cases h
theorem pairsC_snoc (C : List Cf) (Qs : List Qu) (c : Cf) (x : Qu) (h : Qs.length = C.length) : pairsC (C ++ [c]) (Qs ++ [x]) = pairsC C Qs ++ [(c.name, Value.pointer (some ⟨x.q, 0, none⟩))] := by
  unfold pairsC
  rw [List.zipWith_append h.symm]
  rfl
theorem Try.info_cf : (Try.prog.info? 23).map (fun i => (i.zero, i.size, i.bytes)) = some (some (.agg #[.string ⟨#[]⟩, .int .i64 0, .int .i64 0, .string ⟨#[]⟩]), 4, 48) := by kernel_rfl
theorem eqlC_nil (A : Option Addr) (n c : Nat) (W : World) : (binOp .eql 28 (.slice A n c) (.slice none 0 0)).run Try.prog W = .ok (.bool A.isNone) W :=
  Lib.run_eql_slice_nil W _ _ _ _ _ _ _ Try.underlying28
set_option maxHeartbeats 400000 in
theorem cloneC_calls (A : Option Addr) (n c : Nat) (C : List Cf) (w : World) (h : RdC 4 w A n c (C.flatMap cfs)) (hb : n ≤ 1000000) :
    Calls Try.prog 25 #[.slice A n c] w fun e w' => ∃ v, e = .returned v ∧ OwnC 23 4 (fun _ => True) w' w.heap.size v n (C.flatMap cfs) ∧ Below w.heap.size w w' := by
  have H := Lib.hid h
  have hmx := h.2.2.1
  have hlc := h.2.1
  cases A with
  | none =>
    have h0 := h.2.2.2.1 rfl
    obtain ⟨rfl, rfl⟩ := h0
    have hn : C.flatMap cfs = [] := List.eq_nil_of_length_eq_zero (by have := h.1; omega)
    rw [hn]
    clear h hn
    have hq := eqlC_nil none 0 0
    go_enter Try.func25, Try.ntmps25
    go_wp2_with fail
    go_ret
    exact ⟨_, rfl, OwnC.nil_, Below.refl _ _⟩
  | some ad =>
    obtain ⟨i0, hi, hz0, hz1', hz2'⟩ := info_parts Try.info_cf
    have hq := eqlC_nil (some ad) n c
    clear h
    go_enter Try.func25, Try.ntmps25
    go_wp2_with (at_builtin; refine wpList_appC _ rfl _ _ _ rfl w.heap.size i0 _ 48 Try.underlying28 hi hz0 hz1' hz2' rfl (by decide) (fun _ _ => trivial) (.slice (some ⟨w.heap.size, 0, none⟩) 0 0) 0 [] rfl ?own (some ad) n c (C.flatMap cfs) rfl ?rd ?hb ?h63 ?hbase ?_)
    case own =>
      refine OwnC.box0 ?_ ?_
      · simp
      · omega
    case rd => exact H.out.below (below_alloc w _)
    case hb => omega
    case h63 => omega
    case hbase => simp
    intro v2 w2 o2 g2 _ _
    have hB := Lib.hid (show Below w.heap.size w w2 from Below.grown (below_alloc w _) g2 (by simp) (fun k hk => by simp [Value.ownBlock] at hk; omega))
    have O2 := Lib.hid (show OwnC 23 4 (fun _ => True) w2 w.heap.size v2 n (C.flatMap cfs) by simpa using o2)
    clear o2 g2
    go_wp2_with fail
    go_ret
    exact ⟨_, rfl, O2.out, hB.out⟩

/-- What New has made of the first k configs. -/
structure NewI (w0 w : World) (h r : Nat) (cv : Value) (C : List Cf) (Qs : List Qu) (n : Nat) : Prop where
  bx : Bx w h 77 [cv, .map (some r), .int .i64 0]
  own : OwnC 23 4 (fun _ => True) w w0.heap.size cv n (C.flatMap cfs)
  map : MapS str w r (dmap (pairsC (C.take Qs.length) Qs))
  qs : HQs w0 w (h :: r :: cv.ownBlock.toList) Qs
  len : Qs.length ≤ C.length
  par : ∀ i (h1 : i < Qs.length) (h2 : i < C.length), (C[i]).room = (Qs[i]).room ∧ (C[i]).limit = (Qs[i]).limit
  new : ∀ x ∈ Qs, x.last = 0 ∧ x.L = []
  ok : ∀ c ∈ C.take Qs.length, okCf c = true
  ne : h ≠ r ∧ h ∉ cv.ownBlock.toList ∧ r ∉ cv.ownBlock.toList
theorem NewI.below {w0 w w' : World} {h r n : Nat} {cv : Value} {C : List Cf} {Qs : List Qu} (H : NewI w0 w h r cv C Qs n) (hb : Below w.heap.size w w') : NewI w0 w' h r cv C Qs n :=
  ⟨H.bx.below hb, H.own.below hb, H.map.tch (Tch.of_below [] hb) (by simp), H.qs.below hb, H.len, H.par, H.new, H.ok, H.ne⟩
/-- One queue more. -/
theorem NewI.step {w0 w w1 w2 : World} {h r n room limit : Nat} {cv : Value} {C : List Cf} {Qs : List Qu} (H : NewI w0 w h r cv C Qs n) {q : Nat} (hb : Below w.heap.size w w1) (hq : QF w w1 [] q room limit 0 [])
    (hk : Qs.length < C.length) (hc : okCf (C[Qs.length]) = true) (hr : (C[Qs.length]).room = room) (hl : (C[Qs.length]).limit = limit)
    (hm : MapS str w2 r (mput (dmap (pairsC (C.take Qs.length) Qs)) (C[Qs.length]).name (.pointer (some ⟨q, 0, none⟩)))) (t : Tch [r] w1 w2) : NewI w0 w2 h r cv C (Qs ++ [⟨q, room, limit, 0, []⟩]) n := by
  have H1 := H.below hb
  have hp : HQs w0 w1 (h :: r :: cv.ownBlock.toList) (Qs ++ [⟨q, room, limit, 0, []⟩]) := H.qs.push hb (x := ⟨q, room, limit, 0, []⟩) rfl hq
  have hT : C.take (Qs ++ [(⟨q, room, limit, 0, []⟩ : Qu)]).length = C.take Qs.length ++ [C[Qs.length]] := by
    rw [List.length_append, List.length_singleton]
    exact List.take_succ_eq_append_getElem hk
  refine ⟨H1.bx.tch t (by simpa using H.ne.1), H1.own.tch t fun k hk hm => ?_, ?_, hp.zset (t.mono (by simp)), ?_, fun i h1 h2 => ?_, fun x hx => ?_, fun c hcm => ?_, H.ne⟩
  · simp only [List.mem_singleton] at hm
    subst hm
    exact H.ne.2.2 (by simpa using hk)
  · rw [hT, pairsC_snoc _ _ _ _ (by rw [List.length_take]; omega), dmap_snoc]
    exact hm
  · rw [List.length_append, List.length_singleton]; omega
  · by_cases hi : i < Qs.length
    · rw [List.getElem_append_left hi]; exact H.par i hi h2
    · have hie : i = Qs.length := by rw [List.length_append, List.length_singleton] at h1; omega
      subst hie
      simp [hr, hl]
  · rcases List.mem_append.1 hx with hx | hx
    · exact H.new x hx
    · simp at hx; subst hx; exact ⟨rfl, rfl⟩
  · rw [hT] at hcm
    rcases List.mem_append.1 hcm with hx | hx
    · exact H.ok c hx
    · simp at hx; subst hx; exact hc
/-- All queues are made. -/
theorem NewI.hall {w0 w : World} {h r n : Nat} {cv : Value} {C : List Cf} {Qs : List Qu} (H : NewI w0 w h r cv C Qs n) (hn : C.length = n) (hq : Qs.length = C.length) (hnd : (C.map (·.name)).Nodup) (h8 : C.length ≤ 8) : HF w0 w [] h C Qs 0 := by
  have ht : C.take Qs.length = C := List.take_of_length_le (by omega)
  have hD : dmap (pairsC (C.take Qs.length) Qs) = pairsC C Qs := by rw [ht]; exact dmap_nodup _ (by rw [pairsC_keys _ _ hq]; exact hnd)
  refine ⟨⟨cv, r, pairsC C Qs, H.bx, ?_, ?_, pairsC_luk C Qs hq, ?_, by simp⟩, hq, fun i h1 h2 => H.par i h1 h2, h8⟩
  · rw [hn]; exact H.own
  · rw [← hD]; exact H.map
  · rw [List.append_nil]; exact H.qs

def zQp : Option Addr := none
/-- What New answers. -/
def NewP (w0 w : World) (C : List Cf) (e : Ending) (w' : World) : Prop := ∃ p : Option Addr, e = .returned (.tuple #[.pointer p, .int .i64 (newH C)]) ∧ Below w.heap.size w w' ∧ (newH C ≠ 0 → p = none) ∧ (newH C = 0 → ∃ h Qs, p = some ⟨h, 0, none⟩ ∧ HF w0 w' [] h C Qs 0 ∧ ∀ x ∈ Qs, x.last = 0 ∧ x.L = [])
theorem newP_bad {w0 w w' : World} {C : List Cf} (hb : Below w.heap.size w w') (k : Nat) (hk : k ≠ 0) (h : newH C = k) : NewP w0 w C (.returned (.tuple #[.pointer none, .int .i64 k])) w' :=
  ⟨none, by rw [h], hb, fun _ => rfl, fun h0 => absurd (h ▸ h0) hk⟩
set_option maxRecDepth 100000 in
set_option maxHeartbeats 4000000 in
theorem hnew_calls {w0 w : World} (hw0 : Below w0.heap.size w0 w) (A : Option Addr) (n c : Nat) (C : List Cf) (h : RdC 4 w A n c (C.flatMap cfs)) (hb : n ≤ 100000) (hwf : ∀ x ∈ C, (Lit.int .i64 x.room).wf = true ∧ (Lit.int .i64 x.limit).wf = true) :
    Calls Try.prog 9 #[.slice A n c] w (NewP w0 w C) := by
  have hn : C.length = n := by have := h.1; rw [flat_length cfs 4 cfs_length] at this; omega
  have HCL := Lib.hid (cloneC_calls A n c C w h (by omega))
  have HR := Lib.hid h
  have HN := Lib.hid hn
  have HW0 := Lib.hid hw0
  have HWF := Lib.hid hwf
  have hmx := h.2.2.1
  have hlc := h.2.1
  have hmm := @run_makeMap Try.prog
  clear h hn hw0 hwf
  go_enter Try.func9, Try.ntmps9
  go_wp2_with fail
  refine HCL.out.mono ?_
  rintro e w1 ⟨cv, rfl, o1, b1⟩
  have O1 := Lib.hid o1
  have B1 := Lib.hid b1
  obtain ⟨A1, c1, rfl⟩ := o1.slice
  clear o1 b1
  by_cases hn1 : (n : Int) < 1
  · have HX := Lib.hid (show newH C = 1 by unfold newH; rw [if_pos (.inl (by have := HN.out; omega))])
    go_wp2_with fail
    refine bodyPost_ret (results_tt rfl rfl rfl) rfl ?_
    exact newP_bad ((B1.out.alloc B1.out.size _).alloc (by simp; exact Nat.le_succ_of_le B1.out.size) _) 1 (by decide) HX.out
  · by_cases hn8 : 8 < (n : Int)
    · have HX := Lib.hid (show newH C = 1 by unfold newH; rw [if_pos (.inr (by have := HN.out; omega))])
      go_wp2_with fail
      refine bodyPost_ret (results_tt rfl rfl rfl) rfl ?_
      exact newP_bad ((B1.out.alloc B1.out.size _).alloc (by simp; exact Nat.le_succ_of_le B1.out.size) _) 1 (by decide) HX.out
    · go_wp2_with fail
      have q1 : decide ((n : Int) < 1) = false := decide_eq_false (by omega)
      have q2 : decide (8 < (n : Int)) = false := decide_eq_false (by omega)
      rw [q1, q2, show (false || false) = false from rfl]
      clear q1 q2
      obtain ⟨r, hr⟩ : ∃ r, w1.heap.size = r := ⟨_, rfl⟩
      rw [hr]
      refine forget (fun W => NewI w0 W (r + 1) r (.slice A1 n c1) C [] n ∧ Below w.heap.size w W) ⟨?_, (B1.out.alloc B1.out.size _).alloc (by simp; exact Nat.le_succ_of_le B1.out.size) _⟩ ?_
      · have hbx : Below w1.heap.size w1 ((w1.alloc (.map #[] 0)).alloc (.cells #[.slice A1 n c1, .map (some r), .int .i64 0] 77)) := below2 w1 _ _
        have hlt := fun k hk => O1.out.lt k hk
        have hs1 := B1.out.size
        have hs0 := HW0.out.size
        refine ⟨Bx.new' (w1.alloc _) 77 [.slice A1 n c1, .map (some r), .int .i64 0] (by simp; omega), (O1.out.below hbx).base hs0, ?_, HQs.nil (below_then HW0.out HW0.out.size ((B1.out.alloc B1.out.size _).alloc (by simp; exact Nat.le_succ_of_le B1.out.size) _)) fun k hk => ?_, by simp, by simp, by simp, by simp, by simp, fun hm => ?_, fun hm => ?_⟩
        · rw [← hr]
          exact (MapS.made w1).tch (Tch.of_below [] (below_alloc _ _)) (by simp)
        · simp only [World.size_alloc]
          rcases List.mem_cons.1 hk with rfl | hk
          · omega
          · rcases List.mem_cons.1 hk with rfl | hk
            · omega
            · have := hlt k (by simpa using hk); omega
        · have := hlt (r + 1) (by simpa using hm); omega
        · have := hlt r (by simpa using hm); omega
      rintro W ⟨hI, hbW⟩
      have HI := Lib.hid hI
      have HBW := Lib.hid hbW
      have HRW := Lib.hid (show w.heap.size ≤ r by have := B1.out.size; omega)
      clear hI hbW O1 B1 HCL hmm hr
      have hn1' : 1 ≤ (n : Int) := by omega
      have hn8' : (n : Int) ≤ 8 := by omega
      clear hn1 hn8
      go_loopw [6, 7, 8, 28] (fun _ _ _ i wr => ∃ (k : Nat), k ≤ n ∧ i = .int .i64 k ∧ Below w.heap.size w wr ∧ Hid (∃ Qs, Qs.length = k ∧ NewI w0 wr (r + 1) r (.slice A1 n c1) C Qs n)) (fun _ _ _ i _ => n - (intOf i).toNat)
      case atStart => exact ⟨0, by omega, rfl, HBW.out, Lib.hid ⟨[], rfl, HI.out⟩⟩
      case round =>
        obtain ⟨k, hk, rfl, hbl, HJ⟩ := hrel
        have HBL := Lib.hid hbl
        clear hbl
        obtain ⟨Qs, hQl, hNI⟩ := HJ.out
        have HQL := Lib.hid hQl
        have HNI := Lib.hid hNI
        have m1 := hNI.bx.cell 1 (.map (some r)) rfl
        clear HJ hQl hNI
        by_cases hkn : k < n
        · have hkn' : (k : Int) < n := by omega
          have hkl : k < C.length := by rw [HN.out]; exact hkn
          obtain ⟨b0, o0, e, hcell⟩ := flat_cells cfs 4 (by decide) cfs_length (HR.out.below HBL.out) k hkl
          subst e
          obtain ⟨p, hp⟩ : ∃ p, C[k] = p := ⟨_, rfl⟩
          rw [hp] at hcell
          have g0 := hcell 0 (.string ⟨p.name.toArray⟩) rfl
          have g1 := hcell 1 (.int .i64 p.room) rfl
          have g2 := hcell 2 (.int .i64 p.limit) rfl
          have g3 := hcell 3 (.string ⟨p.dead.toArray⟩) rfl
          simp only [← Nat.add_assoc, Nat.add_zero] at g0 g1 g2 g3
          have hpm : p ∈ C := by rw [← hp]; exact List.getElem_mem _
          obtain ⟨hw1, hw2⟩ := HWF.out p hpm
          have HBAD := Lib.hid (show okCf p = false → newH C = 1 from fun hf => by
            unfold newH
            rw [if_neg (by have := HN.out; omega), if_pos]
            rw [List.all_eq_false]
            exact ⟨p, hpm, by simp [hf]⟩)
          have HP := Lib.hid (show C[k]? = some p by rw [List.getElem?_eq_getElem hkl, hp])
          clear hcell hp hpm hkl
          by_cases hok : okNew p.room p.limit = false
          · have HBAD2 := Lib.hid (HBAD.out (by
              unfold okNew at hok
              unfold okCf
              have := of_decide_eq_false hok
              exact decide_eq_false (by omega)))
            have HNEW := Lib.hid (fun W => qf_new_bad p.room p.limit W hok hw1 hw2)
            clear hok hw1 hw2
            go_wp2_with fail
            refine (HNEW.out _).mono ?_
            rintro e w3 ⟨rfl, rfl⟩
            go_wp2_with fail
            refine bodyPost_ret (results_tt rfl rfl rfl) rfl ?_
            exact newP_bad (HBL.out.alloc HBL.out.size _) 1 (by decide) HBAD2.out
          · have hok' : okNew p.room p.limit = true := by simpa using hok
            have HOK := Lib.hid hok'
            have hrl : 1 ≤ p.room ∧ p.room ≤ 64 ∧ 0 ≤ p.limit ∧ p.limit ≤ 1000 := of_decide_eq_true hok'
            obtain ⟨rm, hrm⟩ : ∃ rm : Nat, p.room = rm := ⟨p.room.toNat, by omega⟩
            obtain ⟨lm, hlm⟩ : ∃ lm : Nat, p.limit = lm := ⟨p.limit.toNat, by omega⟩
            have hnq := qf_new (w0 := wr) (w := wr.alloc (.cells #[.string ⟨p.name.toArray⟩, .int .i64 p.room, .int .i64 p.limit, .string ⟨p.dead.toArray⟩] 23)) rm lm (below_alloc wr _) (by omega) (by omega) (by omega)
            rw [← hrm, ← hlm] at hnq
            have HNQ := Lib.hid hnq
            have HRM := Lib.hid hrm
            have HLM := Lib.hid hlm
            have HRL := Lib.hid hrl
            have hbx := Bx.new wr 23 [.string ⟨p.name.toArray⟩, .int .i64 p.room, .int .i64 p.limit, .string ⟨p.dead.toArray⟩]
            have HBX := Lib.hid hbx
            clear hok hok' hw1 hw2 hnq hrm hlm hrl hbx
            go_wp2_with fail
            refine HNQ.out.mono ?_
            rintro e w3 ⟨rfl, hq3, b3⟩
            have hb3 := HBX.out.below b3
            have HQ3 := Lib.hid hq3
            have B3 := Lib.hid (below_then (below_alloc wr _) (by simp) b3)
            have d0 := hb3.cell 0 (.string ⟨p.name.toArray⟩) rfl
            have m3 := stays_ B3.out m1
            clear hq3 b3 hb3 m1 g0 g1 g2 g3
            by_cases hemp : p.name = []
            · have HBAD2 := Lib.hid (HBAD.out (by
                unfold okCf
                exact decide_eq_false (by rw [hemp]; simp)))
              rw [hemp] at d0
              clear hemp
              go_wp2_with fail
              refine bodyPost_ret (results_tt rfl rfl rfl) rfl ?_
              exact newP_bad (below_then HBL.out HBL.out.size B3.out) 1 (by decide) HBAD2.out
            · have hemp' : p.name.isEmpty = false := by simpa using hemp
              by_cases h64 : 64 < p.name.length
              · have HBAD2 := Lib.hid (HBAD.out (by
                  unfold okCf
                  exact decide_eq_false (by omega)))
                go_wp2_with fail
                refine bodyPost_ret (results_tt rfl rfl rfl) rfl ?_
                exact newP_bad (below_then HBL.out HBL.out.size B3.out) 1 (by decide) HBAD2.out
              · go_wp2_with fail
                have hks : Qs.length < C.length := by rw [HQL.out, HN.out]; exact hkn
                have hcp : C[Qs.length] = p := by
                  have h1 := HP.out
                  rw [← HQL.out, List.getElem?_eq_getElem hks] at h1
                  exact Option.some.inj h1
                have HKS := Lib.hid hks
                have HCP := Lib.hid hcp
                have HOKC := Lib.hid (show okCf p = true by
                  have h1 := HRL.out
                  have h2 : p.name.length ≠ 0 := fun e => hemp (List.eq_nil_of_length_eq_zero e)
                  unfold okCf
                  exact decide_eq_true (by omega))
                have HM3 := Lib.hid (HNI.out.below B3.out).map
                clear hcp
                go_still_tail 7, (by kernel_rfl)
                change wpList _ _ _ _ _ w3.drew
                refine wpList_mput _ rfl _ _ _ rfl Try.underlying75 keyStr r (dmap (pairsC (C.take Qs.length) Qs)) rfl (HM3.out.keep rfl) p.name rfl (.pointer (some ⟨wr.heap.size + 1, 0, none⟩)) rfl ?_
                intro w4 hm4 ht4
                have T4 := Lib.hid ht4.of_drew
                have M4 := Lib.hid hm4
                clear hm4 ht4 d0 m3 hemp hemp' h64
                go_wp2_with fail
                go_roundw
                case rel =>
                  refine ⟨k + 1, by omega, by go_num, ?_, Lib.hid ⟨_, by rw [List.length_append, HQL.out]; rfl, HNI.out.step (q := wr.heap.size + 1) (room := rm) (limit := lm) B3.out ?_ HKS.out (by rw [HCP.out]; exact HOKC.out) (by rw [HCP.out]; exact HRM.out) (by rw [HCP.out]; exact HLM.out) (by rw [HCP.out]; exact M4.out) T4.out⟩⟩
                  · exact (below_then HBL.out HBL.out.size B3.out).trans (T4.out.below (Nat.le_trans HBL.out.size B3.out.size) fun k hk => by simp only [List.mem_singleton] at hk; subst hk; exact HRW.out)
                  · have := HQ3.out
                    simpa using this
                case measure => simp [intOf]; omega
        · obtain rfl : k = n := by omega
          have hDl := dmap_len (pairsC (C.take Qs.length) Qs)
          have hQC : Qs.length = C.length := by rw [HQL.out, HN.out]
          have htk : C.take Qs.length = C := List.take_of_length_le (by omega)
          have hpl : (pairsC (C.take Qs.length) Qs).length = k := by rw [← HQL.out, htk]; have := congrArg List.length (pairsC_keys C Qs hQC); simpa [hQC] using this
          have hkeys : ((pairsC (C.take Qs.length) Qs).map (·.1)) = C.map (·.name) := by rw [htk]; exact pairsC_keys C Qs hQC
          rw [hkeys, hpl] at hDl
          have hlen := fun W' (hm : MapS str W' r (dmap (pairsC (C.take Qs.length) Qs))) => hm.len Try.underlying75 3
          have hl1 := hlen wr HNI.out.map
          have hokA : C.all okCf = true := by
            rw [List.all_eq_true]
            intro x hx
            have := HNI.out.ok x
            rw [htk] at this
            exact this hx
          obtain ⟨d, hd⟩ : ∃ d, (dmap (pairsC (C.take Qs.length) Qs)).length = d := ⟨_, rfl⟩
          rw [hd] at hl1 hDl
          have HOKA := Lib.hid hokA
          have HQC := Lib.hid hQC
          have HD := Lib.hid hd
          clear hlen hkeys hpl htk hQC hd hokA
          have hn18 : ¬ (C.length < 1 ∨ 8 < C.length) := by have := HN.out; omega
          have HN18 := Lib.hid hn18
          clear hn18
          by_cases hnd : (C.map (·.name)).Nodup
          · have hdk : d = k := by
              have h1 := HD.out
              rw [dmap_nodup _ (by rw [List.take_of_length_le (by have := HQC.out; omega), pairsC_keys C Qs HQC.out]; exact hnd)] at h1
              rw [← h1, List.take_of_length_le (by have := HQC.out; omega)]
              have := congrArg List.length (pairsC_keys C Qs HQC.out)
              simpa [HN.out] using this
            subst hdk
            have HHF := Lib.hid (HNI.out.hall HN.out HQC.out hnd (by have := HN18.out; omega))
            have HNEW := Lib.hid HNI.out.new
            have HND := Lib.hid hnd
            clear hDl hnd HNI
            go_wp2_with fail
            obtain ⟨W2, hW2⟩ : ∃ W2 : World, W2 = wr := ⟨_, rfl⟩
            rw [← hW2] at HHF HBL
            have HW2 := Lib.hid (show Below W2.heap.size W2 wr by rw [hW2]; exact Below.refl _ _)
            clear hW2 hl1 m1
            obtain ⟨wo, hwo⟩ : ∃ wo : World, wo = wr := ⟨_, rfl⟩
            rw [← hwo] at HW2 ⊢
            clear hwo wr
            go_loopw [10, 11, 12, 71] (fun _ _ _ i wr => ∃ (k : Nat), k ≤ d ∧ i = .int .i64 k ∧ Below W2.heap.size W2 wr ∧ Hid (∀ j (hj : j < C.length), j < k → deadOk C C[j] = true)) (fun _ _ _ i _ => d - (intOf i).toNat)
            case atStart => exact ⟨0, by omega, rfl, HW2.out, Lib.hid fun j _ hj => by omega⟩
            case round =>
              obtain ⟨k, hk, rfl, hbl, HJ⟩ := hrel
              have HB2 := Lib.hid hbl
              have HBT := Lib.hid (below_then HBL.out HBL.out.size hbl)
              clear hbl
              by_cases hkn : k < d
              · have hkn' : (k : Int) < d := by omega
                have hkl : k < C.length := by rw [HN.out]; exact hkn
                obtain ⟨b0, o0, e, hcell⟩ := flat_cells cfs 4 (by decide) cfs_length (HR.out.below HBT.out) k hkl
                subst e
                obtain ⟨p, hp⟩ : ∃ p, C[k] = p := ⟨_, rfl⟩
                rw [hp] at hcell
                have g0 := hcell 0 (.string ⟨p.name.toArray⟩) rfl
                have g1 := hcell 1 (.int .i64 p.room) rfl
                have g2 := hcell 2 (.int .i64 p.limit) rfl
                have g3 := hcell 3 (.string ⟨p.dead.toArray⟩) rfl
                simp only [← Nat.add_assoc, Nat.add_zero] at g0 g1 g2 g3
                have hcf := hconfig_calls (HHF.out.below (below_then HB2.out HB2.out.size (below_alloc wr (.cells #[.string ⟨p.name.toArray⟩, .int .i64 p.room, .int .i64 p.limit, .string ⟨p.dead.toArray⟩] 23)))) p.dead
                have HBAD := Lib.hid (show deadOk C p = false → newH C = 1 from fun hf => by
                  unfold newH
                  rw [if_neg HN18.out, if_neg (by rw [HOKA.out]; simp), if_pos HND.out, if_neg]
                  intro hall
                  have := List.all_eq_true.1 hall p (by rw [← hp]; exact List.getElem_mem _)
                  rw [hf] at this
                  cases this)
                have HGOOD := Lib.hid (show deadOk C p = true → ∀ j (hj : j < C.length), j < k + 1 → deadOk C C[j] = true from fun hg j hj hjk => by
                  by_cases h' : j < k
                  · exact HJ.out j hj h'
                  · obtain rfl : j = k := by omega
                    rw [hp]; exact hg)
                obtain ⟨ot, hot⟩ : ∃ ot, cfgAt C p.dead = ot := ⟨_, rfl⟩
                obtain ⟨ok, hok⟩ : ∃ ok, (atC C p.dead).isSome = ok := ⟨_, rfl⟩
                have HDO := Lib.hid (show deadOk C p = (decide (p.dead = []) || (ok && decide (p.dead ≠ p.name) && decide (ot.dead = []))) by
                  unfold deadOk
                  rw [← hok, ← hot]
                  unfold cfgAt
                  cases hA : atC C p.dead with
                  | none => rfl
                  | some i =>
                    have hi : i < C.length := by
                      unfold atC at hA
                      rw [List.findIdx?_eq_some_iff_getElem] at hA
                      exact hA.1
                    simp [List.getElem?_eq_getElem hi])
                rw [hot, hok] at hcf
                unfold cfs str at hcf
                have HCF := Lib.hid hcf
                have hbx := Lib.hid (Bx.new wr 23 [.string ⟨p.name.toArray⟩, .int .i64 p.room, .int .i64 p.limit, .string ⟨p.dead.toArray⟩])
                clear hcf hot hok hcell hp hkl
                go_wp2_with fail
                refine HCF.out.mono ?_
                rintro e w3 ⟨rfl, b3⟩
                have k3 := hbx.out.below b3
                have d0 := k3.cell 0 (.string ⟨p.name.toArray⟩) rfl
                have d3 := k3.cell 3 (.string ⟨p.dead.toArray⟩) rfl
                have hl3 := k3.lt
                have B3 := Lib.hid (below_then HB2.out HB2.out.size (below_then (below_alloc wr _) (by simp) b3))
                clear b3 k3 g0 g1 g2 g3
                by_cases hde : p.dead = []
                · have HG := Lib.hid (HGOOD.out (by rw [HDO.out]; simp [hde]))
                  rw [hde] at d3
                  clear hde
                  go_wp2_with fail
                  exact ⟨⟨k + 1, by omega, by go_num, B3.out.alloc B3.out.size _, Lib.hid HG.out⟩, by simp [intOf]; omega⟩
                · have hde' : p.dead.isEmpty = false := by simpa using hde
                  have HDE := Lib.hid hde
                  cases ok with
                  | false =>
                    have HX := Lib.hid (HBAD.out (by rw [HDO.out, decide_eq_false HDE.out]; rfl))
                    clear hde
                    go_wp2_with fail
                    refine bodyPost_ret (results_tt rfl rfl rfl) rfl ?_
                    exact newP_bad (below_then HBL.out HBL.out.size (B3.out.alloc B3.out.size _)) 1 (by decide) HX.out
                  | true =>
                    by_cases hdn : p.dead = p.name
                    · have hdb : (p.dead == p.name) = true := by rw [hdn]; simp
                      have HX := Lib.hid (HBAD.out (by rw [HDO.out, decide_eq_false HDE.out, decide_eq_false (fun h => h hdn)]; rfl))
                      clear hde hdn
                      go_wp2_with fail
                      refine bodyPost_ret (results_tt rfl rfl rfl) rfl ?_
                      exact newP_bad (below_then HBL.out HBL.out.size (B3.out.alloc B3.out.size _)) 1 (by decide) HX.out
                    · have hdb : (p.dead == p.name) = false := by simpa using hdn
                      by_cases hod : ot.dead = []
                      · have hod' : ot.dead.isEmpty = true := by rw [hod]; rfl
                        have HG := Lib.hid (HGOOD.out (by rw [HDO.out, decide_eq_false HDE.out, decide_eq_true hdn, decide_eq_true hod]; rfl))
                        clear hde hdn hod
                        go_wp2_with fail
                        exact ⟨⟨k + 1, by omega, by go_num, B3.out.alloc B3.out.size _, Lib.hid HG.out⟩, by simp [intOf]; omega⟩
                      · have hod' : ot.dead.isEmpty = false := by simpa using hod
                        have HX := Lib.hid (HBAD.out (by rw [HDO.out, decide_eq_false HDE.out, decide_eq_true hdn, decide_eq_false hod]; rfl))
                        clear hde hdn hod
                        go_wp2_with fail
                        refine bodyPost_ret (results_tt rfl rfl rfl) rfl ?_
                        exact newP_bad (below_then HBL.out HBL.out.size (B3.out.alloc B3.out.size _)) 1 (by decide) HX.out
              · obtain rfl : k = d := by omega
                have HX := Lib.hid (show newH C = 0 by
                  unfold newH
                  rw [if_neg HN18.out, if_neg (by rw [HOKA.out]; simp), if_pos HND.out, if_pos]
                  rw [List.all_eq_true]
                  intro x hx
                  obtain ⟨j, hj, rfl⟩ := List.mem_iff_getElem.1 hx
                  exact HJ.out j hj (by have := HN.out; omega))
                go_wp2_with fail
                refine bodyPost_ret (results_tt rfl rfl rfl) rfl ?_
                exact ⟨some ⟨r + 1, 0, none⟩, by rw [HX.out]; rfl, HBT.out, fun h => absurd HX.out h, fun _ => ⟨r + 1, Qs, rfl, HHF.out.below HB2.out, HNEW.out⟩⟩
          · have hdk : (d : Int) < k := by have := hDl.2 hnd; omega
            have HX := Lib.hid (show newH C = 8 by
              unfold newH
              rw [if_neg HN18.out, if_neg (by rw [HOKA.out]; simp), if_neg hnd])
            clear hDl hnd
            go_wp2_with fail
            refine bodyPost_ret (results_tt rfl rfl rfl) rfl ?_
            exact newP_bad HBL.out 8 (by decide) HX.out
end Go.Proofs.Ytklgndmndnmdpaa
