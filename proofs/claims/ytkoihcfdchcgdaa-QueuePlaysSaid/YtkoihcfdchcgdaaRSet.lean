import Derived.Test.YtkoihcfdchcgdaaRPut
set_option linter.unusedVariables false
set_option linter.unusedSimpArgs false
namespace Go.Proofs.Ytkoihcfdchcgdaa
open Go.RowKit Go.Shelf

section
variable {F : Fence} {n : Nat} {P : Program} {ops : Array Oper} {Q : Exit → Act → World → Prop} {md : Region.Mode} {X : List Nat} {S : World → Prop}
def tkB (md : Region.Mode) (ops : Array Oper) (X : List Nat) (listed : Array Bool) (i : Nat) : Bool := noDfB ops && Region.noSelect ops && Region.free md ops listed i && (Region.ready md ops listed).contains i && waitB md ops X i
/-- s_take, shorter to write. -/
theorem s_tk (i : Nat) {oi : Oper} {v : Value} {fuel : Nat} {listed : Array Bool} {a : Act} {w : World} (hi : ops[i]? = some oi) (hb : tkB md ops X listed i = true) (hw : Region.wanted oi (yielded ops a.tmps) = true) (hy : ∀ w, S w → (execOp a.eval oi).run P w = .ok (.value v) w) (hS : S w)
    (h : AnyS F n P md ops Q X S fuel (listed.setIfInBounds i true) (a.put oi.dst v) w) (hF : ∀ f, F.fn f := by exact fun _ => trivial) (hQ : ∀ c a w, Q (.panic c) (a.put oi.dst v) w → Q (.panic c) a w := by exact fun _ _ _ h => h) : AnyS F n P md ops Q X S (fuel + 1) listed a w := by
  unfold tkB at hb
  simp only [Bool.and_eq_true] at hb
  obtain ⟨⟨⟨⟨h1, h2⟩, h3⟩, h4⟩, h5⟩ := hb
  exact s_take hF h1 i hi h2 h3 h4 h5 hQ hw hy hS h
/-- s_pass, shorter to write. -/
theorem s_ps (i : Nat) {oi : Oper} {fuel : Nat} {listed : Array Bool} {a : Act} {w : World} (hi : ops[i]? = some oi) (hb : tkB md ops X listed i = true) (hw : Region.wanted oi (yielded ops a.tmps) = false) (hS : S w)
    (h : AnyS F n P md ops Q X S fuel (listed.setIfInBounds i true) (a.put oi.dst undef) w) (hF : ∀ f, F.fn f := by exact fun _ => trivial) (hQ : ∀ c a w, Q (.panic c) (a.put oi.dst undef) w → Q (.panic c) a w := by exact fun _ _ _ h => h) : AnyS F n P md ops Q X S (fuel + 1) listed a w := by
  unfold tkB at hb
  simp only [Bool.and_eq_true] at hb
  obtain ⟨⟨⟨⟨h1, h2⟩, h3⟩, h4⟩, h5⟩ := hb
  exact s_pass hF h1 i hi h2 h3 h4 h5 hQ hw hS h
end
theorem findH_none {L : List En} {id : Int} (h : ∀ e ∈ L, ¬ ((e.id : Int) = id ∧ e.held = true)) : findH L id = none := by
  unfold findH
  rw [List.find?_eq_none]
  intro x hx hd
  exact h x hx (of_decide_eq_true hd)
theorem findH_at {L : List En} {id : Int} {i : Nat} (hi : i < L.length) (hs : L.Pairwise fun a b => a.id < b.id) (h1 : ((L[i]).id : Int) = id) (h2 : (L[i]).held = true) : findH L id = some L[i] := by
  unfold findH
  cases hf : L.find? fun e => decide ((e.id : Int) = id ∧ e.held = true) with
  | none =>
    rw [List.find?_eq_none] at hf
    exact absurd (decide_eq_true ⟨h1, h2⟩) (hf _ (List.getElem_mem hi))
  | some x =>
    have hx := List.mem_of_find?_eq_some hf
    have hp := of_decide_eq_true (List.find?_some (p := fun e : En => decide ((e.id : Int) = id ∧ e.held = true)) hf)
    rw [sorted_uniq hs hx (List.getElem_mem hi) (by omega)]
/-- Where Settle's loop is: the last place ahead of j that is held and has the number. -/
def KP (L : List En) (id : Int) (j : Nat) (kv : Value) : Prop := (kv = .int .i64 (-1) ∧ ∀ e ∈ L.take j, ¬ ((e.id : Int) = id ∧ e.held = true)) ∨ ∃ (i : Nat) (h : i < L.length), kv = .int .i64 i ∧ ((L[i]).id : Int) = id ∧ (L[i]).held = true
theorem KP.skip {L : List En} {id : Int} {j : Nat} {kv : Value} (h : KP L id j kv) (hj : j < L.length) (hn : ¬ (((L[j]).id : Int) = id ∧ (L[j]).held = true)) : KP L id (j + 1) kv := by
  rcases h with ⟨h1, h2⟩ | h
  · refine .inl ⟨h1, fun e he => ?_⟩
    rw [List.take_succ_eq_append_getElem hj, List.mem_append, List.mem_singleton] at he
    rcases he with he | rfl
    · exact h2 e he
    · exact hn
  · exact .inr h
theorem KP.hit {L : List En} {id : Int} {j j' : Nat} (hj : j < L.length) (h1 : ((L[j]).id : Int) = id) (h2 : (L[j]).held = true) : KP L id j' (.int .i64 j) := .inr ⟨j, hj, rfl, h1, h2⟩

def cntE (e : En) (c : Nat) : En := { e with m := { e.m with cnt := c } }
theorem cntE_self {e : En} {c : Nat} (h : e.m.cnt = c) : cntE e c = e := by subst h; rfl
theorem RStep.trans {Z Z' : List Nat} {w w1 w2 : World} (h1 : RStep Z w w1) (h2 : RStep Z' w1 w2) (hs : ∀ k ∈ Z', k ∈ Z ∨ w.heap.size ≤ k) : RStep Z w w2 := by
  obtain ⟨F, t, hF⟩ := h1
  obtain ⟨G, u, hG⟩ := h2
  refine ⟨F ++ G.filter fun k => decide (k < w.heap.size), (t.mono (by simp +contextual)).trans u fun k hk => ?_, fun k hk => ?_⟩
  · by_cases h : k < w.heap.size
    · exact .inl (List.mem_append_right _ (List.mem_filter.2 ⟨hk, decide_eq_true h⟩))
    · exact .inr (by omega)
  · rcases List.mem_append.1 hk with hk | hk
    · exact hF k hk
    · obtain ⟨hk, hl⟩ := List.mem_filter.1 hk
      have hl := of_decide_eq_true hl
      by_cases hm : k ∈ F
      · exact hF k hm
      · obtain ⟨h3, o, h4, h5⟩ := hG k hk
        refine ⟨(hs k h3).resolve_right (by omega), o, ?_, h5⟩
        rw [← t.block k hl hm]; exact h4
theorem RStep.then_new {Z : List Nat} {w w1 w2 : World} {G : List Nat} (h1 : RStep Z w w1) (u : Tch G w1 w2) (hs : ∀ k ∈ G, w.heap.size ≤ k) : RStep Z w w2 := by
  obtain ⟨F, t, hF⟩ := h1
  exact ⟨F, t.trans u fun k hk => .inr (hs k hk), hF⟩

set_option maxRecDepth 100000 in
set_option maxHeartbeats 4000000 in
theorem rset_calls {w : World} {Z : List Nat} {r room limit last : Nat} {L : List En} (h : Rq w Z r room limit last L) (hz : ∀ k ∈ Z, k < w.heap.size) (id : Int) (o : Oc) :
    Calls Try.prog 34 #[.pointer (some ⟨r, 0, none⟩), .int .i64 id, .agg (occ o).toArray] w fun x w' =>
      ∃ v, x = .returned (.tuple #[deadM (setQ limit L id o).2.2 v, .bool (setQ limit L id o).2.2.isSome, .int .i64 (setQ limit L id o).2.1]) ∧ (∀ d, (setQ limit L id o).2.2 = some d → Bdv w' v d.m.body ∧ ∀ k, bblk v d.m.body = some k → k ∈ Z) ∧ ∃ N, (∀ k ∈ N, w.heap.size ≤ k ∧ k < w'.heap.size) ∧ Rq w' (N ++ Z) r room limit last (setQ limit L id o).1 ∧ RStep Z w w' := by
  have HQ := Lib.hid h
  have HZ := Lib.hid hz
  obtain ⟨⟨lv, bv, h1, h2, h3, h4⟩, h5, h6⟩ := h
  obtain ⟨A, c, rfl, hr⟩ := h2.rd
  obtain ⟨n, hn⟩ : ∃ n, L.length = n := ⟨_, rfl⟩
  rw [hn] at h1 hr h2
  have hn64 : n ≤ 64 := by have := h6.len; have := h6.room2; omega
  have hlim := h6.lim
  have hlc := hr.2.1
  have hmx := hr.2.2.1
  obtain ⟨g, hg⟩ : ∃ g, w.heap.size = g := ⟨_, rfl⟩
  obtain ⟨K, OA, OB, OC⟩ := o
  obtain ⟨O, hO⟩ : ∃ O : Oc, (⟨K, OA, OB, OC⟩ : Oc) = O := ⟨_, rfl⟩
  have hoc : (occ O).toArray = #[.int .u8 K, .int .u64 OA, .int .u64 OB, .string ⟨OC.toArray⟩] := by rw [← hO]; unfold occ str; rfl
  rw [hO, hoc]
  have HO := Lib.hid hO
  have HOC := Lib.hid hoc
  have H1 := Lib.hid h1
  have H2 := Lib.hid h2
  have HR := Lib.hid hr
  have HN := Lib.hid hn
  have H3 := Lib.hid h3
  have H4 := Lib.hid h4
  have H5 := Lib.hid h5
  have H6 := Lib.hid h6
  have HG := Lib.hid hg
  clear h1 h2 h3 h4 h5 h6 hr hn hz hg hO hoc
  go_enter Try.func34, Try.ntmps34
  go_wp2_with fail
  rw [HG.out]
  go_loopw [9, 10] (fun kv i wr => ∃ (j : Nat), j ≤ n ∧ i = .int .i64 j ∧ Hid (Bx wr g 41 [.int .u8 K, .int .u64 OA, .int .u64 OB, .string ⟨OC.toArray⟩] ∧ Bx wr (g + 1) 32 zMsg ∧ Below w.heap.size w wr) ∧ Hid (KP L id j kv)) (fun _ i _ => n - (intOf i).toNat)
  case atStart =>
    refine ⟨0, by omega, rfl, Lib.hid ⟨?_, ?_, ?_⟩, Lib.hid (.inl ⟨rfl, by simp⟩)⟩
    · exact (Bx.new' w 41 _ HG.out.symm).alloc _
    · exact Bx.new' (w.alloc _) 32 zMsg (by simp [HG.out])
    · exact ((below_alloc w _).alloc (by simp) _)
  case round =>
    obtain ⟨j, hj, rfl, HW, HK⟩ := hrel
    have hg : w.heap.size = g := HG.out
    have hws : w.heap.size ≤ wr.heap.size := HW.out.2.2.size
    have hrl : r < w.heap.size := H1.out.lt
    have d0 : wr.cell? ⟨r, 2, none⟩ = some (.slice A n c) := (H1.out.below HW.out.2.2).cell 2 _ rfl
    by_cases hjn : j < n
    · have hjL : j < L.length := by rw [HN.out]; exact hjn
      have hjn' : (j : Int) < n := by omega
      obtain ⟨b0, o0, hA, hcell⟩ := flat_cells eit 8 (by decide) eit_length (HR.out.below HW.out.2.2) j (by rw [List.length_map]; exact hjL)
      subst hA
      rw [List.getElem_map] at hcell
      have hskip := Lib.hid (HK.out.skip hjL)
      have hhit := Lib.hid (KP.hit (id := id) (j' := j + 1) hjL)
      obtain ⟨e, he⟩ : ∃ e, L[j] = e := ⟨_, rfl⟩
      rw [he] at hcell hskip hhit
      have g0 := hcell 0 (.int .i64 e.id) rfl
      have g7 := hcell 7 (.bool e.held) rfl
      simp only [← Nat.add_assoc, Nat.add_zero] at g0 g7
      clear hcell he
      by_cases hid : (e.id : Int) = id
      · cases hh : e.held with
        | true =>
          rw [hh] at g7
          go_wp2_with fail
          exact ⟨⟨j + 1, by omega, by go_num, HW, Lib.hid (hhit.out hid hh)⟩, by simp [intOf]; omega⟩
        | false =>
          rw [hh] at g7
          go_wp2_with fail
          exact ⟨⟨j + 1, by omega, by go_num, HW, Lib.hid (hskip.out fun hx => by rw [hh] at hx; simp at hx)⟩, by simp [intOf]; omega⟩
      · go_wp2_with fail
        exact ⟨⟨j + 1, by omega, by go_num, HW, Lib.hid (hskip.out fun hx => hid hx.1)⟩, by simp [intOf]; omega⟩
    · obtain rfl : j = n := by omega
      have m0 := HW.out.2.1.cell 0 _ rfl
      have m1 := HW.out.2.1.cell 1 _ rfl
      have m2 := HW.out.2.1.cell 2 _ rfl
      have m3 := HW.out.2.1.cell 3 _ rfl
      have m4 := HW.out.2.1.cell 4 _ rfl
      have n0 := HW.out.2.1.froz 0
      have n1 := HW.out.2.1.froz 1
      have n2 := HW.out.2.1.froz 2
      have n3 := HW.out.2.1.froz 3
      have n4 := HW.out.2.1.froz 4
      have x0 := HW.out.1.cell 0 _ rfl
      have x1 := HW.out.1.cell 1 _ rfl
      have x2 := HW.out.1.cell 2 _ rfl
      have x3 := HW.out.1.cell 3 _ rfl
      rcases HK.out with ⟨rfl, hno⟩ | ⟨i, hi, rfl, hid, hhe⟩
      · rw [show List.take j L = L by rw [← HN.out, List.take_length]] at hno
        have HF := Lib.hid (show setQ limit L id O = (L, 5, none) by unfold setQ; rw [findH_none hno])
        clear hno
        go_wp2_with fail
        refine forgetX (fun W => Bx W (g + 1) 32 zMsg ∧ Below w.heap.size w W) ⟨?_, ?_⟩ ?_
        · with_reducible refine Bx.to (((((HW.out.2.1.set 0 _).set 1 _).set 2 _).set 3 _).set 4 _) ?_
          rfl
        · refine Tch.below (F := [g + 1]) ?_ (Nat.le_refl _) (by rw [HG.out]; simp)
          with_reducible repeat first | exact Tch.of_below _ HW.out.2.2 | refine Tch.setCell ?_ _ (.inl (by simp))
        rintro W ⟨k1, k2⟩
        rw [HF.out]
        exact bodyPost_ret (results_ctt rfl rfl rfl rfl (k1.loadAgg (by kernel_rfl) (by kernel_rfl))) rfl ⟨.slice none 0 0, rfl, by intro d hd; simp at hd, [], by simp, HQ.out.below HZ.out k2, RStep.of_below k2⟩
      · have hcl := rfin_calls O wr
        rw [HOC.out] at hcl
        have HCL := Lib.hid hcl
        have HFH := Lib.hid (findH_at hi H6.out.sorted hid hhe)
        clear hcl
        obtain ⟨e, he⟩ : ∃ e, L[i] = e := ⟨_, rfl⟩
        have hmem : e ∈ L := by rw [← he]; exact List.getElem_mem _
        rw [he] at hid hhe HFH
        subst hid
        go_wp2_with fail
        refine HCL.out.mono ?_
        rintro x w2 ⟨rfl, b2⟩
        have k3 := HW.out.1.below b2
        have k4 := HW.out.2.1.below b2
        have B2 := Lib.hid (below_then HW.out.2.2 HW.out.2.2.size b2)
        have hw2 : w.heap.size ≤ w2.heap.size := B2.out.size
        have hg2 : g + 1 < w2.heap.size := k4.lt
        clear x0 x1 x2 x3 m0 m1 m2 m3 m4 n0 n1 n2 n3 n4 d0 b2 HCL
        have m0 := k4.cell 0 _ rfl
        have m1 := k4.cell 1 _ rfl
        have m2 := k4.cell 2 _ rfl
        have m3 := k4.cell 3 _ rfl
        have m4 := k4.cell 4 _ rfl
        have n0 := k4.froz 0
        have n1 := k4.froz 1
        have n2 := k4.froz 2
        have n3 := k4.froz 3
        have n4 := k4.froz 4
        by_cases hfin : 2 ≤ K ∧ K ≤ 5
        · rw [show finO O = true by rw [← HO.out]; unfold finO; exact decide_eq_true hfin]
          have x0 := k3.cell 0 _ rfl
          have x1 := k3.cell 1 _ rfl
          have x2 := k3.cell 2 _ rfl
          have x3 := k3.cell 3 _ rfl
          have K3 := Lib.hid k3
          have K4 := Lib.hid k4
          obtain ⟨b0, cl, hgl, -⟩ := H2.out.form (by have := HN.out; omega)
          simp only [Value.slice.injEq] at hgl
          obtain ⟨rfl, -, rfl⟩ := hgl
          obtain ⟨Ab, cb, hbv, -⟩ := (H4.out e hmem).1
          have hi' : i < (L.map fun e => (e, bv e.id)).length := by rw [List.length_map]; exact hi
          have hcell : ∀ (t : Nat) (u : Value), (ecs e (bv e.id))[t]? = some u → t < 8 → w2.cell? ⟨b0, i * 8 + t, none⟩ = some u ∧ w2.frozen? ⟨b0, i * 8 + t, none⟩ = false := fun t u hu ht => by
            refine (H2.out.below B2.out).cell_at (i * 8 + t) u ?_
            have h1 := flat_at eit 8 (L.map fun e => (e, bv e.id)) (fun x _ => eit_length x) i hi' t ht
            rw [List.getElem_map, he] at h1
            exact h1.trans hu
          have y0 := (hcell 0 (.int .i64 e.id) rfl (by decide)).1
          have y1 := (hcell 1 (.int .u8 e.m.pr) rfl (by decide)).1
          have y2 := (hcell 2 (.int .u32 e.m.ttl) rfl (by decide)).1
          have y3 := (hcell 3 (.int .u32 e.m.cnt) rfl (by decide)).1
          have y4 := (hcell 4 (.string ⟨e.m.ids.toArray⟩) rfl (by decide)).1
          have y5 := (hcell 5 (.slice Ab e.m.body.length cb) (by show some (bv e.id) = _; rw [hbv]) (by decide)).1
          have y6 := (hcell 6 (.int .i64 e.tm) rfl (by decide)).1
          have y7 := (hcell 7 (.bool e.held) rfl (by decide)).1
          have v3 := (hcell 3 (.int .u32 e.m.cnt) rfl (by decide)).2
          have hr2 := H1.out.below B2.out
          have z1 := hr2.cell 1 _ rfl
          have z2 := hr2.cell 2 _ rfl
          have hcnt := (H6.out.ok e hmem).cnt
          have hij : i < j := by have := HN.out; omega
          have hij' : (i : Int) < j := by omega
          obtain ⟨ct, hct⟩ : ∃ ct, e.m.cnt = ct := ⟨_, rfl⟩
          rw [hct] at y3 hcnt
          have HCT := Lib.hid hct
          clear hct
          have HE := Lib.hid (And.intro hi he)
          have HBV := Lib.hid hbv
          have HMEM := Lib.hid hmem
          have HR2 := Lib.hid hr2
          have hb0Z : b0 ∈ Z ∧ ∃ o, w.heap[b0]? = some o ∧ ∀ (cs : Array Value) (fr : Nat × Nat), o ≠ Obj.cells cs 5 fr := by
            refine ⟨H3.out b0 rfl, ?_⟩
            rcases H2.out.2.2 with ⟨e, _⟩ | ⟨g', cap, sp, e, _, hh, _⟩
            · simp at e
            · simp only [Value.slice.injEq, Option.some.injEq, Addr.mk.injEq, and_true] at e
              obtain ⟨rfl, -, rfl⟩ := e
              exact ⟨_, hh, by simp⟩
          have HZB := Lib.hid hb0Z
          have hb0l : b0 < w.heap.size := (H2.out.lt b0 rfl).2
          have hrb : r ≠ b0 := fun hh => (H2.out.below B2.out).ne_bx hr2 (by decide) (by rw [hh]; rfl)
          clear hb0Z
          clear hcell hbv hr2 k3 k4 hmem
          obtain rfl | rfl | rfl | rfl : K = 2 ∨ K = 3 ∨ K = 4 ∨ K = 5 := by omega
          · go_wp2_with fail
            obtain ⟨G, hG⟩ : ∃ G, w2.heap.size = G := ⟨_, rfl⟩
            try simp only [World.setCell_heap_size, World.size_setCell]
            rw [hG]
            obtain ⟨C, hC⟩ : ∃ C, C = ct := ⟨_, rfl⟩
            subst hC
            have hC4 : C ≤ 4294967295 := by omega
            refine forget (fun W => Bx W r 90 (rcs room limit last (.slice (some ⟨b0, 0, none⟩) j c)) ∧ OwnC 64 8 (fun _ => True) W 0 (.slice (some ⟨b0, 0, none⟩) j c) j (eits ((L.set i (cntE e C)).map fun e => (e, bv e.id))) ∧ Bx W g 41 [.int .u8 (2 : Nat), .int .u64 OA, .int .u64 OB, .string ⟨OC.toArray⟩] ∧ Bx W (g + 1) 32 zMsg ∧ Bx W G 32 [.int .u8 e.m.pr, .int .u32 e.m.ttl, .int .u32 (C : Nat), .string ⟨e.m.ids.toArray⟩, .slice Ab e.m.body.length cb] ∧ Tch [b0] w W) ⟨?_, ?_, ?_, ?_, ?_, ?_⟩ ?_
            · exact HR2.out.alloc _
            · rw [cntE_self HCT.out, ← HE.out.2, List.set_getElem_self]
              exact (H2.out.below B2.out).alloc _
            · exact K3.out.alloc _
            · exact K4.out.alloc _
            · exact Bx.new' _ 32 _ hG.symm
            · exact (Tch.of_below [b0] B2.out).alloc _
            rintro W ⟨M1, M2, M3, M4, M5, M6⟩
            clear x0 x1 x2 x3 m0 m1 m2 m3 m4 y0 y1 y2 y3 y4 y5 y6 y7 v3 z1 z2
            have x0 := M3.cell 0 _ rfl
            have x2 := M3.cell 2 _ rfl
            have z1 := M1.cell 1 _ rfl
            have z2 := M1.cell 2 _ rfl
            have y0 := M5.cell 0 _ rfl
            have y1 := M5.cell 1 _ rfl
            have y2 := M5.cell 2 _ rfl
            have y3 := M5.cell 3 _ rfl
            have y4 := M5.cell 4 _ rfl
            have m0 := M4.cell 0 _ rfl
            have m1 := M4.cell 1 _ rfl
            have m2 := M4.cell 2 _ rfl
            have m3 := M4.cell 3 _ rfl
            have m4 := M4.cell 4 _ rfl
            have n0 := M4.froz 0
            have n1 := M4.froz 1
            have n2 := M4.froz 2
            have n3 := M4.froz 3
            have n4 := M4.froz 4
            have hgG : g + 1 < G := by omega
            have hEi : (L.set i (cntE e C)) = modL (cntE e C) L := (modL_set HE.out.1 (cntE e C) (by rw [HE.out.2]; rfl) H6.out.sorted).symm
            have hok : WfM (cntE e C).m := by
              obtain ⟨p1, p2, p3, p4, p5⟩ := H6.out.ok e HMEM.out
              exact ⟨p1, p2, p3, p4, hC4⟩
            have hrq : Rq W Z r room limit last (L.set i (cntE e C)) := by
              refine ⟨⟨.slice (some ⟨b0, 0, none⟩) j c, bv, M1, by rw [List.length_set, HN.out]; exact M2, H3.out, fun x hx => ?_⟩, H5.out, by rw [hEi]; exact H6.out.mod HMEM.out rfl hok (H6.out.tm e HMEM.out)⟩
              have hb : ∃ y ∈ L, y.id = x.id ∧ y.m.body = x.m.body := by
                rcases List.mem_or_eq_of_mem_set hx with h | rfl
                · exact ⟨x, h, rfl, rfl⟩
                · exact ⟨e, HMEM.out, rfl, rfl⟩
              obtain ⟨y, hy, h1, h2⟩ := hb
              rw [← h1, ← h2]
              exact ⟨(H4.out y hy).1.tch M6 fun k hk => (by simp only [List.mem_singleton] at hk; subst hk; exact HZB.out.2), (H4.out y hy).2⟩
            have hst : RStep Z w W := ⟨[b0], M6, fun q hq => by simp only [List.mem_singleton] at hq; subst hq; exact HZB.out⟩
            have N1 := Lib.hid M1
            have N2 := Lib.hid M2
            have N4 := Lib.hid M4
            have N5 := Lib.hid M5
            have N6 := Lib.hid M6
            have RQ := Lib.hid hrq
            have ST := Lib.hid hst
            have HEI := Lib.hid hEi
            clear M1 M2 M3 M4 M5 M6 hrq hst hEi
            have HF := Lib.hid (show setQ limit L e.id O = (less [e.id] L, 0, none) by
              unfold setQ
              rw [HFH.out, ← HO.out]
              simp only
              rw [if_pos trivial])
            obtain ⟨S, hSd⟩ : ∃ S : World → Prop, S = fun W' : World => W'.cell? ⟨g, 0, none⟩ = W.cell? ⟨g, 0, none⟩ ∧ W'.cell? ⟨g, 2, none⟩ = W.cell? ⟨g, 2, none⟩ ∧ W'.cell? ⟨r, 1, none⟩ = W.cell? ⟨r, 1, none⟩ ∧ W'.cell? ⟨G, 2, none⟩ = W.cell? ⟨G, 2, none⟩ := ⟨_, rfl⟩
            have hS : S W.drew := by rw [hSd]; exact ⟨rfl, rfl, rfl, rfl⟩
            rw [x0, x2, z1, y2] at hSd
            have HSd := Lib.hid hSd
            clear hSd
            refine (wpIn_wide (n := 0)).1 ?_
            refine s_region [] S (by kernel_rfl) ?_
            refine s_tk 0 rfl (by kernel_rfl) (by rfl) (by intro w' hw; rw [HSd.out] at hw; obtain ⟨h0, h1, h2, h3⟩ := hw; go_simp; try (with_reducible rfl)) hS ?_
            simp only [List.getElem_toArray, List.getElem_cons_succ, List.getElem_cons_zero, Act.put, List.setIfInBounds_toArray, List.set_cons_zero, List.set_cons_succ]
            refine s_tk 1 rfl (by kernel_rfl) (by rfl) (by intro w' hw; rw [HSd.out] at hw; obtain ⟨h0, h1, h2, h3⟩ := hw; go_simp; try (with_reducible rfl)) hS ?_
            simp only [List.getElem_toArray, List.getElem_cons_succ, List.getElem_cons_zero, Act.put, List.setIfInBounds_toArray, List.set_cons_zero, List.set_cons_succ]
            refine s_tk 2 rfl (by kernel_rfl) (by rfl) (by intro w' hw; rw [HSd.out] at hw; obtain ⟨h0, h1, h2, h3⟩ := hw; go_simp; try (with_reducible rfl)) hS ?_
            simp only [List.getElem_toArray, List.getElem_cons_succ, List.getElem_cons_zero, Act.put, List.setIfInBounds_toArray, List.set_cons_zero, List.set_cons_succ]
            refine s_tk 3 rfl (by kernel_rfl) (by rfl) (by intro w' hw; rw [HSd.out] at hw; obtain ⟨h0, h1, h2, h3⟩ := hw; go_simp; try (with_reducible rfl)) hS ?_
            simp only [List.getElem_toArray, List.getElem_cons_succ, List.getElem_cons_zero, Act.put, List.setIfInBounds_toArray, List.set_cons_zero, List.set_cons_succ]
            refine s_tk 4 rfl (by kernel_rfl) (by rfl) (by intro w' hw; rw [HSd.out] at hw; obtain ⟨h0, h1, h2, h3⟩ := hw; go_simp; try (with_reducible rfl)) hS ?_
            simp only [List.getElem_toArray, List.getElem_cons_succ, List.getElem_cons_zero, Act.put, List.setIfInBounds_toArray, List.set_cons_zero, List.set_cons_succ]
            refine s_tk 5 rfl (by kernel_rfl) (by rfl) (by intro w' hw; rw [HSd.out] at hw; obtain ⟨h0, h1, h2, h3⟩ := hw; go_simp; try (with_reducible rfl)) hS ?_
            simp only [List.getElem_toArray, List.getElem_cons_succ, List.getElem_cons_zero, Act.put, List.setIfInBounds_toArray, List.set_cons_zero, List.set_cons_succ]
            refine s_tk 6 rfl (by kernel_rfl) (by rfl) (by intro w' hw; rw [HSd.out] at hw; obtain ⟨h0, h1, h2, h3⟩ := hw; go_simp; try (with_reducible rfl)) hS ?_
            simp only [List.getElem_toArray, List.getElem_cons_succ, List.getElem_cons_zero, Act.put, List.setIfInBounds_toArray, List.set_cons_zero, List.set_cons_succ]
            refine s_tk 7 rfl (by kernel_rfl) (by rfl) (by intro w' hw; rw [HSd.out] at hw; obtain ⟨h0, h1, h2, h3⟩ := hw; go_simp; try (with_reducible rfl)) hS ?_
            simp only [List.getElem_toArray, List.getElem_cons_succ, List.getElem_cons_zero, Act.put, List.setIfInBounds_toArray, List.set_cons_zero, List.set_cons_succ]
            refine s_ps 8 rfl (by kernel_rfl) (by rfl) hS ?_
            simp only [List.getElem_toArray, List.getElem_cons_succ, List.getElem_cons_zero, Act.put, List.setIfInBounds_toArray, List.set_cons_zero, List.set_cons_succ]
            refine s_ps 9 rfl (by kernel_rfl) (by rfl) hS ?_
            simp only [List.getElem_toArray, List.getElem_cons_succ, List.getElem_cons_zero, Act.put, List.setIfInBounds_toArray, List.set_cons_zero, List.set_cons_succ]
            refine s_ps 10 rfl (by kernel_rfl) (by rfl) hS ?_
            simp only [List.getElem_toArray, List.getElem_cons_succ, List.getElem_cons_zero, Act.put, List.setIfInBounds_toArray, List.set_cons_zero, List.set_cons_succ]
            refine s_ps 11 rfl (by kernel_rfl) (by rfl) hS ?_
            simp only [List.getElem_toArray, List.getElem_cons_succ, List.getElem_cons_zero, Act.put, List.setIfInBounds_toArray, List.set_cons_zero, List.set_cons_succ]
            refine s_ps 12 rfl (by kernel_rfl) (by rfl) hS ?_
            simp only [List.getElem_toArray, List.getElem_cons_succ, List.getElem_cons_zero, Act.put, List.setIfInBounds_toArray, List.set_cons_zero, List.set_cons_succ]
            refine s_ps 13 rfl (by kernel_rfl) (by rfl) hS ?_
            simp only [List.getElem_toArray, List.getElem_cons_succ, List.getElem_cons_zero, Act.put, List.setIfInBounds_toArray, List.set_cons_zero, List.set_cons_succ]
            refine s_ps 14 rfl (by kernel_rfl) (by rfl) hS ?_
            simp only [List.getElem_toArray, List.getElem_cons_succ, List.getElem_cons_zero, Act.put, List.setIfInBounds_toArray, List.set_cons_zero, List.set_cons_succ]
            refine s_ps 15 rfl (by kernel_rfl) (by rfl) hS ?_
            simp only [List.getElem_toArray, List.getElem_cons_succ, List.getElem_cons_zero, Act.put, List.setIfInBounds_toArray, List.set_cons_zero, List.set_cons_succ]
            refine s_ps 16 rfl (by kernel_rfl) (by rfl) hS ?_
            simp only [List.getElem_toArray, List.getElem_cons_succ, List.getElem_cons_zero, Act.put, List.setIfInBounds_toArray, List.set_cons_zero, List.set_cons_succ]
            refine s_ps 17 rfl (by kernel_rfl) (by rfl) hS ?_
            simp only [List.getElem_toArray, List.getElem_cons_succ, List.getElem_cons_zero, Act.put, List.setIfInBounds_toArray, List.set_cons_zero, List.set_cons_succ]
            refine s_ps 18 rfl (by kernel_rfl) (by rfl) hS ?_
            simp only [List.getElem_toArray, List.getElem_cons_succ, List.getElem_cons_zero, Act.put, List.setIfInBounds_toArray, List.set_cons_zero, List.set_cons_succ]
            refine s_ps 19 rfl (by kernel_rfl) (by rfl) hS ?_
            simp only [List.getElem_toArray, List.getElem_cons_succ, List.getElem_cons_zero, Act.put, List.setIfInBounds_toArray, List.set_cons_zero, List.set_cons_succ]
            refine s_ps 20 rfl (by kernel_rfl) (by rfl) hS ?_
            simp only [List.getElem_toArray, List.getElem_cons_succ, List.getElem_cons_zero, Act.put, List.setIfInBounds_toArray, List.set_cons_zero, List.set_cons_succ]
            refine s_ps 21 rfl (by kernel_rfl) (by rfl) hS ?_
            simp only [List.getElem_toArray, List.getElem_cons_succ, List.getElem_cons_zero, Act.put, List.setIfInBounds_toArray, List.set_cons_zero, List.set_cons_succ]
            refine s_ps 22 rfl (by kernel_rfl) (by rfl) hS ?_
            simp only [List.getElem_toArray, List.getElem_cons_succ, List.getElem_cons_zero, Act.put, List.setIfInBounds_toArray, List.set_cons_zero, List.set_cons_succ]
            refine s_ps 23 rfl (by kernel_rfl) (by rfl) hS ?_
            simp only [List.getElem_toArray, List.getElem_cons_succ, List.getElem_cons_zero, Act.put, List.setIfInBounds_toArray, List.set_cons_zero, List.set_cons_succ]
            refine s_ps 24 rfl (by kernel_rfl) (by rfl) hS ?_
            simp only [List.getElem_toArray, List.getElem_cons_succ, List.getElem_cons_zero, Act.put, List.setIfInBounds_toArray, List.set_cons_zero, List.set_cons_succ]
            refine s_ps 25 rfl (by kernel_rfl) (by rfl) hS ?_
            simp only [List.getElem_toArray, List.getElem_cons_succ, List.getElem_cons_zero, Act.put, List.setIfInBounds_toArray, List.set_cons_zero, List.set_cons_succ]
            refine s_ps 26 rfl (by kernel_rfl) (by rfl) hS ?_
            simp only [List.getElem_toArray, List.getElem_cons_succ, List.getElem_cons_zero, Act.put, List.setIfInBounds_toArray, List.set_cons_zero, List.set_cons_succ]
            refine s_ps 27 rfl (by kernel_rfl) (by rfl) hS ?_
            simp only [List.getElem_toArray, List.getElem_cons_succ, List.getElem_cons_zero, Act.put, List.setIfInBounds_toArray, List.set_cons_zero, List.set_cons_succ]
            refine s_tk 28 rfl (by kernel_rfl) (by rfl) (by intro w' hw; rw [HSd.out] at hw; obtain ⟨h0, h1, h2, h3⟩ := hw; go_simp; try (with_reducible rfl)) hS ?_
            simp only [List.getElem_toArray, List.getElem_cons_succ, List.getElem_cons_zero, Act.put, List.setIfInBounds_toArray, List.set_cons_zero, List.set_cons_succ]
            refine s_tk 29 rfl (by kernel_rfl) (by rfl) (by intro w' hw; rw [HSd.out] at hw; obtain ⟨h0, h1, h2, h3⟩ := hw; go_simp; try (with_reducible rfl)) hS ?_
            simp only [List.getElem_toArray, List.getElem_cons_succ, List.getElem_cons_zero, Act.put, List.setIfInBounds_toArray, List.set_cons_zero, List.set_cons_succ]
            refine s_tk 30 rfl (by kernel_rfl) (by rfl) (by intro w' hw; rw [HSd.out] at hw; obtain ⟨h0, h1, h2, h3⟩ := hw; go_simp; try (with_reducible rfl)) hS ?_
            simp only [List.getElem_toArray, List.getElem_cons_succ, List.getElem_cons_zero, Act.put, List.setIfInBounds_toArray, List.set_cons_zero, List.set_cons_succ]
            refine s_done (by kernel_rfl) ?_ _
            go_wp2_with fail
            refine (rgoes_calls (RQ.out.keep (w' := W.drew) fun k _ => rfl) e.id).mono ?_
            rintro x w5 ⟨⟨vv, rfl⟩, N, hN, RQ5, S5⟩
            clear y0 y1 y2 y3 y4 m0 m1 m2 m3 m4 n0 n1 n2 n3 n4 x0 x2 z1 z2
            have k5 : Bx w5 G 32 [.int .u8 e.m.pr, .int .u32 e.m.ttl, .int .u32 (C : Nat), .string ⟨e.m.ids.toArray⟩, .slice Ab e.m.body.length cb] := Bx.tch (W := W.drew) N5.out S5.tch fun hm => by have := HZ.out _ hm; omega
            have k4 : Bx w5 (g + 1) 32 zMsg := Bx.tch (W := W.drew) N4.out S5.tch fun hm => by have := HZ.out _ hm; have := HG.out; omega
            have y0 := k5.cell 0 _ rfl
            have y1 := k5.cell 1 _ rfl
            have y2 := k5.cell 2 _ rfl
            have y3 := k5.cell 3 _ rfl
            have y4 := k5.cell 4 _ rfl
            have m0 := k4.cell 0 _ rfl
            have m1 := k4.cell 1 _ rfl
            have m2 := k4.cell 2 _ rfl
            have m3 := k4.cell 3 _ rfl
            have m4 := k4.cell 4 _ rfl
            have n0 := k4.froz 0
            have n1 := k4.froz 1
            have n2 := k4.froz 2
            have n3 := k4.froz 3
            have n4 := k4.froz 4
            have hN' : ∀ k ∈ N, w.heap.size ≤ k ∧ k < w5.heap.size := fun k hk => by have h1 := (hN k hk).1; have h2 := N6.out.size; exact ⟨Nat.le_trans h2 h1, (hN k hk).2⟩
            have K5 := Lib.hid k5
            have K4' := Lib.hid k4
            have R5 := Lib.hid RQ5
            have T5 := Lib.hid (ST.out.trans (Z' := Z) (w2 := w5) (by obtain ⟨F, t, hF⟩ := S5; exact ⟨F, Tch.of_drew (w := W) ⟨t.os, t.tape, t.output, t.size, t.block⟩, hF⟩) fun k hk => .inl hk)
            have HN' := Lib.hid hN'
            have hgN := Lib.hid (show g + 1 ∉ N from fun hm => by have h1 := (hN _ hm).1; have h2 : g + 1 < W.heap.size := N4.out.lt; have h3 : W.heap.size ≤ g + 1 := h1; omega)
            clear k5 k4 RQ5 S5 hN hN'
            go_wp2_with fail
            refine forgetX (fun V => Bx V (g + 1) 32 zMsg ∧ Tch [g + 1] w5 V) ⟨?_, ?_⟩ ?_
            · with_reducible refine Bx.to (((((K4'.out.set 0 _).set 1 _).set 2 _).set 3 _).set 4 _) ?_
              rfl
            · with_reducible repeat first | exact Tch.refl _ _ | refine Tch.setCell ?_ _ (.inl (by simp))
            rintro V ⟨k1, k2⟩
            rw [HF.out]
            have hs := T5.out.then_new k2 (by rw [HG.out]; simp)
            have hrqV : Rq V (N ++ Z) r room limit last (less [e.id] L) := by
              have h1 := R5.out
              rw [HEI.out, show less [e.id] (modL (cntE e C) L) = less [e.id] L from less_modL (cntE e C) L] at h1
              refine h1.keep fun k hk => ?_
              have hl : k < w5.heap.size := by
                rcases List.mem_append.1 hk with h | h
                · exact (HN'.out k h).2
                · exact Nat.lt_of_lt_of_le (HZ.out k h) T5.out.tch.size
              refine k2.block k hl fun hm => ?_
              simp only [List.mem_singleton] at hm
              subst hm
              rcases List.mem_append.1 hk with h | h
              · exact hgN.out h
              · have := HZ.out _ h
                have := HG.out
                omega
            exact bodyPost_ret (results_ctt rfl rfl rfl rfl (k1.loadAgg (by kernel_rfl) (by kernel_rfl))) rfl ⟨.slice none 0 0, rfl, by intro d hd; simp at hd, N, fun k hk => ⟨(HN'.out k hk).1, Nat.lt_of_lt_of_le (HN'.out k hk).2 k2.size⟩, hrqV, hs⟩
          · go_wp2_with fail
            obtain ⟨G, hG⟩ : ∃ G, w2.heap.size = G := ⟨_, rfl⟩
            try simp only [World.setCell_heap_size, World.size_setCell]
            rw [hG]
            obtain ⟨C, hC⟩ : ∃ C, C = ct := ⟨_, rfl⟩
            subst hC
            have hC4 : C ≤ 4294967295 := by omega
            refine forget (fun W => Bx W r 90 (rcs room limit last (.slice (some ⟨b0, 0, none⟩) j c)) ∧ OwnC 64 8 (fun _ => True) W 0 (.slice (some ⟨b0, 0, none⟩) j c) j (eits ((L.set i (cntE e C)).map fun e => (e, bv e.id))) ∧ Bx W g 41 [.int .u8 (3 : Nat), .int .u64 OA, .int .u64 OB, .string ⟨OC.toArray⟩] ∧ Bx W (g + 1) 32 zMsg ∧ Bx W G 32 [.int .u8 e.m.pr, .int .u32 e.m.ttl, .int .u32 (C : Nat), .string ⟨e.m.ids.toArray⟩, .slice Ab e.m.body.length cb] ∧ Tch [b0] w W) ⟨?_, ?_, ?_, ?_, ?_, ?_⟩ ?_
            · exact HR2.out.alloc _
            · rw [cntE_self HCT.out, ← HE.out.2, List.set_getElem_self]
              exact (H2.out.below B2.out).alloc _
            · exact K3.out.alloc _
            · exact K4.out.alloc _
            · exact Bx.new' _ 32 _ hG.symm
            · exact (Tch.of_below [b0] B2.out).alloc _
            rintro W ⟨M1, M2, M3, M4, M5, M6⟩
            clear x0 x1 x2 x3 m0 m1 m2 m3 m4 y0 y1 y2 y3 y4 y5 y6 y7 v3 z1 z2
            have x0 := M3.cell 0 _ rfl
            have x2 := M3.cell 2 _ rfl
            have z1 := M1.cell 1 _ rfl
            have z2 := M1.cell 2 _ rfl
            have y0 := M5.cell 0 _ rfl
            have y1 := M5.cell 1 _ rfl
            have y2 := M5.cell 2 _ rfl
            have y3 := M5.cell 3 _ rfl
            have y4 := M5.cell 4 _ rfl
            have m0 := M4.cell 0 _ rfl
            have m1 := M4.cell 1 _ rfl
            have m2 := M4.cell 2 _ rfl
            have m3 := M4.cell 3 _ rfl
            have m4 := M4.cell 4 _ rfl
            have n0 := M4.froz 0
            have n1 := M4.froz 1
            have n2 := M4.froz 2
            have n3 := M4.froz 3
            have n4 := M4.froz 4
            have hgG : g + 1 < G := by omega
            have hEi : (L.set i (cntE e C)) = modL (cntE e C) L := (modL_set HE.out.1 (cntE e C) (by rw [HE.out.2]; rfl) H6.out.sorted).symm
            have hok : WfM (cntE e C).m := by
              obtain ⟨p1, p2, p3, p4, p5⟩ := H6.out.ok e HMEM.out
              exact ⟨p1, p2, p3, p4, hC4⟩
            have hrq : Rq W Z r room limit last (L.set i (cntE e C)) := by
              refine ⟨⟨.slice (some ⟨b0, 0, none⟩) j c, bv, M1, by rw [List.length_set, HN.out]; exact M2, H3.out, fun x hx => ?_⟩, H5.out, by rw [hEi]; exact H6.out.mod HMEM.out rfl hok (H6.out.tm e HMEM.out)⟩
              have hb : ∃ y ∈ L, y.id = x.id ∧ y.m.body = x.m.body := by
                rcases List.mem_or_eq_of_mem_set hx with h | rfl
                · exact ⟨x, h, rfl, rfl⟩
                · exact ⟨e, HMEM.out, rfl, rfl⟩
              obtain ⟨y, hy, h1, h2⟩ := hb
              rw [← h1, ← h2]
              exact ⟨(H4.out y hy).1.tch M6 fun k hk => (by simp only [List.mem_singleton] at hk; subst hk; exact HZB.out.2), (H4.out y hy).2⟩
            have hst : RStep Z w W := ⟨[b0], M6, fun q hq => by simp only [List.mem_singleton] at hq; subst hq; exact HZB.out⟩
            have N1 := Lib.hid M1
            have N2 := Lib.hid M2
            have N4 := Lib.hid M4
            have N5 := Lib.hid M5
            have N6 := Lib.hid M6
            have RQ := Lib.hid hrq
            have ST := Lib.hid hst
            have HEI := Lib.hid hEi
            clear M1 M2 M3 M4 M5 M6 hrq hst hEi
            have hce := cntE_self HCT.out
            have HF := Lib.hid (show setQ limit L e.id O = (less [e.id] L, 0, some (cntE e C)) by
              unfold setQ
              rw [HFH.out, ← HO.out]
              simp only
              rw [if_neg (by decide), if_pos trivial, hce])
            obtain ⟨S, hSd⟩ : ∃ S : World → Prop, S = fun W' : World => W'.cell? ⟨g, 0, none⟩ = W.cell? ⟨g, 0, none⟩ ∧ W'.cell? ⟨g, 2, none⟩ = W.cell? ⟨g, 2, none⟩ ∧ W'.cell? ⟨r, 1, none⟩ = W.cell? ⟨r, 1, none⟩ ∧ W'.cell? ⟨G, 2, none⟩ = W.cell? ⟨G, 2, none⟩ := ⟨_, rfl⟩
            have hS : S W.drew := by rw [hSd]; exact ⟨rfl, rfl, rfl, rfl⟩
            rw [x0, x2, z1, y2] at hSd
            have HSd := Lib.hid hSd
            clear hSd
            refine (wpIn_wide (n := 0)).1 ?_
            refine s_region [] S (by kernel_rfl) ?_
            refine s_tk 0 rfl (by kernel_rfl) (by rfl) (by intro w' hw; rw [HSd.out] at hw; obtain ⟨h0, h1, h2, h3⟩ := hw; go_simp; try (with_reducible rfl)) hS ?_
            simp only [List.getElem_toArray, List.getElem_cons_succ, List.getElem_cons_zero, Act.put, List.setIfInBounds_toArray, List.set_cons_zero, List.set_cons_succ]
            refine s_tk 1 rfl (by kernel_rfl) (by rfl) (by intro w' hw; rw [HSd.out] at hw; obtain ⟨h0, h1, h2, h3⟩ := hw; go_simp; try (with_reducible rfl)) hS ?_
            simp only [List.getElem_toArray, List.getElem_cons_succ, List.getElem_cons_zero, Act.put, List.setIfInBounds_toArray, List.set_cons_zero, List.set_cons_succ]
            refine s_tk 2 rfl (by kernel_rfl) (by rfl) (by intro w' hw; rw [HSd.out] at hw; obtain ⟨h0, h1, h2, h3⟩ := hw; go_simp; try (with_reducible rfl)) hS ?_
            simp only [List.getElem_toArray, List.getElem_cons_succ, List.getElem_cons_zero, Act.put, List.setIfInBounds_toArray, List.set_cons_zero, List.set_cons_succ]
            refine s_tk 3 rfl (by kernel_rfl) (by rfl) (by intro w' hw; rw [HSd.out] at hw; obtain ⟨h0, h1, h2, h3⟩ := hw; go_simp; try (with_reducible rfl)) hS ?_
            simp only [List.getElem_toArray, List.getElem_cons_succ, List.getElem_cons_zero, Act.put, List.setIfInBounds_toArray, List.set_cons_zero, List.set_cons_succ]
            refine s_ps 4 rfl (by kernel_rfl) (by rfl) hS ?_
            simp only [List.getElem_toArray, List.getElem_cons_succ, List.getElem_cons_zero, Act.put, List.setIfInBounds_toArray, List.set_cons_zero, List.set_cons_succ]
            refine s_ps 5 rfl (by kernel_rfl) (by rfl) hS ?_
            simp only [List.getElem_toArray, List.getElem_cons_succ, List.getElem_cons_zero, Act.put, List.setIfInBounds_toArray, List.set_cons_zero, List.set_cons_succ]
            refine s_ps 6 rfl (by kernel_rfl) (by rfl) hS ?_
            simp only [List.getElem_toArray, List.getElem_cons_succ, List.getElem_cons_zero, Act.put, List.setIfInBounds_toArray, List.set_cons_zero, List.set_cons_succ]
            refine s_ps 7 rfl (by kernel_rfl) (by rfl) hS ?_
            simp only [List.getElem_toArray, List.getElem_cons_succ, List.getElem_cons_zero, Act.put, List.setIfInBounds_toArray, List.set_cons_zero, List.set_cons_succ]
            refine s_ps 8 rfl (by kernel_rfl) (by rfl) hS ?_
            simp only [List.getElem_toArray, List.getElem_cons_succ, List.getElem_cons_zero, Act.put, List.setIfInBounds_toArray, List.set_cons_zero, List.set_cons_succ]
            refine s_ps 9 rfl (by kernel_rfl) (by rfl) hS ?_
            simp only [List.getElem_toArray, List.getElem_cons_succ, List.getElem_cons_zero, Act.put, List.setIfInBounds_toArray, List.set_cons_zero, List.set_cons_succ]
            refine s_ps 10 rfl (by kernel_rfl) (by rfl) hS ?_
            simp only [List.getElem_toArray, List.getElem_cons_succ, List.getElem_cons_zero, Act.put, List.setIfInBounds_toArray, List.set_cons_zero, List.set_cons_succ]
            refine s_ps 11 rfl (by kernel_rfl) (by rfl) hS ?_
            simp only [List.getElem_toArray, List.getElem_cons_succ, List.getElem_cons_zero, Act.put, List.setIfInBounds_toArray, List.set_cons_zero, List.set_cons_succ]
            refine s_ps 12 rfl (by kernel_rfl) (by rfl) hS ?_
            simp only [List.getElem_toArray, List.getElem_cons_succ, List.getElem_cons_zero, Act.put, List.setIfInBounds_toArray, List.set_cons_zero, List.set_cons_succ]
            refine s_ps 13 rfl (by kernel_rfl) (by rfl) hS ?_
            simp only [List.getElem_toArray, List.getElem_cons_succ, List.getElem_cons_zero, Act.put, List.setIfInBounds_toArray, List.set_cons_zero, List.set_cons_succ]
            refine s_ps 14 rfl (by kernel_rfl) (by rfl) hS ?_
            simp only [List.getElem_toArray, List.getElem_cons_succ, List.getElem_cons_zero, Act.put, List.setIfInBounds_toArray, List.set_cons_zero, List.set_cons_succ]
            refine s_ps 15 rfl (by kernel_rfl) (by rfl) hS ?_
            simp only [List.getElem_toArray, List.getElem_cons_succ, List.getElem_cons_zero, Act.put, List.setIfInBounds_toArray, List.set_cons_zero, List.set_cons_succ]
            refine s_ps 16 rfl (by kernel_rfl) (by rfl) hS ?_
            simp only [List.getElem_toArray, List.getElem_cons_succ, List.getElem_cons_zero, Act.put, List.setIfInBounds_toArray, List.set_cons_zero, List.set_cons_succ]
            refine s_ps 17 rfl (by kernel_rfl) (by rfl) hS ?_
            simp only [List.getElem_toArray, List.getElem_cons_succ, List.getElem_cons_zero, Act.put, List.setIfInBounds_toArray, List.set_cons_zero, List.set_cons_succ]
            refine s_ps 18 rfl (by kernel_rfl) (by rfl) hS ?_
            simp only [List.getElem_toArray, List.getElem_cons_succ, List.getElem_cons_zero, Act.put, List.setIfInBounds_toArray, List.set_cons_zero, List.set_cons_succ]
            refine s_ps 19 rfl (by kernel_rfl) (by rfl) hS ?_
            simp only [List.getElem_toArray, List.getElem_cons_succ, List.getElem_cons_zero, Act.put, List.setIfInBounds_toArray, List.set_cons_zero, List.set_cons_succ]
            refine s_ps 20 rfl (by kernel_rfl) (by rfl) hS ?_
            simp only [List.getElem_toArray, List.getElem_cons_succ, List.getElem_cons_zero, Act.put, List.setIfInBounds_toArray, List.set_cons_zero, List.set_cons_succ]
            refine s_ps 21 rfl (by kernel_rfl) (by rfl) hS ?_
            simp only [List.getElem_toArray, List.getElem_cons_succ, List.getElem_cons_zero, Act.put, List.setIfInBounds_toArray, List.set_cons_zero, List.set_cons_succ]
            refine s_ps 22 rfl (by kernel_rfl) (by rfl) hS ?_
            simp only [List.getElem_toArray, List.getElem_cons_succ, List.getElem_cons_zero, Act.put, List.setIfInBounds_toArray, List.set_cons_zero, List.set_cons_succ]
            refine s_ps 23 rfl (by kernel_rfl) (by rfl) hS ?_
            simp only [List.getElem_toArray, List.getElem_cons_succ, List.getElem_cons_zero, Act.put, List.setIfInBounds_toArray, List.set_cons_zero, List.set_cons_succ]
            refine s_ps 24 rfl (by kernel_rfl) (by rfl) hS ?_
            simp only [List.getElem_toArray, List.getElem_cons_succ, List.getElem_cons_zero, Act.put, List.setIfInBounds_toArray, List.set_cons_zero, List.set_cons_succ]
            refine s_ps 25 rfl (by kernel_rfl) (by rfl) hS ?_
            simp only [List.getElem_toArray, List.getElem_cons_succ, List.getElem_cons_zero, Act.put, List.setIfInBounds_toArray, List.set_cons_zero, List.set_cons_succ]
            refine s_ps 26 rfl (by kernel_rfl) (by rfl) hS ?_
            simp only [List.getElem_toArray, List.getElem_cons_succ, List.getElem_cons_zero, Act.put, List.setIfInBounds_toArray, List.set_cons_zero, List.set_cons_succ]
            refine s_ps 27 rfl (by kernel_rfl) (by rfl) hS ?_
            simp only [List.getElem_toArray, List.getElem_cons_succ, List.getElem_cons_zero, Act.put, List.setIfInBounds_toArray, List.set_cons_zero, List.set_cons_succ]
            refine s_ps 28 rfl (by kernel_rfl) (by rfl) hS ?_
            simp only [List.getElem_toArray, List.getElem_cons_succ, List.getElem_cons_zero, Act.put, List.setIfInBounds_toArray, List.set_cons_zero, List.set_cons_succ]
            refine s_tk 29 rfl (by kernel_rfl) (by rfl) (by intro w' hw; rw [HSd.out] at hw; obtain ⟨h0, h1, h2, h3⟩ := hw; go_simp; try (with_reducible rfl)) hS ?_
            simp only [List.getElem_toArray, List.getElem_cons_succ, List.getElem_cons_zero, Act.put, List.setIfInBounds_toArray, List.set_cons_zero, List.set_cons_succ]
            refine s_tk 30 rfl (by kernel_rfl) (by rfl) (by intro w' hw; rw [HSd.out] at hw; obtain ⟨h0, h1, h2, h3⟩ := hw; go_simp; try (with_reducible rfl)) hS ?_
            simp only [List.getElem_toArray, List.getElem_cons_succ, List.getElem_cons_zero, Act.put, List.setIfInBounds_toArray, List.set_cons_zero, List.set_cons_succ]
            refine s_done (by kernel_rfl) ?_ _
            go_wp2_with fail
            refine (rgoes_calls (RQ.out.keep (w' := W.drew) fun k _ => rfl) e.id).mono ?_
            rintro x w5 ⟨⟨vv, rfl⟩, N, hN, RQ5, S5⟩
            clear y0 y1 y2 y3 y4 m0 m1 m2 m3 m4 n0 n1 n2 n3 n4 x0 x2 z1 z2
            have k5 : Bx w5 G 32 [.int .u8 e.m.pr, .int .u32 e.m.ttl, .int .u32 (C : Nat), .string ⟨e.m.ids.toArray⟩, .slice Ab e.m.body.length cb] := Bx.tch (W := W.drew) N5.out S5.tch fun hm => by have := HZ.out _ hm; omega
            have k4 : Bx w5 (g + 1) 32 zMsg := Bx.tch (W := W.drew) N4.out S5.tch fun hm => by have := HZ.out _ hm; have := HG.out; omega
            have y0 := k5.cell 0 _ rfl
            have y1 := k5.cell 1 _ rfl
            have y2 := k5.cell 2 _ rfl
            have y3 := k5.cell 3 _ rfl
            have y4 := k5.cell 4 _ rfl
            have m0 := k4.cell 0 _ rfl
            have m1 := k4.cell 1 _ rfl
            have m2 := k4.cell 2 _ rfl
            have m3 := k4.cell 3 _ rfl
            have m4 := k4.cell 4 _ rfl
            have n0 := k4.froz 0
            have n1 := k4.froz 1
            have n2 := k4.froz 2
            have n3 := k4.froz 3
            have n4 := k4.froz 4
            have hN' : ∀ k ∈ N, w.heap.size ≤ k ∧ k < w5.heap.size := fun k hk => by have h1 := (hN k hk).1; have h2 := N6.out.size; exact ⟨Nat.le_trans h2 h1, (hN k hk).2⟩
            have K5 := Lib.hid k5
            have K4' := Lib.hid k4
            have R5 := Lib.hid RQ5
            have T5 := Lib.hid (ST.out.trans (Z' := Z) (w2 := w5) (by obtain ⟨F, t, hF⟩ := S5; exact ⟨F, Tch.of_drew (w := W) ⟨t.os, t.tape, t.output, t.size, t.block⟩, hF⟩) fun k hk => .inl hk)
            have HN' := Lib.hid hN'
            have hgN := Lib.hid (show g + 1 ∉ N from fun hm => by have h1 := (hN _ hm).1; have h2 : g + 1 < W.heap.size := N4.out.lt; have h3 : W.heap.size ≤ g + 1 := h1; omega)
            clear k5 k4 RQ5 S5 hN hN'
            go_wp2_with fail
            refine forgetX (fun V => Bx V (g + 1) 32 [.int .u8 e.m.pr, .int .u32 e.m.ttl, .int .u32 (C : Nat), .string ⟨e.m.ids.toArray⟩, .slice Ab e.m.body.length cb] ∧ Tch [g + 1] w5 V) ⟨?_, ?_⟩ ?_
            · with_reducible refine Bx.to (((((K4'.out.set 0 _).set 1 _).set 2 _).set 3 _).set 4 _) ?_
              rfl
            · with_reducible repeat first | exact Tch.refl _ _ | refine Tch.setCell ?_ _ (.inl (by simp))
            rintro V ⟨k1, k2⟩
            rw [HF.out]
            have hs := T5.out.then_new k2 (by rw [HG.out]; simp)
            have hrqV : Rq V (N ++ Z) r room limit last (less [e.id] L) := by
              have h1 := R5.out
              rw [HEI.out, show less [e.id] (modL (cntE e C) L) = less [e.id] L from less_modL (cntE e C) L] at h1
              refine h1.keep fun k hk => ?_
              have hl : k < w5.heap.size := by
                rcases List.mem_append.1 hk with h | h
                · exact (HN'.out k h).2
                · exact Nat.lt_of_lt_of_le (HZ.out k h) T5.out.tch.size
              refine k2.block k hl fun hm => ?_
              simp only [List.mem_singleton] at hm
              subst hm
              rcases List.mem_append.1 hk with h | h
              · exact hgN.out h
              · have := HZ.out _ h
                have := HG.out
                omega
            refine bodyPost_ret (results_ctt rfl rfl rfl rfl (k1.loadAgg (by kernel_rfl) (by kernel_rfl))) rfl ⟨bv e.id, ?_, ?_, N, fun k hk => ⟨(HN'.out k hk).1, Nat.lt_of_lt_of_le (HN'.out k hk).2 k2.size⟩, hrqV, hs⟩
            · show _ = Ending.returned (.tuple #[mgv (cntE e C).m (bv e.id), _, _])
              rw [mgv_eq, HBV.out]
              rfl
            · intro d hd
              simp only [Option.some.injEq] at hd
              subst hd
              exact ⟨hs.bdv (H4.out e HMEM.out).1, (H4.out e HMEM.out).2⟩
          · go_wp2_with fail
            obtain ⟨G, hG⟩ : ∃ G, w2.heap.size = G := ⟨_, rfl⟩
            try simp only [World.setCell_heap_size, World.size_setCell]
            rw [hG]
            obtain ⟨C, hC⟩ : ∃ C, C = ct := ⟨_, rfl⟩
            subst hC
            have hC4 : C ≤ 4294967295 := by omega
            refine forget (fun W => Bx W r 90 (rcs room limit last (.slice (some ⟨b0, 0, none⟩) j c)) ∧ OwnC 64 8 (fun _ => True) W 0 (.slice (some ⟨b0, 0, none⟩) j c) j (eits ((L.set i (cntE e C)).map fun e => (e, bv e.id))) ∧ Bx W g 41 [.int .u8 (4 : Nat), .int .u64 OA, .int .u64 OB, .string ⟨OC.toArray⟩] ∧ Bx W (g + 1) 32 zMsg ∧ Bx W G 32 [.int .u8 e.m.pr, .int .u32 e.m.ttl, .int .u32 (C : Nat), .string ⟨e.m.ids.toArray⟩, .slice Ab e.m.body.length cb] ∧ Tch [b0] w W) ⟨?_, ?_, ?_, ?_, ?_, ?_⟩ ?_
            · exact HR2.out.alloc _
            · rw [cntE_self HCT.out, ← HE.out.2, List.set_getElem_self]
              exact (H2.out.below B2.out).alloc _
            · exact K3.out.alloc _
            · exact K4.out.alloc _
            · exact Bx.new' _ 32 _ hG.symm
            · exact (Tch.of_below [b0] B2.out).alloc _
            rintro W ⟨M1, M2, M3, M4, M5, M6⟩
            clear x0 x1 x2 x3 m0 m1 m2 m3 m4 y0 y1 y2 y3 y4 y5 y6 y7 v3 z1 z2
            have x0 := M3.cell 0 _ rfl
            have x2 := M3.cell 2 _ rfl
            have z1 := M1.cell 1 _ rfl
            have z2 := M1.cell 2 _ rfl
            have y0 := M5.cell 0 _ rfl
            have y1 := M5.cell 1 _ rfl
            have y2 := M5.cell 2 _ rfl
            have y3 := M5.cell 3 _ rfl
            have y4 := M5.cell 4 _ rfl
            have m0 := M4.cell 0 _ rfl
            have m1 := M4.cell 1 _ rfl
            have m2 := M4.cell 2 _ rfl
            have m3 := M4.cell 3 _ rfl
            have m4 := M4.cell 4 _ rfl
            have n0 := M4.froz 0
            have n1 := M4.froz 1
            have n2 := M4.froz 2
            have n3 := M4.froz 3
            have n4 := M4.froz 4
            have hgG : g + 1 < G := by omega
            have hEi : (L.set i (cntE e C)) = modL (cntE e C) L := (modL_set HE.out.1 (cntE e C) (by rw [HE.out.2]; rfl) H6.out.sorted).symm
            have hok : WfM (cntE e C).m := by
              obtain ⟨p1, p2, p3, p4, p5⟩ := H6.out.ok e HMEM.out
              exact ⟨p1, p2, p3, p4, hC4⟩
            have hrq : Rq W Z r room limit last (L.set i (cntE e C)) := by
              refine ⟨⟨.slice (some ⟨b0, 0, none⟩) j c, bv, M1, by rw [List.length_set, HN.out]; exact M2, H3.out, fun x hx => ?_⟩, H5.out, by rw [hEi]; exact H6.out.mod HMEM.out rfl hok (H6.out.tm e HMEM.out)⟩
              have hb : ∃ y ∈ L, y.id = x.id ∧ y.m.body = x.m.body := by
                rcases List.mem_or_eq_of_mem_set hx with h | rfl
                · exact ⟨x, h, rfl, rfl⟩
                · exact ⟨e, HMEM.out, rfl, rfl⟩
              obtain ⟨y, hy, h1, h2⟩ := hb
              rw [← h1, ← h2]
              exact ⟨(H4.out y hy).1.tch M6 fun k hk => (by simp only [List.mem_singleton] at hk; subst hk; exact HZB.out.2), (H4.out y hy).2⟩
            have hst : RStep Z w W := ⟨[b0], M6, fun q hq => by simp only [List.mem_singleton] at hq; subst hq; exact HZB.out⟩
            have N1 := Lib.hid M1
            have N2 := Lib.hid M2
            have N4 := Lib.hid M4
            have N5 := Lib.hid M5
            have N6 := Lib.hid M6
            have RQ := Lib.hid hrq
            have ST := Lib.hid hst
            have HEI := Lib.hid hEi
            clear M1 M2 M3 M4 M5 M6 hrq hst hEi
            have hce := cntE_self HCT.out
            have HF := Lib.hid (show setQ limit L e.id O = (modL (freeE (cntE e C)) L, 0, none) by
              unfold setQ
              rw [HFH.out, ← HO.out]
              simp only
              rw [if_neg (by decide), if_neg (by decide), if_pos trivial, hce])
            have hi2 : i < ((L.set i (cntE e C)).map fun e => (e, bv e.id)).length := by rw [List.length_map, List.length_set]; exact HE.out.1
            have w7 := N2.out.cell_at (i * 8 + 7) (.bool e.held) (by
              have h1 := flat_at eit 8 ((L.set i (cntE e C)).map fun e => (e, bv e.id)) (fun x _ => eit_length x) i hi2 7 (by decide)
              rw [List.getElem_map, List.getElem_set_self] at h1
              exact h1)
            obtain ⟨w7, w8⟩ := w7
            obtain ⟨S, hSd⟩ : ∃ S : World → Prop, S = fun W' : World => W'.cell? ⟨g, 0, none⟩ = W.cell? ⟨g, 0, none⟩ ∧ W'.cell? ⟨g, 2, none⟩ = W.cell? ⟨g, 2, none⟩ ∧ W'.cell? ⟨r, 1, none⟩ = W.cell? ⟨r, 1, none⟩ ∧ W'.cell? ⟨G, 2, none⟩ = W.cell? ⟨G, 2, none⟩ := ⟨_, rfl⟩
            have hS : S W.drew := by rw [hSd]; exact ⟨rfl, rfl, rfl, rfl⟩
            rw [x0, x2, z1, y2] at hSd
            have HSd := Lib.hid hSd
            clear hSd
            refine (wpIn_wide (n := 0)).1 ?_
            refine s_region [] S (by kernel_rfl) ?_
            refine s_tk 0 rfl (by kernel_rfl) (by rfl) (by intro w' hw; rw [HSd.out] at hw; obtain ⟨h0, h1, h2, h3⟩ := hw; go_simp; try (with_reducible rfl)) hS ?_
            simp only [List.getElem_toArray, List.getElem_cons_succ, List.getElem_cons_zero, Act.put, List.setIfInBounds_toArray, List.set_cons_zero, List.set_cons_succ]
            refine s_tk 1 rfl (by kernel_rfl) (by rfl) (by intro w' hw; rw [HSd.out] at hw; obtain ⟨h0, h1, h2, h3⟩ := hw; go_simp; try (with_reducible rfl)) hS ?_
            simp only [List.getElem_toArray, List.getElem_cons_succ, List.getElem_cons_zero, Act.put, List.setIfInBounds_toArray, List.set_cons_zero, List.set_cons_succ]
            refine s_tk 2 rfl (by kernel_rfl) (by rfl) (by intro w' hw; rw [HSd.out] at hw; obtain ⟨h0, h1, h2, h3⟩ := hw; go_simp; try (with_reducible rfl)) hS ?_
            simp only [List.getElem_toArray, List.getElem_cons_succ, List.getElem_cons_zero, Act.put, List.setIfInBounds_toArray, List.set_cons_zero, List.set_cons_succ]
            refine s_tk 3 rfl (by kernel_rfl) (by rfl) (by intro w' hw; rw [HSd.out] at hw; obtain ⟨h0, h1, h2, h3⟩ := hw; go_simp; try (with_reducible rfl)) hS ?_
            simp only [List.getElem_toArray, List.getElem_cons_succ, List.getElem_cons_zero, Act.put, List.setIfInBounds_toArray, List.set_cons_zero, List.set_cons_succ]
            refine s_tk 4 rfl (by kernel_rfl) (by rfl) (by intro w' hw; rw [HSd.out] at hw; obtain ⟨h0, h1, h2, h3⟩ := hw; go_simp; try (with_reducible rfl)) hS ?_
            simp only [List.getElem_toArray, List.getElem_cons_succ, List.getElem_cons_zero, Act.put, List.setIfInBounds_toArray, List.set_cons_zero, List.set_cons_succ]
            refine s_tk 5 rfl (by kernel_rfl) (by rfl) (by intro w' hw; rw [HSd.out] at hw; obtain ⟨h0, h1, h2, h3⟩ := hw; go_simp; try (with_reducible rfl)) hS ?_
            simp only [List.getElem_toArray, List.getElem_cons_succ, List.getElem_cons_zero, Act.put, List.setIfInBounds_toArray, List.set_cons_zero, List.set_cons_succ]
            refine s_tk 6 rfl (by kernel_rfl) (by rfl) (by intro w' hw; rw [HSd.out] at hw; obtain ⟨h0, h1, h2, h3⟩ := hw; go_simp; try (with_reducible rfl)) hS ?_
            simp only [List.getElem_toArray, List.getElem_cons_succ, List.getElem_cons_zero, Act.put, List.setIfInBounds_toArray, List.set_cons_zero, List.set_cons_succ]
            refine s_tk 7 rfl (by kernel_rfl) (by rfl) (by intro w' hw; rw [HSd.out] at hw; obtain ⟨h0, h1, h2, h3⟩ := hw; go_simp; try (with_reducible rfl)) hS ?_
            simp only [List.getElem_toArray, List.getElem_cons_succ, List.getElem_cons_zero, Act.put, List.setIfInBounds_toArray, List.set_cons_zero, List.set_cons_succ]
            refine s_ps 8 rfl (by kernel_rfl) (by rfl) hS ?_
            simp only [List.getElem_toArray, List.getElem_cons_succ, List.getElem_cons_zero, Act.put, List.setIfInBounds_toArray, List.set_cons_zero, List.set_cons_succ]
            refine s_ps 9 rfl (by kernel_rfl) (by rfl) hS ?_
            simp only [List.getElem_toArray, List.getElem_cons_succ, List.getElem_cons_zero, Act.put, List.setIfInBounds_toArray, List.set_cons_zero, List.set_cons_succ]
            refine s_ps 10 rfl (by kernel_rfl) (by rfl) hS ?_
            simp only [List.getElem_toArray, List.getElem_cons_succ, List.getElem_cons_zero, Act.put, List.setIfInBounds_toArray, List.set_cons_zero, List.set_cons_succ]
            refine s_ps 11 rfl (by kernel_rfl) (by rfl) hS ?_
            simp only [List.getElem_toArray, List.getElem_cons_succ, List.getElem_cons_zero, Act.put, List.setIfInBounds_toArray, List.set_cons_zero, List.set_cons_succ]
            refine s_ps 12 rfl (by kernel_rfl) (by rfl) hS ?_
            simp only [List.getElem_toArray, List.getElem_cons_succ, List.getElem_cons_zero, Act.put, List.setIfInBounds_toArray, List.set_cons_zero, List.set_cons_succ]
            refine s_ps 13 rfl (by kernel_rfl) (by rfl) hS ?_
            simp only [List.getElem_toArray, List.getElem_cons_succ, List.getElem_cons_zero, Act.put, List.setIfInBounds_toArray, List.set_cons_zero, List.set_cons_succ]
            refine s_ps 14 rfl (by kernel_rfl) (by rfl) hS ?_
            simp only [List.getElem_toArray, List.getElem_cons_succ, List.getElem_cons_zero, Act.put, List.setIfInBounds_toArray, List.set_cons_zero, List.set_cons_succ]
            refine s_ps 15 rfl (by kernel_rfl) (by rfl) hS ?_
            simp only [List.getElem_toArray, List.getElem_cons_succ, List.getElem_cons_zero, Act.put, List.setIfInBounds_toArray, List.set_cons_zero, List.set_cons_succ]
            refine s_ps 16 rfl (by kernel_rfl) (by rfl) hS ?_
            simp only [List.getElem_toArray, List.getElem_cons_succ, List.getElem_cons_zero, Act.put, List.setIfInBounds_toArray, List.set_cons_zero, List.set_cons_succ]
            refine s_ps 17 rfl (by kernel_rfl) (by rfl) hS ?_
            simp only [List.getElem_toArray, List.getElem_cons_succ, List.getElem_cons_zero, Act.put, List.setIfInBounds_toArray, List.set_cons_zero, List.set_cons_succ]
            refine s_ps 18 rfl (by kernel_rfl) (by rfl) hS ?_
            simp only [List.getElem_toArray, List.getElem_cons_succ, List.getElem_cons_zero, Act.put, List.setIfInBounds_toArray, List.set_cons_zero, List.set_cons_succ]
            refine s_ps 19 rfl (by kernel_rfl) (by rfl) hS ?_
            simp only [List.getElem_toArray, List.getElem_cons_succ, List.getElem_cons_zero, Act.put, List.setIfInBounds_toArray, List.set_cons_zero, List.set_cons_succ]
            refine s_ps 20 rfl (by kernel_rfl) (by rfl) hS ?_
            simp only [List.getElem_toArray, List.getElem_cons_succ, List.getElem_cons_zero, Act.put, List.setIfInBounds_toArray, List.set_cons_zero, List.set_cons_succ]
            refine s_ps 21 rfl (by kernel_rfl) (by rfl) hS ?_
            simp only [List.getElem_toArray, List.getElem_cons_succ, List.getElem_cons_zero, Act.put, List.setIfInBounds_toArray, List.set_cons_zero, List.set_cons_succ]
            refine s_ps 22 rfl (by kernel_rfl) (by rfl) hS ?_
            simp only [List.getElem_toArray, List.getElem_cons_succ, List.getElem_cons_zero, Act.put, List.setIfInBounds_toArray, List.set_cons_zero, List.set_cons_succ]
            refine s_ps 23 rfl (by kernel_rfl) (by rfl) hS ?_
            simp only [List.getElem_toArray, List.getElem_cons_succ, List.getElem_cons_zero, Act.put, List.setIfInBounds_toArray, List.set_cons_zero, List.set_cons_succ]
            refine s_ps 24 rfl (by kernel_rfl) (by rfl) hS ?_
            simp only [List.getElem_toArray, List.getElem_cons_succ, List.getElem_cons_zero, Act.put, List.setIfInBounds_toArray, List.set_cons_zero, List.set_cons_succ]
            refine s_ps 25 rfl (by kernel_rfl) (by rfl) hS ?_
            simp only [List.getElem_toArray, List.getElem_cons_succ, List.getElem_cons_zero, Act.put, List.setIfInBounds_toArray, List.set_cons_zero, List.set_cons_succ]
            refine s_ps 26 rfl (by kernel_rfl) (by rfl) hS ?_
            simp only [List.getElem_toArray, List.getElem_cons_succ, List.getElem_cons_zero, Act.put, List.setIfInBounds_toArray, List.set_cons_zero, List.set_cons_succ]
            refine s_ps 27 rfl (by kernel_rfl) (by rfl) hS ?_
            simp only [List.getElem_toArray, List.getElem_cons_succ, List.getElem_cons_zero, Act.put, List.setIfInBounds_toArray, List.set_cons_zero, List.set_cons_succ]
            refine s_tk 28 rfl (by kernel_rfl) (by rfl) (by intro w' hw; rw [HSd.out] at hw; obtain ⟨h0, h1, h2, h3⟩ := hw; go_simp; try (with_reducible rfl)) hS ?_
            simp only [List.getElem_toArray, List.getElem_cons_succ, List.getElem_cons_zero, Act.put, List.setIfInBounds_toArray, List.set_cons_zero, List.set_cons_succ]
            refine s_tk 29 rfl (by kernel_rfl) (by rfl) (by intro w' hw; rw [HSd.out] at hw; obtain ⟨h0, h1, h2, h3⟩ := hw; go_simp; try (with_reducible rfl)) hS ?_
            simp only [List.getElem_toArray, List.getElem_cons_succ, List.getElem_cons_zero, Act.put, List.setIfInBounds_toArray, List.set_cons_zero, List.set_cons_succ]
            refine s_tk 30 rfl (by kernel_rfl) (by rfl) (by intro w' hw; rw [HSd.out] at hw; obtain ⟨h0, h1, h2, h3⟩ := hw; go_simp; try (with_reducible rfl)) hS ?_
            simp only [List.getElem_toArray, List.getElem_cons_succ, List.getElem_cons_zero, Act.put, List.setIfInBounds_toArray, List.set_cons_zero, List.set_cons_succ]
            refine s_done (by kernel_rfl) ?_ _
            go_wp2_with fail
            refine forgetX (fun V => Bx V (g + 1) 32 zMsg ∧ Bx V r 90 (rcs room limit last (.slice (some ⟨b0, 0, none⟩) j c)) ∧ OwnC 64 8 (fun _ => True) V 0 (.slice (some ⟨b0, 0, none⟩) j c) j (eits ((L.set i (freeE (cntE e C))).map fun e => (e, bv e.id))) ∧ Tch [b0, g + 1] W V) ⟨?_, ?_, ?_, ?_⟩ ?_
            · have h1 : Bx (W.setCell ⟨b0, i * 8 + 7, none⟩ (.bool false)) (g + 1) 32 zMsg := Bx.off N4.out (by omega)
              refine Bx.drew ?_
              with_reducible refine Bx.to (((((h1.set 0 _).set 1 _).set 2 _).set 3 _).set 4 _) ?_
              rfl
            · have h1 : Bx (W.setCell ⟨b0, i * 8 + 7, none⟩ (.bool false)) r 90 (rcs room limit last (.slice (some ⟨b0, 0, none⟩) j c)) := Bx.off N1.out hrb
              have hne : r ≠ g + 1 := by omega
              refine Bx.drew ?_
              with_reducible exact ((((h1.off hne).off hne).off hne).off hne).off hne
            · have hv := N2.out.set_cell (i * 8 + 7) (by omega) (.bool false) rfl
              rw [eits_set hi2 (by decide) (.bool false) (freeE (cntE e C), bv e.id) (by rw [List.getElem_map, List.getElem_set_self]; rfl)] at hv
              have h2 : ((L.set i (cntE e C)).map fun e => (e, bv e.id)).set i (freeE (cntE e C), bv e.id) = (L.set i (freeE (cntE e C))).map fun e => (e, bv e.id) := by
                rw [List.map_set, List.map_set, List.set_set]; rfl
              rw [h2] at hv
              refine OwnC.drew (OwnC.tch (F := [g + 1]) hv ?_ fun k hk hm => ?_)
              · with_reducible repeat first | exact Tch.refl _ _ | refine Tch.setCell ?_ _ (.inl (by simp))
              · simp only [Value.ownBlock, Option.some.injEq] at hk
                subst hk
                simp only [List.mem_singleton] at hm
                omega
            · refine Tch.drew ?_
              with_reducible repeat first | exact Tch.refl _ _ | refine Tch.setCell ?_ _ (.inl (by simp))
            rintro V ⟨k1, k2, k3, k4⟩
            rw [HF.out]
            have hs : RStep Z w V := ⟨[b0], N6.out.trans k4 (by intro q hq; simp at hq ⊢; have := HG.out; omega), fun q hq => by simp only [List.mem_singleton] at hq; subst hq; exact HZB.out⟩
            have hEi : (L.set i (freeE (cntE e C))) = modL (freeE (cntE e C)) L := (modL_set HE.out.1 (freeE (cntE e C)) (by rw [HE.out.2]; rfl) H6.out.sorted).symm
            refine bodyPost_ret (results_ctt rfl rfl rfl rfl (k1.loadAgg (by kernel_rfl) (by kernel_rfl))) rfl ⟨.slice none 0 0, rfl, by intro d hd; simp at hd, [], by simp, ⟨⟨.slice (some ⟨b0, 0, none⟩) j c, bv, k2, ?_, H3.out, fun x hx => ?_⟩, H5.out, ?_⟩, hs⟩
            · show OwnC _ _ _ _ _ _ (modL (freeE (cntE e C)) L).length (eits ((modL (freeE (cntE e C)) L).map fun e => (e, bv e.id)))
              rw [← hEi, List.length_set, HN.out]
              exact k3
            · have hx : x ∈ modL (freeE (cntE e C)) L := hx
              have hb : ∃ y ∈ L, y.id = x.id ∧ y.m.body = x.m.body := by
                rcases mem_modL hx with rfl | ⟨h, _⟩
                · exact ⟨e, HMEM.out, rfl, rfl⟩
                · exact ⟨x, h, rfl, rfl⟩
              obtain ⟨y, hy, h1, h2⟩ := hb
              rw [← h1, ← h2]
              exact ⟨hs.bdv (H4.out y hy).1, (H4.out y hy).2⟩
            · show WfQ room limit last (modL (freeE (cntE e C)) L)
              exact H6.out.mod HMEM.out rfl hok (H6.out.tm e HMEM.out)
          · by_cases ha : OA = 1
            · by_cases hc : ct < 4294967295
              · have hc1 : (ct : Int) < 4294967295 := by omega
                go_wp2_with fail
                obtain ⟨G, hG⟩ : ∃ G, w2.heap.size = G := ⟨_, rfl⟩
                try simp only [World.setCell_heap_size, World.size_setCell]
                rw [hG]
                obtain ⟨C, hC⟩ : ∃ C, ct + 1 = C := ⟨_, rfl⟩
                have hCi : (ct : Int) + 1 = (C : Nat) := by omega
                rw [hCi]
                have hC4 : C ≤ 4294967295 := by omega
                refine forget (fun W => Bx W r 90 (rcs room limit last (.slice (some ⟨b0, 0, none⟩) j c)) ∧ OwnC 64 8 (fun _ => True) W 0 (.slice (some ⟨b0, 0, none⟩) j c) j (eits ((L.set i (cntE e C)).map fun e => (e, bv e.id))) ∧ Bx W g 41 [.int .u8 (5 : Nat), .int .u64 OA, .int .u64 OB, .string ⟨OC.toArray⟩] ∧ Bx W (g + 1) 32 zMsg ∧ Bx W G 32 [.int .u8 e.m.pr, .int .u32 e.m.ttl, .int .u32 (C : Nat), .string ⟨e.m.ids.toArray⟩, .slice Ab e.m.body.length cb] ∧ Tch [b0] w W) ⟨?_, ?_, ?_, ?_, ?_, ?_⟩ ?_
                · exact (HR2.out.off hrb).alloc _
                · have hv := (H2.out.below B2.out).set_cell (i * 8 + 3) (by omega) (.int .u32 (C : Nat)) rfl
                  rw [eits_set hi' (by decide) (.int .u32 (C : Nat)) (cntE e C, bv e.id) (by rw [List.getElem_map, HE.out.2]; rfl)] at hv
                  have h2 : (L.map fun e => (e, bv e.id)).set i (cntE e C, bv e.id) = (L.set i (cntE e C)).map fun e => (e, bv e.id) := by rw [List.map_set]; rfl
                  rw [h2] at hv
                  exact hv.alloc _
                · exact (K3.out.off (by omega)).alloc _
                · exact (K4.out.off (by omega)).alloc _
                · exact Bx.new' _ 32 _ (by rw [← hG]; simp [World.setCell])
                · exact ((Tch.of_below [b0] B2.out).setCell _ (.inl (by simp))).alloc _
                rintro W ⟨M1, M2, M3, M4, M5, M6⟩
                clear x0 x1 x2 x3 m0 m1 m2 m3 m4 y0 y1 y2 y3 y4 y5 y6 y7 v3 z1 z2
                have x0 := M3.cell 0 _ rfl
                have x2 := M3.cell 2 _ rfl
                have z1 := M1.cell 1 _ rfl
                have z2 := M1.cell 2 _ rfl
                have y0 := M5.cell 0 _ rfl
                have y1 := M5.cell 1 _ rfl
                have y2 := M5.cell 2 _ rfl
                have y3 := M5.cell 3 _ rfl
                have y4 := M5.cell 4 _ rfl
                have m0 := M4.cell 0 _ rfl
                have m1 := M4.cell 1 _ rfl
                have m2 := M4.cell 2 _ rfl
                have m3 := M4.cell 3 _ rfl
                have m4 := M4.cell 4 _ rfl
                have n0 := M4.froz 0
                have n1 := M4.froz 1
                have n2 := M4.froz 2
                have n3 := M4.froz 3
                have n4 := M4.froz 4
                have hgG : g + 1 < G := by omega
                have hEi : (L.set i (cntE e C)) = modL (cntE e C) L := (modL_set HE.out.1 (cntE e C) (by rw [HE.out.2]; rfl) H6.out.sorted).symm
                have hok : WfM (cntE e C).m := by
                  obtain ⟨p1, p2, p3, p4, p5⟩ := H6.out.ok e HMEM.out
                  exact ⟨p1, p2, p3, p4, hC4⟩
                have hrq : Rq W Z r room limit last (L.set i (cntE e C)) := by
                  refine ⟨⟨.slice (some ⟨b0, 0, none⟩) j c, bv, M1, by rw [List.length_set, HN.out]; exact M2, H3.out, fun x hx => ?_⟩, H5.out, by rw [hEi]; exact H6.out.mod HMEM.out rfl hok (H6.out.tm e HMEM.out)⟩
                  have hb : ∃ y ∈ L, y.id = x.id ∧ y.m.body = x.m.body := by
                    rcases List.mem_or_eq_of_mem_set hx with h | rfl
                    · exact ⟨x, h, rfl, rfl⟩
                    · exact ⟨e, HMEM.out, rfl, rfl⟩
                  obtain ⟨y, hy, h1, h2⟩ := hb
                  rw [← h1, ← h2]
                  exact ⟨(H4.out y hy).1.tch M6 fun k hk => (by simp only [List.mem_singleton] at hk; subst hk; exact HZB.out.2), (H4.out y hy).2⟩
                have hst : RStep Z w W := ⟨[b0], M6, fun q hq => by simp only [List.mem_singleton] at hq; subst hq; exact HZB.out⟩
                have N1 := Lib.hid M1
                have N2 := Lib.hid M2
                have N4 := Lib.hid M4
                have N5 := Lib.hid M5
                have N6 := Lib.hid M6
                have RQ := Lib.hid hrq
                have ST := Lib.hid hst
                have HEI := Lib.hid hEi
                clear M1 M2 M3 M4 M5 M6 hrq hst hEi
                have hbe : bumpE ⟨5, OA, OB, OC⟩ e = cntE e C := by
                  unfold bumpE bump
                  rw [if_pos ⟨ha, by rw [HCT.out]; exact hc⟩]
                  unfold cntE
                  rw [HCT.out, hC]
                by_cases hb : OB = 1
                · have HF := Lib.hid (show setQ limit L e.id O = (less [e.id] L, 0, some (cntE e C)) by
                    unfold setQ
                    rw [HFH.out, ← HO.out]
                    simp only
                    rw [if_neg (by decide), if_neg (by decide), if_neg (by decide), if_pos trivial, hbe]
                    rw [if_pos (show deadE limit ⟨5, OA, OB, OC⟩ (cntE e C).m = true from decide_eq_true (by show OB = 1 ∨ (0 < limit ∧ limit ≤ C); omega))]
                  )
                  clear hbe
                  subst hb
                  obtain ⟨S, hSd⟩ : ∃ S : World → Prop, S = fun W' : World => W'.cell? ⟨g, 0, none⟩ = W.cell? ⟨g, 0, none⟩ ∧ W'.cell? ⟨g, 2, none⟩ = W.cell? ⟨g, 2, none⟩ ∧ W'.cell? ⟨r, 1, none⟩ = W.cell? ⟨r, 1, none⟩ ∧ W'.cell? ⟨G, 2, none⟩ = W.cell? ⟨G, 2, none⟩ := ⟨_, rfl⟩
                  have hS : S W.drew := by rw [hSd]; exact ⟨rfl, rfl, rfl, rfl⟩
                  rw [x0, x2, z1, y2] at hSd
                  have HSd := Lib.hid hSd
                  clear hSd
                  refine (wpIn_wide (n := 0)).1 ?_
                  refine s_region [] S (by kernel_rfl) ?_
                  refine s_tk 0 rfl (by kernel_rfl) (by rfl) (by intro w' hw; rw [HSd.out] at hw; obtain ⟨h0, h1, h2, h3⟩ := hw; go_simp; try (with_reducible rfl)) hS ?_
                  simp only [List.getElem_toArray, List.getElem_cons_succ, List.getElem_cons_zero, Act.put, List.setIfInBounds_toArray, List.set_cons_zero, List.set_cons_succ]
                  refine s_tk 1 rfl (by kernel_rfl) (by rfl) (by intro w' hw; rw [HSd.out] at hw; obtain ⟨h0, h1, h2, h3⟩ := hw; go_simp; try (with_reducible rfl)) hS ?_
                  simp only [List.getElem_toArray, List.getElem_cons_succ, List.getElem_cons_zero, Act.put, List.setIfInBounds_toArray, List.set_cons_zero, List.set_cons_succ]
                  refine s_tk 2 rfl (by kernel_rfl) (by rfl) (by intro w' hw; rw [HSd.out] at hw; obtain ⟨h0, h1, h2, h3⟩ := hw; go_simp; try (with_reducible rfl)) hS ?_
                  simp only [List.getElem_toArray, List.getElem_cons_succ, List.getElem_cons_zero, Act.put, List.setIfInBounds_toArray, List.set_cons_zero, List.set_cons_succ]
                  refine s_tk 3 rfl (by kernel_rfl) (by rfl) (by intro w' hw; rw [HSd.out] at hw; obtain ⟨h0, h1, h2, h3⟩ := hw; go_simp; try (with_reducible rfl)) hS ?_
                  simp only [List.getElem_toArray, List.getElem_cons_succ, List.getElem_cons_zero, Act.put, List.setIfInBounds_toArray, List.set_cons_zero, List.set_cons_succ]
                  refine s_tk 4 rfl (by kernel_rfl) (by rfl) (by intro w' hw; rw [HSd.out] at hw; obtain ⟨h0, h1, h2, h3⟩ := hw; go_simp; try (with_reducible rfl)) hS ?_
                  simp only [List.getElem_toArray, List.getElem_cons_succ, List.getElem_cons_zero, Act.put, List.setIfInBounds_toArray, List.set_cons_zero, List.set_cons_succ]
                  refine s_tk 5 rfl (by kernel_rfl) (by rfl) (by intro w' hw; rw [HSd.out] at hw; obtain ⟨h0, h1, h2, h3⟩ := hw; go_simp; try (with_reducible rfl)) hS ?_
                  simp only [List.getElem_toArray, List.getElem_cons_succ, List.getElem_cons_zero, Act.put, List.setIfInBounds_toArray, List.set_cons_zero, List.set_cons_succ]
                  refine s_tk 6 rfl (by kernel_rfl) (by rfl) (by intro w' hw; rw [HSd.out] at hw; obtain ⟨h0, h1, h2, h3⟩ := hw; go_simp; try (with_reducible rfl)) hS ?_
                  simp only [List.getElem_toArray, List.getElem_cons_succ, List.getElem_cons_zero, Act.put, List.setIfInBounds_toArray, List.set_cons_zero, List.set_cons_succ]
                  refine s_tk 7 rfl (by kernel_rfl) (by rfl) (by intro w' hw; rw [HSd.out] at hw; obtain ⟨h0, h1, h2, h3⟩ := hw; go_simp; try (with_reducible rfl)) hS ?_
                  simp only [List.getElem_toArray, List.getElem_cons_succ, List.getElem_cons_zero, Act.put, List.setIfInBounds_toArray, List.set_cons_zero, List.set_cons_succ]
                  refine s_tk 8 rfl (by kernel_rfl) (by rfl) (by intro w' hw; rw [HSd.out] at hw; obtain ⟨h0, h1, h2, h3⟩ := hw; go_simp; try (with_reducible rfl)) hS ?_
                  simp only [List.getElem_toArray, List.getElem_cons_succ, List.getElem_cons_zero, Act.put, List.setIfInBounds_toArray, List.set_cons_zero, List.set_cons_succ]
                  refine s_tk 9 rfl (by kernel_rfl) (by rfl) (by intro w' hw; rw [HSd.out] at hw; obtain ⟨h0, h1, h2, h3⟩ := hw; go_simp; try (with_reducible rfl)) hS ?_
                  simp only [List.getElem_toArray, List.getElem_cons_succ, List.getElem_cons_zero, Act.put, List.setIfInBounds_toArray, List.set_cons_zero, List.set_cons_succ]
                  refine s_tk 10 rfl (by kernel_rfl) (by rfl) (by intro w' hw; rw [HSd.out] at hw; obtain ⟨h0, h1, h2, h3⟩ := hw; go_simp; try (with_reducible rfl)) hS ?_
                  simp only [List.getElem_toArray, List.getElem_cons_succ, List.getElem_cons_zero, Act.put, List.setIfInBounds_toArray, List.set_cons_zero, List.set_cons_succ]
                  refine s_tk 11 rfl (by kernel_rfl) (by rfl) (by intro w' hw; rw [HSd.out] at hw; obtain ⟨h0, h1, h2, h3⟩ := hw; go_simp; try (with_reducible rfl)) hS ?_
                  simp only [List.getElem_toArray, List.getElem_cons_succ, List.getElem_cons_zero, Act.put, List.setIfInBounds_toArray, List.set_cons_zero, List.set_cons_succ]
                  refine s_ps 12 rfl (by kernel_rfl) (by rfl) hS ?_
                  simp only [List.getElem_toArray, List.getElem_cons_succ, List.getElem_cons_zero, Act.put, List.setIfInBounds_toArray, List.set_cons_zero, List.set_cons_succ]
                  refine s_ps 13 rfl (by kernel_rfl) (by rfl) hS ?_
                  simp only [List.getElem_toArray, List.getElem_cons_succ, List.getElem_cons_zero, Act.put, List.setIfInBounds_toArray, List.set_cons_zero, List.set_cons_succ]
                  refine s_ps 14 rfl (by kernel_rfl) (by rfl) hS ?_
                  simp only [List.getElem_toArray, List.getElem_cons_succ, List.getElem_cons_zero, Act.put, List.setIfInBounds_toArray, List.set_cons_zero, List.set_cons_succ]
                  refine s_ps 15 rfl (by kernel_rfl) (by rfl) hS ?_
                  simp only [List.getElem_toArray, List.getElem_cons_succ, List.getElem_cons_zero, Act.put, List.setIfInBounds_toArray, List.set_cons_zero, List.set_cons_succ]
                  refine s_ps 16 rfl (by kernel_rfl) (by rfl) hS ?_
                  simp only [List.getElem_toArray, List.getElem_cons_succ, List.getElem_cons_zero, Act.put, List.setIfInBounds_toArray, List.set_cons_zero, List.set_cons_succ]
                  refine s_ps 17 rfl (by kernel_rfl) (by rfl) hS ?_
                  simp only [List.getElem_toArray, List.getElem_cons_succ, List.getElem_cons_zero, Act.put, List.setIfInBounds_toArray, List.set_cons_zero, List.set_cons_succ]
                  refine s_ps 18 rfl (by kernel_rfl) (by rfl) hS ?_
                  simp only [List.getElem_toArray, List.getElem_cons_succ, List.getElem_cons_zero, Act.put, List.setIfInBounds_toArray, List.set_cons_zero, List.set_cons_succ]
                  refine s_ps 19 rfl (by kernel_rfl) (by rfl) hS ?_
                  simp only [List.getElem_toArray, List.getElem_cons_succ, List.getElem_cons_zero, Act.put, List.setIfInBounds_toArray, List.set_cons_zero, List.set_cons_succ]
                  refine s_ps 20 rfl (by kernel_rfl) (by rfl) hS ?_
                  simp only [List.getElem_toArray, List.getElem_cons_succ, List.getElem_cons_zero, Act.put, List.setIfInBounds_toArray, List.set_cons_zero, List.set_cons_succ]
                  refine s_ps 21 rfl (by kernel_rfl) (by rfl) hS ?_
                  simp only [List.getElem_toArray, List.getElem_cons_succ, List.getElem_cons_zero, Act.put, List.setIfInBounds_toArray, List.set_cons_zero, List.set_cons_succ]
                  refine s_ps 22 rfl (by kernel_rfl) (by rfl) hS ?_
                  simp only [List.getElem_toArray, List.getElem_cons_succ, List.getElem_cons_zero, Act.put, List.setIfInBounds_toArray, List.set_cons_zero, List.set_cons_succ]
                  refine s_ps 23 rfl (by kernel_rfl) (by rfl) hS ?_
                  simp only [List.getElem_toArray, List.getElem_cons_succ, List.getElem_cons_zero, Act.put, List.setIfInBounds_toArray, List.set_cons_zero, List.set_cons_succ]
                  refine s_ps 24 rfl (by kernel_rfl) (by rfl) hS ?_
                  simp only [List.getElem_toArray, List.getElem_cons_succ, List.getElem_cons_zero, Act.put, List.setIfInBounds_toArray, List.set_cons_zero, List.set_cons_succ]
                  refine s_ps 25 rfl (by kernel_rfl) (by rfl) hS ?_
                  simp only [List.getElem_toArray, List.getElem_cons_succ, List.getElem_cons_zero, Act.put, List.setIfInBounds_toArray, List.set_cons_zero, List.set_cons_succ]
                  refine s_ps 26 rfl (by kernel_rfl) (by rfl) hS ?_
                  simp only [List.getElem_toArray, List.getElem_cons_succ, List.getElem_cons_zero, Act.put, List.setIfInBounds_toArray, List.set_cons_zero, List.set_cons_succ]
                  refine s_tk 27 rfl (by kernel_rfl) (by rfl) (by intro w' hw; rw [HSd.out] at hw; obtain ⟨h0, h1, h2, h3⟩ := hw; go_simp; try (with_reducible rfl)) hS ?_
                  simp only [List.getElem_toArray, List.getElem_cons_succ, List.getElem_cons_zero, Act.put, List.setIfInBounds_toArray, List.set_cons_zero, List.set_cons_succ]
                  refine s_tk 28 rfl (by kernel_rfl) (by rfl) (by intro w' hw; rw [HSd.out] at hw; obtain ⟨h0, h1, h2, h3⟩ := hw; go_simp; try (with_reducible rfl)) hS ?_
                  simp only [List.getElem_toArray, List.getElem_cons_succ, List.getElem_cons_zero, Act.put, List.setIfInBounds_toArray, List.set_cons_zero, List.set_cons_succ]
                  refine s_tk 29 rfl (by kernel_rfl) (by rfl) (by intro w' hw; rw [HSd.out] at hw; obtain ⟨h0, h1, h2, h3⟩ := hw; go_simp; try (with_reducible rfl)) hS ?_
                  simp only [List.getElem_toArray, List.getElem_cons_succ, List.getElem_cons_zero, Act.put, List.setIfInBounds_toArray, List.set_cons_zero, List.set_cons_succ]
                  refine s_tk 30 rfl (by kernel_rfl) (by rfl) (by intro w' hw; rw [HSd.out] at hw; obtain ⟨h0, h1, h2, h3⟩ := hw; go_simp; try (with_reducible rfl)) hS ?_
                  simp only [List.getElem_toArray, List.getElem_cons_succ, List.getElem_cons_zero, Act.put, List.setIfInBounds_toArray, List.set_cons_zero, List.set_cons_succ]
                  refine s_done (by kernel_rfl) ?_ _
                  go_wp2_with fail
                  refine (rgoes_calls (RQ.out.keep (w' := W.drew) fun k _ => rfl) e.id).mono ?_
                  rintro x w5 ⟨⟨vv, rfl⟩, N, hN, RQ5, S5⟩
                  clear y0 y1 y2 y3 y4 m0 m1 m2 m3 m4 n0 n1 n2 n3 n4 x0 x2 z1 z2
                  have k5 : Bx w5 G 32 [.int .u8 e.m.pr, .int .u32 e.m.ttl, .int .u32 (C : Nat), .string ⟨e.m.ids.toArray⟩, .slice Ab e.m.body.length cb] := Bx.tch (W := W.drew) N5.out S5.tch fun hm => by have := HZ.out _ hm; omega
                  have k4 : Bx w5 (g + 1) 32 zMsg := Bx.tch (W := W.drew) N4.out S5.tch fun hm => by have := HZ.out _ hm; have := HG.out; omega
                  have y0 := k5.cell 0 _ rfl
                  have y1 := k5.cell 1 _ rfl
                  have y2 := k5.cell 2 _ rfl
                  have y3 := k5.cell 3 _ rfl
                  have y4 := k5.cell 4 _ rfl
                  have m0 := k4.cell 0 _ rfl
                  have m1 := k4.cell 1 _ rfl
                  have m2 := k4.cell 2 _ rfl
                  have m3 := k4.cell 3 _ rfl
                  have m4 := k4.cell 4 _ rfl
                  have n0 := k4.froz 0
                  have n1 := k4.froz 1
                  have n2 := k4.froz 2
                  have n3 := k4.froz 3
                  have n4 := k4.froz 4
                  have hN' : ∀ k ∈ N, w.heap.size ≤ k ∧ k < w5.heap.size := fun k hk => by have h1 := (hN k hk).1; have h2 := N6.out.size; exact ⟨Nat.le_trans h2 h1, (hN k hk).2⟩
                  have K5 := Lib.hid k5
                  have K4' := Lib.hid k4
                  have R5 := Lib.hid RQ5
                  have T5 := Lib.hid (ST.out.trans (Z' := Z) (w2 := w5) (by obtain ⟨F, t, hF⟩ := S5; exact ⟨F, Tch.of_drew (w := W) ⟨t.os, t.tape, t.output, t.size, t.block⟩, hF⟩) fun k hk => .inl hk)
                  have HN' := Lib.hid hN'
                  have hgN := Lib.hid (show g + 1 ∉ N from fun hm => by have h1 := (hN _ hm).1; have h2 : g + 1 < W.heap.size := N4.out.lt; have h3 : W.heap.size ≤ g + 1 := h1; omega)
                  clear k5 k4 RQ5 S5 hN hN'
                  go_wp2_with fail
                  refine forgetX (fun V => Bx V (g + 1) 32 [.int .u8 e.m.pr, .int .u32 e.m.ttl, .int .u32 (C : Nat), .string ⟨e.m.ids.toArray⟩, .slice Ab e.m.body.length cb] ∧ Tch [g + 1] w5 V) ⟨?_, ?_⟩ ?_
                  · with_reducible refine Bx.to (((((K4'.out.set 0 _).set 1 _).set 2 _).set 3 _).set 4 _) ?_
                    rfl
                  · with_reducible repeat first | exact Tch.refl _ _ | refine Tch.setCell ?_ _ (.inl (by simp))
                  rintro V ⟨k1, k2⟩
                  rw [HF.out]
                  have hs := T5.out.then_new k2 (by rw [HG.out]; simp)
                  have hrqV : Rq V (N ++ Z) r room limit last (less [e.id] L) := by
                    have h1 := R5.out
                    rw [HEI.out, show less [e.id] (modL (cntE e C) L) = less [e.id] L from less_modL (cntE e C) L] at h1
                    refine h1.keep fun k hk => ?_
                    have hl : k < w5.heap.size := by
                      rcases List.mem_append.1 hk with h | h
                      · exact (HN'.out k h).2
                      · exact Nat.lt_of_lt_of_le (HZ.out k h) T5.out.tch.size
                    refine k2.block k hl fun hm => ?_
                    simp only [List.mem_singleton] at hm
                    subst hm
                    rcases List.mem_append.1 hk with h | h
                    · exact hgN.out h
                    · have := HZ.out _ h
                      have := HG.out
                      omega
                  refine bodyPost_ret (results_ctt rfl rfl rfl rfl (k1.loadAgg (by kernel_rfl) (by kernel_rfl))) rfl ⟨bv e.id, ?_, ?_, N, fun k hk => ⟨(HN'.out k hk).1, Nat.lt_of_lt_of_le (HN'.out k hk).2 k2.size⟩, hrqV, hs⟩
                  · show _ = Ending.returned (.tuple #[mgv (cntE e C).m (bv e.id), _, _])
                    rw [mgv_eq, HBV.out]
                    rfl
                  · intro d hd
                    simp only [Option.some.injEq] at hd
                    subst hd
                    exact ⟨hs.bdv (H4.out e HMEM.out).1, (H4.out e HMEM.out).2⟩
                · have hb' : ¬ (OB : Int) = 1 := by omega
                  by_cases hl : limit = 0
                  · have HF := Lib.hid (show setQ limit L e.id O = (modL (freeE (cntE e C)) L, 0, none) by
                      unfold setQ
                      rw [HFH.out, ← HO.out]
                      simp only
                      rw [if_neg (by decide), if_neg (by decide), if_neg (by decide), if_pos trivial, hbe]
                      rw [if_neg (show ¬ deadE limit ⟨5, OA, OB, OC⟩ (cntE e C).m = true from fun h => by have h := of_decide_eq_true h; have h : OB = 1 ∨ (0 < limit ∧ limit ≤ C) := h; omega)]
                    )
                    clear hbe
                    subst hl
                    have hi2 : i < ((L.set i (cntE e C)).map fun e => (e, bv e.id)).length := by rw [List.length_map, List.length_set]; exact HE.out.1
                    have w7 := N2.out.cell_at (i * 8 + 7) (.bool e.held) (by
                      have h1 := flat_at eit 8 ((L.set i (cntE e C)).map fun e => (e, bv e.id)) (fun x _ => eit_length x) i hi2 7 (by decide)
                      rw [List.getElem_map, List.getElem_set_self] at h1
                      exact h1)
                    obtain ⟨w7, w8⟩ := w7
                    obtain ⟨S, hSd⟩ : ∃ S : World → Prop, S = fun W' : World => W'.cell? ⟨g, 0, none⟩ = W.cell? ⟨g, 0, none⟩ ∧ W'.cell? ⟨g, 2, none⟩ = W.cell? ⟨g, 2, none⟩ ∧ W'.cell? ⟨r, 1, none⟩ = W.cell? ⟨r, 1, none⟩ ∧ W'.cell? ⟨G, 2, none⟩ = W.cell? ⟨G, 2, none⟩ := ⟨_, rfl⟩
                    have hS : S W.drew := by rw [hSd]; exact ⟨rfl, rfl, rfl, rfl⟩
                    rw [x0, x2, z1, y2] at hSd
                    have HSd := Lib.hid hSd
                    clear hSd
                    refine (wpIn_wide (n := 0)).1 ?_
                    refine s_region [] S (by kernel_rfl) ?_
                    refine s_tk 0 rfl (by kernel_rfl) (by rfl) (by intro w' hw; rw [HSd.out] at hw; obtain ⟨h0, h1, h2, h3⟩ := hw; go_simp; try (with_reducible rfl)) hS ?_
                    simp only [List.getElem_toArray, List.getElem_cons_succ, List.getElem_cons_zero, Act.put, List.setIfInBounds_toArray, List.set_cons_zero, List.set_cons_succ]
                    refine s_tk 1 rfl (by kernel_rfl) (by rfl) (by intro w' hw; rw [HSd.out] at hw; obtain ⟨h0, h1, h2, h3⟩ := hw; go_simp; try (with_reducible rfl)) hS ?_
                    simp only [List.getElem_toArray, List.getElem_cons_succ, List.getElem_cons_zero, Act.put, List.setIfInBounds_toArray, List.set_cons_zero, List.set_cons_succ]
                    refine s_tk 2 rfl (by kernel_rfl) (by rfl) (by intro w' hw; rw [HSd.out] at hw; obtain ⟨h0, h1, h2, h3⟩ := hw; go_simp; try (with_reducible rfl)) hS ?_
                    simp only [List.getElem_toArray, List.getElem_cons_succ, List.getElem_cons_zero, Act.put, List.setIfInBounds_toArray, List.set_cons_zero, List.set_cons_succ]
                    refine s_tk 3 rfl (by kernel_rfl) (by rfl) (by intro w' hw; rw [HSd.out] at hw; obtain ⟨h0, h1, h2, h3⟩ := hw; go_simp; try (with_reducible rfl)) hS ?_
                    simp only [List.getElem_toArray, List.getElem_cons_succ, List.getElem_cons_zero, Act.put, List.setIfInBounds_toArray, List.set_cons_zero, List.set_cons_succ]
                    refine s_tk 4 rfl (by kernel_rfl) (by rfl) (by intro w' hw; rw [HSd.out] at hw; obtain ⟨h0, h1, h2, h3⟩ := hw; go_simp; try (with_reducible rfl)) hS ?_
                    simp only [List.getElem_toArray, List.getElem_cons_succ, List.getElem_cons_zero, Act.put, List.setIfInBounds_toArray, List.set_cons_zero, List.set_cons_succ]
                    refine s_tk 5 rfl (by kernel_rfl) (by rfl) (by intro w' hw; rw [HSd.out] at hw; obtain ⟨h0, h1, h2, h3⟩ := hw; go_simp; try (with_reducible rfl)) hS ?_
                    simp only [List.getElem_toArray, List.getElem_cons_succ, List.getElem_cons_zero, Act.put, List.setIfInBounds_toArray, List.set_cons_zero, List.set_cons_succ]
                    refine s_tk 6 rfl (by kernel_rfl) (by rfl) (by intro w' hw; rw [HSd.out] at hw; obtain ⟨h0, h1, h2, h3⟩ := hw; go_simp; try (with_reducible rfl)) hS ?_
                    simp only [List.getElem_toArray, List.getElem_cons_succ, List.getElem_cons_zero, Act.put, List.setIfInBounds_toArray, List.set_cons_zero, List.set_cons_succ]
                    refine s_tk 7 rfl (by kernel_rfl) (by rfl) (by intro w' hw; rw [HSd.out] at hw; obtain ⟨h0, h1, h2, h3⟩ := hw; go_simp; try (with_reducible rfl)) hS ?_
                    simp only [List.getElem_toArray, List.getElem_cons_succ, List.getElem_cons_zero, Act.put, List.setIfInBounds_toArray, List.set_cons_zero, List.set_cons_succ]
                    refine s_tk 8 rfl (by kernel_rfl) (by rfl) (by intro w' hw; rw [HSd.out] at hw; obtain ⟨h0, h1, h2, h3⟩ := hw; go_simp; try (with_reducible rfl)) hS ?_
                    simp only [List.getElem_toArray, List.getElem_cons_succ, List.getElem_cons_zero, Act.put, List.setIfInBounds_toArray, List.set_cons_zero, List.set_cons_succ]
                    refine s_tk 9 rfl (by kernel_rfl) (by rfl) (by intro w' hw; rw [HSd.out] at hw; obtain ⟨h0, h1, h2, h3⟩ := hw; go_simp; try (with_reducible rfl)) hS ?_
                    simp only [List.getElem_toArray, List.getElem_cons_succ, List.getElem_cons_zero, Act.put, List.setIfInBounds_toArray, List.set_cons_zero, List.set_cons_succ]
                    refine s_tk (v := .bool false) 10 rfl (by kernel_rfl) (by rfl) (by intro w' hw; rw [HSd.out] at hw; obtain ⟨h0, h1, h2, h3⟩ := hw; go_simp; try (simp [hb])) hS ?_
                    simp only [List.getElem_toArray, List.getElem_cons_succ, List.getElem_cons_zero, Act.put, List.setIfInBounds_toArray, List.set_cons_zero, List.set_cons_succ]
                    refine s_tk 11 rfl (by kernel_rfl) (by rfl) (by intro w' hw; rw [HSd.out] at hw; obtain ⟨h0, h1, h2, h3⟩ := hw; go_simp; try (with_reducible rfl)) hS ?_
                    simp only [List.getElem_toArray, List.getElem_cons_succ, List.getElem_cons_zero, Act.put, List.setIfInBounds_toArray, List.set_cons_zero, List.set_cons_succ]
                    refine s_tk 12 rfl (by kernel_rfl) (by rfl) (by intro w' hw; rw [HSd.out] at hw; obtain ⟨h0, h1, h2, h3⟩ := hw; go_simp; try (with_reducible rfl)) hS ?_
                    simp only [List.getElem_toArray, List.getElem_cons_succ, List.getElem_cons_zero, Act.put, List.setIfInBounds_toArray, List.set_cons_zero, List.set_cons_succ]
                    refine s_tk 13 rfl (by kernel_rfl) (by rfl) (by intro w' hw; rw [HSd.out] at hw; obtain ⟨h0, h1, h2, h3⟩ := hw; go_simp; try (with_reducible rfl)) hS ?_
                    simp only [List.getElem_toArray, List.getElem_cons_succ, List.getElem_cons_zero, Act.put, List.setIfInBounds_toArray, List.set_cons_zero, List.set_cons_succ]
                    refine s_tk 14 rfl (by kernel_rfl) (by rfl) (by intro w' hw; rw [HSd.out] at hw; obtain ⟨h0, h1, h2, h3⟩ := hw; go_simp; try (with_reducible rfl)) hS ?_
                    simp only [List.getElem_toArray, List.getElem_cons_succ, List.getElem_cons_zero, Act.put, List.setIfInBounds_toArray, List.set_cons_zero, List.set_cons_succ]
                    refine s_tk 15 rfl (by kernel_rfl) (by rfl) (by intro w' hw; rw [HSd.out] at hw; obtain ⟨h0, h1, h2, h3⟩ := hw; go_simp; try (with_reducible rfl)) hS ?_
                    simp only [List.getElem_toArray, List.getElem_cons_succ, List.getElem_cons_zero, Act.put, List.setIfInBounds_toArray, List.set_cons_zero, List.set_cons_succ]
                    refine s_tk 16 rfl (by kernel_rfl) (by rfl) (by intro w' hw; rw [HSd.out] at hw; obtain ⟨h0, h1, h2, h3⟩ := hw; go_simp; try (with_reducible rfl)) hS ?_
                    simp only [List.getElem_toArray, List.getElem_cons_succ, List.getElem_cons_zero, Act.put, List.setIfInBounds_toArray, List.set_cons_zero, List.set_cons_succ]
                    refine s_tk 17 rfl (by kernel_rfl) (by rfl) (by intro w' hw; rw [HSd.out] at hw; obtain ⟨h0, h1, h2, h3⟩ := hw; go_simp; try (with_reducible rfl)) hS ?_
                    simp only [List.getElem_toArray, List.getElem_cons_succ, List.getElem_cons_zero, Act.put, List.setIfInBounds_toArray, List.set_cons_zero, List.set_cons_succ]
                    refine s_ps 18 rfl (by kernel_rfl) (by rfl) hS ?_
                    simp only [List.getElem_toArray, List.getElem_cons_succ, List.getElem_cons_zero, Act.put, List.setIfInBounds_toArray, List.set_cons_zero, List.set_cons_succ]
                    refine s_ps 19 rfl (by kernel_rfl) (by rfl) hS ?_
                    simp only [List.getElem_toArray, List.getElem_cons_succ, List.getElem_cons_zero, Act.put, List.setIfInBounds_toArray, List.set_cons_zero, List.set_cons_succ]
                    refine s_ps 20 rfl (by kernel_rfl) (by rfl) hS ?_
                    simp only [List.getElem_toArray, List.getElem_cons_succ, List.getElem_cons_zero, Act.put, List.setIfInBounds_toArray, List.set_cons_zero, List.set_cons_succ]
                    refine s_ps 21 rfl (by kernel_rfl) (by rfl) hS ?_
                    simp only [List.getElem_toArray, List.getElem_cons_succ, List.getElem_cons_zero, Act.put, List.setIfInBounds_toArray, List.set_cons_zero, List.set_cons_succ]
                    refine s_ps 22 rfl (by kernel_rfl) (by rfl) hS ?_
                    simp only [List.getElem_toArray, List.getElem_cons_succ, List.getElem_cons_zero, Act.put, List.setIfInBounds_toArray, List.set_cons_zero, List.set_cons_succ]
                    refine s_ps 23 rfl (by kernel_rfl) (by rfl) hS ?_
                    simp only [List.getElem_toArray, List.getElem_cons_succ, List.getElem_cons_zero, Act.put, List.setIfInBounds_toArray, List.set_cons_zero, List.set_cons_succ]
                    refine s_ps 24 rfl (by kernel_rfl) (by rfl) hS ?_
                    simp only [List.getElem_toArray, List.getElem_cons_succ, List.getElem_cons_zero, Act.put, List.setIfInBounds_toArray, List.set_cons_zero, List.set_cons_succ]
                    refine s_ps 25 rfl (by kernel_rfl) (by rfl) hS ?_
                    simp only [List.getElem_toArray, List.getElem_cons_succ, List.getElem_cons_zero, Act.put, List.setIfInBounds_toArray, List.set_cons_zero, List.set_cons_succ]
                    refine s_tk 26 rfl (by kernel_rfl) (by rfl) (by intro w' hw; rw [HSd.out] at hw; obtain ⟨h0, h1, h2, h3⟩ := hw; go_simp; try (with_reducible rfl)) hS ?_
                    simp only [List.getElem_toArray, List.getElem_cons_succ, List.getElem_cons_zero, Act.put, List.setIfInBounds_toArray, List.set_cons_zero, List.set_cons_succ]
                    refine s_tk 27 rfl (by kernel_rfl) (by rfl) (by intro w' hw; rw [HSd.out] at hw; obtain ⟨h0, h1, h2, h3⟩ := hw; go_simp; try (with_reducible rfl)) hS ?_
                    simp only [List.getElem_toArray, List.getElem_cons_succ, List.getElem_cons_zero, Act.put, List.setIfInBounds_toArray, List.set_cons_zero, List.set_cons_succ]
                    refine s_tk 28 rfl (by kernel_rfl) (by rfl) (by intro w' hw; rw [HSd.out] at hw; obtain ⟨h0, h1, h2, h3⟩ := hw; go_simp; try (with_reducible rfl)) hS ?_
                    simp only [List.getElem_toArray, List.getElem_cons_succ, List.getElem_cons_zero, Act.put, List.setIfInBounds_toArray, List.set_cons_zero, List.set_cons_succ]
                    refine s_tk 29 rfl (by kernel_rfl) (by rfl) (by intro w' hw; rw [HSd.out] at hw; obtain ⟨h0, h1, h2, h3⟩ := hw; go_simp; try (with_reducible rfl)) hS ?_
                    simp only [List.getElem_toArray, List.getElem_cons_succ, List.getElem_cons_zero, Act.put, List.setIfInBounds_toArray, List.set_cons_zero, List.set_cons_succ]
                    refine s_tk 30 rfl (by kernel_rfl) (by rfl) (by intro w' hw; rw [HSd.out] at hw; obtain ⟨h0, h1, h2, h3⟩ := hw; go_simp; try (with_reducible rfl)) hS ?_
                    simp only [List.getElem_toArray, List.getElem_cons_succ, List.getElem_cons_zero, Act.put, List.setIfInBounds_toArray, List.set_cons_zero, List.set_cons_succ]
                    refine s_done (by kernel_rfl) ?_ _
                    go_wp2_with fail
                    refine forgetX (fun V => Bx V (g + 1) 32 zMsg ∧ Bx V r 90 (rcs room 0 last (.slice (some ⟨b0, 0, none⟩) j c)) ∧ OwnC 64 8 (fun _ => True) V 0 (.slice (some ⟨b0, 0, none⟩) j c) j (eits ((L.set i (freeE (cntE e C))).map fun e => (e, bv e.id))) ∧ Tch [b0, g + 1] W V) ⟨?_, ?_, ?_, ?_⟩ ?_
                    · have h1 : Bx (W.setCell ⟨b0, i * 8 + 7, none⟩ (.bool false)) (g + 1) 32 zMsg := Bx.off N4.out (by omega)
                      refine Bx.drew ?_
                      with_reducible refine Bx.to (((((h1.set 0 _).set 1 _).set 2 _).set 3 _).set 4 _) ?_
                      rfl
                    · have h1 : Bx (W.setCell ⟨b0, i * 8 + 7, none⟩ (.bool false)) r 90 (rcs room 0 last (.slice (some ⟨b0, 0, none⟩) j c)) := Bx.off N1.out hrb
                      have hne : r ≠ g + 1 := by omega
                      refine Bx.drew ?_
                      with_reducible exact ((((h1.off hne).off hne).off hne).off hne).off hne
                    · have hv := N2.out.set_cell (i * 8 + 7) (by omega) (.bool false) rfl
                      rw [eits_set hi2 (by decide) (.bool false) (freeE (cntE e C), bv e.id) (by rw [List.getElem_map, List.getElem_set_self]; rfl)] at hv
                      have h2 : ((L.set i (cntE e C)).map fun e => (e, bv e.id)).set i (freeE (cntE e C), bv e.id) = (L.set i (freeE (cntE e C))).map fun e => (e, bv e.id) := by
                        rw [List.map_set, List.map_set, List.set_set]; rfl
                      rw [h2] at hv
                      refine OwnC.drew (OwnC.tch (F := [g + 1]) hv ?_ fun k hk hm => ?_)
                      · with_reducible repeat first | exact Tch.refl _ _ | refine Tch.setCell ?_ _ (.inl (by simp))
                      · simp only [Value.ownBlock, Option.some.injEq] at hk
                        subst hk
                        simp only [List.mem_singleton] at hm
                        omega
                    · refine Tch.drew ?_
                      with_reducible repeat first | exact Tch.refl _ _ | refine Tch.setCell ?_ _ (.inl (by simp))
                    rintro V ⟨k1, k2, k3, k4⟩
                    rw [HF.out]
                    have hs : RStep Z w V := ⟨[b0], N6.out.trans k4 (by intro q hq; simp at hq ⊢; have := HG.out; omega), fun q hq => by simp only [List.mem_singleton] at hq; subst hq; exact HZB.out⟩
                    have hEi : (L.set i (freeE (cntE e C))) = modL (freeE (cntE e C)) L := (modL_set HE.out.1 (freeE (cntE e C)) (by rw [HE.out.2]; rfl) H6.out.sorted).symm
                    refine bodyPost_ret (results_ctt rfl rfl rfl rfl (k1.loadAgg (by kernel_rfl) (by kernel_rfl))) rfl ⟨.slice none 0 0, rfl, by intro d hd; simp at hd, [], by simp, ⟨⟨.slice (some ⟨b0, 0, none⟩) j c, bv, k2, ?_, H3.out, fun x hx => ?_⟩, H5.out, ?_⟩, hs⟩
                    · show OwnC _ _ _ _ _ _ (modL (freeE (cntE e C)) L).length (eits ((modL (freeE (cntE e C)) L).map fun e => (e, bv e.id)))
                      rw [← hEi, List.length_set, HN.out]
                      exact k3
                    · have hx : x ∈ modL (freeE (cntE e C)) L := hx
                      have hb : ∃ y ∈ L, y.id = x.id ∧ y.m.body = x.m.body := by
                        rcases mem_modL hx with rfl | ⟨h, _⟩
                        · exact ⟨e, HMEM.out, rfl, rfl⟩
                        · exact ⟨x, h, rfl, rfl⟩
                      obtain ⟨y, hy, h1, h2⟩ := hb
                      rw [← h1, ← h2]
                      exact ⟨hs.bdv (H4.out y hy).1, (H4.out y hy).2⟩
                    · show WfQ room 0 last (modL (freeE (cntE e C)) L)
                      exact H6.out.mod HMEM.out rfl hok (H6.out.tm e HMEM.out)
                  · have hl' : 0 < limit := by omega
                    have hwr : IntKind.i64.wrap (C : Int) = (C : Nat) := by unfold IntKind.wrap; simp [IntKind.signed, IntKind.bits]; omega
                    by_cases hcl : limit ≤ C
                    · have HF := Lib.hid (show setQ limit L e.id O = (less [e.id] L, 0, some (cntE e C)) by
                        unfold setQ
                        rw [HFH.out, ← HO.out]
                        simp only
                        rw [if_neg (by decide), if_neg (by decide), if_neg (by decide), if_pos trivial, hbe]
                        rw [if_pos (show deadE limit ⟨5, OA, OB, OC⟩ (cntE e C).m = true from decide_eq_true (by show OB = 1 ∨ (0 < limit ∧ limit ≤ C); omega))]
                      )
                      have hcl1 : decide (limit ≤ C) = true := decide_eq_true hcl
                      clear hbe
                      obtain ⟨S, hSd⟩ : ∃ S : World → Prop, S = fun W' : World => W'.cell? ⟨g, 0, none⟩ = W.cell? ⟨g, 0, none⟩ ∧ W'.cell? ⟨g, 2, none⟩ = W.cell? ⟨g, 2, none⟩ ∧ W'.cell? ⟨r, 1, none⟩ = W.cell? ⟨r, 1, none⟩ ∧ W'.cell? ⟨G, 2, none⟩ = W.cell? ⟨G, 2, none⟩ := ⟨_, rfl⟩
                      have hS : S W.drew := by rw [hSd]; exact ⟨rfl, rfl, rfl, rfl⟩
                      rw [x0, x2, z1, y2] at hSd
                      have HSd := Lib.hid hSd
                      clear hSd
                      refine (wpIn_wide (n := 0)).1 ?_
                      refine s_region [] S (by kernel_rfl) ?_
                      refine s_tk 0 rfl (by kernel_rfl) (by rfl) (by intro w' hw; rw [HSd.out] at hw; obtain ⟨h0, h1, h2, h3⟩ := hw; go_simp; try (with_reducible rfl)) hS ?_
                      simp only [List.getElem_toArray, List.getElem_cons_succ, List.getElem_cons_zero, Act.put, List.setIfInBounds_toArray, List.set_cons_zero, List.set_cons_succ]
                      refine s_tk 1 rfl (by kernel_rfl) (by rfl) (by intro w' hw; rw [HSd.out] at hw; obtain ⟨h0, h1, h2, h3⟩ := hw; go_simp; try (with_reducible rfl)) hS ?_
                      simp only [List.getElem_toArray, List.getElem_cons_succ, List.getElem_cons_zero, Act.put, List.setIfInBounds_toArray, List.set_cons_zero, List.set_cons_succ]
                      refine s_tk 2 rfl (by kernel_rfl) (by rfl) (by intro w' hw; rw [HSd.out] at hw; obtain ⟨h0, h1, h2, h3⟩ := hw; go_simp; try (with_reducible rfl)) hS ?_
                      simp only [List.getElem_toArray, List.getElem_cons_succ, List.getElem_cons_zero, Act.put, List.setIfInBounds_toArray, List.set_cons_zero, List.set_cons_succ]
                      refine s_tk 3 rfl (by kernel_rfl) (by rfl) (by intro w' hw; rw [HSd.out] at hw; obtain ⟨h0, h1, h2, h3⟩ := hw; go_simp; try (with_reducible rfl)) hS ?_
                      simp only [List.getElem_toArray, List.getElem_cons_succ, List.getElem_cons_zero, Act.put, List.setIfInBounds_toArray, List.set_cons_zero, List.set_cons_succ]
                      refine s_tk 4 rfl (by kernel_rfl) (by rfl) (by intro w' hw; rw [HSd.out] at hw; obtain ⟨h0, h1, h2, h3⟩ := hw; go_simp; try (with_reducible rfl)) hS ?_
                      simp only [List.getElem_toArray, List.getElem_cons_succ, List.getElem_cons_zero, Act.put, List.setIfInBounds_toArray, List.set_cons_zero, List.set_cons_succ]
                      refine s_tk 5 rfl (by kernel_rfl) (by rfl) (by intro w' hw; rw [HSd.out] at hw; obtain ⟨h0, h1, h2, h3⟩ := hw; go_simp; try (with_reducible rfl)) hS ?_
                      simp only [List.getElem_toArray, List.getElem_cons_succ, List.getElem_cons_zero, Act.put, List.setIfInBounds_toArray, List.set_cons_zero, List.set_cons_succ]
                      refine s_tk 6 rfl (by kernel_rfl) (by rfl) (by intro w' hw; rw [HSd.out] at hw; obtain ⟨h0, h1, h2, h3⟩ := hw; go_simp; try (with_reducible rfl)) hS ?_
                      simp only [List.getElem_toArray, List.getElem_cons_succ, List.getElem_cons_zero, Act.put, List.setIfInBounds_toArray, List.set_cons_zero, List.set_cons_succ]
                      refine s_tk 7 rfl (by kernel_rfl) (by rfl) (by intro w' hw; rw [HSd.out] at hw; obtain ⟨h0, h1, h2, h3⟩ := hw; go_simp; try (with_reducible rfl)) hS ?_
                      simp only [List.getElem_toArray, List.getElem_cons_succ, List.getElem_cons_zero, Act.put, List.setIfInBounds_toArray, List.set_cons_zero, List.set_cons_succ]
                      refine s_tk 8 rfl (by kernel_rfl) (by rfl) (by intro w' hw; rw [HSd.out] at hw; obtain ⟨h0, h1, h2, h3⟩ := hw; go_simp; try (with_reducible rfl)) hS ?_
                      simp only [List.getElem_toArray, List.getElem_cons_succ, List.getElem_cons_zero, Act.put, List.setIfInBounds_toArray, List.set_cons_zero, List.set_cons_succ]
                      refine s_tk 9 rfl (by kernel_rfl) (by rfl) (by intro w' hw; rw [HSd.out] at hw; obtain ⟨h0, h1, h2, h3⟩ := hw; go_simp; try (with_reducible rfl)) hS ?_
                      simp only [List.getElem_toArray, List.getElem_cons_succ, List.getElem_cons_zero, Act.put, List.setIfInBounds_toArray, List.set_cons_zero, List.set_cons_succ]
                      refine s_tk (v := .bool false) 10 rfl (by kernel_rfl) (by rfl) (by intro w' hw; rw [HSd.out] at hw; obtain ⟨h0, h1, h2, h3⟩ := hw; go_simp; try (simp [hb])) hS ?_
                      simp only [List.getElem_toArray, List.getElem_cons_succ, List.getElem_cons_zero, Act.put, List.setIfInBounds_toArray, List.set_cons_zero, List.set_cons_succ]
                      refine s_tk 11 rfl (by kernel_rfl) (by rfl) (by intro w' hw; rw [HSd.out] at hw; obtain ⟨h0, h1, h2, h3⟩ := hw; go_simp; try (with_reducible rfl)) hS ?_
                      simp only [List.getElem_toArray, List.getElem_cons_succ, List.getElem_cons_zero, Act.put, List.setIfInBounds_toArray, List.set_cons_zero, List.set_cons_succ]
                      refine s_tk 12 rfl (by kernel_rfl) (by rfl) (by intro w' hw; rw [HSd.out] at hw; obtain ⟨h0, h1, h2, h3⟩ := hw; go_simp; try (with_reducible rfl)) hS ?_
                      simp only [List.getElem_toArray, List.getElem_cons_succ, List.getElem_cons_zero, Act.put, List.setIfInBounds_toArray, List.set_cons_zero, List.set_cons_succ]
                      refine s_tk 13 rfl (by kernel_rfl) (by rfl) (by intro w' hw; rw [HSd.out] at hw; obtain ⟨h0, h1, h2, h3⟩ := hw; go_simp; try (with_reducible rfl)) hS ?_
                      simp only [List.getElem_toArray, List.getElem_cons_succ, List.getElem_cons_zero, Act.put, List.setIfInBounds_toArray, List.set_cons_zero, List.set_cons_succ]
                      refine s_tk 14 rfl (by kernel_rfl) (by rfl) (by intro w' hw; rw [HSd.out] at hw; obtain ⟨h0, h1, h2, h3⟩ := hw; go_simp; try (with_reducible rfl)) hS ?_
                      simp only [List.getElem_toArray, List.getElem_cons_succ, List.getElem_cons_zero, Act.put, List.setIfInBounds_toArray, List.set_cons_zero, List.set_cons_succ]
                      refine s_tk 15 rfl (by kernel_rfl) (by rfl) (by intro w' hw; rw [HSd.out] at hw; obtain ⟨h0, h1, h2, h3⟩ := hw; go_simp; try (with_reducible rfl)) hS ?_
                      simp only [List.getElem_toArray, List.getElem_cons_succ, List.getElem_cons_zero, Act.put, List.setIfInBounds_toArray, List.set_cons_zero, List.set_cons_succ]
                      refine s_tk (v := .bool true) 16 rfl (by kernel_rfl) (by rfl) (by intro w' hw; rw [HSd.out] at hw; obtain ⟨h0, h1, h2, h3⟩ := hw; go_simp; try (simp [hl'])) hS ?_
                      simp only [List.getElem_toArray, List.getElem_cons_succ, List.getElem_cons_zero, Act.put, List.setIfInBounds_toArray, List.set_cons_zero, List.set_cons_succ]
                      refine s_tk 17 rfl (by kernel_rfl) (by rfl) (by intro w' hw; rw [HSd.out] at hw; obtain ⟨h0, h1, h2, h3⟩ := hw; go_simp; try (with_reducible rfl)) hS ?_
                      simp only [List.getElem_toArray, List.getElem_cons_succ, List.getElem_cons_zero, Act.put, List.setIfInBounds_toArray, List.set_cons_zero, List.set_cons_succ]
                      refine s_tk 18 rfl (by kernel_rfl) (by rfl) (by intro w' hw; rw [HSd.out] at hw; obtain ⟨h0, h1, h2, h3⟩ := hw; go_simp; try (with_reducible rfl)) hS ?_
                      simp only [List.getElem_toArray, List.getElem_cons_succ, List.getElem_cons_zero, Act.put, List.setIfInBounds_toArray, List.set_cons_zero, List.set_cons_succ]
                      refine s_tk 19 rfl (by kernel_rfl) (by rfl) (by intro w' hw; rw [HSd.out] at hw; obtain ⟨h0, h1, h2, h3⟩ := hw; go_simp; try (with_reducible rfl)) hS ?_
                      simp only [List.getElem_toArray, List.getElem_cons_succ, List.getElem_cons_zero, Act.put, List.setIfInBounds_toArray, List.set_cons_zero, List.set_cons_succ]
                      refine s_tk (v := .int .i64 (C : Nat)) 20 rfl (by kernel_rfl) (by rfl) (by intro w' hw; rw [HSd.out] at hw; obtain ⟨h0, h1, h2, h3⟩ := hw; go_simp; try (rw [hwr])) hS ?_
                      simp only [List.getElem_toArray, List.getElem_cons_succ, List.getElem_cons_zero, Act.put, List.setIfInBounds_toArray, List.set_cons_zero, List.set_cons_succ]
                      refine s_tk 21 rfl (by kernel_rfl) (by rfl) (by intro w' hw; rw [HSd.out] at hw; obtain ⟨h0, h1, h2, h3⟩ := hw; go_simp; try (with_reducible rfl)) hS ?_
                      simp only [List.getElem_toArray, List.getElem_cons_succ, List.getElem_cons_zero, Act.put, List.setIfInBounds_toArray, List.set_cons_zero, List.set_cons_succ]
                      refine s_tk 22 rfl (by kernel_rfl) (by rfl) (by intro w' hw; rw [HSd.out] at hw; obtain ⟨h0, h1, h2, h3⟩ := hw; go_simp; try (with_reducible rfl)) hS ?_
                      simp only [List.getElem_toArray, List.getElem_cons_succ, List.getElem_cons_zero, Act.put, List.setIfInBounds_toArray, List.set_cons_zero, List.set_cons_succ]
                      refine s_tk 23 rfl (by kernel_rfl) (by rfl) (by intro w' hw; rw [HSd.out] at hw; obtain ⟨h0, h1, h2, h3⟩ := hw; go_simp; try (with_reducible rfl)) hS ?_
                      simp only [List.getElem_toArray, List.getElem_cons_succ, List.getElem_cons_zero, Act.put, List.setIfInBounds_toArray, List.set_cons_zero, List.set_cons_succ]
                      refine s_tk 24 rfl (by kernel_rfl) (by rfl) (by intro w' hw; rw [HSd.out] at hw; obtain ⟨h0, h1, h2, h3⟩ := hw; go_simp; try (with_reducible rfl)) hS ?_
                      simp only [List.getElem_toArray, List.getElem_cons_succ, List.getElem_cons_zero, Act.put, List.setIfInBounds_toArray, List.set_cons_zero, List.set_cons_succ]
                      refine s_tk (v := .bool true) 25 rfl (by kernel_rfl) (by rfl) (by intro w' hw; rw [HSd.out] at hw; obtain ⟨h0, h1, h2, h3⟩ := hw; go_simp; try (simp [hcl])) hS ?_
                      simp only [List.getElem_toArray, List.getElem_cons_succ, List.getElem_cons_zero, Act.put, List.setIfInBounds_toArray, List.set_cons_zero, List.set_cons_succ]
                      refine s_tk 26 rfl (by kernel_rfl) (by rfl) (by intro w' hw; rw [HSd.out] at hw; obtain ⟨h0, h1, h2, h3⟩ := hw; go_simp; try (with_reducible rfl)) hS ?_
                      simp only [List.getElem_toArray, List.getElem_cons_succ, List.getElem_cons_zero, Act.put, List.setIfInBounds_toArray, List.set_cons_zero, List.set_cons_succ]
                      refine s_tk 27 rfl (by kernel_rfl) (by rfl) (by intro w' hw; rw [HSd.out] at hw; obtain ⟨h0, h1, h2, h3⟩ := hw; go_simp; try (with_reducible rfl)) hS ?_
                      simp only [List.getElem_toArray, List.getElem_cons_succ, List.getElem_cons_zero, Act.put, List.setIfInBounds_toArray, List.set_cons_zero, List.set_cons_succ]
                      refine s_tk 28 rfl (by kernel_rfl) (by rfl) (by intro w' hw; rw [HSd.out] at hw; obtain ⟨h0, h1, h2, h3⟩ := hw; go_simp; try (with_reducible rfl)) hS ?_
                      simp only [List.getElem_toArray, List.getElem_cons_succ, List.getElem_cons_zero, Act.put, List.setIfInBounds_toArray, List.set_cons_zero, List.set_cons_succ]
                      refine s_tk 29 rfl (by kernel_rfl) (by rfl) (by intro w' hw; rw [HSd.out] at hw; obtain ⟨h0, h1, h2, h3⟩ := hw; go_simp; try (with_reducible rfl)) hS ?_
                      simp only [List.getElem_toArray, List.getElem_cons_succ, List.getElem_cons_zero, Act.put, List.setIfInBounds_toArray, List.set_cons_zero, List.set_cons_succ]
                      refine s_tk 30 rfl (by kernel_rfl) (by rfl) (by intro w' hw; rw [HSd.out] at hw; obtain ⟨h0, h1, h2, h3⟩ := hw; go_simp; try (with_reducible rfl)) hS ?_
                      simp only [List.getElem_toArray, List.getElem_cons_succ, List.getElem_cons_zero, Act.put, List.setIfInBounds_toArray, List.set_cons_zero, List.set_cons_succ]
                      refine s_done (by kernel_rfl) ?_ _
                      go_wp2_with fail
                      refine (rgoes_calls (RQ.out.keep (w' := W.drew) fun k _ => rfl) e.id).mono ?_
                      rintro x w5 ⟨⟨vv, rfl⟩, N, hN, RQ5, S5⟩
                      clear y0 y1 y2 y3 y4 m0 m1 m2 m3 m4 n0 n1 n2 n3 n4 x0 x2 z1 z2
                      have k5 : Bx w5 G 32 [.int .u8 e.m.pr, .int .u32 e.m.ttl, .int .u32 (C : Nat), .string ⟨e.m.ids.toArray⟩, .slice Ab e.m.body.length cb] := Bx.tch (W := W.drew) N5.out S5.tch fun hm => by have := HZ.out _ hm; omega
                      have k4 : Bx w5 (g + 1) 32 zMsg := Bx.tch (W := W.drew) N4.out S5.tch fun hm => by have := HZ.out _ hm; have := HG.out; omega
                      have y0 := k5.cell 0 _ rfl
                      have y1 := k5.cell 1 _ rfl
                      have y2 := k5.cell 2 _ rfl
                      have y3 := k5.cell 3 _ rfl
                      have y4 := k5.cell 4 _ rfl
                      have m0 := k4.cell 0 _ rfl
                      have m1 := k4.cell 1 _ rfl
                      have m2 := k4.cell 2 _ rfl
                      have m3 := k4.cell 3 _ rfl
                      have m4 := k4.cell 4 _ rfl
                      have n0 := k4.froz 0
                      have n1 := k4.froz 1
                      have n2 := k4.froz 2
                      have n3 := k4.froz 3
                      have n4 := k4.froz 4
                      have hN' : ∀ k ∈ N, w.heap.size ≤ k ∧ k < w5.heap.size := fun k hk => by have h1 := (hN k hk).1; have h2 := N6.out.size; exact ⟨Nat.le_trans h2 h1, (hN k hk).2⟩
                      have K5 := Lib.hid k5
                      have K4' := Lib.hid k4
                      have R5 := Lib.hid RQ5
                      have T5 := Lib.hid (ST.out.trans (Z' := Z) (w2 := w5) (by obtain ⟨F, t, hF⟩ := S5; exact ⟨F, Tch.of_drew (w := W) ⟨t.os, t.tape, t.output, t.size, t.block⟩, hF⟩) fun k hk => .inl hk)
                      have HN' := Lib.hid hN'
                      have hgN := Lib.hid (show g + 1 ∉ N from fun hm => by have h1 := (hN _ hm).1; have h2 : g + 1 < W.heap.size := N4.out.lt; have h3 : W.heap.size ≤ g + 1 := h1; omega)
                      clear k5 k4 RQ5 S5 hN hN'
                      go_wp2_with fail
                      refine forgetX (fun V => Bx V (g + 1) 32 [.int .u8 e.m.pr, .int .u32 e.m.ttl, .int .u32 (C : Nat), .string ⟨e.m.ids.toArray⟩, .slice Ab e.m.body.length cb] ∧ Tch [g + 1] w5 V) ⟨?_, ?_⟩ ?_
                      · with_reducible refine Bx.to (((((K4'.out.set 0 _).set 1 _).set 2 _).set 3 _).set 4 _) ?_
                        rfl
                      · with_reducible repeat first | exact Tch.refl _ _ | refine Tch.setCell ?_ _ (.inl (by simp))
                      rintro V ⟨k1, k2⟩
                      rw [HF.out]
                      have hs := T5.out.then_new k2 (by rw [HG.out]; simp)
                      have hrqV : Rq V (N ++ Z) r room limit last (less [e.id] L) := by
                        have h1 := R5.out
                        rw [HEI.out, show less [e.id] (modL (cntE e C) L) = less [e.id] L from less_modL (cntE e C) L] at h1
                        refine h1.keep fun k hk => ?_
                        have hl : k < w5.heap.size := by
                          rcases List.mem_append.1 hk with h | h
                          · exact (HN'.out k h).2
                          · exact Nat.lt_of_lt_of_le (HZ.out k h) T5.out.tch.size
                        refine k2.block k hl fun hm => ?_
                        simp only [List.mem_singleton] at hm
                        subst hm
                        rcases List.mem_append.1 hk with h | h
                        · exact hgN.out h
                        · have := HZ.out _ h
                          have := HG.out
                          omega
                      refine bodyPost_ret (results_ctt rfl rfl rfl rfl (k1.loadAgg (by kernel_rfl) (by kernel_rfl))) rfl ⟨bv e.id, ?_, ?_, N, fun k hk => ⟨(HN'.out k hk).1, Nat.lt_of_lt_of_le (HN'.out k hk).2 k2.size⟩, hrqV, hs⟩
                      · show _ = Ending.returned (.tuple #[mgv (cntE e C).m (bv e.id), _, _])
                        rw [mgv_eq, HBV.out]
                        rfl
                      · intro d hd
                        simp only [Option.some.injEq] at hd
                        subst hd
                        exact ⟨hs.bdv (H4.out e HMEM.out).1, (H4.out e HMEM.out).2⟩
                    · have HF := Lib.hid (show setQ limit L e.id O = (modL (freeE (cntE e C)) L, 0, none) by
                        unfold setQ
                        rw [HFH.out, ← HO.out]
                        simp only
                        rw [if_neg (by decide), if_neg (by decide), if_neg (by decide), if_pos trivial, hbe]
                        rw [if_neg (show ¬ deadE limit ⟨5, OA, OB, OC⟩ (cntE e C).m = true from fun h => by have h := of_decide_eq_true h; have h : OB = 1 ∨ (0 < limit ∧ limit ≤ C) := h; omega)]
                      )
                      have hcl1 : decide (limit ≤ C) = false := decide_eq_false hcl
                      clear hbe
                      have hi2 : i < ((L.set i (cntE e C)).map fun e => (e, bv e.id)).length := by rw [List.length_map, List.length_set]; exact HE.out.1
                      have w7 := N2.out.cell_at (i * 8 + 7) (.bool e.held) (by
                        have h1 := flat_at eit 8 ((L.set i (cntE e C)).map fun e => (e, bv e.id)) (fun x _ => eit_length x) i hi2 7 (by decide)
                        rw [List.getElem_map, List.getElem_set_self] at h1
                        exact h1)
                      obtain ⟨w7, w8⟩ := w7
                      obtain ⟨S, hSd⟩ : ∃ S : World → Prop, S = fun W' : World => W'.cell? ⟨g, 0, none⟩ = W.cell? ⟨g, 0, none⟩ ∧ W'.cell? ⟨g, 2, none⟩ = W.cell? ⟨g, 2, none⟩ ∧ W'.cell? ⟨r, 1, none⟩ = W.cell? ⟨r, 1, none⟩ ∧ W'.cell? ⟨G, 2, none⟩ = W.cell? ⟨G, 2, none⟩ := ⟨_, rfl⟩
                      have hS : S W.drew := by rw [hSd]; exact ⟨rfl, rfl, rfl, rfl⟩
                      rw [x0, x2, z1, y2] at hSd
                      have HSd := Lib.hid hSd
                      clear hSd
                      refine (wpIn_wide (n := 0)).1 ?_
                      refine s_region [] S (by kernel_rfl) ?_
                      refine s_tk 0 rfl (by kernel_rfl) (by rfl) (by intro w' hw; rw [HSd.out] at hw; obtain ⟨h0, h1, h2, h3⟩ := hw; go_simp; try (with_reducible rfl)) hS ?_
                      simp only [List.getElem_toArray, List.getElem_cons_succ, List.getElem_cons_zero, Act.put, List.setIfInBounds_toArray, List.set_cons_zero, List.set_cons_succ]
                      refine s_tk 1 rfl (by kernel_rfl) (by rfl) (by intro w' hw; rw [HSd.out] at hw; obtain ⟨h0, h1, h2, h3⟩ := hw; go_simp; try (with_reducible rfl)) hS ?_
                      simp only [List.getElem_toArray, List.getElem_cons_succ, List.getElem_cons_zero, Act.put, List.setIfInBounds_toArray, List.set_cons_zero, List.set_cons_succ]
                      refine s_tk 2 rfl (by kernel_rfl) (by rfl) (by intro w' hw; rw [HSd.out] at hw; obtain ⟨h0, h1, h2, h3⟩ := hw; go_simp; try (with_reducible rfl)) hS ?_
                      simp only [List.getElem_toArray, List.getElem_cons_succ, List.getElem_cons_zero, Act.put, List.setIfInBounds_toArray, List.set_cons_zero, List.set_cons_succ]
                      refine s_tk 3 rfl (by kernel_rfl) (by rfl) (by intro w' hw; rw [HSd.out] at hw; obtain ⟨h0, h1, h2, h3⟩ := hw; go_simp; try (with_reducible rfl)) hS ?_
                      simp only [List.getElem_toArray, List.getElem_cons_succ, List.getElem_cons_zero, Act.put, List.setIfInBounds_toArray, List.set_cons_zero, List.set_cons_succ]
                      refine s_tk 4 rfl (by kernel_rfl) (by rfl) (by intro w' hw; rw [HSd.out] at hw; obtain ⟨h0, h1, h2, h3⟩ := hw; go_simp; try (with_reducible rfl)) hS ?_
                      simp only [List.getElem_toArray, List.getElem_cons_succ, List.getElem_cons_zero, Act.put, List.setIfInBounds_toArray, List.set_cons_zero, List.set_cons_succ]
                      refine s_tk 5 rfl (by kernel_rfl) (by rfl) (by intro w' hw; rw [HSd.out] at hw; obtain ⟨h0, h1, h2, h3⟩ := hw; go_simp; try (with_reducible rfl)) hS ?_
                      simp only [List.getElem_toArray, List.getElem_cons_succ, List.getElem_cons_zero, Act.put, List.setIfInBounds_toArray, List.set_cons_zero, List.set_cons_succ]
                      refine s_tk 6 rfl (by kernel_rfl) (by rfl) (by intro w' hw; rw [HSd.out] at hw; obtain ⟨h0, h1, h2, h3⟩ := hw; go_simp; try (with_reducible rfl)) hS ?_
                      simp only [List.getElem_toArray, List.getElem_cons_succ, List.getElem_cons_zero, Act.put, List.setIfInBounds_toArray, List.set_cons_zero, List.set_cons_succ]
                      refine s_tk 7 rfl (by kernel_rfl) (by rfl) (by intro w' hw; rw [HSd.out] at hw; obtain ⟨h0, h1, h2, h3⟩ := hw; go_simp; try (with_reducible rfl)) hS ?_
                      simp only [List.getElem_toArray, List.getElem_cons_succ, List.getElem_cons_zero, Act.put, List.setIfInBounds_toArray, List.set_cons_zero, List.set_cons_succ]
                      refine s_tk 8 rfl (by kernel_rfl) (by rfl) (by intro w' hw; rw [HSd.out] at hw; obtain ⟨h0, h1, h2, h3⟩ := hw; go_simp; try (with_reducible rfl)) hS ?_
                      simp only [List.getElem_toArray, List.getElem_cons_succ, List.getElem_cons_zero, Act.put, List.setIfInBounds_toArray, List.set_cons_zero, List.set_cons_succ]
                      refine s_tk 9 rfl (by kernel_rfl) (by rfl) (by intro w' hw; rw [HSd.out] at hw; obtain ⟨h0, h1, h2, h3⟩ := hw; go_simp; try (with_reducible rfl)) hS ?_
                      simp only [List.getElem_toArray, List.getElem_cons_succ, List.getElem_cons_zero, Act.put, List.setIfInBounds_toArray, List.set_cons_zero, List.set_cons_succ]
                      refine s_tk (v := .bool false) 10 rfl (by kernel_rfl) (by rfl) (by intro w' hw; rw [HSd.out] at hw; obtain ⟨h0, h1, h2, h3⟩ := hw; go_simp; try (simp [hb])) hS ?_
                      simp only [List.getElem_toArray, List.getElem_cons_succ, List.getElem_cons_zero, Act.put, List.setIfInBounds_toArray, List.set_cons_zero, List.set_cons_succ]
                      refine s_tk 11 rfl (by kernel_rfl) (by rfl) (by intro w' hw; rw [HSd.out] at hw; obtain ⟨h0, h1, h2, h3⟩ := hw; go_simp; try (with_reducible rfl)) hS ?_
                      simp only [List.getElem_toArray, List.getElem_cons_succ, List.getElem_cons_zero, Act.put, List.setIfInBounds_toArray, List.set_cons_zero, List.set_cons_succ]
                      refine s_tk 12 rfl (by kernel_rfl) (by rfl) (by intro w' hw; rw [HSd.out] at hw; obtain ⟨h0, h1, h2, h3⟩ := hw; go_simp; try (with_reducible rfl)) hS ?_
                      simp only [List.getElem_toArray, List.getElem_cons_succ, List.getElem_cons_zero, Act.put, List.setIfInBounds_toArray, List.set_cons_zero, List.set_cons_succ]
                      refine s_tk 13 rfl (by kernel_rfl) (by rfl) (by intro w' hw; rw [HSd.out] at hw; obtain ⟨h0, h1, h2, h3⟩ := hw; go_simp; try (with_reducible rfl)) hS ?_
                      simp only [List.getElem_toArray, List.getElem_cons_succ, List.getElem_cons_zero, Act.put, List.setIfInBounds_toArray, List.set_cons_zero, List.set_cons_succ]
                      refine s_tk 14 rfl (by kernel_rfl) (by rfl) (by intro w' hw; rw [HSd.out] at hw; obtain ⟨h0, h1, h2, h3⟩ := hw; go_simp; try (with_reducible rfl)) hS ?_
                      simp only [List.getElem_toArray, List.getElem_cons_succ, List.getElem_cons_zero, Act.put, List.setIfInBounds_toArray, List.set_cons_zero, List.set_cons_succ]
                      refine s_tk 15 rfl (by kernel_rfl) (by rfl) (by intro w' hw; rw [HSd.out] at hw; obtain ⟨h0, h1, h2, h3⟩ := hw; go_simp; try (with_reducible rfl)) hS ?_
                      simp only [List.getElem_toArray, List.getElem_cons_succ, List.getElem_cons_zero, Act.put, List.setIfInBounds_toArray, List.set_cons_zero, List.set_cons_succ]
                      refine s_tk (v := .bool true) 16 rfl (by kernel_rfl) (by rfl) (by intro w' hw; rw [HSd.out] at hw; obtain ⟨h0, h1, h2, h3⟩ := hw; go_simp; try (simp [hl'])) hS ?_
                      simp only [List.getElem_toArray, List.getElem_cons_succ, List.getElem_cons_zero, Act.put, List.setIfInBounds_toArray, List.set_cons_zero, List.set_cons_succ]
                      refine s_tk 17 rfl (by kernel_rfl) (by rfl) (by intro w' hw; rw [HSd.out] at hw; obtain ⟨h0, h1, h2, h3⟩ := hw; go_simp; try (with_reducible rfl)) hS ?_
                      simp only [List.getElem_toArray, List.getElem_cons_succ, List.getElem_cons_zero, Act.put, List.setIfInBounds_toArray, List.set_cons_zero, List.set_cons_succ]
                      refine s_tk 18 rfl (by kernel_rfl) (by rfl) (by intro w' hw; rw [HSd.out] at hw; obtain ⟨h0, h1, h2, h3⟩ := hw; go_simp; try (with_reducible rfl)) hS ?_
                      simp only [List.getElem_toArray, List.getElem_cons_succ, List.getElem_cons_zero, Act.put, List.setIfInBounds_toArray, List.set_cons_zero, List.set_cons_succ]
                      refine s_tk 19 rfl (by kernel_rfl) (by rfl) (by intro w' hw; rw [HSd.out] at hw; obtain ⟨h0, h1, h2, h3⟩ := hw; go_simp; try (with_reducible rfl)) hS ?_
                      simp only [List.getElem_toArray, List.getElem_cons_succ, List.getElem_cons_zero, Act.put, List.setIfInBounds_toArray, List.set_cons_zero, List.set_cons_succ]
                      refine s_tk (v := .int .i64 (C : Nat)) 20 rfl (by kernel_rfl) (by rfl) (by intro w' hw; rw [HSd.out] at hw; obtain ⟨h0, h1, h2, h3⟩ := hw; go_simp; try (rw [hwr])) hS ?_
                      simp only [List.getElem_toArray, List.getElem_cons_succ, List.getElem_cons_zero, Act.put, List.setIfInBounds_toArray, List.set_cons_zero, List.set_cons_succ]
                      refine s_tk 21 rfl (by kernel_rfl) (by rfl) (by intro w' hw; rw [HSd.out] at hw; obtain ⟨h0, h1, h2, h3⟩ := hw; go_simp; try (with_reducible rfl)) hS ?_
                      simp only [List.getElem_toArray, List.getElem_cons_succ, List.getElem_cons_zero, Act.put, List.setIfInBounds_toArray, List.set_cons_zero, List.set_cons_succ]
                      refine s_tk 22 rfl (by kernel_rfl) (by rfl) (by intro w' hw; rw [HSd.out] at hw; obtain ⟨h0, h1, h2, h3⟩ := hw; go_simp; try (with_reducible rfl)) hS ?_
                      simp only [List.getElem_toArray, List.getElem_cons_succ, List.getElem_cons_zero, Act.put, List.setIfInBounds_toArray, List.set_cons_zero, List.set_cons_succ]
                      refine s_tk 23 rfl (by kernel_rfl) (by rfl) (by intro w' hw; rw [HSd.out] at hw; obtain ⟨h0, h1, h2, h3⟩ := hw; go_simp; try (with_reducible rfl)) hS ?_
                      simp only [List.getElem_toArray, List.getElem_cons_succ, List.getElem_cons_zero, Act.put, List.setIfInBounds_toArray, List.set_cons_zero, List.set_cons_succ]
                      refine s_tk 24 rfl (by kernel_rfl) (by rfl) (by intro w' hw; rw [HSd.out] at hw; obtain ⟨h0, h1, h2, h3⟩ := hw; go_simp; try (with_reducible rfl)) hS ?_
                      simp only [List.getElem_toArray, List.getElem_cons_succ, List.getElem_cons_zero, Act.put, List.setIfInBounds_toArray, List.set_cons_zero, List.set_cons_succ]
                      refine s_tk (v := .bool false) 25 rfl (by kernel_rfl) (by rfl) (by intro w' hw; rw [HSd.out] at hw; obtain ⟨h0, h1, h2, h3⟩ := hw; go_simp; try (simp [hcl])) hS ?_
                      simp only [List.getElem_toArray, List.getElem_cons_succ, List.getElem_cons_zero, Act.put, List.setIfInBounds_toArray, List.set_cons_zero, List.set_cons_succ]
                      refine s_tk 26 rfl (by kernel_rfl) (by rfl) (by intro w' hw; rw [HSd.out] at hw; obtain ⟨h0, h1, h2, h3⟩ := hw; go_simp; try (with_reducible rfl)) hS ?_
                      simp only [List.getElem_toArray, List.getElem_cons_succ, List.getElem_cons_zero, Act.put, List.setIfInBounds_toArray, List.set_cons_zero, List.set_cons_succ]
                      refine s_tk 27 rfl (by kernel_rfl) (by rfl) (by intro w' hw; rw [HSd.out] at hw; obtain ⟨h0, h1, h2, h3⟩ := hw; go_simp; try (with_reducible rfl)) hS ?_
                      simp only [List.getElem_toArray, List.getElem_cons_succ, List.getElem_cons_zero, Act.put, List.setIfInBounds_toArray, List.set_cons_zero, List.set_cons_succ]
                      refine s_tk 28 rfl (by kernel_rfl) (by rfl) (by intro w' hw; rw [HSd.out] at hw; obtain ⟨h0, h1, h2, h3⟩ := hw; go_simp; try (with_reducible rfl)) hS ?_
                      simp only [List.getElem_toArray, List.getElem_cons_succ, List.getElem_cons_zero, Act.put, List.setIfInBounds_toArray, List.set_cons_zero, List.set_cons_succ]
                      refine s_tk 29 rfl (by kernel_rfl) (by rfl) (by intro w' hw; rw [HSd.out] at hw; obtain ⟨h0, h1, h2, h3⟩ := hw; go_simp; try (with_reducible rfl)) hS ?_
                      simp only [List.getElem_toArray, List.getElem_cons_succ, List.getElem_cons_zero, Act.put, List.setIfInBounds_toArray, List.set_cons_zero, List.set_cons_succ]
                      refine s_tk 30 rfl (by kernel_rfl) (by rfl) (by intro w' hw; rw [HSd.out] at hw; obtain ⟨h0, h1, h2, h3⟩ := hw; go_simp; try (with_reducible rfl)) hS ?_
                      simp only [List.getElem_toArray, List.getElem_cons_succ, List.getElem_cons_zero, Act.put, List.setIfInBounds_toArray, List.set_cons_zero, List.set_cons_succ]
                      refine s_done (by kernel_rfl) ?_ _
                      go_wp2_with fail
                      refine forgetX (fun V => Bx V (g + 1) 32 zMsg ∧ Bx V r 90 (rcs room limit last (.slice (some ⟨b0, 0, none⟩) j c)) ∧ OwnC 64 8 (fun _ => True) V 0 (.slice (some ⟨b0, 0, none⟩) j c) j (eits ((L.set i (freeE (cntE e C))).map fun e => (e, bv e.id))) ∧ Tch [b0, g + 1] W V) ⟨?_, ?_, ?_, ?_⟩ ?_
                      · have h1 : Bx (W.setCell ⟨b0, i * 8 + 7, none⟩ (.bool false)) (g + 1) 32 zMsg := Bx.off N4.out (by omega)
                        refine Bx.drew ?_
                        with_reducible refine Bx.to (((((h1.set 0 _).set 1 _).set 2 _).set 3 _).set 4 _) ?_
                        rfl
                      · have h1 : Bx (W.setCell ⟨b0, i * 8 + 7, none⟩ (.bool false)) r 90 (rcs room limit last (.slice (some ⟨b0, 0, none⟩) j c)) := Bx.off N1.out hrb
                        have hne : r ≠ g + 1 := by omega
                        refine Bx.drew ?_
                        with_reducible exact ((((h1.off hne).off hne).off hne).off hne).off hne
                      · have hv := N2.out.set_cell (i * 8 + 7) (by omega) (.bool false) rfl
                        rw [eits_set hi2 (by decide) (.bool false) (freeE (cntE e C), bv e.id) (by rw [List.getElem_map, List.getElem_set_self]; rfl)] at hv
                        have h2 : ((L.set i (cntE e C)).map fun e => (e, bv e.id)).set i (freeE (cntE e C), bv e.id) = (L.set i (freeE (cntE e C))).map fun e => (e, bv e.id) := by
                          rw [List.map_set, List.map_set, List.set_set]; rfl
                        rw [h2] at hv
                        refine OwnC.drew (OwnC.tch (F := [g + 1]) hv ?_ fun k hk hm => ?_)
                        · with_reducible repeat first | exact Tch.refl _ _ | refine Tch.setCell ?_ _ (.inl (by simp))
                        · simp only [Value.ownBlock, Option.some.injEq] at hk
                          subst hk
                          simp only [List.mem_singleton] at hm
                          omega
                      · refine Tch.drew ?_
                        with_reducible repeat first | exact Tch.refl _ _ | refine Tch.setCell ?_ _ (.inl (by simp))
                      rintro V ⟨k1, k2, k3, k4⟩
                      rw [HF.out]
                      have hs : RStep Z w V := ⟨[b0], N6.out.trans k4 (by intro q hq; simp at hq ⊢; have := HG.out; omega), fun q hq => by simp only [List.mem_singleton] at hq; subst hq; exact HZB.out⟩
                      have hEi : (L.set i (freeE (cntE e C))) = modL (freeE (cntE e C)) L := (modL_set HE.out.1 (freeE (cntE e C)) (by rw [HE.out.2]; rfl) H6.out.sorted).symm
                      refine bodyPost_ret (results_ctt rfl rfl rfl rfl (k1.loadAgg (by kernel_rfl) (by kernel_rfl))) rfl ⟨.slice none 0 0, rfl, by intro d hd; simp at hd, [], by simp, ⟨⟨.slice (some ⟨b0, 0, none⟩) j c, bv, k2, ?_, H3.out, fun x hx => ?_⟩, H5.out, ?_⟩, hs⟩
                      · show OwnC _ _ _ _ _ _ (modL (freeE (cntE e C)) L).length (eits ((modL (freeE (cntE e C)) L).map fun e => (e, bv e.id)))
                        rw [← hEi, List.length_set, HN.out]
                        exact k3
                      · have hx : x ∈ modL (freeE (cntE e C)) L := hx
                        have hb : ∃ y ∈ L, y.id = x.id ∧ y.m.body = x.m.body := by
                          rcases mem_modL hx with rfl | ⟨h, _⟩
                          · exact ⟨e, HMEM.out, rfl, rfl⟩
                          · exact ⟨x, h, rfl, rfl⟩
                        obtain ⟨y, hy, h1, h2⟩ := hb
                        rw [← h1, ← h2]
                        exact ⟨hs.bdv (H4.out y hy).1, (H4.out y hy).2⟩
                      · show WfQ room limit last (modL (freeE (cntE e C)) L)
                        exact H6.out.mod HMEM.out rfl hok (H6.out.tm e HMEM.out)
              · obtain rfl : ct = 4294967295 := by omega
                go_wp2_with fail
                obtain ⟨G, hG⟩ : ∃ G, w2.heap.size = G := ⟨_, rfl⟩
                try simp only [World.setCell_heap_size, World.size_setCell]
                rw [hG]
                obtain ⟨C, hC⟩ : ∃ C : Nat, C = 4294967295 := ⟨_, rfl⟩
                have HCT := Lib.hid (HCT.out.trans hC.symm)
                have hC4 : C ≤ 4294967295 := by omega
                refine forget (fun W => Bx W r 90 (rcs room limit last (.slice (some ⟨b0, 0, none⟩) j c)) ∧ OwnC 64 8 (fun _ => True) W 0 (.slice (some ⟨b0, 0, none⟩) j c) j (eits ((L.set i (cntE e C)).map fun e => (e, bv e.id))) ∧ Bx W g 41 [.int .u8 (5 : Nat), .int .u64 OA, .int .u64 OB, .string ⟨OC.toArray⟩] ∧ Bx W (g + 1) 32 zMsg ∧ Bx W G 32 [.int .u8 e.m.pr, .int .u32 e.m.ttl, .int .u32 (C : Nat), .string ⟨e.m.ids.toArray⟩, .slice Ab e.m.body.length cb] ∧ Tch [b0] w W) ⟨?_, ?_, ?_, ?_, ?_, ?_⟩ ?_
                · exact HR2.out.alloc _
                · rw [cntE_self HCT.out, ← HE.out.2, List.set_getElem_self]
                  exact (H2.out.below B2.out).alloc _
                · exact K3.out.alloc _
                · exact K4.out.alloc _
                · rw [hC]; exact Bx.new' _ 32 _ hG.symm
                · exact (Tch.of_below [b0] B2.out).alloc _
                rintro W ⟨M1, M2, M3, M4, M5, M6⟩
                have hC3 := Lib.hid hC
                clear hC
                clear x0 x1 x2 x3 m0 m1 m2 m3 m4 y0 y1 y2 y3 y4 y5 y6 y7 v3 z1 z2
                have x0 := M3.cell 0 _ rfl
                have x2 := M3.cell 2 _ rfl
                have z1 := M1.cell 1 _ rfl
                have z2 := M1.cell 2 _ rfl
                have y0 := M5.cell 0 _ rfl
                have y1 := M5.cell 1 _ rfl
                have y2 := M5.cell 2 _ rfl
                have y3 := M5.cell 3 _ rfl
                have y4 := M5.cell 4 _ rfl
                have m0 := M4.cell 0 _ rfl
                have m1 := M4.cell 1 _ rfl
                have m2 := M4.cell 2 _ rfl
                have m3 := M4.cell 3 _ rfl
                have m4 := M4.cell 4 _ rfl
                have n0 := M4.froz 0
                have n1 := M4.froz 1
                have n2 := M4.froz 2
                have n3 := M4.froz 3
                have n4 := M4.froz 4
                have hgG : g + 1 < G := by omega
                have hEi : (L.set i (cntE e C)) = modL (cntE e C) L := (modL_set HE.out.1 (cntE e C) (by rw [HE.out.2]; rfl) H6.out.sorted).symm
                have hok : WfM (cntE e C).m := by
                  obtain ⟨p1, p2, p3, p4, p5⟩ := H6.out.ok e HMEM.out
                  exact ⟨p1, p2, p3, p4, hC4⟩
                have hrq : Rq W Z r room limit last (L.set i (cntE e C)) := by
                  refine ⟨⟨.slice (some ⟨b0, 0, none⟩) j c, bv, M1, by rw [List.length_set, HN.out]; exact M2, H3.out, fun x hx => ?_⟩, H5.out, by rw [hEi]; exact H6.out.mod HMEM.out rfl hok (H6.out.tm e HMEM.out)⟩
                  have hb : ∃ y ∈ L, y.id = x.id ∧ y.m.body = x.m.body := by
                    rcases List.mem_or_eq_of_mem_set hx with h | rfl
                    · exact ⟨x, h, rfl, rfl⟩
                    · exact ⟨e, HMEM.out, rfl, rfl⟩
                  obtain ⟨y, hy, h1, h2⟩ := hb
                  rw [← h1, ← h2]
                  exact ⟨(H4.out y hy).1.tch M6 fun k hk => (by simp only [List.mem_singleton] at hk; subst hk; exact HZB.out.2), (H4.out y hy).2⟩
                have hst : RStep Z w W := ⟨[b0], M6, fun q hq => by simp only [List.mem_singleton] at hq; subst hq; exact HZB.out⟩
                have N1 := Lib.hid M1
                have N2 := Lib.hid M2
                have N4 := Lib.hid M4
                have N5 := Lib.hid M5
                have N6 := Lib.hid M6
                have RQ := Lib.hid hrq
                have ST := Lib.hid hst
                have HEI := Lib.hid hEi
                clear M1 M2 M3 M4 M5 M6 hrq hst hEi
                have hbe : bumpE ⟨5, OA, OB, OC⟩ e = cntE e C := by
                  unfold bumpE bump
                  rw [if_neg (fun h => by have := h.2; have := HCT.out; have := hC3.out; omega), cntE_self HCT.out]
                by_cases hb : OB = 1
                · have HF := Lib.hid (show setQ limit L e.id O = (less [e.id] L, 0, some (cntE e C)) by
                    unfold setQ
                    rw [HFH.out, ← HO.out]
                    simp only
                    rw [if_neg (by decide), if_neg (by decide), if_neg (by decide), if_pos trivial, hbe]
                    rw [if_pos (show deadE limit ⟨5, OA, OB, OC⟩ (cntE e C).m = true from decide_eq_true (by show OB = 1 ∨ (0 < limit ∧ limit ≤ C); omega))]
                  )
                  clear hbe
                  subst hb
                  obtain ⟨S, hSd⟩ : ∃ S : World → Prop, S = fun W' : World => W'.cell? ⟨g, 0, none⟩ = W.cell? ⟨g, 0, none⟩ ∧ W'.cell? ⟨g, 2, none⟩ = W.cell? ⟨g, 2, none⟩ ∧ W'.cell? ⟨r, 1, none⟩ = W.cell? ⟨r, 1, none⟩ ∧ W'.cell? ⟨G, 2, none⟩ = W.cell? ⟨G, 2, none⟩ := ⟨_, rfl⟩
                  have hS : S W.drew := by rw [hSd]; exact ⟨rfl, rfl, rfl, rfl⟩
                  rw [x0, x2, z1, y2] at hSd
                  have HSd := Lib.hid hSd
                  clear hSd
                  refine (wpIn_wide (n := 0)).1 ?_
                  refine s_region [] S (by kernel_rfl) ?_
                  refine s_tk 0 rfl (by kernel_rfl) (by rfl) (by intro w' hw; rw [HSd.out] at hw; obtain ⟨h0, h1, h2, h3⟩ := hw; go_simp; try (with_reducible rfl)) hS ?_
                  simp only [List.getElem_toArray, List.getElem_cons_succ, List.getElem_cons_zero, Act.put, List.setIfInBounds_toArray, List.set_cons_zero, List.set_cons_succ]
                  refine s_tk 1 rfl (by kernel_rfl) (by rfl) (by intro w' hw; rw [HSd.out] at hw; obtain ⟨h0, h1, h2, h3⟩ := hw; go_simp; try (with_reducible rfl)) hS ?_
                  simp only [List.getElem_toArray, List.getElem_cons_succ, List.getElem_cons_zero, Act.put, List.setIfInBounds_toArray, List.set_cons_zero, List.set_cons_succ]
                  refine s_tk 2 rfl (by kernel_rfl) (by rfl) (by intro w' hw; rw [HSd.out] at hw; obtain ⟨h0, h1, h2, h3⟩ := hw; go_simp; try (with_reducible rfl)) hS ?_
                  simp only [List.getElem_toArray, List.getElem_cons_succ, List.getElem_cons_zero, Act.put, List.setIfInBounds_toArray, List.set_cons_zero, List.set_cons_succ]
                  refine s_tk 3 rfl (by kernel_rfl) (by rfl) (by intro w' hw; rw [HSd.out] at hw; obtain ⟨h0, h1, h2, h3⟩ := hw; go_simp; try (with_reducible rfl)) hS ?_
                  simp only [List.getElem_toArray, List.getElem_cons_succ, List.getElem_cons_zero, Act.put, List.setIfInBounds_toArray, List.set_cons_zero, List.set_cons_succ]
                  refine s_tk 4 rfl (by kernel_rfl) (by rfl) (by intro w' hw; rw [HSd.out] at hw; obtain ⟨h0, h1, h2, h3⟩ := hw; go_simp; try (with_reducible rfl)) hS ?_
                  simp only [List.getElem_toArray, List.getElem_cons_succ, List.getElem_cons_zero, Act.put, List.setIfInBounds_toArray, List.set_cons_zero, List.set_cons_succ]
                  refine s_tk 5 rfl (by kernel_rfl) (by rfl) (by intro w' hw; rw [HSd.out] at hw; obtain ⟨h0, h1, h2, h3⟩ := hw; go_simp; try (with_reducible rfl)) hS ?_
                  simp only [List.getElem_toArray, List.getElem_cons_succ, List.getElem_cons_zero, Act.put, List.setIfInBounds_toArray, List.set_cons_zero, List.set_cons_succ]
                  refine s_tk 6 rfl (by kernel_rfl) (by rfl) (by intro w' hw; rw [HSd.out] at hw; obtain ⟨h0, h1, h2, h3⟩ := hw; go_simp; try (with_reducible rfl)) hS ?_
                  simp only [List.getElem_toArray, List.getElem_cons_succ, List.getElem_cons_zero, Act.put, List.setIfInBounds_toArray, List.set_cons_zero, List.set_cons_succ]
                  refine s_tk 7 rfl (by kernel_rfl) (by rfl) (by intro w' hw; rw [HSd.out] at hw; obtain ⟨h0, h1, h2, h3⟩ := hw; go_simp; try (with_reducible rfl)) hS ?_
                  simp only [List.getElem_toArray, List.getElem_cons_succ, List.getElem_cons_zero, Act.put, List.setIfInBounds_toArray, List.set_cons_zero, List.set_cons_succ]
                  refine s_tk 8 rfl (by kernel_rfl) (by rfl) (by intro w' hw; rw [HSd.out] at hw; obtain ⟨h0, h1, h2, h3⟩ := hw; go_simp; try (with_reducible rfl)) hS ?_
                  simp only [List.getElem_toArray, List.getElem_cons_succ, List.getElem_cons_zero, Act.put, List.setIfInBounds_toArray, List.set_cons_zero, List.set_cons_succ]
                  refine s_tk 9 rfl (by kernel_rfl) (by rfl) (by intro w' hw; rw [HSd.out] at hw; obtain ⟨h0, h1, h2, h3⟩ := hw; go_simp; try (with_reducible rfl)) hS ?_
                  simp only [List.getElem_toArray, List.getElem_cons_succ, List.getElem_cons_zero, Act.put, List.setIfInBounds_toArray, List.set_cons_zero, List.set_cons_succ]
                  refine s_tk 10 rfl (by kernel_rfl) (by rfl) (by intro w' hw; rw [HSd.out] at hw; obtain ⟨h0, h1, h2, h3⟩ := hw; go_simp; try (with_reducible rfl)) hS ?_
                  simp only [List.getElem_toArray, List.getElem_cons_succ, List.getElem_cons_zero, Act.put, List.setIfInBounds_toArray, List.set_cons_zero, List.set_cons_succ]
                  refine s_tk 11 rfl (by kernel_rfl) (by rfl) (by intro w' hw; rw [HSd.out] at hw; obtain ⟨h0, h1, h2, h3⟩ := hw; go_simp; try (with_reducible rfl)) hS ?_
                  simp only [List.getElem_toArray, List.getElem_cons_succ, List.getElem_cons_zero, Act.put, List.setIfInBounds_toArray, List.set_cons_zero, List.set_cons_succ]
                  refine s_ps 12 rfl (by kernel_rfl) (by rfl) hS ?_
                  simp only [List.getElem_toArray, List.getElem_cons_succ, List.getElem_cons_zero, Act.put, List.setIfInBounds_toArray, List.set_cons_zero, List.set_cons_succ]
                  refine s_ps 13 rfl (by kernel_rfl) (by rfl) hS ?_
                  simp only [List.getElem_toArray, List.getElem_cons_succ, List.getElem_cons_zero, Act.put, List.setIfInBounds_toArray, List.set_cons_zero, List.set_cons_succ]
                  refine s_ps 14 rfl (by kernel_rfl) (by rfl) hS ?_
                  simp only [List.getElem_toArray, List.getElem_cons_succ, List.getElem_cons_zero, Act.put, List.setIfInBounds_toArray, List.set_cons_zero, List.set_cons_succ]
                  refine s_ps 15 rfl (by kernel_rfl) (by rfl) hS ?_
                  simp only [List.getElem_toArray, List.getElem_cons_succ, List.getElem_cons_zero, Act.put, List.setIfInBounds_toArray, List.set_cons_zero, List.set_cons_succ]
                  refine s_ps 16 rfl (by kernel_rfl) (by rfl) hS ?_
                  simp only [List.getElem_toArray, List.getElem_cons_succ, List.getElem_cons_zero, Act.put, List.setIfInBounds_toArray, List.set_cons_zero, List.set_cons_succ]
                  refine s_ps 17 rfl (by kernel_rfl) (by rfl) hS ?_
                  simp only [List.getElem_toArray, List.getElem_cons_succ, List.getElem_cons_zero, Act.put, List.setIfInBounds_toArray, List.set_cons_zero, List.set_cons_succ]
                  refine s_ps 18 rfl (by kernel_rfl) (by rfl) hS ?_
                  simp only [List.getElem_toArray, List.getElem_cons_succ, List.getElem_cons_zero, Act.put, List.setIfInBounds_toArray, List.set_cons_zero, List.set_cons_succ]
                  refine s_ps 19 rfl (by kernel_rfl) (by rfl) hS ?_
                  simp only [List.getElem_toArray, List.getElem_cons_succ, List.getElem_cons_zero, Act.put, List.setIfInBounds_toArray, List.set_cons_zero, List.set_cons_succ]
                  refine s_ps 20 rfl (by kernel_rfl) (by rfl) hS ?_
                  simp only [List.getElem_toArray, List.getElem_cons_succ, List.getElem_cons_zero, Act.put, List.setIfInBounds_toArray, List.set_cons_zero, List.set_cons_succ]
                  refine s_ps 21 rfl (by kernel_rfl) (by rfl) hS ?_
                  simp only [List.getElem_toArray, List.getElem_cons_succ, List.getElem_cons_zero, Act.put, List.setIfInBounds_toArray, List.set_cons_zero, List.set_cons_succ]
                  refine s_ps 22 rfl (by kernel_rfl) (by rfl) hS ?_
                  simp only [List.getElem_toArray, List.getElem_cons_succ, List.getElem_cons_zero, Act.put, List.setIfInBounds_toArray, List.set_cons_zero, List.set_cons_succ]
                  refine s_ps 23 rfl (by kernel_rfl) (by rfl) hS ?_
                  simp only [List.getElem_toArray, List.getElem_cons_succ, List.getElem_cons_zero, Act.put, List.setIfInBounds_toArray, List.set_cons_zero, List.set_cons_succ]
                  refine s_ps 24 rfl (by kernel_rfl) (by rfl) hS ?_
                  simp only [List.getElem_toArray, List.getElem_cons_succ, List.getElem_cons_zero, Act.put, List.setIfInBounds_toArray, List.set_cons_zero, List.set_cons_succ]
                  refine s_ps 25 rfl (by kernel_rfl) (by rfl) hS ?_
                  simp only [List.getElem_toArray, List.getElem_cons_succ, List.getElem_cons_zero, Act.put, List.setIfInBounds_toArray, List.set_cons_zero, List.set_cons_succ]
                  refine s_ps 26 rfl (by kernel_rfl) (by rfl) hS ?_
                  simp only [List.getElem_toArray, List.getElem_cons_succ, List.getElem_cons_zero, Act.put, List.setIfInBounds_toArray, List.set_cons_zero, List.set_cons_succ]
                  refine s_tk 27 rfl (by kernel_rfl) (by rfl) (by intro w' hw; rw [HSd.out] at hw; obtain ⟨h0, h1, h2, h3⟩ := hw; go_simp; try (with_reducible rfl)) hS ?_
                  simp only [List.getElem_toArray, List.getElem_cons_succ, List.getElem_cons_zero, Act.put, List.setIfInBounds_toArray, List.set_cons_zero, List.set_cons_succ]
                  refine s_tk 28 rfl (by kernel_rfl) (by rfl) (by intro w' hw; rw [HSd.out] at hw; obtain ⟨h0, h1, h2, h3⟩ := hw; go_simp; try (with_reducible rfl)) hS ?_
                  simp only [List.getElem_toArray, List.getElem_cons_succ, List.getElem_cons_zero, Act.put, List.setIfInBounds_toArray, List.set_cons_zero, List.set_cons_succ]
                  refine s_tk 29 rfl (by kernel_rfl) (by rfl) (by intro w' hw; rw [HSd.out] at hw; obtain ⟨h0, h1, h2, h3⟩ := hw; go_simp; try (with_reducible rfl)) hS ?_
                  simp only [List.getElem_toArray, List.getElem_cons_succ, List.getElem_cons_zero, Act.put, List.setIfInBounds_toArray, List.set_cons_zero, List.set_cons_succ]
                  refine s_tk 30 rfl (by kernel_rfl) (by rfl) (by intro w' hw; rw [HSd.out] at hw; obtain ⟨h0, h1, h2, h3⟩ := hw; go_simp; try (with_reducible rfl)) hS ?_
                  simp only [List.getElem_toArray, List.getElem_cons_succ, List.getElem_cons_zero, Act.put, List.setIfInBounds_toArray, List.set_cons_zero, List.set_cons_succ]
                  refine s_done (by kernel_rfl) ?_ _
                  go_wp2_with fail
                  refine (rgoes_calls (RQ.out.keep (w' := W.drew) fun k _ => rfl) e.id).mono ?_
                  rintro x w5 ⟨⟨vv, rfl⟩, N, hN, RQ5, S5⟩
                  clear y0 y1 y2 y3 y4 m0 m1 m2 m3 m4 n0 n1 n2 n3 n4 x0 x2 z1 z2
                  have k5 : Bx w5 G 32 [.int .u8 e.m.pr, .int .u32 e.m.ttl, .int .u32 (C : Nat), .string ⟨e.m.ids.toArray⟩, .slice Ab e.m.body.length cb] := Bx.tch (W := W.drew) N5.out S5.tch fun hm => by have := HZ.out _ hm; omega
                  have k4 : Bx w5 (g + 1) 32 zMsg := Bx.tch (W := W.drew) N4.out S5.tch fun hm => by have := HZ.out _ hm; have := HG.out; omega
                  have y0 := k5.cell 0 _ rfl
                  have y1 := k5.cell 1 _ rfl
                  have y2 := k5.cell 2 _ rfl
                  have y3 := k5.cell 3 _ rfl
                  have y4 := k5.cell 4 _ rfl
                  have m0 := k4.cell 0 _ rfl
                  have m1 := k4.cell 1 _ rfl
                  have m2 := k4.cell 2 _ rfl
                  have m3 := k4.cell 3 _ rfl
                  have m4 := k4.cell 4 _ rfl
                  have n0 := k4.froz 0
                  have n1 := k4.froz 1
                  have n2 := k4.froz 2
                  have n3 := k4.froz 3
                  have n4 := k4.froz 4
                  have hN' : ∀ k ∈ N, w.heap.size ≤ k ∧ k < w5.heap.size := fun k hk => by have h1 := (hN k hk).1; have h2 := N6.out.size; exact ⟨Nat.le_trans h2 h1, (hN k hk).2⟩
                  have K5 := Lib.hid k5
                  have K4' := Lib.hid k4
                  have R5 := Lib.hid RQ5
                  have T5 := Lib.hid (ST.out.trans (Z' := Z) (w2 := w5) (by obtain ⟨F, t, hF⟩ := S5; exact ⟨F, Tch.of_drew (w := W) ⟨t.os, t.tape, t.output, t.size, t.block⟩, hF⟩) fun k hk => .inl hk)
                  have HN' := Lib.hid hN'
                  have hgN := Lib.hid (show g + 1 ∉ N from fun hm => by have h1 := (hN _ hm).1; have h2 : g + 1 < W.heap.size := N4.out.lt; have h3 : W.heap.size ≤ g + 1 := h1; omega)
                  clear k5 k4 RQ5 S5 hN hN'
                  go_wp2_with fail
                  refine forgetX (fun V => Bx V (g + 1) 32 [.int .u8 e.m.pr, .int .u32 e.m.ttl, .int .u32 (C : Nat), .string ⟨e.m.ids.toArray⟩, .slice Ab e.m.body.length cb] ∧ Tch [g + 1] w5 V) ⟨?_, ?_⟩ ?_
                  · with_reducible refine Bx.to (((((K4'.out.set 0 _).set 1 _).set 2 _).set 3 _).set 4 _) ?_
                    rfl
                  · with_reducible repeat first | exact Tch.refl _ _ | refine Tch.setCell ?_ _ (.inl (by simp))
                  rintro V ⟨k1, k2⟩
                  rw [HF.out]
                  have hs := T5.out.then_new k2 (by rw [HG.out]; simp)
                  have hrqV : Rq V (N ++ Z) r room limit last (less [e.id] L) := by
                    have h1 := R5.out
                    rw [HEI.out, show less [e.id] (modL (cntE e C) L) = less [e.id] L from less_modL (cntE e C) L] at h1
                    refine h1.keep fun k hk => ?_
                    have hl : k < w5.heap.size := by
                      rcases List.mem_append.1 hk with h | h
                      · exact (HN'.out k h).2
                      · exact Nat.lt_of_lt_of_le (HZ.out k h) T5.out.tch.size
                    refine k2.block k hl fun hm => ?_
                    simp only [List.mem_singleton] at hm
                    subst hm
                    rcases List.mem_append.1 hk with h | h
                    · exact hgN.out h
                    · have := HZ.out _ h
                      have := HG.out
                      omega
                  refine bodyPost_ret (results_ctt rfl rfl rfl rfl (k1.loadAgg (by kernel_rfl) (by kernel_rfl))) rfl ⟨bv e.id, ?_, ?_, N, fun k hk => ⟨(HN'.out k hk).1, Nat.lt_of_lt_of_le (HN'.out k hk).2 k2.size⟩, hrqV, hs⟩
                  · show _ = Ending.returned (.tuple #[mgv (cntE e C).m (bv e.id), _, _])
                    rw [mgv_eq, HBV.out]
                    rfl
                  · intro d hd
                    simp only [Option.some.injEq] at hd
                    subst hd
                    exact ⟨hs.bdv (H4.out e HMEM.out).1, (H4.out e HMEM.out).2⟩
                · have hb' : ¬ (OB : Int) = 1 := by omega
                  by_cases hl : limit = 0
                  · have HF := Lib.hid (show setQ limit L e.id O = (modL (freeE (cntE e C)) L, 0, none) by
                      unfold setQ
                      rw [HFH.out, ← HO.out]
                      simp only
                      rw [if_neg (by decide), if_neg (by decide), if_neg (by decide), if_pos trivial, hbe]
                      rw [if_neg (show ¬ deadE limit ⟨5, OA, OB, OC⟩ (cntE e C).m = true from fun h => by have h := of_decide_eq_true h; have h : OB = 1 ∨ (0 < limit ∧ limit ≤ C) := h; omega)]
                    )
                    clear hbe
                    subst hl
                    have hi2 : i < ((L.set i (cntE e C)).map fun e => (e, bv e.id)).length := by rw [List.length_map, List.length_set]; exact HE.out.1
                    have w7 := N2.out.cell_at (i * 8 + 7) (.bool e.held) (by
                      have h1 := flat_at eit 8 ((L.set i (cntE e C)).map fun e => (e, bv e.id)) (fun x _ => eit_length x) i hi2 7 (by decide)
                      rw [List.getElem_map, List.getElem_set_self] at h1
                      exact h1)
                    obtain ⟨w7, w8⟩ := w7
                    obtain ⟨S, hSd⟩ : ∃ S : World → Prop, S = fun W' : World => W'.cell? ⟨g, 0, none⟩ = W.cell? ⟨g, 0, none⟩ ∧ W'.cell? ⟨g, 2, none⟩ = W.cell? ⟨g, 2, none⟩ ∧ W'.cell? ⟨r, 1, none⟩ = W.cell? ⟨r, 1, none⟩ ∧ W'.cell? ⟨G, 2, none⟩ = W.cell? ⟨G, 2, none⟩ := ⟨_, rfl⟩
                    have hS : S W.drew := by rw [hSd]; exact ⟨rfl, rfl, rfl, rfl⟩
                    rw [x0, x2, z1, y2] at hSd
                    have HSd := Lib.hid hSd
                    clear hSd
                    refine (wpIn_wide (n := 0)).1 ?_
                    refine s_region [] S (by kernel_rfl) ?_
                    refine s_tk 0 rfl (by kernel_rfl) (by rfl) (by intro w' hw; rw [HSd.out] at hw; obtain ⟨h0, h1, h2, h3⟩ := hw; go_simp; try (with_reducible rfl)) hS ?_
                    simp only [List.getElem_toArray, List.getElem_cons_succ, List.getElem_cons_zero, Act.put, List.setIfInBounds_toArray, List.set_cons_zero, List.set_cons_succ]
                    refine s_tk 1 rfl (by kernel_rfl) (by rfl) (by intro w' hw; rw [HSd.out] at hw; obtain ⟨h0, h1, h2, h3⟩ := hw; go_simp; try (with_reducible rfl)) hS ?_
                    simp only [List.getElem_toArray, List.getElem_cons_succ, List.getElem_cons_zero, Act.put, List.setIfInBounds_toArray, List.set_cons_zero, List.set_cons_succ]
                    refine s_tk 2 rfl (by kernel_rfl) (by rfl) (by intro w' hw; rw [HSd.out] at hw; obtain ⟨h0, h1, h2, h3⟩ := hw; go_simp; try (with_reducible rfl)) hS ?_
                    simp only [List.getElem_toArray, List.getElem_cons_succ, List.getElem_cons_zero, Act.put, List.setIfInBounds_toArray, List.set_cons_zero, List.set_cons_succ]
                    refine s_tk 3 rfl (by kernel_rfl) (by rfl) (by intro w' hw; rw [HSd.out] at hw; obtain ⟨h0, h1, h2, h3⟩ := hw; go_simp; try (with_reducible rfl)) hS ?_
                    simp only [List.getElem_toArray, List.getElem_cons_succ, List.getElem_cons_zero, Act.put, List.setIfInBounds_toArray, List.set_cons_zero, List.set_cons_succ]
                    refine s_tk 4 rfl (by kernel_rfl) (by rfl) (by intro w' hw; rw [HSd.out] at hw; obtain ⟨h0, h1, h2, h3⟩ := hw; go_simp; try (with_reducible rfl)) hS ?_
                    simp only [List.getElem_toArray, List.getElem_cons_succ, List.getElem_cons_zero, Act.put, List.setIfInBounds_toArray, List.set_cons_zero, List.set_cons_succ]
                    refine s_tk 5 rfl (by kernel_rfl) (by rfl) (by intro w' hw; rw [HSd.out] at hw; obtain ⟨h0, h1, h2, h3⟩ := hw; go_simp; try (with_reducible rfl)) hS ?_
                    simp only [List.getElem_toArray, List.getElem_cons_succ, List.getElem_cons_zero, Act.put, List.setIfInBounds_toArray, List.set_cons_zero, List.set_cons_succ]
                    refine s_tk 6 rfl (by kernel_rfl) (by rfl) (by intro w' hw; rw [HSd.out] at hw; obtain ⟨h0, h1, h2, h3⟩ := hw; go_simp; try (with_reducible rfl)) hS ?_
                    simp only [List.getElem_toArray, List.getElem_cons_succ, List.getElem_cons_zero, Act.put, List.setIfInBounds_toArray, List.set_cons_zero, List.set_cons_succ]
                    refine s_tk 7 rfl (by kernel_rfl) (by rfl) (by intro w' hw; rw [HSd.out] at hw; obtain ⟨h0, h1, h2, h3⟩ := hw; go_simp; try (with_reducible rfl)) hS ?_
                    simp only [List.getElem_toArray, List.getElem_cons_succ, List.getElem_cons_zero, Act.put, List.setIfInBounds_toArray, List.set_cons_zero, List.set_cons_succ]
                    refine s_tk 8 rfl (by kernel_rfl) (by rfl) (by intro w' hw; rw [HSd.out] at hw; obtain ⟨h0, h1, h2, h3⟩ := hw; go_simp; try (with_reducible rfl)) hS ?_
                    simp only [List.getElem_toArray, List.getElem_cons_succ, List.getElem_cons_zero, Act.put, List.setIfInBounds_toArray, List.set_cons_zero, List.set_cons_succ]
                    refine s_tk 9 rfl (by kernel_rfl) (by rfl) (by intro w' hw; rw [HSd.out] at hw; obtain ⟨h0, h1, h2, h3⟩ := hw; go_simp; try (with_reducible rfl)) hS ?_
                    simp only [List.getElem_toArray, List.getElem_cons_succ, List.getElem_cons_zero, Act.put, List.setIfInBounds_toArray, List.set_cons_zero, List.set_cons_succ]
                    refine s_tk (v := .bool false) 10 rfl (by kernel_rfl) (by rfl) (by intro w' hw; rw [HSd.out] at hw; obtain ⟨h0, h1, h2, h3⟩ := hw; go_simp; try (simp [hb])) hS ?_
                    simp only [List.getElem_toArray, List.getElem_cons_succ, List.getElem_cons_zero, Act.put, List.setIfInBounds_toArray, List.set_cons_zero, List.set_cons_succ]
                    refine s_tk 11 rfl (by kernel_rfl) (by rfl) (by intro w' hw; rw [HSd.out] at hw; obtain ⟨h0, h1, h2, h3⟩ := hw; go_simp; try (with_reducible rfl)) hS ?_
                    simp only [List.getElem_toArray, List.getElem_cons_succ, List.getElem_cons_zero, Act.put, List.setIfInBounds_toArray, List.set_cons_zero, List.set_cons_succ]
                    refine s_tk 12 rfl (by kernel_rfl) (by rfl) (by intro w' hw; rw [HSd.out] at hw; obtain ⟨h0, h1, h2, h3⟩ := hw; go_simp; try (with_reducible rfl)) hS ?_
                    simp only [List.getElem_toArray, List.getElem_cons_succ, List.getElem_cons_zero, Act.put, List.setIfInBounds_toArray, List.set_cons_zero, List.set_cons_succ]
                    refine s_tk 13 rfl (by kernel_rfl) (by rfl) (by intro w' hw; rw [HSd.out] at hw; obtain ⟨h0, h1, h2, h3⟩ := hw; go_simp; try (with_reducible rfl)) hS ?_
                    simp only [List.getElem_toArray, List.getElem_cons_succ, List.getElem_cons_zero, Act.put, List.setIfInBounds_toArray, List.set_cons_zero, List.set_cons_succ]
                    refine s_tk 14 rfl (by kernel_rfl) (by rfl) (by intro w' hw; rw [HSd.out] at hw; obtain ⟨h0, h1, h2, h3⟩ := hw; go_simp; try (with_reducible rfl)) hS ?_
                    simp only [List.getElem_toArray, List.getElem_cons_succ, List.getElem_cons_zero, Act.put, List.setIfInBounds_toArray, List.set_cons_zero, List.set_cons_succ]
                    refine s_tk 15 rfl (by kernel_rfl) (by rfl) (by intro w' hw; rw [HSd.out] at hw; obtain ⟨h0, h1, h2, h3⟩ := hw; go_simp; try (with_reducible rfl)) hS ?_
                    simp only [List.getElem_toArray, List.getElem_cons_succ, List.getElem_cons_zero, Act.put, List.setIfInBounds_toArray, List.set_cons_zero, List.set_cons_succ]
                    refine s_tk 16 rfl (by kernel_rfl) (by rfl) (by intro w' hw; rw [HSd.out] at hw; obtain ⟨h0, h1, h2, h3⟩ := hw; go_simp; try (with_reducible rfl)) hS ?_
                    simp only [List.getElem_toArray, List.getElem_cons_succ, List.getElem_cons_zero, Act.put, List.setIfInBounds_toArray, List.set_cons_zero, List.set_cons_succ]
                    refine s_tk 17 rfl (by kernel_rfl) (by rfl) (by intro w' hw; rw [HSd.out] at hw; obtain ⟨h0, h1, h2, h3⟩ := hw; go_simp; try (with_reducible rfl)) hS ?_
                    simp only [List.getElem_toArray, List.getElem_cons_succ, List.getElem_cons_zero, Act.put, List.setIfInBounds_toArray, List.set_cons_zero, List.set_cons_succ]
                    refine s_ps 18 rfl (by kernel_rfl) (by rfl) hS ?_
                    simp only [List.getElem_toArray, List.getElem_cons_succ, List.getElem_cons_zero, Act.put, List.setIfInBounds_toArray, List.set_cons_zero, List.set_cons_succ]
                    refine s_ps 19 rfl (by kernel_rfl) (by rfl) hS ?_
                    simp only [List.getElem_toArray, List.getElem_cons_succ, List.getElem_cons_zero, Act.put, List.setIfInBounds_toArray, List.set_cons_zero, List.set_cons_succ]
                    refine s_ps 20 rfl (by kernel_rfl) (by rfl) hS ?_
                    simp only [List.getElem_toArray, List.getElem_cons_succ, List.getElem_cons_zero, Act.put, List.setIfInBounds_toArray, List.set_cons_zero, List.set_cons_succ]
                    refine s_ps 21 rfl (by kernel_rfl) (by rfl) hS ?_
                    simp only [List.getElem_toArray, List.getElem_cons_succ, List.getElem_cons_zero, Act.put, List.setIfInBounds_toArray, List.set_cons_zero, List.set_cons_succ]
                    refine s_ps 22 rfl (by kernel_rfl) (by rfl) hS ?_
                    simp only [List.getElem_toArray, List.getElem_cons_succ, List.getElem_cons_zero, Act.put, List.setIfInBounds_toArray, List.set_cons_zero, List.set_cons_succ]
                    refine s_ps 23 rfl (by kernel_rfl) (by rfl) hS ?_
                    simp only [List.getElem_toArray, List.getElem_cons_succ, List.getElem_cons_zero, Act.put, List.setIfInBounds_toArray, List.set_cons_zero, List.set_cons_succ]
                    refine s_ps 24 rfl (by kernel_rfl) (by rfl) hS ?_
                    simp only [List.getElem_toArray, List.getElem_cons_succ, List.getElem_cons_zero, Act.put, List.setIfInBounds_toArray, List.set_cons_zero, List.set_cons_succ]
                    refine s_ps 25 rfl (by kernel_rfl) (by rfl) hS ?_
                    simp only [List.getElem_toArray, List.getElem_cons_succ, List.getElem_cons_zero, Act.put, List.setIfInBounds_toArray, List.set_cons_zero, List.set_cons_succ]
                    refine s_tk 26 rfl (by kernel_rfl) (by rfl) (by intro w' hw; rw [HSd.out] at hw; obtain ⟨h0, h1, h2, h3⟩ := hw; go_simp; try (with_reducible rfl)) hS ?_
                    simp only [List.getElem_toArray, List.getElem_cons_succ, List.getElem_cons_zero, Act.put, List.setIfInBounds_toArray, List.set_cons_zero, List.set_cons_succ]
                    refine s_tk 27 rfl (by kernel_rfl) (by rfl) (by intro w' hw; rw [HSd.out] at hw; obtain ⟨h0, h1, h2, h3⟩ := hw; go_simp; try (with_reducible rfl)) hS ?_
                    simp only [List.getElem_toArray, List.getElem_cons_succ, List.getElem_cons_zero, Act.put, List.setIfInBounds_toArray, List.set_cons_zero, List.set_cons_succ]
                    refine s_tk 28 rfl (by kernel_rfl) (by rfl) (by intro w' hw; rw [HSd.out] at hw; obtain ⟨h0, h1, h2, h3⟩ := hw; go_simp; try (with_reducible rfl)) hS ?_
                    simp only [List.getElem_toArray, List.getElem_cons_succ, List.getElem_cons_zero, Act.put, List.setIfInBounds_toArray, List.set_cons_zero, List.set_cons_succ]
                    refine s_tk 29 rfl (by kernel_rfl) (by rfl) (by intro w' hw; rw [HSd.out] at hw; obtain ⟨h0, h1, h2, h3⟩ := hw; go_simp; try (with_reducible rfl)) hS ?_
                    simp only [List.getElem_toArray, List.getElem_cons_succ, List.getElem_cons_zero, Act.put, List.setIfInBounds_toArray, List.set_cons_zero, List.set_cons_succ]
                    refine s_tk 30 rfl (by kernel_rfl) (by rfl) (by intro w' hw; rw [HSd.out] at hw; obtain ⟨h0, h1, h2, h3⟩ := hw; go_simp; try (with_reducible rfl)) hS ?_
                    simp only [List.getElem_toArray, List.getElem_cons_succ, List.getElem_cons_zero, Act.put, List.setIfInBounds_toArray, List.set_cons_zero, List.set_cons_succ]
                    refine s_done (by kernel_rfl) ?_ _
                    go_wp2_with fail
                    refine forgetX (fun V => Bx V (g + 1) 32 zMsg ∧ Bx V r 90 (rcs room 0 last (.slice (some ⟨b0, 0, none⟩) j c)) ∧ OwnC 64 8 (fun _ => True) V 0 (.slice (some ⟨b0, 0, none⟩) j c) j (eits ((L.set i (freeE (cntE e C))).map fun e => (e, bv e.id))) ∧ Tch [b0, g + 1] W V) ⟨?_, ?_, ?_, ?_⟩ ?_
                    · have h1 : Bx (W.setCell ⟨b0, i * 8 + 7, none⟩ (.bool false)) (g + 1) 32 zMsg := Bx.off N4.out (by omega)
                      refine Bx.drew ?_
                      with_reducible refine Bx.to (((((h1.set 0 _).set 1 _).set 2 _).set 3 _).set 4 _) ?_
                      rfl
                    · have h1 : Bx (W.setCell ⟨b0, i * 8 + 7, none⟩ (.bool false)) r 90 (rcs room 0 last (.slice (some ⟨b0, 0, none⟩) j c)) := Bx.off N1.out hrb
                      have hne : r ≠ g + 1 := by omega
                      refine Bx.drew ?_
                      with_reducible exact ((((h1.off hne).off hne).off hne).off hne).off hne
                    · have hv := N2.out.set_cell (i * 8 + 7) (by omega) (.bool false) rfl
                      rw [eits_set hi2 (by decide) (.bool false) (freeE (cntE e C), bv e.id) (by rw [List.getElem_map, List.getElem_set_self]; rfl)] at hv
                      have h2 : ((L.set i (cntE e C)).map fun e => (e, bv e.id)).set i (freeE (cntE e C), bv e.id) = (L.set i (freeE (cntE e C))).map fun e => (e, bv e.id) := by
                        rw [List.map_set, List.map_set, List.set_set]; rfl
                      rw [h2] at hv
                      refine OwnC.drew (OwnC.tch (F := [g + 1]) hv ?_ fun k hk hm => ?_)
                      · with_reducible repeat first | exact Tch.refl _ _ | refine Tch.setCell ?_ _ (.inl (by simp))
                      · simp only [Value.ownBlock, Option.some.injEq] at hk
                        subst hk
                        simp only [List.mem_singleton] at hm
                        omega
                    · refine Tch.drew ?_
                      with_reducible repeat first | exact Tch.refl _ _ | refine Tch.setCell ?_ _ (.inl (by simp))
                    rintro V ⟨k1, k2, k3, k4⟩
                    rw [HF.out]
                    have hs : RStep Z w V := ⟨[b0], N6.out.trans k4 (by intro q hq; simp at hq ⊢; have := HG.out; omega), fun q hq => by simp only [List.mem_singleton] at hq; subst hq; exact HZB.out⟩
                    have hEi : (L.set i (freeE (cntE e C))) = modL (freeE (cntE e C)) L := (modL_set HE.out.1 (freeE (cntE e C)) (by rw [HE.out.2]; rfl) H6.out.sorted).symm
                    refine bodyPost_ret (results_ctt rfl rfl rfl rfl (k1.loadAgg (by kernel_rfl) (by kernel_rfl))) rfl ⟨.slice none 0 0, rfl, by intro d hd; simp at hd, [], by simp, ⟨⟨.slice (some ⟨b0, 0, none⟩) j c, bv, k2, ?_, H3.out, fun x hx => ?_⟩, H5.out, ?_⟩, hs⟩
                    · show OwnC _ _ _ _ _ _ (modL (freeE (cntE e C)) L).length (eits ((modL (freeE (cntE e C)) L).map fun e => (e, bv e.id)))
                      rw [← hEi, List.length_set, HN.out]
                      exact k3
                    · have hx : x ∈ modL (freeE (cntE e C)) L := hx
                      have hb : ∃ y ∈ L, y.id = x.id ∧ y.m.body = x.m.body := by
                        rcases mem_modL hx with rfl | ⟨h, _⟩
                        · exact ⟨e, HMEM.out, rfl, rfl⟩
                        · exact ⟨x, h, rfl, rfl⟩
                      obtain ⟨y, hy, h1, h2⟩ := hb
                      rw [← h1, ← h2]
                      exact ⟨hs.bdv (H4.out y hy).1, (H4.out y hy).2⟩
                    · show WfQ room 0 last (modL (freeE (cntE e C)) L)
                      exact H6.out.mod HMEM.out rfl hok (H6.out.tm e HMEM.out)
                  · have hl' : 0 < limit := by omega
                    have hwr : IntKind.i64.wrap (C : Int) = (C : Nat) := by unfold IntKind.wrap; simp [IntKind.signed, IntKind.bits]; omega
                    by_cases hcl : limit ≤ C
                    · have HF := Lib.hid (show setQ limit L e.id O = (less [e.id] L, 0, some (cntE e C)) by
                        unfold setQ
                        rw [HFH.out, ← HO.out]
                        simp only
                        rw [if_neg (by decide), if_neg (by decide), if_neg (by decide), if_pos trivial, hbe]
                        rw [if_pos (show deadE limit ⟨5, OA, OB, OC⟩ (cntE e C).m = true from decide_eq_true (by show OB = 1 ∨ (0 < limit ∧ limit ≤ C); omega))]
                      )
                      have hcl1 : decide (limit ≤ C) = true := decide_eq_true hcl
                      clear hbe
                      obtain ⟨S, hSd⟩ : ∃ S : World → Prop, S = fun W' : World => W'.cell? ⟨g, 0, none⟩ = W.cell? ⟨g, 0, none⟩ ∧ W'.cell? ⟨g, 2, none⟩ = W.cell? ⟨g, 2, none⟩ ∧ W'.cell? ⟨r, 1, none⟩ = W.cell? ⟨r, 1, none⟩ ∧ W'.cell? ⟨G, 2, none⟩ = W.cell? ⟨G, 2, none⟩ := ⟨_, rfl⟩
                      have hS : S W.drew := by rw [hSd]; exact ⟨rfl, rfl, rfl, rfl⟩
                      rw [x0, x2, z1, y2] at hSd
                      have HSd := Lib.hid hSd
                      clear hSd
                      refine (wpIn_wide (n := 0)).1 ?_
                      refine s_region [] S (by kernel_rfl) ?_
                      refine s_tk 0 rfl (by kernel_rfl) (by rfl) (by intro w' hw; rw [HSd.out] at hw; obtain ⟨h0, h1, h2, h3⟩ := hw; go_simp; try (with_reducible rfl)) hS ?_
                      simp only [List.getElem_toArray, List.getElem_cons_succ, List.getElem_cons_zero, Act.put, List.setIfInBounds_toArray, List.set_cons_zero, List.set_cons_succ]
                      refine s_tk 1 rfl (by kernel_rfl) (by rfl) (by intro w' hw; rw [HSd.out] at hw; obtain ⟨h0, h1, h2, h3⟩ := hw; go_simp; try (with_reducible rfl)) hS ?_
                      simp only [List.getElem_toArray, List.getElem_cons_succ, List.getElem_cons_zero, Act.put, List.setIfInBounds_toArray, List.set_cons_zero, List.set_cons_succ]
                      refine s_tk 2 rfl (by kernel_rfl) (by rfl) (by intro w' hw; rw [HSd.out] at hw; obtain ⟨h0, h1, h2, h3⟩ := hw; go_simp; try (with_reducible rfl)) hS ?_
                      simp only [List.getElem_toArray, List.getElem_cons_succ, List.getElem_cons_zero, Act.put, List.setIfInBounds_toArray, List.set_cons_zero, List.set_cons_succ]
                      refine s_tk 3 rfl (by kernel_rfl) (by rfl) (by intro w' hw; rw [HSd.out] at hw; obtain ⟨h0, h1, h2, h3⟩ := hw; go_simp; try (with_reducible rfl)) hS ?_
                      simp only [List.getElem_toArray, List.getElem_cons_succ, List.getElem_cons_zero, Act.put, List.setIfInBounds_toArray, List.set_cons_zero, List.set_cons_succ]
                      refine s_tk 4 rfl (by kernel_rfl) (by rfl) (by intro w' hw; rw [HSd.out] at hw; obtain ⟨h0, h1, h2, h3⟩ := hw; go_simp; try (with_reducible rfl)) hS ?_
                      simp only [List.getElem_toArray, List.getElem_cons_succ, List.getElem_cons_zero, Act.put, List.setIfInBounds_toArray, List.set_cons_zero, List.set_cons_succ]
                      refine s_tk 5 rfl (by kernel_rfl) (by rfl) (by intro w' hw; rw [HSd.out] at hw; obtain ⟨h0, h1, h2, h3⟩ := hw; go_simp; try (with_reducible rfl)) hS ?_
                      simp only [List.getElem_toArray, List.getElem_cons_succ, List.getElem_cons_zero, Act.put, List.setIfInBounds_toArray, List.set_cons_zero, List.set_cons_succ]
                      refine s_tk 6 rfl (by kernel_rfl) (by rfl) (by intro w' hw; rw [HSd.out] at hw; obtain ⟨h0, h1, h2, h3⟩ := hw; go_simp; try (with_reducible rfl)) hS ?_
                      simp only [List.getElem_toArray, List.getElem_cons_succ, List.getElem_cons_zero, Act.put, List.setIfInBounds_toArray, List.set_cons_zero, List.set_cons_succ]
                      refine s_tk 7 rfl (by kernel_rfl) (by rfl) (by intro w' hw; rw [HSd.out] at hw; obtain ⟨h0, h1, h2, h3⟩ := hw; go_simp; try (with_reducible rfl)) hS ?_
                      simp only [List.getElem_toArray, List.getElem_cons_succ, List.getElem_cons_zero, Act.put, List.setIfInBounds_toArray, List.set_cons_zero, List.set_cons_succ]
                      refine s_tk 8 rfl (by kernel_rfl) (by rfl) (by intro w' hw; rw [HSd.out] at hw; obtain ⟨h0, h1, h2, h3⟩ := hw; go_simp; try (with_reducible rfl)) hS ?_
                      simp only [List.getElem_toArray, List.getElem_cons_succ, List.getElem_cons_zero, Act.put, List.setIfInBounds_toArray, List.set_cons_zero, List.set_cons_succ]
                      refine s_tk 9 rfl (by kernel_rfl) (by rfl) (by intro w' hw; rw [HSd.out] at hw; obtain ⟨h0, h1, h2, h3⟩ := hw; go_simp; try (with_reducible rfl)) hS ?_
                      simp only [List.getElem_toArray, List.getElem_cons_succ, List.getElem_cons_zero, Act.put, List.setIfInBounds_toArray, List.set_cons_zero, List.set_cons_succ]
                      refine s_tk (v := .bool false) 10 rfl (by kernel_rfl) (by rfl) (by intro w' hw; rw [HSd.out] at hw; obtain ⟨h0, h1, h2, h3⟩ := hw; go_simp; try (simp [hb])) hS ?_
                      simp only [List.getElem_toArray, List.getElem_cons_succ, List.getElem_cons_zero, Act.put, List.setIfInBounds_toArray, List.set_cons_zero, List.set_cons_succ]
                      refine s_tk 11 rfl (by kernel_rfl) (by rfl) (by intro w' hw; rw [HSd.out] at hw; obtain ⟨h0, h1, h2, h3⟩ := hw; go_simp; try (with_reducible rfl)) hS ?_
                      simp only [List.getElem_toArray, List.getElem_cons_succ, List.getElem_cons_zero, Act.put, List.setIfInBounds_toArray, List.set_cons_zero, List.set_cons_succ]
                      refine s_tk 12 rfl (by kernel_rfl) (by rfl) (by intro w' hw; rw [HSd.out] at hw; obtain ⟨h0, h1, h2, h3⟩ := hw; go_simp; try (with_reducible rfl)) hS ?_
                      simp only [List.getElem_toArray, List.getElem_cons_succ, List.getElem_cons_zero, Act.put, List.setIfInBounds_toArray, List.set_cons_zero, List.set_cons_succ]
                      refine s_tk 13 rfl (by kernel_rfl) (by rfl) (by intro w' hw; rw [HSd.out] at hw; obtain ⟨h0, h1, h2, h3⟩ := hw; go_simp; try (with_reducible rfl)) hS ?_
                      simp only [List.getElem_toArray, List.getElem_cons_succ, List.getElem_cons_zero, Act.put, List.setIfInBounds_toArray, List.set_cons_zero, List.set_cons_succ]
                      refine s_tk 14 rfl (by kernel_rfl) (by rfl) (by intro w' hw; rw [HSd.out] at hw; obtain ⟨h0, h1, h2, h3⟩ := hw; go_simp; try (with_reducible rfl)) hS ?_
                      simp only [List.getElem_toArray, List.getElem_cons_succ, List.getElem_cons_zero, Act.put, List.setIfInBounds_toArray, List.set_cons_zero, List.set_cons_succ]
                      refine s_tk 15 rfl (by kernel_rfl) (by rfl) (by intro w' hw; rw [HSd.out] at hw; obtain ⟨h0, h1, h2, h3⟩ := hw; go_simp; try (with_reducible rfl)) hS ?_
                      simp only [List.getElem_toArray, List.getElem_cons_succ, List.getElem_cons_zero, Act.put, List.setIfInBounds_toArray, List.set_cons_zero, List.set_cons_succ]
                      refine s_tk (v := .bool true) 16 rfl (by kernel_rfl) (by rfl) (by intro w' hw; rw [HSd.out] at hw; obtain ⟨h0, h1, h2, h3⟩ := hw; go_simp; try (simp [hl'])) hS ?_
                      simp only [List.getElem_toArray, List.getElem_cons_succ, List.getElem_cons_zero, Act.put, List.setIfInBounds_toArray, List.set_cons_zero, List.set_cons_succ]
                      refine s_tk 17 rfl (by kernel_rfl) (by rfl) (by intro w' hw; rw [HSd.out] at hw; obtain ⟨h0, h1, h2, h3⟩ := hw; go_simp; try (with_reducible rfl)) hS ?_
                      simp only [List.getElem_toArray, List.getElem_cons_succ, List.getElem_cons_zero, Act.put, List.setIfInBounds_toArray, List.set_cons_zero, List.set_cons_succ]
                      refine s_tk 18 rfl (by kernel_rfl) (by rfl) (by intro w' hw; rw [HSd.out] at hw; obtain ⟨h0, h1, h2, h3⟩ := hw; go_simp; try (with_reducible rfl)) hS ?_
                      simp only [List.getElem_toArray, List.getElem_cons_succ, List.getElem_cons_zero, Act.put, List.setIfInBounds_toArray, List.set_cons_zero, List.set_cons_succ]
                      refine s_tk 19 rfl (by kernel_rfl) (by rfl) (by intro w' hw; rw [HSd.out] at hw; obtain ⟨h0, h1, h2, h3⟩ := hw; go_simp; try (with_reducible rfl)) hS ?_
                      simp only [List.getElem_toArray, List.getElem_cons_succ, List.getElem_cons_zero, Act.put, List.setIfInBounds_toArray, List.set_cons_zero, List.set_cons_succ]
                      refine s_tk (v := .int .i64 (C : Nat)) 20 rfl (by kernel_rfl) (by rfl) (by intro w' hw; rw [HSd.out] at hw; obtain ⟨h0, h1, h2, h3⟩ := hw; go_simp; try (rw [hwr])) hS ?_
                      simp only [List.getElem_toArray, List.getElem_cons_succ, List.getElem_cons_zero, Act.put, List.setIfInBounds_toArray, List.set_cons_zero, List.set_cons_succ]
                      refine s_tk 21 rfl (by kernel_rfl) (by rfl) (by intro w' hw; rw [HSd.out] at hw; obtain ⟨h0, h1, h2, h3⟩ := hw; go_simp; try (with_reducible rfl)) hS ?_
                      simp only [List.getElem_toArray, List.getElem_cons_succ, List.getElem_cons_zero, Act.put, List.setIfInBounds_toArray, List.set_cons_zero, List.set_cons_succ]
                      refine s_tk 22 rfl (by kernel_rfl) (by rfl) (by intro w' hw; rw [HSd.out] at hw; obtain ⟨h0, h1, h2, h3⟩ := hw; go_simp; try (with_reducible rfl)) hS ?_
                      simp only [List.getElem_toArray, List.getElem_cons_succ, List.getElem_cons_zero, Act.put, List.setIfInBounds_toArray, List.set_cons_zero, List.set_cons_succ]
                      refine s_tk 23 rfl (by kernel_rfl) (by rfl) (by intro w' hw; rw [HSd.out] at hw; obtain ⟨h0, h1, h2, h3⟩ := hw; go_simp; try (with_reducible rfl)) hS ?_
                      simp only [List.getElem_toArray, List.getElem_cons_succ, List.getElem_cons_zero, Act.put, List.setIfInBounds_toArray, List.set_cons_zero, List.set_cons_succ]
                      refine s_tk 24 rfl (by kernel_rfl) (by rfl) (by intro w' hw; rw [HSd.out] at hw; obtain ⟨h0, h1, h2, h3⟩ := hw; go_simp; try (with_reducible rfl)) hS ?_
                      simp only [List.getElem_toArray, List.getElem_cons_succ, List.getElem_cons_zero, Act.put, List.setIfInBounds_toArray, List.set_cons_zero, List.set_cons_succ]
                      refine s_tk (v := .bool true) 25 rfl (by kernel_rfl) (by rfl) (by intro w' hw; rw [HSd.out] at hw; obtain ⟨h0, h1, h2, h3⟩ := hw; go_simp; try (simp [hcl])) hS ?_
                      simp only [List.getElem_toArray, List.getElem_cons_succ, List.getElem_cons_zero, Act.put, List.setIfInBounds_toArray, List.set_cons_zero, List.set_cons_succ]
                      refine s_tk 26 rfl (by kernel_rfl) (by rfl) (by intro w' hw; rw [HSd.out] at hw; obtain ⟨h0, h1, h2, h3⟩ := hw; go_simp; try (with_reducible rfl)) hS ?_
                      simp only [List.getElem_toArray, List.getElem_cons_succ, List.getElem_cons_zero, Act.put, List.setIfInBounds_toArray, List.set_cons_zero, List.set_cons_succ]
                      refine s_tk 27 rfl (by kernel_rfl) (by rfl) (by intro w' hw; rw [HSd.out] at hw; obtain ⟨h0, h1, h2, h3⟩ := hw; go_simp; try (with_reducible rfl)) hS ?_
                      simp only [List.getElem_toArray, List.getElem_cons_succ, List.getElem_cons_zero, Act.put, List.setIfInBounds_toArray, List.set_cons_zero, List.set_cons_succ]
                      refine s_tk 28 rfl (by kernel_rfl) (by rfl) (by intro w' hw; rw [HSd.out] at hw; obtain ⟨h0, h1, h2, h3⟩ := hw; go_simp; try (with_reducible rfl)) hS ?_
                      simp only [List.getElem_toArray, List.getElem_cons_succ, List.getElem_cons_zero, Act.put, List.setIfInBounds_toArray, List.set_cons_zero, List.set_cons_succ]
                      refine s_tk 29 rfl (by kernel_rfl) (by rfl) (by intro w' hw; rw [HSd.out] at hw; obtain ⟨h0, h1, h2, h3⟩ := hw; go_simp; try (with_reducible rfl)) hS ?_
                      simp only [List.getElem_toArray, List.getElem_cons_succ, List.getElem_cons_zero, Act.put, List.setIfInBounds_toArray, List.set_cons_zero, List.set_cons_succ]
                      refine s_tk 30 rfl (by kernel_rfl) (by rfl) (by intro w' hw; rw [HSd.out] at hw; obtain ⟨h0, h1, h2, h3⟩ := hw; go_simp; try (with_reducible rfl)) hS ?_
                      simp only [List.getElem_toArray, List.getElem_cons_succ, List.getElem_cons_zero, Act.put, List.setIfInBounds_toArray, List.set_cons_zero, List.set_cons_succ]
                      refine s_done (by kernel_rfl) ?_ _
                      go_wp2_with fail
                      refine (rgoes_calls (RQ.out.keep (w' := W.drew) fun k _ => rfl) e.id).mono ?_
                      rintro x w5 ⟨⟨vv, rfl⟩, N, hN, RQ5, S5⟩
                      clear y0 y1 y2 y3 y4 m0 m1 m2 m3 m4 n0 n1 n2 n3 n4 x0 x2 z1 z2
                      have k5 : Bx w5 G 32 [.int .u8 e.m.pr, .int .u32 e.m.ttl, .int .u32 (C : Nat), .string ⟨e.m.ids.toArray⟩, .slice Ab e.m.body.length cb] := Bx.tch (W := W.drew) N5.out S5.tch fun hm => by have := HZ.out _ hm; omega
                      have k4 : Bx w5 (g + 1) 32 zMsg := Bx.tch (W := W.drew) N4.out S5.tch fun hm => by have := HZ.out _ hm; have := HG.out; omega
                      have y0 := k5.cell 0 _ rfl
                      have y1 := k5.cell 1 _ rfl
                      have y2 := k5.cell 2 _ rfl
                      have y3 := k5.cell 3 _ rfl
                      have y4 := k5.cell 4 _ rfl
                      have m0 := k4.cell 0 _ rfl
                      have m1 := k4.cell 1 _ rfl
                      have m2 := k4.cell 2 _ rfl
                      have m3 := k4.cell 3 _ rfl
                      have m4 := k4.cell 4 _ rfl
                      have n0 := k4.froz 0
                      have n1 := k4.froz 1
                      have n2 := k4.froz 2
                      have n3 := k4.froz 3
                      have n4 := k4.froz 4
                      have hN' : ∀ k ∈ N, w.heap.size ≤ k ∧ k < w5.heap.size := fun k hk => by have h1 := (hN k hk).1; have h2 := N6.out.size; exact ⟨Nat.le_trans h2 h1, (hN k hk).2⟩
                      have K5 := Lib.hid k5
                      have K4' := Lib.hid k4
                      have R5 := Lib.hid RQ5
                      have T5 := Lib.hid (ST.out.trans (Z' := Z) (w2 := w5) (by obtain ⟨F, t, hF⟩ := S5; exact ⟨F, Tch.of_drew (w := W) ⟨t.os, t.tape, t.output, t.size, t.block⟩, hF⟩) fun k hk => .inl hk)
                      have HN' := Lib.hid hN'
                      have hgN := Lib.hid (show g + 1 ∉ N from fun hm => by have h1 := (hN _ hm).1; have h2 : g + 1 < W.heap.size := N4.out.lt; have h3 : W.heap.size ≤ g + 1 := h1; omega)
                      clear k5 k4 RQ5 S5 hN hN'
                      go_wp2_with fail
                      refine forgetX (fun V => Bx V (g + 1) 32 [.int .u8 e.m.pr, .int .u32 e.m.ttl, .int .u32 (C : Nat), .string ⟨e.m.ids.toArray⟩, .slice Ab e.m.body.length cb] ∧ Tch [g + 1] w5 V) ⟨?_, ?_⟩ ?_
                      · with_reducible refine Bx.to (((((K4'.out.set 0 _).set 1 _).set 2 _).set 3 _).set 4 _) ?_
                        rfl
                      · with_reducible repeat first | exact Tch.refl _ _ | refine Tch.setCell ?_ _ (.inl (by simp))
                      rintro V ⟨k1, k2⟩
                      rw [HF.out]
                      have hs := T5.out.then_new k2 (by rw [HG.out]; simp)
                      have hrqV : Rq V (N ++ Z) r room limit last (less [e.id] L) := by
                        have h1 := R5.out
                        rw [HEI.out, show less [e.id] (modL (cntE e C) L) = less [e.id] L from less_modL (cntE e C) L] at h1
                        refine h1.keep fun k hk => ?_
                        have hl : k < w5.heap.size := by
                          rcases List.mem_append.1 hk with h | h
                          · exact (HN'.out k h).2
                          · exact Nat.lt_of_lt_of_le (HZ.out k h) T5.out.tch.size
                        refine k2.block k hl fun hm => ?_
                        simp only [List.mem_singleton] at hm
                        subst hm
                        rcases List.mem_append.1 hk with h | h
                        · exact hgN.out h
                        · have := HZ.out _ h
                          have := HG.out
                          omega
                      refine bodyPost_ret (results_ctt rfl rfl rfl rfl (k1.loadAgg (by kernel_rfl) (by kernel_rfl))) rfl ⟨bv e.id, ?_, ?_, N, fun k hk => ⟨(HN'.out k hk).1, Nat.lt_of_lt_of_le (HN'.out k hk).2 k2.size⟩, hrqV, hs⟩
                      · show _ = Ending.returned (.tuple #[mgv (cntE e C).m (bv e.id), _, _])
                        rw [mgv_eq, HBV.out]
                        rfl
                      · intro d hd
                        simp only [Option.some.injEq] at hd
                        subst hd
                        exact ⟨hs.bdv (H4.out e HMEM.out).1, (H4.out e HMEM.out).2⟩
                    · have HF := Lib.hid (show setQ limit L e.id O = (modL (freeE (cntE e C)) L, 0, none) by
                        unfold setQ
                        rw [HFH.out, ← HO.out]
                        simp only
                        rw [if_neg (by decide), if_neg (by decide), if_neg (by decide), if_pos trivial, hbe]
                        rw [if_neg (show ¬ deadE limit ⟨5, OA, OB, OC⟩ (cntE e C).m = true from fun h => by have h := of_decide_eq_true h; have h : OB = 1 ∨ (0 < limit ∧ limit ≤ C) := h; omega)]
                      )
                      have hcl1 : decide (limit ≤ C) = false := decide_eq_false hcl
                      clear hbe
                      have hi2 : i < ((L.set i (cntE e C)).map fun e => (e, bv e.id)).length := by rw [List.length_map, List.length_set]; exact HE.out.1
                      have w7 := N2.out.cell_at (i * 8 + 7) (.bool e.held) (by
                        have h1 := flat_at eit 8 ((L.set i (cntE e C)).map fun e => (e, bv e.id)) (fun x _ => eit_length x) i hi2 7 (by decide)
                        rw [List.getElem_map, List.getElem_set_self] at h1
                        exact h1)
                      obtain ⟨w7, w8⟩ := w7
                      obtain ⟨S, hSd⟩ : ∃ S : World → Prop, S = fun W' : World => W'.cell? ⟨g, 0, none⟩ = W.cell? ⟨g, 0, none⟩ ∧ W'.cell? ⟨g, 2, none⟩ = W.cell? ⟨g, 2, none⟩ ∧ W'.cell? ⟨r, 1, none⟩ = W.cell? ⟨r, 1, none⟩ ∧ W'.cell? ⟨G, 2, none⟩ = W.cell? ⟨G, 2, none⟩ := ⟨_, rfl⟩
                      have hS : S W.drew := by rw [hSd]; exact ⟨rfl, rfl, rfl, rfl⟩
                      rw [x0, x2, z1, y2] at hSd
                      have HSd := Lib.hid hSd
                      clear hSd
                      refine (wpIn_wide (n := 0)).1 ?_
                      refine s_region [] S (by kernel_rfl) ?_
                      refine s_tk 0 rfl (by kernel_rfl) (by rfl) (by intro w' hw; rw [HSd.out] at hw; obtain ⟨h0, h1, h2, h3⟩ := hw; go_simp; try (with_reducible rfl)) hS ?_
                      simp only [List.getElem_toArray, List.getElem_cons_succ, List.getElem_cons_zero, Act.put, List.setIfInBounds_toArray, List.set_cons_zero, List.set_cons_succ]
                      refine s_tk 1 rfl (by kernel_rfl) (by rfl) (by intro w' hw; rw [HSd.out] at hw; obtain ⟨h0, h1, h2, h3⟩ := hw; go_simp; try (with_reducible rfl)) hS ?_
                      simp only [List.getElem_toArray, List.getElem_cons_succ, List.getElem_cons_zero, Act.put, List.setIfInBounds_toArray, List.set_cons_zero, List.set_cons_succ]
                      refine s_tk 2 rfl (by kernel_rfl) (by rfl) (by intro w' hw; rw [HSd.out] at hw; obtain ⟨h0, h1, h2, h3⟩ := hw; go_simp; try (with_reducible rfl)) hS ?_
                      simp only [List.getElem_toArray, List.getElem_cons_succ, List.getElem_cons_zero, Act.put, List.setIfInBounds_toArray, List.set_cons_zero, List.set_cons_succ]
                      refine s_tk 3 rfl (by kernel_rfl) (by rfl) (by intro w' hw; rw [HSd.out] at hw; obtain ⟨h0, h1, h2, h3⟩ := hw; go_simp; try (with_reducible rfl)) hS ?_
                      simp only [List.getElem_toArray, List.getElem_cons_succ, List.getElem_cons_zero, Act.put, List.setIfInBounds_toArray, List.set_cons_zero, List.set_cons_succ]
                      refine s_tk 4 rfl (by kernel_rfl) (by rfl) (by intro w' hw; rw [HSd.out] at hw; obtain ⟨h0, h1, h2, h3⟩ := hw; go_simp; try (with_reducible rfl)) hS ?_
                      simp only [List.getElem_toArray, List.getElem_cons_succ, List.getElem_cons_zero, Act.put, List.setIfInBounds_toArray, List.set_cons_zero, List.set_cons_succ]
                      refine s_tk 5 rfl (by kernel_rfl) (by rfl) (by intro w' hw; rw [HSd.out] at hw; obtain ⟨h0, h1, h2, h3⟩ := hw; go_simp; try (with_reducible rfl)) hS ?_
                      simp only [List.getElem_toArray, List.getElem_cons_succ, List.getElem_cons_zero, Act.put, List.setIfInBounds_toArray, List.set_cons_zero, List.set_cons_succ]
                      refine s_tk 6 rfl (by kernel_rfl) (by rfl) (by intro w' hw; rw [HSd.out] at hw; obtain ⟨h0, h1, h2, h3⟩ := hw; go_simp; try (with_reducible rfl)) hS ?_
                      simp only [List.getElem_toArray, List.getElem_cons_succ, List.getElem_cons_zero, Act.put, List.setIfInBounds_toArray, List.set_cons_zero, List.set_cons_succ]
                      refine s_tk 7 rfl (by kernel_rfl) (by rfl) (by intro w' hw; rw [HSd.out] at hw; obtain ⟨h0, h1, h2, h3⟩ := hw; go_simp; try (with_reducible rfl)) hS ?_
                      simp only [List.getElem_toArray, List.getElem_cons_succ, List.getElem_cons_zero, Act.put, List.setIfInBounds_toArray, List.set_cons_zero, List.set_cons_succ]
                      refine s_tk 8 rfl (by kernel_rfl) (by rfl) (by intro w' hw; rw [HSd.out] at hw; obtain ⟨h0, h1, h2, h3⟩ := hw; go_simp; try (with_reducible rfl)) hS ?_
                      simp only [List.getElem_toArray, List.getElem_cons_succ, List.getElem_cons_zero, Act.put, List.setIfInBounds_toArray, List.set_cons_zero, List.set_cons_succ]
                      refine s_tk 9 rfl (by kernel_rfl) (by rfl) (by intro w' hw; rw [HSd.out] at hw; obtain ⟨h0, h1, h2, h3⟩ := hw; go_simp; try (with_reducible rfl)) hS ?_
                      simp only [List.getElem_toArray, List.getElem_cons_succ, List.getElem_cons_zero, Act.put, List.setIfInBounds_toArray, List.set_cons_zero, List.set_cons_succ]
                      refine s_tk (v := .bool false) 10 rfl (by kernel_rfl) (by rfl) (by intro w' hw; rw [HSd.out] at hw; obtain ⟨h0, h1, h2, h3⟩ := hw; go_simp; try (simp [hb])) hS ?_
                      simp only [List.getElem_toArray, List.getElem_cons_succ, List.getElem_cons_zero, Act.put, List.setIfInBounds_toArray, List.set_cons_zero, List.set_cons_succ]
                      refine s_tk 11 rfl (by kernel_rfl) (by rfl) (by intro w' hw; rw [HSd.out] at hw; obtain ⟨h0, h1, h2, h3⟩ := hw; go_simp; try (with_reducible rfl)) hS ?_
                      simp only [List.getElem_toArray, List.getElem_cons_succ, List.getElem_cons_zero, Act.put, List.setIfInBounds_toArray, List.set_cons_zero, List.set_cons_succ]
                      refine s_tk 12 rfl (by kernel_rfl) (by rfl) (by intro w' hw; rw [HSd.out] at hw; obtain ⟨h0, h1, h2, h3⟩ := hw; go_simp; try (with_reducible rfl)) hS ?_
                      simp only [List.getElem_toArray, List.getElem_cons_succ, List.getElem_cons_zero, Act.put, List.setIfInBounds_toArray, List.set_cons_zero, List.set_cons_succ]
                      refine s_tk 13 rfl (by kernel_rfl) (by rfl) (by intro w' hw; rw [HSd.out] at hw; obtain ⟨h0, h1, h2, h3⟩ := hw; go_simp; try (with_reducible rfl)) hS ?_
                      simp only [List.getElem_toArray, List.getElem_cons_succ, List.getElem_cons_zero, Act.put, List.setIfInBounds_toArray, List.set_cons_zero, List.set_cons_succ]
                      refine s_tk 14 rfl (by kernel_rfl) (by rfl) (by intro w' hw; rw [HSd.out] at hw; obtain ⟨h0, h1, h2, h3⟩ := hw; go_simp; try (with_reducible rfl)) hS ?_
                      simp only [List.getElem_toArray, List.getElem_cons_succ, List.getElem_cons_zero, Act.put, List.setIfInBounds_toArray, List.set_cons_zero, List.set_cons_succ]
                      refine s_tk 15 rfl (by kernel_rfl) (by rfl) (by intro w' hw; rw [HSd.out] at hw; obtain ⟨h0, h1, h2, h3⟩ := hw; go_simp; try (with_reducible rfl)) hS ?_
                      simp only [List.getElem_toArray, List.getElem_cons_succ, List.getElem_cons_zero, Act.put, List.setIfInBounds_toArray, List.set_cons_zero, List.set_cons_succ]
                      refine s_tk (v := .bool true) 16 rfl (by kernel_rfl) (by rfl) (by intro w' hw; rw [HSd.out] at hw; obtain ⟨h0, h1, h2, h3⟩ := hw; go_simp; try (simp [hl'])) hS ?_
                      simp only [List.getElem_toArray, List.getElem_cons_succ, List.getElem_cons_zero, Act.put, List.setIfInBounds_toArray, List.set_cons_zero, List.set_cons_succ]
                      refine s_tk 17 rfl (by kernel_rfl) (by rfl) (by intro w' hw; rw [HSd.out] at hw; obtain ⟨h0, h1, h2, h3⟩ := hw; go_simp; try (with_reducible rfl)) hS ?_
                      simp only [List.getElem_toArray, List.getElem_cons_succ, List.getElem_cons_zero, Act.put, List.setIfInBounds_toArray, List.set_cons_zero, List.set_cons_succ]
                      refine s_tk 18 rfl (by kernel_rfl) (by rfl) (by intro w' hw; rw [HSd.out] at hw; obtain ⟨h0, h1, h2, h3⟩ := hw; go_simp; try (with_reducible rfl)) hS ?_
                      simp only [List.getElem_toArray, List.getElem_cons_succ, List.getElem_cons_zero, Act.put, List.setIfInBounds_toArray, List.set_cons_zero, List.set_cons_succ]
                      refine s_tk 19 rfl (by kernel_rfl) (by rfl) (by intro w' hw; rw [HSd.out] at hw; obtain ⟨h0, h1, h2, h3⟩ := hw; go_simp; try (with_reducible rfl)) hS ?_
                      simp only [List.getElem_toArray, List.getElem_cons_succ, List.getElem_cons_zero, Act.put, List.setIfInBounds_toArray, List.set_cons_zero, List.set_cons_succ]
                      refine s_tk (v := .int .i64 (C : Nat)) 20 rfl (by kernel_rfl) (by rfl) (by intro w' hw; rw [HSd.out] at hw; obtain ⟨h0, h1, h2, h3⟩ := hw; go_simp; try (rw [hwr])) hS ?_
                      simp only [List.getElem_toArray, List.getElem_cons_succ, List.getElem_cons_zero, Act.put, List.setIfInBounds_toArray, List.set_cons_zero, List.set_cons_succ]
                      refine s_tk 21 rfl (by kernel_rfl) (by rfl) (by intro w' hw; rw [HSd.out] at hw; obtain ⟨h0, h1, h2, h3⟩ := hw; go_simp; try (with_reducible rfl)) hS ?_
                      simp only [List.getElem_toArray, List.getElem_cons_succ, List.getElem_cons_zero, Act.put, List.setIfInBounds_toArray, List.set_cons_zero, List.set_cons_succ]
                      refine s_tk 22 rfl (by kernel_rfl) (by rfl) (by intro w' hw; rw [HSd.out] at hw; obtain ⟨h0, h1, h2, h3⟩ := hw; go_simp; try (with_reducible rfl)) hS ?_
                      simp only [List.getElem_toArray, List.getElem_cons_succ, List.getElem_cons_zero, Act.put, List.setIfInBounds_toArray, List.set_cons_zero, List.set_cons_succ]
                      refine s_tk 23 rfl (by kernel_rfl) (by rfl) (by intro w' hw; rw [HSd.out] at hw; obtain ⟨h0, h1, h2, h3⟩ := hw; go_simp; try (with_reducible rfl)) hS ?_
                      simp only [List.getElem_toArray, List.getElem_cons_succ, List.getElem_cons_zero, Act.put, List.setIfInBounds_toArray, List.set_cons_zero, List.set_cons_succ]
                      refine s_tk 24 rfl (by kernel_rfl) (by rfl) (by intro w' hw; rw [HSd.out] at hw; obtain ⟨h0, h1, h2, h3⟩ := hw; go_simp; try (with_reducible rfl)) hS ?_
                      simp only [List.getElem_toArray, List.getElem_cons_succ, List.getElem_cons_zero, Act.put, List.setIfInBounds_toArray, List.set_cons_zero, List.set_cons_succ]
                      refine s_tk (v := .bool false) 25 rfl (by kernel_rfl) (by rfl) (by intro w' hw; rw [HSd.out] at hw; obtain ⟨h0, h1, h2, h3⟩ := hw; go_simp; try (simp [hcl])) hS ?_
                      simp only [List.getElem_toArray, List.getElem_cons_succ, List.getElem_cons_zero, Act.put, List.setIfInBounds_toArray, List.set_cons_zero, List.set_cons_succ]
                      refine s_tk 26 rfl (by kernel_rfl) (by rfl) (by intro w' hw; rw [HSd.out] at hw; obtain ⟨h0, h1, h2, h3⟩ := hw; go_simp; try (with_reducible rfl)) hS ?_
                      simp only [List.getElem_toArray, List.getElem_cons_succ, List.getElem_cons_zero, Act.put, List.setIfInBounds_toArray, List.set_cons_zero, List.set_cons_succ]
                      refine s_tk 27 rfl (by kernel_rfl) (by rfl) (by intro w' hw; rw [HSd.out] at hw; obtain ⟨h0, h1, h2, h3⟩ := hw; go_simp; try (with_reducible rfl)) hS ?_
                      simp only [List.getElem_toArray, List.getElem_cons_succ, List.getElem_cons_zero, Act.put, List.setIfInBounds_toArray, List.set_cons_zero, List.set_cons_succ]
                      refine s_tk 28 rfl (by kernel_rfl) (by rfl) (by intro w' hw; rw [HSd.out] at hw; obtain ⟨h0, h1, h2, h3⟩ := hw; go_simp; try (with_reducible rfl)) hS ?_
                      simp only [List.getElem_toArray, List.getElem_cons_succ, List.getElem_cons_zero, Act.put, List.setIfInBounds_toArray, List.set_cons_zero, List.set_cons_succ]
                      refine s_tk 29 rfl (by kernel_rfl) (by rfl) (by intro w' hw; rw [HSd.out] at hw; obtain ⟨h0, h1, h2, h3⟩ := hw; go_simp; try (with_reducible rfl)) hS ?_
                      simp only [List.getElem_toArray, List.getElem_cons_succ, List.getElem_cons_zero, Act.put, List.setIfInBounds_toArray, List.set_cons_zero, List.set_cons_succ]
                      refine s_tk 30 rfl (by kernel_rfl) (by rfl) (by intro w' hw; rw [HSd.out] at hw; obtain ⟨h0, h1, h2, h3⟩ := hw; go_simp; try (with_reducible rfl)) hS ?_
                      simp only [List.getElem_toArray, List.getElem_cons_succ, List.getElem_cons_zero, Act.put, List.setIfInBounds_toArray, List.set_cons_zero, List.set_cons_succ]
                      refine s_done (by kernel_rfl) ?_ _
                      go_wp2_with fail
                      refine forgetX (fun V => Bx V (g + 1) 32 zMsg ∧ Bx V r 90 (rcs room limit last (.slice (some ⟨b0, 0, none⟩) j c)) ∧ OwnC 64 8 (fun _ => True) V 0 (.slice (some ⟨b0, 0, none⟩) j c) j (eits ((L.set i (freeE (cntE e C))).map fun e => (e, bv e.id))) ∧ Tch [b0, g + 1] W V) ⟨?_, ?_, ?_, ?_⟩ ?_
                      · have h1 : Bx (W.setCell ⟨b0, i * 8 + 7, none⟩ (.bool false)) (g + 1) 32 zMsg := Bx.off N4.out (by omega)
                        refine Bx.drew ?_
                        with_reducible refine Bx.to (((((h1.set 0 _).set 1 _).set 2 _).set 3 _).set 4 _) ?_
                        rfl
                      · have h1 : Bx (W.setCell ⟨b0, i * 8 + 7, none⟩ (.bool false)) r 90 (rcs room limit last (.slice (some ⟨b0, 0, none⟩) j c)) := Bx.off N1.out hrb
                        have hne : r ≠ g + 1 := by omega
                        refine Bx.drew ?_
                        with_reducible exact ((((h1.off hne).off hne).off hne).off hne).off hne
                      · have hv := N2.out.set_cell (i * 8 + 7) (by omega) (.bool false) rfl
                        rw [eits_set hi2 (by decide) (.bool false) (freeE (cntE e C), bv e.id) (by rw [List.getElem_map, List.getElem_set_self]; rfl)] at hv
                        have h2 : ((L.set i (cntE e C)).map fun e => (e, bv e.id)).set i (freeE (cntE e C), bv e.id) = (L.set i (freeE (cntE e C))).map fun e => (e, bv e.id) := by
                          rw [List.map_set, List.map_set, List.set_set]; rfl
                        rw [h2] at hv
                        refine OwnC.drew (OwnC.tch (F := [g + 1]) hv ?_ fun k hk hm => ?_)
                        · with_reducible repeat first | exact Tch.refl _ _ | refine Tch.setCell ?_ _ (.inl (by simp))
                        · simp only [Value.ownBlock, Option.some.injEq] at hk
                          subst hk
                          simp only [List.mem_singleton] at hm
                          omega
                      · refine Tch.drew ?_
                        with_reducible repeat first | exact Tch.refl _ _ | refine Tch.setCell ?_ _ (.inl (by simp))
                      rintro V ⟨k1, k2, k3, k4⟩
                      rw [HF.out]
                      have hs : RStep Z w V := ⟨[b0], N6.out.trans k4 (by intro q hq; simp at hq ⊢; have := HG.out; omega), fun q hq => by simp only [List.mem_singleton] at hq; subst hq; exact HZB.out⟩
                      have hEi : (L.set i (freeE (cntE e C))) = modL (freeE (cntE e C)) L := (modL_set HE.out.1 (freeE (cntE e C)) (by rw [HE.out.2]; rfl) H6.out.sorted).symm
                      refine bodyPost_ret (results_ctt rfl rfl rfl rfl (k1.loadAgg (by kernel_rfl) (by kernel_rfl))) rfl ⟨.slice none 0 0, rfl, by intro d hd; simp at hd, [], by simp, ⟨⟨.slice (some ⟨b0, 0, none⟩) j c, bv, k2, ?_, H3.out, fun x hx => ?_⟩, H5.out, ?_⟩, hs⟩
                      · show OwnC _ _ _ _ _ _ (modL (freeE (cntE e C)) L).length (eits ((modL (freeE (cntE e C)) L).map fun e => (e, bv e.id)))
                        rw [← hEi, List.length_set, HN.out]
                        exact k3
                      · have hx : x ∈ modL (freeE (cntE e C)) L := hx
                        have hb : ∃ y ∈ L, y.id = x.id ∧ y.m.body = x.m.body := by
                          rcases mem_modL hx with rfl | ⟨h, _⟩
                          · exact ⟨e, HMEM.out, rfl, rfl⟩
                          · exact ⟨x, h, rfl, rfl⟩
                        obtain ⟨y, hy, h1, h2⟩ := hb
                        rw [← h1, ← h2]
                        exact ⟨hs.bdv (H4.out y hy).1, (H4.out y hy).2⟩
                      · show WfQ room limit last (modL (freeE (cntE e C)) L)
                        exact H6.out.mod HMEM.out rfl hok (H6.out.tm e HMEM.out)
            · have ha' : ¬ (OA : Int) = 1 := by omega
              go_wp2_with fail
              obtain ⟨G, hG⟩ : ∃ G, w2.heap.size = G := ⟨_, rfl⟩
              try simp only [World.setCell_heap_size, World.size_setCell]
              rw [hG]
              obtain ⟨C, hC⟩ : ∃ C, C = ct := ⟨_, rfl⟩
              subst hC
              have hC4 : C ≤ 4294967295 := by omega
              refine forget (fun W => Bx W r 90 (rcs room limit last (.slice (some ⟨b0, 0, none⟩) j c)) ∧ OwnC 64 8 (fun _ => True) W 0 (.slice (some ⟨b0, 0, none⟩) j c) j (eits ((L.set i (cntE e C)).map fun e => (e, bv e.id))) ∧ Bx W g 41 [.int .u8 (5 : Nat), .int .u64 OA, .int .u64 OB, .string ⟨OC.toArray⟩] ∧ Bx W (g + 1) 32 zMsg ∧ Bx W G 32 [.int .u8 e.m.pr, .int .u32 e.m.ttl, .int .u32 (C : Nat), .string ⟨e.m.ids.toArray⟩, .slice Ab e.m.body.length cb] ∧ Tch [b0] w W) ⟨?_, ?_, ?_, ?_, ?_, ?_⟩ ?_
              · exact HR2.out.alloc _
              · rw [cntE_self HCT.out, ← HE.out.2, List.set_getElem_self]
                exact (H2.out.below B2.out).alloc _
              · exact K3.out.alloc _
              · exact K4.out.alloc _
              · exact Bx.new' _ 32 _ hG.symm
              · exact (Tch.of_below [b0] B2.out).alloc _
              rintro W ⟨M1, M2, M3, M4, M5, M6⟩
              clear x0 x1 x2 x3 m0 m1 m2 m3 m4 y0 y1 y2 y3 y4 y5 y6 y7 v3 z1 z2
              have x0 := M3.cell 0 _ rfl
              have x2 := M3.cell 2 _ rfl
              have z1 := M1.cell 1 _ rfl
              have z2 := M1.cell 2 _ rfl
              have y0 := M5.cell 0 _ rfl
              have y1 := M5.cell 1 _ rfl
              have y2 := M5.cell 2 _ rfl
              have y3 := M5.cell 3 _ rfl
              have y4 := M5.cell 4 _ rfl
              have m0 := M4.cell 0 _ rfl
              have m1 := M4.cell 1 _ rfl
              have m2 := M4.cell 2 _ rfl
              have m3 := M4.cell 3 _ rfl
              have m4 := M4.cell 4 _ rfl
              have n0 := M4.froz 0
              have n1 := M4.froz 1
              have n2 := M4.froz 2
              have n3 := M4.froz 3
              have n4 := M4.froz 4
              have hgG : g + 1 < G := by omega
              have hEi : (L.set i (cntE e C)) = modL (cntE e C) L := (modL_set HE.out.1 (cntE e C) (by rw [HE.out.2]; rfl) H6.out.sorted).symm
              have hok : WfM (cntE e C).m := by
                obtain ⟨p1, p2, p3, p4, p5⟩ := H6.out.ok e HMEM.out
                exact ⟨p1, p2, p3, p4, hC4⟩
              have hrq : Rq W Z r room limit last (L.set i (cntE e C)) := by
                refine ⟨⟨.slice (some ⟨b0, 0, none⟩) j c, bv, M1, by rw [List.length_set, HN.out]; exact M2, H3.out, fun x hx => ?_⟩, H5.out, by rw [hEi]; exact H6.out.mod HMEM.out rfl hok (H6.out.tm e HMEM.out)⟩
                have hb : ∃ y ∈ L, y.id = x.id ∧ y.m.body = x.m.body := by
                  rcases List.mem_or_eq_of_mem_set hx with h | rfl
                  · exact ⟨x, h, rfl, rfl⟩
                  · exact ⟨e, HMEM.out, rfl, rfl⟩
                obtain ⟨y, hy, h1, h2⟩ := hb
                rw [← h1, ← h2]
                exact ⟨(H4.out y hy).1.tch M6 fun k hk => (by simp only [List.mem_singleton] at hk; subst hk; exact HZB.out.2), (H4.out y hy).2⟩
              have hst : RStep Z w W := ⟨[b0], M6, fun q hq => by simp only [List.mem_singleton] at hq; subst hq; exact HZB.out⟩
              have N1 := Lib.hid M1
              have N2 := Lib.hid M2
              have N4 := Lib.hid M4
              have N5 := Lib.hid M5
              have N6 := Lib.hid M6
              have RQ := Lib.hid hrq
              have ST := Lib.hid hst
              have HEI := Lib.hid hEi
              clear M1 M2 M3 M4 M5 M6 hrq hst hEi
              have hbe : bumpE ⟨5, OA, OB, OC⟩ e = cntE e C := by
                unfold bumpE bump
                rw [if_neg (fun h => ha h.1), cntE_self HCT.out]
              by_cases hb : OB = 1
              · have HF := Lib.hid (show setQ limit L e.id O = (less [e.id] L, 0, some (cntE e C)) by
                  unfold setQ
                  rw [HFH.out, ← HO.out]
                  simp only
                  rw [if_neg (by decide), if_neg (by decide), if_neg (by decide), if_pos trivial, hbe]
                  rw [if_pos (show deadE limit ⟨5, OA, OB, OC⟩ (cntE e C).m = true from decide_eq_true (by show OB = 1 ∨ (0 < limit ∧ limit ≤ C); omega))]
                )
                clear hbe
                subst hb
                obtain ⟨S, hSd⟩ : ∃ S : World → Prop, S = fun W' : World => W'.cell? ⟨g, 0, none⟩ = W.cell? ⟨g, 0, none⟩ ∧ W'.cell? ⟨g, 2, none⟩ = W.cell? ⟨g, 2, none⟩ ∧ W'.cell? ⟨r, 1, none⟩ = W.cell? ⟨r, 1, none⟩ ∧ W'.cell? ⟨G, 2, none⟩ = W.cell? ⟨G, 2, none⟩ := ⟨_, rfl⟩
                have hS : S W.drew := by rw [hSd]; exact ⟨rfl, rfl, rfl, rfl⟩
                rw [x0, x2, z1, y2] at hSd
                have HSd := Lib.hid hSd
                clear hSd
                refine (wpIn_wide (n := 0)).1 ?_
                refine s_region [] S (by kernel_rfl) ?_
                refine s_tk 0 rfl (by kernel_rfl) (by rfl) (by intro w' hw; rw [HSd.out] at hw; obtain ⟨h0, h1, h2, h3⟩ := hw; go_simp; try (with_reducible rfl)) hS ?_
                simp only [List.getElem_toArray, List.getElem_cons_succ, List.getElem_cons_zero, Act.put, List.setIfInBounds_toArray, List.set_cons_zero, List.set_cons_succ]
                refine s_tk 1 rfl (by kernel_rfl) (by rfl) (by intro w' hw; rw [HSd.out] at hw; obtain ⟨h0, h1, h2, h3⟩ := hw; go_simp; try (with_reducible rfl)) hS ?_
                simp only [List.getElem_toArray, List.getElem_cons_succ, List.getElem_cons_zero, Act.put, List.setIfInBounds_toArray, List.set_cons_zero, List.set_cons_succ]
                refine s_tk 2 rfl (by kernel_rfl) (by rfl) (by intro w' hw; rw [HSd.out] at hw; obtain ⟨h0, h1, h2, h3⟩ := hw; go_simp; try (with_reducible rfl)) hS ?_
                simp only [List.getElem_toArray, List.getElem_cons_succ, List.getElem_cons_zero, Act.put, List.setIfInBounds_toArray, List.set_cons_zero, List.set_cons_succ]
                refine s_tk 3 rfl (by kernel_rfl) (by rfl) (by intro w' hw; rw [HSd.out] at hw; obtain ⟨h0, h1, h2, h3⟩ := hw; go_simp; try (with_reducible rfl)) hS ?_
                simp only [List.getElem_toArray, List.getElem_cons_succ, List.getElem_cons_zero, Act.put, List.setIfInBounds_toArray, List.set_cons_zero, List.set_cons_succ]
                refine s_tk 4 rfl (by kernel_rfl) (by rfl) (by intro w' hw; rw [HSd.out] at hw; obtain ⟨h0, h1, h2, h3⟩ := hw; go_simp; try (with_reducible rfl)) hS ?_
                simp only [List.getElem_toArray, List.getElem_cons_succ, List.getElem_cons_zero, Act.put, List.setIfInBounds_toArray, List.set_cons_zero, List.set_cons_succ]
                refine s_tk 5 rfl (by kernel_rfl) (by rfl) (by intro w' hw; rw [HSd.out] at hw; obtain ⟨h0, h1, h2, h3⟩ := hw; go_simp; try (with_reducible rfl)) hS ?_
                simp only [List.getElem_toArray, List.getElem_cons_succ, List.getElem_cons_zero, Act.put, List.setIfInBounds_toArray, List.set_cons_zero, List.set_cons_succ]
                refine s_tk 6 rfl (by kernel_rfl) (by rfl) (by intro w' hw; rw [HSd.out] at hw; obtain ⟨h0, h1, h2, h3⟩ := hw; go_simp; try (with_reducible rfl)) hS ?_
                simp only [List.getElem_toArray, List.getElem_cons_succ, List.getElem_cons_zero, Act.put, List.setIfInBounds_toArray, List.set_cons_zero, List.set_cons_succ]
                refine s_tk 7 rfl (by kernel_rfl) (by rfl) (by intro w' hw; rw [HSd.out] at hw; obtain ⟨h0, h1, h2, h3⟩ := hw; go_simp; try (with_reducible rfl)) hS ?_
                simp only [List.getElem_toArray, List.getElem_cons_succ, List.getElem_cons_zero, Act.put, List.setIfInBounds_toArray, List.set_cons_zero, List.set_cons_succ]
                refine s_tk 8 rfl (by kernel_rfl) (by rfl) (by intro w' hw; rw [HSd.out] at hw; obtain ⟨h0, h1, h2, h3⟩ := hw; go_simp; try (with_reducible rfl)) hS ?_
                simp only [List.getElem_toArray, List.getElem_cons_succ, List.getElem_cons_zero, Act.put, List.setIfInBounds_toArray, List.set_cons_zero, List.set_cons_succ]
                refine s_tk 9 rfl (by kernel_rfl) (by rfl) (by intro w' hw; rw [HSd.out] at hw; obtain ⟨h0, h1, h2, h3⟩ := hw; go_simp; try (with_reducible rfl)) hS ?_
                simp only [List.getElem_toArray, List.getElem_cons_succ, List.getElem_cons_zero, Act.put, List.setIfInBounds_toArray, List.set_cons_zero, List.set_cons_succ]
                refine s_tk 10 rfl (by kernel_rfl) (by rfl) (by intro w' hw; rw [HSd.out] at hw; obtain ⟨h0, h1, h2, h3⟩ := hw; go_simp; try (with_reducible rfl)) hS ?_
                simp only [List.getElem_toArray, List.getElem_cons_succ, List.getElem_cons_zero, Act.put, List.setIfInBounds_toArray, List.set_cons_zero, List.set_cons_succ]
                refine s_tk 11 rfl (by kernel_rfl) (by rfl) (by intro w' hw; rw [HSd.out] at hw; obtain ⟨h0, h1, h2, h3⟩ := hw; go_simp; try (with_reducible rfl)) hS ?_
                simp only [List.getElem_toArray, List.getElem_cons_succ, List.getElem_cons_zero, Act.put, List.setIfInBounds_toArray, List.set_cons_zero, List.set_cons_succ]
                refine s_ps 12 rfl (by kernel_rfl) (by rfl) hS ?_
                simp only [List.getElem_toArray, List.getElem_cons_succ, List.getElem_cons_zero, Act.put, List.setIfInBounds_toArray, List.set_cons_zero, List.set_cons_succ]
                refine s_ps 13 rfl (by kernel_rfl) (by rfl) hS ?_
                simp only [List.getElem_toArray, List.getElem_cons_succ, List.getElem_cons_zero, Act.put, List.setIfInBounds_toArray, List.set_cons_zero, List.set_cons_succ]
                refine s_ps 14 rfl (by kernel_rfl) (by rfl) hS ?_
                simp only [List.getElem_toArray, List.getElem_cons_succ, List.getElem_cons_zero, Act.put, List.setIfInBounds_toArray, List.set_cons_zero, List.set_cons_succ]
                refine s_ps 15 rfl (by kernel_rfl) (by rfl) hS ?_
                simp only [List.getElem_toArray, List.getElem_cons_succ, List.getElem_cons_zero, Act.put, List.setIfInBounds_toArray, List.set_cons_zero, List.set_cons_succ]
                refine s_ps 16 rfl (by kernel_rfl) (by rfl) hS ?_
                simp only [List.getElem_toArray, List.getElem_cons_succ, List.getElem_cons_zero, Act.put, List.setIfInBounds_toArray, List.set_cons_zero, List.set_cons_succ]
                refine s_ps 17 rfl (by kernel_rfl) (by rfl) hS ?_
                simp only [List.getElem_toArray, List.getElem_cons_succ, List.getElem_cons_zero, Act.put, List.setIfInBounds_toArray, List.set_cons_zero, List.set_cons_succ]
                refine s_ps 18 rfl (by kernel_rfl) (by rfl) hS ?_
                simp only [List.getElem_toArray, List.getElem_cons_succ, List.getElem_cons_zero, Act.put, List.setIfInBounds_toArray, List.set_cons_zero, List.set_cons_succ]
                refine s_ps 19 rfl (by kernel_rfl) (by rfl) hS ?_
                simp only [List.getElem_toArray, List.getElem_cons_succ, List.getElem_cons_zero, Act.put, List.setIfInBounds_toArray, List.set_cons_zero, List.set_cons_succ]
                refine s_ps 20 rfl (by kernel_rfl) (by rfl) hS ?_
                simp only [List.getElem_toArray, List.getElem_cons_succ, List.getElem_cons_zero, Act.put, List.setIfInBounds_toArray, List.set_cons_zero, List.set_cons_succ]
                refine s_ps 21 rfl (by kernel_rfl) (by rfl) hS ?_
                simp only [List.getElem_toArray, List.getElem_cons_succ, List.getElem_cons_zero, Act.put, List.setIfInBounds_toArray, List.set_cons_zero, List.set_cons_succ]
                refine s_ps 22 rfl (by kernel_rfl) (by rfl) hS ?_
                simp only [List.getElem_toArray, List.getElem_cons_succ, List.getElem_cons_zero, Act.put, List.setIfInBounds_toArray, List.set_cons_zero, List.set_cons_succ]
                refine s_ps 23 rfl (by kernel_rfl) (by rfl) hS ?_
                simp only [List.getElem_toArray, List.getElem_cons_succ, List.getElem_cons_zero, Act.put, List.setIfInBounds_toArray, List.set_cons_zero, List.set_cons_succ]
                refine s_ps 24 rfl (by kernel_rfl) (by rfl) hS ?_
                simp only [List.getElem_toArray, List.getElem_cons_succ, List.getElem_cons_zero, Act.put, List.setIfInBounds_toArray, List.set_cons_zero, List.set_cons_succ]
                refine s_ps 25 rfl (by kernel_rfl) (by rfl) hS ?_
                simp only [List.getElem_toArray, List.getElem_cons_succ, List.getElem_cons_zero, Act.put, List.setIfInBounds_toArray, List.set_cons_zero, List.set_cons_succ]
                refine s_ps 26 rfl (by kernel_rfl) (by rfl) hS ?_
                simp only [List.getElem_toArray, List.getElem_cons_succ, List.getElem_cons_zero, Act.put, List.setIfInBounds_toArray, List.set_cons_zero, List.set_cons_succ]
                refine s_tk 27 rfl (by kernel_rfl) (by rfl) (by intro w' hw; rw [HSd.out] at hw; obtain ⟨h0, h1, h2, h3⟩ := hw; go_simp; try (with_reducible rfl)) hS ?_
                simp only [List.getElem_toArray, List.getElem_cons_succ, List.getElem_cons_zero, Act.put, List.setIfInBounds_toArray, List.set_cons_zero, List.set_cons_succ]
                refine s_tk 28 rfl (by kernel_rfl) (by rfl) (by intro w' hw; rw [HSd.out] at hw; obtain ⟨h0, h1, h2, h3⟩ := hw; go_simp; try (with_reducible rfl)) hS ?_
                simp only [List.getElem_toArray, List.getElem_cons_succ, List.getElem_cons_zero, Act.put, List.setIfInBounds_toArray, List.set_cons_zero, List.set_cons_succ]
                refine s_tk 29 rfl (by kernel_rfl) (by rfl) (by intro w' hw; rw [HSd.out] at hw; obtain ⟨h0, h1, h2, h3⟩ := hw; go_simp; try (with_reducible rfl)) hS ?_
                simp only [List.getElem_toArray, List.getElem_cons_succ, List.getElem_cons_zero, Act.put, List.setIfInBounds_toArray, List.set_cons_zero, List.set_cons_succ]
                refine s_tk 30 rfl (by kernel_rfl) (by rfl) (by intro w' hw; rw [HSd.out] at hw; obtain ⟨h0, h1, h2, h3⟩ := hw; go_simp; try (with_reducible rfl)) hS ?_
                simp only [List.getElem_toArray, List.getElem_cons_succ, List.getElem_cons_zero, Act.put, List.setIfInBounds_toArray, List.set_cons_zero, List.set_cons_succ]
                refine s_done (by kernel_rfl) ?_ _
                go_wp2_with fail
                refine (rgoes_calls (RQ.out.keep (w' := W.drew) fun k _ => rfl) e.id).mono ?_
                rintro x w5 ⟨⟨vv, rfl⟩, N, hN, RQ5, S5⟩
                clear y0 y1 y2 y3 y4 m0 m1 m2 m3 m4 n0 n1 n2 n3 n4 x0 x2 z1 z2
                have k5 : Bx w5 G 32 [.int .u8 e.m.pr, .int .u32 e.m.ttl, .int .u32 (C : Nat), .string ⟨e.m.ids.toArray⟩, .slice Ab e.m.body.length cb] := Bx.tch (W := W.drew) N5.out S5.tch fun hm => by have := HZ.out _ hm; omega
                have k4 : Bx w5 (g + 1) 32 zMsg := Bx.tch (W := W.drew) N4.out S5.tch fun hm => by have := HZ.out _ hm; have := HG.out; omega
                have y0 := k5.cell 0 _ rfl
                have y1 := k5.cell 1 _ rfl
                have y2 := k5.cell 2 _ rfl
                have y3 := k5.cell 3 _ rfl
                have y4 := k5.cell 4 _ rfl
                have m0 := k4.cell 0 _ rfl
                have m1 := k4.cell 1 _ rfl
                have m2 := k4.cell 2 _ rfl
                have m3 := k4.cell 3 _ rfl
                have m4 := k4.cell 4 _ rfl
                have n0 := k4.froz 0
                have n1 := k4.froz 1
                have n2 := k4.froz 2
                have n3 := k4.froz 3
                have n4 := k4.froz 4
                have hN' : ∀ k ∈ N, w.heap.size ≤ k ∧ k < w5.heap.size := fun k hk => by have h1 := (hN k hk).1; have h2 := N6.out.size; exact ⟨Nat.le_trans h2 h1, (hN k hk).2⟩
                have K5 := Lib.hid k5
                have K4' := Lib.hid k4
                have R5 := Lib.hid RQ5
                have T5 := Lib.hid (ST.out.trans (Z' := Z) (w2 := w5) (by obtain ⟨F, t, hF⟩ := S5; exact ⟨F, Tch.of_drew (w := W) ⟨t.os, t.tape, t.output, t.size, t.block⟩, hF⟩) fun k hk => .inl hk)
                have HN' := Lib.hid hN'
                have hgN := Lib.hid (show g + 1 ∉ N from fun hm => by have h1 := (hN _ hm).1; have h2 : g + 1 < W.heap.size := N4.out.lt; have h3 : W.heap.size ≤ g + 1 := h1; omega)
                clear k5 k4 RQ5 S5 hN hN'
                go_wp2_with fail
                refine forgetX (fun V => Bx V (g + 1) 32 [.int .u8 e.m.pr, .int .u32 e.m.ttl, .int .u32 (C : Nat), .string ⟨e.m.ids.toArray⟩, .slice Ab e.m.body.length cb] ∧ Tch [g + 1] w5 V) ⟨?_, ?_⟩ ?_
                · with_reducible refine Bx.to (((((K4'.out.set 0 _).set 1 _).set 2 _).set 3 _).set 4 _) ?_
                  rfl
                · with_reducible repeat first | exact Tch.refl _ _ | refine Tch.setCell ?_ _ (.inl (by simp))
                rintro V ⟨k1, k2⟩
                rw [HF.out]
                have hs := T5.out.then_new k2 (by rw [HG.out]; simp)
                have hrqV : Rq V (N ++ Z) r room limit last (less [e.id] L) := by
                  have h1 := R5.out
                  rw [HEI.out, show less [e.id] (modL (cntE e C) L) = less [e.id] L from less_modL (cntE e C) L] at h1
                  refine h1.keep fun k hk => ?_
                  have hl : k < w5.heap.size := by
                    rcases List.mem_append.1 hk with h | h
                    · exact (HN'.out k h).2
                    · exact Nat.lt_of_lt_of_le (HZ.out k h) T5.out.tch.size
                  refine k2.block k hl fun hm => ?_
                  simp only [List.mem_singleton] at hm
                  subst hm
                  rcases List.mem_append.1 hk with h | h
                  · exact hgN.out h
                  · have := HZ.out _ h
                    have := HG.out
                    omega
                refine bodyPost_ret (results_ctt rfl rfl rfl rfl (k1.loadAgg (by kernel_rfl) (by kernel_rfl))) rfl ⟨bv e.id, ?_, ?_, N, fun k hk => ⟨(HN'.out k hk).1, Nat.lt_of_lt_of_le (HN'.out k hk).2 k2.size⟩, hrqV, hs⟩
                · show _ = Ending.returned (.tuple #[mgv (cntE e C).m (bv e.id), _, _])
                  rw [mgv_eq, HBV.out]
                  rfl
                · intro d hd
                  simp only [Option.some.injEq] at hd
                  subst hd
                  exact ⟨hs.bdv (H4.out e HMEM.out).1, (H4.out e HMEM.out).2⟩
              · have hb' : ¬ (OB : Int) = 1 := by omega
                by_cases hl : limit = 0
                · have HF := Lib.hid (show setQ limit L e.id O = (modL (freeE (cntE e C)) L, 0, none) by
                    unfold setQ
                    rw [HFH.out, ← HO.out]
                    simp only
                    rw [if_neg (by decide), if_neg (by decide), if_neg (by decide), if_pos trivial, hbe]
                    rw [if_neg (show ¬ deadE limit ⟨5, OA, OB, OC⟩ (cntE e C).m = true from fun h => by have h := of_decide_eq_true h; have h : OB = 1 ∨ (0 < limit ∧ limit ≤ C) := h; omega)]
                  )
                  clear hbe
                  subst hl
                  have hi2 : i < ((L.set i (cntE e C)).map fun e => (e, bv e.id)).length := by rw [List.length_map, List.length_set]; exact HE.out.1
                  have w7 := N2.out.cell_at (i * 8 + 7) (.bool e.held) (by
                    have h1 := flat_at eit 8 ((L.set i (cntE e C)).map fun e => (e, bv e.id)) (fun x _ => eit_length x) i hi2 7 (by decide)
                    rw [List.getElem_map, List.getElem_set_self] at h1
                    exact h1)
                  obtain ⟨w7, w8⟩ := w7
                  obtain ⟨S, hSd⟩ : ∃ S : World → Prop, S = fun W' : World => W'.cell? ⟨g, 0, none⟩ = W.cell? ⟨g, 0, none⟩ ∧ W'.cell? ⟨g, 2, none⟩ = W.cell? ⟨g, 2, none⟩ ∧ W'.cell? ⟨r, 1, none⟩ = W.cell? ⟨r, 1, none⟩ ∧ W'.cell? ⟨G, 2, none⟩ = W.cell? ⟨G, 2, none⟩ := ⟨_, rfl⟩
                  have hS : S W.drew := by rw [hSd]; exact ⟨rfl, rfl, rfl, rfl⟩
                  rw [x0, x2, z1, y2] at hSd
                  have HSd := Lib.hid hSd
                  clear hSd
                  refine (wpIn_wide (n := 0)).1 ?_
                  refine s_region [] S (by kernel_rfl) ?_
                  refine s_tk 0 rfl (by kernel_rfl) (by rfl) (by intro w' hw; rw [HSd.out] at hw; obtain ⟨h0, h1, h2, h3⟩ := hw; go_simp; try (with_reducible rfl)) hS ?_
                  simp only [List.getElem_toArray, List.getElem_cons_succ, List.getElem_cons_zero, Act.put, List.setIfInBounds_toArray, List.set_cons_zero, List.set_cons_succ]
                  refine s_tk 1 rfl (by kernel_rfl) (by rfl) (by intro w' hw; rw [HSd.out] at hw; obtain ⟨h0, h1, h2, h3⟩ := hw; go_simp; try (with_reducible rfl)) hS ?_
                  simp only [List.getElem_toArray, List.getElem_cons_succ, List.getElem_cons_zero, Act.put, List.setIfInBounds_toArray, List.set_cons_zero, List.set_cons_succ]
                  refine s_tk 2 rfl (by kernel_rfl) (by rfl) (by intro w' hw; rw [HSd.out] at hw; obtain ⟨h0, h1, h2, h3⟩ := hw; go_simp; try (with_reducible rfl)) hS ?_
                  simp only [List.getElem_toArray, List.getElem_cons_succ, List.getElem_cons_zero, Act.put, List.setIfInBounds_toArray, List.set_cons_zero, List.set_cons_succ]
                  refine s_tk 3 rfl (by kernel_rfl) (by rfl) (by intro w' hw; rw [HSd.out] at hw; obtain ⟨h0, h1, h2, h3⟩ := hw; go_simp; try (with_reducible rfl)) hS ?_
                  simp only [List.getElem_toArray, List.getElem_cons_succ, List.getElem_cons_zero, Act.put, List.setIfInBounds_toArray, List.set_cons_zero, List.set_cons_succ]
                  refine s_tk 4 rfl (by kernel_rfl) (by rfl) (by intro w' hw; rw [HSd.out] at hw; obtain ⟨h0, h1, h2, h3⟩ := hw; go_simp; try (with_reducible rfl)) hS ?_
                  simp only [List.getElem_toArray, List.getElem_cons_succ, List.getElem_cons_zero, Act.put, List.setIfInBounds_toArray, List.set_cons_zero, List.set_cons_succ]
                  refine s_tk 5 rfl (by kernel_rfl) (by rfl) (by intro w' hw; rw [HSd.out] at hw; obtain ⟨h0, h1, h2, h3⟩ := hw; go_simp; try (with_reducible rfl)) hS ?_
                  simp only [List.getElem_toArray, List.getElem_cons_succ, List.getElem_cons_zero, Act.put, List.setIfInBounds_toArray, List.set_cons_zero, List.set_cons_succ]
                  refine s_tk 6 rfl (by kernel_rfl) (by rfl) (by intro w' hw; rw [HSd.out] at hw; obtain ⟨h0, h1, h2, h3⟩ := hw; go_simp; try (with_reducible rfl)) hS ?_
                  simp only [List.getElem_toArray, List.getElem_cons_succ, List.getElem_cons_zero, Act.put, List.setIfInBounds_toArray, List.set_cons_zero, List.set_cons_succ]
                  refine s_tk 7 rfl (by kernel_rfl) (by rfl) (by intro w' hw; rw [HSd.out] at hw; obtain ⟨h0, h1, h2, h3⟩ := hw; go_simp; try (with_reducible rfl)) hS ?_
                  simp only [List.getElem_toArray, List.getElem_cons_succ, List.getElem_cons_zero, Act.put, List.setIfInBounds_toArray, List.set_cons_zero, List.set_cons_succ]
                  refine s_tk 8 rfl (by kernel_rfl) (by rfl) (by intro w' hw; rw [HSd.out] at hw; obtain ⟨h0, h1, h2, h3⟩ := hw; go_simp; try (with_reducible rfl)) hS ?_
                  simp only [List.getElem_toArray, List.getElem_cons_succ, List.getElem_cons_zero, Act.put, List.setIfInBounds_toArray, List.set_cons_zero, List.set_cons_succ]
                  refine s_tk 9 rfl (by kernel_rfl) (by rfl) (by intro w' hw; rw [HSd.out] at hw; obtain ⟨h0, h1, h2, h3⟩ := hw; go_simp; try (with_reducible rfl)) hS ?_
                  simp only [List.getElem_toArray, List.getElem_cons_succ, List.getElem_cons_zero, Act.put, List.setIfInBounds_toArray, List.set_cons_zero, List.set_cons_succ]
                  refine s_tk (v := .bool false) 10 rfl (by kernel_rfl) (by rfl) (by intro w' hw; rw [HSd.out] at hw; obtain ⟨h0, h1, h2, h3⟩ := hw; go_simp; try (simp [hb])) hS ?_
                  simp only [List.getElem_toArray, List.getElem_cons_succ, List.getElem_cons_zero, Act.put, List.setIfInBounds_toArray, List.set_cons_zero, List.set_cons_succ]
                  refine s_tk 11 rfl (by kernel_rfl) (by rfl) (by intro w' hw; rw [HSd.out] at hw; obtain ⟨h0, h1, h2, h3⟩ := hw; go_simp; try (with_reducible rfl)) hS ?_
                  simp only [List.getElem_toArray, List.getElem_cons_succ, List.getElem_cons_zero, Act.put, List.setIfInBounds_toArray, List.set_cons_zero, List.set_cons_succ]
                  refine s_tk 12 rfl (by kernel_rfl) (by rfl) (by intro w' hw; rw [HSd.out] at hw; obtain ⟨h0, h1, h2, h3⟩ := hw; go_simp; try (with_reducible rfl)) hS ?_
                  simp only [List.getElem_toArray, List.getElem_cons_succ, List.getElem_cons_zero, Act.put, List.setIfInBounds_toArray, List.set_cons_zero, List.set_cons_succ]
                  refine s_tk 13 rfl (by kernel_rfl) (by rfl) (by intro w' hw; rw [HSd.out] at hw; obtain ⟨h0, h1, h2, h3⟩ := hw; go_simp; try (with_reducible rfl)) hS ?_
                  simp only [List.getElem_toArray, List.getElem_cons_succ, List.getElem_cons_zero, Act.put, List.setIfInBounds_toArray, List.set_cons_zero, List.set_cons_succ]
                  refine s_tk 14 rfl (by kernel_rfl) (by rfl) (by intro w' hw; rw [HSd.out] at hw; obtain ⟨h0, h1, h2, h3⟩ := hw; go_simp; try (with_reducible rfl)) hS ?_
                  simp only [List.getElem_toArray, List.getElem_cons_succ, List.getElem_cons_zero, Act.put, List.setIfInBounds_toArray, List.set_cons_zero, List.set_cons_succ]
                  refine s_tk 15 rfl (by kernel_rfl) (by rfl) (by intro w' hw; rw [HSd.out] at hw; obtain ⟨h0, h1, h2, h3⟩ := hw; go_simp; try (with_reducible rfl)) hS ?_
                  simp only [List.getElem_toArray, List.getElem_cons_succ, List.getElem_cons_zero, Act.put, List.setIfInBounds_toArray, List.set_cons_zero, List.set_cons_succ]
                  refine s_tk 16 rfl (by kernel_rfl) (by rfl) (by intro w' hw; rw [HSd.out] at hw; obtain ⟨h0, h1, h2, h3⟩ := hw; go_simp; try (with_reducible rfl)) hS ?_
                  simp only [List.getElem_toArray, List.getElem_cons_succ, List.getElem_cons_zero, Act.put, List.setIfInBounds_toArray, List.set_cons_zero, List.set_cons_succ]
                  refine s_tk 17 rfl (by kernel_rfl) (by rfl) (by intro w' hw; rw [HSd.out] at hw; obtain ⟨h0, h1, h2, h3⟩ := hw; go_simp; try (with_reducible rfl)) hS ?_
                  simp only [List.getElem_toArray, List.getElem_cons_succ, List.getElem_cons_zero, Act.put, List.setIfInBounds_toArray, List.set_cons_zero, List.set_cons_succ]
                  refine s_ps 18 rfl (by kernel_rfl) (by rfl) hS ?_
                  simp only [List.getElem_toArray, List.getElem_cons_succ, List.getElem_cons_zero, Act.put, List.setIfInBounds_toArray, List.set_cons_zero, List.set_cons_succ]
                  refine s_ps 19 rfl (by kernel_rfl) (by rfl) hS ?_
                  simp only [List.getElem_toArray, List.getElem_cons_succ, List.getElem_cons_zero, Act.put, List.setIfInBounds_toArray, List.set_cons_zero, List.set_cons_succ]
                  refine s_ps 20 rfl (by kernel_rfl) (by rfl) hS ?_
                  simp only [List.getElem_toArray, List.getElem_cons_succ, List.getElem_cons_zero, Act.put, List.setIfInBounds_toArray, List.set_cons_zero, List.set_cons_succ]
                  refine s_ps 21 rfl (by kernel_rfl) (by rfl) hS ?_
                  simp only [List.getElem_toArray, List.getElem_cons_succ, List.getElem_cons_zero, Act.put, List.setIfInBounds_toArray, List.set_cons_zero, List.set_cons_succ]
                  refine s_ps 22 rfl (by kernel_rfl) (by rfl) hS ?_
                  simp only [List.getElem_toArray, List.getElem_cons_succ, List.getElem_cons_zero, Act.put, List.setIfInBounds_toArray, List.set_cons_zero, List.set_cons_succ]
                  refine s_ps 23 rfl (by kernel_rfl) (by rfl) hS ?_
                  simp only [List.getElem_toArray, List.getElem_cons_succ, List.getElem_cons_zero, Act.put, List.setIfInBounds_toArray, List.set_cons_zero, List.set_cons_succ]
                  refine s_ps 24 rfl (by kernel_rfl) (by rfl) hS ?_
                  simp only [List.getElem_toArray, List.getElem_cons_succ, List.getElem_cons_zero, Act.put, List.setIfInBounds_toArray, List.set_cons_zero, List.set_cons_succ]
                  refine s_ps 25 rfl (by kernel_rfl) (by rfl) hS ?_
                  simp only [List.getElem_toArray, List.getElem_cons_succ, List.getElem_cons_zero, Act.put, List.setIfInBounds_toArray, List.set_cons_zero, List.set_cons_succ]
                  refine s_tk 26 rfl (by kernel_rfl) (by rfl) (by intro w' hw; rw [HSd.out] at hw; obtain ⟨h0, h1, h2, h3⟩ := hw; go_simp; try (with_reducible rfl)) hS ?_
                  simp only [List.getElem_toArray, List.getElem_cons_succ, List.getElem_cons_zero, Act.put, List.setIfInBounds_toArray, List.set_cons_zero, List.set_cons_succ]
                  refine s_tk 27 rfl (by kernel_rfl) (by rfl) (by intro w' hw; rw [HSd.out] at hw; obtain ⟨h0, h1, h2, h3⟩ := hw; go_simp; try (with_reducible rfl)) hS ?_
                  simp only [List.getElem_toArray, List.getElem_cons_succ, List.getElem_cons_zero, Act.put, List.setIfInBounds_toArray, List.set_cons_zero, List.set_cons_succ]
                  refine s_tk 28 rfl (by kernel_rfl) (by rfl) (by intro w' hw; rw [HSd.out] at hw; obtain ⟨h0, h1, h2, h3⟩ := hw; go_simp; try (with_reducible rfl)) hS ?_
                  simp only [List.getElem_toArray, List.getElem_cons_succ, List.getElem_cons_zero, Act.put, List.setIfInBounds_toArray, List.set_cons_zero, List.set_cons_succ]
                  refine s_tk 29 rfl (by kernel_rfl) (by rfl) (by intro w' hw; rw [HSd.out] at hw; obtain ⟨h0, h1, h2, h3⟩ := hw; go_simp; try (with_reducible rfl)) hS ?_
                  simp only [List.getElem_toArray, List.getElem_cons_succ, List.getElem_cons_zero, Act.put, List.setIfInBounds_toArray, List.set_cons_zero, List.set_cons_succ]
                  refine s_tk 30 rfl (by kernel_rfl) (by rfl) (by intro w' hw; rw [HSd.out] at hw; obtain ⟨h0, h1, h2, h3⟩ := hw; go_simp; try (with_reducible rfl)) hS ?_
                  simp only [List.getElem_toArray, List.getElem_cons_succ, List.getElem_cons_zero, Act.put, List.setIfInBounds_toArray, List.set_cons_zero, List.set_cons_succ]
                  refine s_done (by kernel_rfl) ?_ _
                  go_wp2_with fail
                  refine forgetX (fun V => Bx V (g + 1) 32 zMsg ∧ Bx V r 90 (rcs room 0 last (.slice (some ⟨b0, 0, none⟩) j c)) ∧ OwnC 64 8 (fun _ => True) V 0 (.slice (some ⟨b0, 0, none⟩) j c) j (eits ((L.set i (freeE (cntE e C))).map fun e => (e, bv e.id))) ∧ Tch [b0, g + 1] W V) ⟨?_, ?_, ?_, ?_⟩ ?_
                  · have h1 : Bx (W.setCell ⟨b0, i * 8 + 7, none⟩ (.bool false)) (g + 1) 32 zMsg := Bx.off N4.out (by omega)
                    refine Bx.drew ?_
                    with_reducible refine Bx.to (((((h1.set 0 _).set 1 _).set 2 _).set 3 _).set 4 _) ?_
                    rfl
                  · have h1 : Bx (W.setCell ⟨b0, i * 8 + 7, none⟩ (.bool false)) r 90 (rcs room 0 last (.slice (some ⟨b0, 0, none⟩) j c)) := Bx.off N1.out hrb
                    have hne : r ≠ g + 1 := by omega
                    refine Bx.drew ?_
                    with_reducible exact ((((h1.off hne).off hne).off hne).off hne).off hne
                  · have hv := N2.out.set_cell (i * 8 + 7) (by omega) (.bool false) rfl
                    rw [eits_set hi2 (by decide) (.bool false) (freeE (cntE e C), bv e.id) (by rw [List.getElem_map, List.getElem_set_self]; rfl)] at hv
                    have h2 : ((L.set i (cntE e C)).map fun e => (e, bv e.id)).set i (freeE (cntE e C), bv e.id) = (L.set i (freeE (cntE e C))).map fun e => (e, bv e.id) := by
                      rw [List.map_set, List.map_set, List.set_set]; rfl
                    rw [h2] at hv
                    refine OwnC.drew (OwnC.tch (F := [g + 1]) hv ?_ fun k hk hm => ?_)
                    · with_reducible repeat first | exact Tch.refl _ _ | refine Tch.setCell ?_ _ (.inl (by simp))
                    · simp only [Value.ownBlock, Option.some.injEq] at hk
                      subst hk
                      simp only [List.mem_singleton] at hm
                      omega
                  · refine Tch.drew ?_
                    with_reducible repeat first | exact Tch.refl _ _ | refine Tch.setCell ?_ _ (.inl (by simp))
                  rintro V ⟨k1, k2, k3, k4⟩
                  rw [HF.out]
                  have hs : RStep Z w V := ⟨[b0], N6.out.trans k4 (by intro q hq; simp at hq ⊢; have := HG.out; omega), fun q hq => by simp only [List.mem_singleton] at hq; subst hq; exact HZB.out⟩
                  have hEi : (L.set i (freeE (cntE e C))) = modL (freeE (cntE e C)) L := (modL_set HE.out.1 (freeE (cntE e C)) (by rw [HE.out.2]; rfl) H6.out.sorted).symm
                  refine bodyPost_ret (results_ctt rfl rfl rfl rfl (k1.loadAgg (by kernel_rfl) (by kernel_rfl))) rfl ⟨.slice none 0 0, rfl, by intro d hd; simp at hd, [], by simp, ⟨⟨.slice (some ⟨b0, 0, none⟩) j c, bv, k2, ?_, H3.out, fun x hx => ?_⟩, H5.out, ?_⟩, hs⟩
                  · show OwnC _ _ _ _ _ _ (modL (freeE (cntE e C)) L).length (eits ((modL (freeE (cntE e C)) L).map fun e => (e, bv e.id)))
                    rw [← hEi, List.length_set, HN.out]
                    exact k3
                  · have hx : x ∈ modL (freeE (cntE e C)) L := hx
                    have hb : ∃ y ∈ L, y.id = x.id ∧ y.m.body = x.m.body := by
                      rcases mem_modL hx with rfl | ⟨h, _⟩
                      · exact ⟨e, HMEM.out, rfl, rfl⟩
                      · exact ⟨x, h, rfl, rfl⟩
                    obtain ⟨y, hy, h1, h2⟩ := hb
                    rw [← h1, ← h2]
                    exact ⟨hs.bdv (H4.out y hy).1, (H4.out y hy).2⟩
                  · show WfQ room 0 last (modL (freeE (cntE e C)) L)
                    exact H6.out.mod HMEM.out rfl hok (H6.out.tm e HMEM.out)
                · have hl' : 0 < limit := by omega
                  have hwr : IntKind.i64.wrap (C : Int) = (C : Nat) := by unfold IntKind.wrap; simp [IntKind.signed, IntKind.bits]; omega
                  by_cases hcl : limit ≤ C
                  · have HF := Lib.hid (show setQ limit L e.id O = (less [e.id] L, 0, some (cntE e C)) by
                      unfold setQ
                      rw [HFH.out, ← HO.out]
                      simp only
                      rw [if_neg (by decide), if_neg (by decide), if_neg (by decide), if_pos trivial, hbe]
                      rw [if_pos (show deadE limit ⟨5, OA, OB, OC⟩ (cntE e C).m = true from decide_eq_true (by show OB = 1 ∨ (0 < limit ∧ limit ≤ C); omega))]
                    )
                    have hcl1 : decide (limit ≤ C) = true := decide_eq_true hcl
                    clear hbe
                    obtain ⟨S, hSd⟩ : ∃ S : World → Prop, S = fun W' : World => W'.cell? ⟨g, 0, none⟩ = W.cell? ⟨g, 0, none⟩ ∧ W'.cell? ⟨g, 2, none⟩ = W.cell? ⟨g, 2, none⟩ ∧ W'.cell? ⟨r, 1, none⟩ = W.cell? ⟨r, 1, none⟩ ∧ W'.cell? ⟨G, 2, none⟩ = W.cell? ⟨G, 2, none⟩ := ⟨_, rfl⟩
                    have hS : S W.drew := by rw [hSd]; exact ⟨rfl, rfl, rfl, rfl⟩
                    rw [x0, x2, z1, y2] at hSd
                    have HSd := Lib.hid hSd
                    clear hSd
                    refine (wpIn_wide (n := 0)).1 ?_
                    refine s_region [] S (by kernel_rfl) ?_
                    refine s_tk 0 rfl (by kernel_rfl) (by rfl) (by intro w' hw; rw [HSd.out] at hw; obtain ⟨h0, h1, h2, h3⟩ := hw; go_simp; try (with_reducible rfl)) hS ?_
                    simp only [List.getElem_toArray, List.getElem_cons_succ, List.getElem_cons_zero, Act.put, List.setIfInBounds_toArray, List.set_cons_zero, List.set_cons_succ]
                    refine s_tk 1 rfl (by kernel_rfl) (by rfl) (by intro w' hw; rw [HSd.out] at hw; obtain ⟨h0, h1, h2, h3⟩ := hw; go_simp; try (with_reducible rfl)) hS ?_
                    simp only [List.getElem_toArray, List.getElem_cons_succ, List.getElem_cons_zero, Act.put, List.setIfInBounds_toArray, List.set_cons_zero, List.set_cons_succ]
                    refine s_tk 2 rfl (by kernel_rfl) (by rfl) (by intro w' hw; rw [HSd.out] at hw; obtain ⟨h0, h1, h2, h3⟩ := hw; go_simp; try (with_reducible rfl)) hS ?_
                    simp only [List.getElem_toArray, List.getElem_cons_succ, List.getElem_cons_zero, Act.put, List.setIfInBounds_toArray, List.set_cons_zero, List.set_cons_succ]
                    refine s_tk 3 rfl (by kernel_rfl) (by rfl) (by intro w' hw; rw [HSd.out] at hw; obtain ⟨h0, h1, h2, h3⟩ := hw; go_simp; try (with_reducible rfl)) hS ?_
                    simp only [List.getElem_toArray, List.getElem_cons_succ, List.getElem_cons_zero, Act.put, List.setIfInBounds_toArray, List.set_cons_zero, List.set_cons_succ]
                    refine s_tk 4 rfl (by kernel_rfl) (by rfl) (by intro w' hw; rw [HSd.out] at hw; obtain ⟨h0, h1, h2, h3⟩ := hw; go_simp; try (with_reducible rfl)) hS ?_
                    simp only [List.getElem_toArray, List.getElem_cons_succ, List.getElem_cons_zero, Act.put, List.setIfInBounds_toArray, List.set_cons_zero, List.set_cons_succ]
                    refine s_tk 5 rfl (by kernel_rfl) (by rfl) (by intro w' hw; rw [HSd.out] at hw; obtain ⟨h0, h1, h2, h3⟩ := hw; go_simp; try (with_reducible rfl)) hS ?_
                    simp only [List.getElem_toArray, List.getElem_cons_succ, List.getElem_cons_zero, Act.put, List.setIfInBounds_toArray, List.set_cons_zero, List.set_cons_succ]
                    refine s_tk 6 rfl (by kernel_rfl) (by rfl) (by intro w' hw; rw [HSd.out] at hw; obtain ⟨h0, h1, h2, h3⟩ := hw; go_simp; try (with_reducible rfl)) hS ?_
                    simp only [List.getElem_toArray, List.getElem_cons_succ, List.getElem_cons_zero, Act.put, List.setIfInBounds_toArray, List.set_cons_zero, List.set_cons_succ]
                    refine s_tk 7 rfl (by kernel_rfl) (by rfl) (by intro w' hw; rw [HSd.out] at hw; obtain ⟨h0, h1, h2, h3⟩ := hw; go_simp; try (with_reducible rfl)) hS ?_
                    simp only [List.getElem_toArray, List.getElem_cons_succ, List.getElem_cons_zero, Act.put, List.setIfInBounds_toArray, List.set_cons_zero, List.set_cons_succ]
                    refine s_tk 8 rfl (by kernel_rfl) (by rfl) (by intro w' hw; rw [HSd.out] at hw; obtain ⟨h0, h1, h2, h3⟩ := hw; go_simp; try (with_reducible rfl)) hS ?_
                    simp only [List.getElem_toArray, List.getElem_cons_succ, List.getElem_cons_zero, Act.put, List.setIfInBounds_toArray, List.set_cons_zero, List.set_cons_succ]
                    refine s_tk 9 rfl (by kernel_rfl) (by rfl) (by intro w' hw; rw [HSd.out] at hw; obtain ⟨h0, h1, h2, h3⟩ := hw; go_simp; try (with_reducible rfl)) hS ?_
                    simp only [List.getElem_toArray, List.getElem_cons_succ, List.getElem_cons_zero, Act.put, List.setIfInBounds_toArray, List.set_cons_zero, List.set_cons_succ]
                    refine s_tk (v := .bool false) 10 rfl (by kernel_rfl) (by rfl) (by intro w' hw; rw [HSd.out] at hw; obtain ⟨h0, h1, h2, h3⟩ := hw; go_simp; try (simp [hb])) hS ?_
                    simp only [List.getElem_toArray, List.getElem_cons_succ, List.getElem_cons_zero, Act.put, List.setIfInBounds_toArray, List.set_cons_zero, List.set_cons_succ]
                    refine s_tk 11 rfl (by kernel_rfl) (by rfl) (by intro w' hw; rw [HSd.out] at hw; obtain ⟨h0, h1, h2, h3⟩ := hw; go_simp; try (with_reducible rfl)) hS ?_
                    simp only [List.getElem_toArray, List.getElem_cons_succ, List.getElem_cons_zero, Act.put, List.setIfInBounds_toArray, List.set_cons_zero, List.set_cons_succ]
                    refine s_tk 12 rfl (by kernel_rfl) (by rfl) (by intro w' hw; rw [HSd.out] at hw; obtain ⟨h0, h1, h2, h3⟩ := hw; go_simp; try (with_reducible rfl)) hS ?_
                    simp only [List.getElem_toArray, List.getElem_cons_succ, List.getElem_cons_zero, Act.put, List.setIfInBounds_toArray, List.set_cons_zero, List.set_cons_succ]
                    refine s_tk 13 rfl (by kernel_rfl) (by rfl) (by intro w' hw; rw [HSd.out] at hw; obtain ⟨h0, h1, h2, h3⟩ := hw; go_simp; try (with_reducible rfl)) hS ?_
                    simp only [List.getElem_toArray, List.getElem_cons_succ, List.getElem_cons_zero, Act.put, List.setIfInBounds_toArray, List.set_cons_zero, List.set_cons_succ]
                    refine s_tk 14 rfl (by kernel_rfl) (by rfl) (by intro w' hw; rw [HSd.out] at hw; obtain ⟨h0, h1, h2, h3⟩ := hw; go_simp; try (with_reducible rfl)) hS ?_
                    simp only [List.getElem_toArray, List.getElem_cons_succ, List.getElem_cons_zero, Act.put, List.setIfInBounds_toArray, List.set_cons_zero, List.set_cons_succ]
                    refine s_tk 15 rfl (by kernel_rfl) (by rfl) (by intro w' hw; rw [HSd.out] at hw; obtain ⟨h0, h1, h2, h3⟩ := hw; go_simp; try (with_reducible rfl)) hS ?_
                    simp only [List.getElem_toArray, List.getElem_cons_succ, List.getElem_cons_zero, Act.put, List.setIfInBounds_toArray, List.set_cons_zero, List.set_cons_succ]
                    refine s_tk (v := .bool true) 16 rfl (by kernel_rfl) (by rfl) (by intro w' hw; rw [HSd.out] at hw; obtain ⟨h0, h1, h2, h3⟩ := hw; go_simp; try (simp [hl'])) hS ?_
                    simp only [List.getElem_toArray, List.getElem_cons_succ, List.getElem_cons_zero, Act.put, List.setIfInBounds_toArray, List.set_cons_zero, List.set_cons_succ]
                    refine s_tk 17 rfl (by kernel_rfl) (by rfl) (by intro w' hw; rw [HSd.out] at hw; obtain ⟨h0, h1, h2, h3⟩ := hw; go_simp; try (with_reducible rfl)) hS ?_
                    simp only [List.getElem_toArray, List.getElem_cons_succ, List.getElem_cons_zero, Act.put, List.setIfInBounds_toArray, List.set_cons_zero, List.set_cons_succ]
                    refine s_tk 18 rfl (by kernel_rfl) (by rfl) (by intro w' hw; rw [HSd.out] at hw; obtain ⟨h0, h1, h2, h3⟩ := hw; go_simp; try (with_reducible rfl)) hS ?_
                    simp only [List.getElem_toArray, List.getElem_cons_succ, List.getElem_cons_zero, Act.put, List.setIfInBounds_toArray, List.set_cons_zero, List.set_cons_succ]
                    refine s_tk 19 rfl (by kernel_rfl) (by rfl) (by intro w' hw; rw [HSd.out] at hw; obtain ⟨h0, h1, h2, h3⟩ := hw; go_simp; try (with_reducible rfl)) hS ?_
                    simp only [List.getElem_toArray, List.getElem_cons_succ, List.getElem_cons_zero, Act.put, List.setIfInBounds_toArray, List.set_cons_zero, List.set_cons_succ]
                    refine s_tk (v := .int .i64 (C : Nat)) 20 rfl (by kernel_rfl) (by rfl) (by intro w' hw; rw [HSd.out] at hw; obtain ⟨h0, h1, h2, h3⟩ := hw; go_simp; try (rw [hwr])) hS ?_
                    simp only [List.getElem_toArray, List.getElem_cons_succ, List.getElem_cons_zero, Act.put, List.setIfInBounds_toArray, List.set_cons_zero, List.set_cons_succ]
                    refine s_tk 21 rfl (by kernel_rfl) (by rfl) (by intro w' hw; rw [HSd.out] at hw; obtain ⟨h0, h1, h2, h3⟩ := hw; go_simp; try (with_reducible rfl)) hS ?_
                    simp only [List.getElem_toArray, List.getElem_cons_succ, List.getElem_cons_zero, Act.put, List.setIfInBounds_toArray, List.set_cons_zero, List.set_cons_succ]
                    refine s_tk 22 rfl (by kernel_rfl) (by rfl) (by intro w' hw; rw [HSd.out] at hw; obtain ⟨h0, h1, h2, h3⟩ := hw; go_simp; try (with_reducible rfl)) hS ?_
                    simp only [List.getElem_toArray, List.getElem_cons_succ, List.getElem_cons_zero, Act.put, List.setIfInBounds_toArray, List.set_cons_zero, List.set_cons_succ]
                    refine s_tk 23 rfl (by kernel_rfl) (by rfl) (by intro w' hw; rw [HSd.out] at hw; obtain ⟨h0, h1, h2, h3⟩ := hw; go_simp; try (with_reducible rfl)) hS ?_
                    simp only [List.getElem_toArray, List.getElem_cons_succ, List.getElem_cons_zero, Act.put, List.setIfInBounds_toArray, List.set_cons_zero, List.set_cons_succ]
                    refine s_tk 24 rfl (by kernel_rfl) (by rfl) (by intro w' hw; rw [HSd.out] at hw; obtain ⟨h0, h1, h2, h3⟩ := hw; go_simp; try (with_reducible rfl)) hS ?_
                    simp only [List.getElem_toArray, List.getElem_cons_succ, List.getElem_cons_zero, Act.put, List.setIfInBounds_toArray, List.set_cons_zero, List.set_cons_succ]
                    refine s_tk (v := .bool true) 25 rfl (by kernel_rfl) (by rfl) (by intro w' hw; rw [HSd.out] at hw; obtain ⟨h0, h1, h2, h3⟩ := hw; go_simp; try (simp [hcl])) hS ?_
                    simp only [List.getElem_toArray, List.getElem_cons_succ, List.getElem_cons_zero, Act.put, List.setIfInBounds_toArray, List.set_cons_zero, List.set_cons_succ]
                    refine s_tk 26 rfl (by kernel_rfl) (by rfl) (by intro w' hw; rw [HSd.out] at hw; obtain ⟨h0, h1, h2, h3⟩ := hw; go_simp; try (with_reducible rfl)) hS ?_
                    simp only [List.getElem_toArray, List.getElem_cons_succ, List.getElem_cons_zero, Act.put, List.setIfInBounds_toArray, List.set_cons_zero, List.set_cons_succ]
                    refine s_tk 27 rfl (by kernel_rfl) (by rfl) (by intro w' hw; rw [HSd.out] at hw; obtain ⟨h0, h1, h2, h3⟩ := hw; go_simp; try (with_reducible rfl)) hS ?_
                    simp only [List.getElem_toArray, List.getElem_cons_succ, List.getElem_cons_zero, Act.put, List.setIfInBounds_toArray, List.set_cons_zero, List.set_cons_succ]
                    refine s_tk 28 rfl (by kernel_rfl) (by rfl) (by intro w' hw; rw [HSd.out] at hw; obtain ⟨h0, h1, h2, h3⟩ := hw; go_simp; try (with_reducible rfl)) hS ?_
                    simp only [List.getElem_toArray, List.getElem_cons_succ, List.getElem_cons_zero, Act.put, List.setIfInBounds_toArray, List.set_cons_zero, List.set_cons_succ]
                    refine s_tk 29 rfl (by kernel_rfl) (by rfl) (by intro w' hw; rw [HSd.out] at hw; obtain ⟨h0, h1, h2, h3⟩ := hw; go_simp; try (with_reducible rfl)) hS ?_
                    simp only [List.getElem_toArray, List.getElem_cons_succ, List.getElem_cons_zero, Act.put, List.setIfInBounds_toArray, List.set_cons_zero, List.set_cons_succ]
                    refine s_tk 30 rfl (by kernel_rfl) (by rfl) (by intro w' hw; rw [HSd.out] at hw; obtain ⟨h0, h1, h2, h3⟩ := hw; go_simp; try (with_reducible rfl)) hS ?_
                    simp only [List.getElem_toArray, List.getElem_cons_succ, List.getElem_cons_zero, Act.put, List.setIfInBounds_toArray, List.set_cons_zero, List.set_cons_succ]
                    refine s_done (by kernel_rfl) ?_ _
                    go_wp2_with fail
                    refine (rgoes_calls (RQ.out.keep (w' := W.drew) fun k _ => rfl) e.id).mono ?_
                    rintro x w5 ⟨⟨vv, rfl⟩, N, hN, RQ5, S5⟩
                    clear y0 y1 y2 y3 y4 m0 m1 m2 m3 m4 n0 n1 n2 n3 n4 x0 x2 z1 z2
                    have k5 : Bx w5 G 32 [.int .u8 e.m.pr, .int .u32 e.m.ttl, .int .u32 (C : Nat), .string ⟨e.m.ids.toArray⟩, .slice Ab e.m.body.length cb] := Bx.tch (W := W.drew) N5.out S5.tch fun hm => by have := HZ.out _ hm; omega
                    have k4 : Bx w5 (g + 1) 32 zMsg := Bx.tch (W := W.drew) N4.out S5.tch fun hm => by have := HZ.out _ hm; have := HG.out; omega
                    have y0 := k5.cell 0 _ rfl
                    have y1 := k5.cell 1 _ rfl
                    have y2 := k5.cell 2 _ rfl
                    have y3 := k5.cell 3 _ rfl
                    have y4 := k5.cell 4 _ rfl
                    have m0 := k4.cell 0 _ rfl
                    have m1 := k4.cell 1 _ rfl
                    have m2 := k4.cell 2 _ rfl
                    have m3 := k4.cell 3 _ rfl
                    have m4 := k4.cell 4 _ rfl
                    have n0 := k4.froz 0
                    have n1 := k4.froz 1
                    have n2 := k4.froz 2
                    have n3 := k4.froz 3
                    have n4 := k4.froz 4
                    have hN' : ∀ k ∈ N, w.heap.size ≤ k ∧ k < w5.heap.size := fun k hk => by have h1 := (hN k hk).1; have h2 := N6.out.size; exact ⟨Nat.le_trans h2 h1, (hN k hk).2⟩
                    have K5 := Lib.hid k5
                    have K4' := Lib.hid k4
                    have R5 := Lib.hid RQ5
                    have T5 := Lib.hid (ST.out.trans (Z' := Z) (w2 := w5) (by obtain ⟨F, t, hF⟩ := S5; exact ⟨F, Tch.of_drew (w := W) ⟨t.os, t.tape, t.output, t.size, t.block⟩, hF⟩) fun k hk => .inl hk)
                    have HN' := Lib.hid hN'
                    have hgN := Lib.hid (show g + 1 ∉ N from fun hm => by have h1 := (hN _ hm).1; have h2 : g + 1 < W.heap.size := N4.out.lt; have h3 : W.heap.size ≤ g + 1 := h1; omega)
                    clear k5 k4 RQ5 S5 hN hN'
                    go_wp2_with fail
                    refine forgetX (fun V => Bx V (g + 1) 32 [.int .u8 e.m.pr, .int .u32 e.m.ttl, .int .u32 (C : Nat), .string ⟨e.m.ids.toArray⟩, .slice Ab e.m.body.length cb] ∧ Tch [g + 1] w5 V) ⟨?_, ?_⟩ ?_
                    · with_reducible refine Bx.to (((((K4'.out.set 0 _).set 1 _).set 2 _).set 3 _).set 4 _) ?_
                      rfl
                    · with_reducible repeat first | exact Tch.refl _ _ | refine Tch.setCell ?_ _ (.inl (by simp))
                    rintro V ⟨k1, k2⟩
                    rw [HF.out]
                    have hs := T5.out.then_new k2 (by rw [HG.out]; simp)
                    have hrqV : Rq V (N ++ Z) r room limit last (less [e.id] L) := by
                      have h1 := R5.out
                      rw [HEI.out, show less [e.id] (modL (cntE e C) L) = less [e.id] L from less_modL (cntE e C) L] at h1
                      refine h1.keep fun k hk => ?_
                      have hl : k < w5.heap.size := by
                        rcases List.mem_append.1 hk with h | h
                        · exact (HN'.out k h).2
                        · exact Nat.lt_of_lt_of_le (HZ.out k h) T5.out.tch.size
                      refine k2.block k hl fun hm => ?_
                      simp only [List.mem_singleton] at hm
                      subst hm
                      rcases List.mem_append.1 hk with h | h
                      · exact hgN.out h
                      · have := HZ.out _ h
                        have := HG.out
                        omega
                    refine bodyPost_ret (results_ctt rfl rfl rfl rfl (k1.loadAgg (by kernel_rfl) (by kernel_rfl))) rfl ⟨bv e.id, ?_, ?_, N, fun k hk => ⟨(HN'.out k hk).1, Nat.lt_of_lt_of_le (HN'.out k hk).2 k2.size⟩, hrqV, hs⟩
                    · show _ = Ending.returned (.tuple #[mgv (cntE e C).m (bv e.id), _, _])
                      rw [mgv_eq, HBV.out]
                      rfl
                    · intro d hd
                      simp only [Option.some.injEq] at hd
                      subst hd
                      exact ⟨hs.bdv (H4.out e HMEM.out).1, (H4.out e HMEM.out).2⟩
                  · have HF := Lib.hid (show setQ limit L e.id O = (modL (freeE (cntE e C)) L, 0, none) by
                      unfold setQ
                      rw [HFH.out, ← HO.out]
                      simp only
                      rw [if_neg (by decide), if_neg (by decide), if_neg (by decide), if_pos trivial, hbe]
                      rw [if_neg (show ¬ deadE limit ⟨5, OA, OB, OC⟩ (cntE e C).m = true from fun h => by have h := of_decide_eq_true h; have h : OB = 1 ∨ (0 < limit ∧ limit ≤ C) := h; omega)]
                    )
                    have hcl1 : decide (limit ≤ C) = false := decide_eq_false hcl
                    clear hbe
                    have hi2 : i < ((L.set i (cntE e C)).map fun e => (e, bv e.id)).length := by rw [List.length_map, List.length_set]; exact HE.out.1
                    have w7 := N2.out.cell_at (i * 8 + 7) (.bool e.held) (by
                      have h1 := flat_at eit 8 ((L.set i (cntE e C)).map fun e => (e, bv e.id)) (fun x _ => eit_length x) i hi2 7 (by decide)
                      rw [List.getElem_map, List.getElem_set_self] at h1
                      exact h1)
                    obtain ⟨w7, w8⟩ := w7
                    obtain ⟨S, hSd⟩ : ∃ S : World → Prop, S = fun W' : World => W'.cell? ⟨g, 0, none⟩ = W.cell? ⟨g, 0, none⟩ ∧ W'.cell? ⟨g, 2, none⟩ = W.cell? ⟨g, 2, none⟩ ∧ W'.cell? ⟨r, 1, none⟩ = W.cell? ⟨r, 1, none⟩ ∧ W'.cell? ⟨G, 2, none⟩ = W.cell? ⟨G, 2, none⟩ := ⟨_, rfl⟩
                    have hS : S W.drew := by rw [hSd]; exact ⟨rfl, rfl, rfl, rfl⟩
                    rw [x0, x2, z1, y2] at hSd
                    have HSd := Lib.hid hSd
                    clear hSd
                    refine (wpIn_wide (n := 0)).1 ?_
                    refine s_region [] S (by kernel_rfl) ?_
                    refine s_tk 0 rfl (by kernel_rfl) (by rfl) (by intro w' hw; rw [HSd.out] at hw; obtain ⟨h0, h1, h2, h3⟩ := hw; go_simp; try (with_reducible rfl)) hS ?_
                    simp only [List.getElem_toArray, List.getElem_cons_succ, List.getElem_cons_zero, Act.put, List.setIfInBounds_toArray, List.set_cons_zero, List.set_cons_succ]
                    refine s_tk 1 rfl (by kernel_rfl) (by rfl) (by intro w' hw; rw [HSd.out] at hw; obtain ⟨h0, h1, h2, h3⟩ := hw; go_simp; try (with_reducible rfl)) hS ?_
                    simp only [List.getElem_toArray, List.getElem_cons_succ, List.getElem_cons_zero, Act.put, List.setIfInBounds_toArray, List.set_cons_zero, List.set_cons_succ]
                    refine s_tk 2 rfl (by kernel_rfl) (by rfl) (by intro w' hw; rw [HSd.out] at hw; obtain ⟨h0, h1, h2, h3⟩ := hw; go_simp; try (with_reducible rfl)) hS ?_
                    simp only [List.getElem_toArray, List.getElem_cons_succ, List.getElem_cons_zero, Act.put, List.setIfInBounds_toArray, List.set_cons_zero, List.set_cons_succ]
                    refine s_tk 3 rfl (by kernel_rfl) (by rfl) (by intro w' hw; rw [HSd.out] at hw; obtain ⟨h0, h1, h2, h3⟩ := hw; go_simp; try (with_reducible rfl)) hS ?_
                    simp only [List.getElem_toArray, List.getElem_cons_succ, List.getElem_cons_zero, Act.put, List.setIfInBounds_toArray, List.set_cons_zero, List.set_cons_succ]
                    refine s_tk 4 rfl (by kernel_rfl) (by rfl) (by intro w' hw; rw [HSd.out] at hw; obtain ⟨h0, h1, h2, h3⟩ := hw; go_simp; try (with_reducible rfl)) hS ?_
                    simp only [List.getElem_toArray, List.getElem_cons_succ, List.getElem_cons_zero, Act.put, List.setIfInBounds_toArray, List.set_cons_zero, List.set_cons_succ]
                    refine s_tk 5 rfl (by kernel_rfl) (by rfl) (by intro w' hw; rw [HSd.out] at hw; obtain ⟨h0, h1, h2, h3⟩ := hw; go_simp; try (with_reducible rfl)) hS ?_
                    simp only [List.getElem_toArray, List.getElem_cons_succ, List.getElem_cons_zero, Act.put, List.setIfInBounds_toArray, List.set_cons_zero, List.set_cons_succ]
                    refine s_tk 6 rfl (by kernel_rfl) (by rfl) (by intro w' hw; rw [HSd.out] at hw; obtain ⟨h0, h1, h2, h3⟩ := hw; go_simp; try (with_reducible rfl)) hS ?_
                    simp only [List.getElem_toArray, List.getElem_cons_succ, List.getElem_cons_zero, Act.put, List.setIfInBounds_toArray, List.set_cons_zero, List.set_cons_succ]
                    refine s_tk 7 rfl (by kernel_rfl) (by rfl) (by intro w' hw; rw [HSd.out] at hw; obtain ⟨h0, h1, h2, h3⟩ := hw; go_simp; try (with_reducible rfl)) hS ?_
                    simp only [List.getElem_toArray, List.getElem_cons_succ, List.getElem_cons_zero, Act.put, List.setIfInBounds_toArray, List.set_cons_zero, List.set_cons_succ]
                    refine s_tk 8 rfl (by kernel_rfl) (by rfl) (by intro w' hw; rw [HSd.out] at hw; obtain ⟨h0, h1, h2, h3⟩ := hw; go_simp; try (with_reducible rfl)) hS ?_
                    simp only [List.getElem_toArray, List.getElem_cons_succ, List.getElem_cons_zero, Act.put, List.setIfInBounds_toArray, List.set_cons_zero, List.set_cons_succ]
                    refine s_tk 9 rfl (by kernel_rfl) (by rfl) (by intro w' hw; rw [HSd.out] at hw; obtain ⟨h0, h1, h2, h3⟩ := hw; go_simp; try (with_reducible rfl)) hS ?_
                    simp only [List.getElem_toArray, List.getElem_cons_succ, List.getElem_cons_zero, Act.put, List.setIfInBounds_toArray, List.set_cons_zero, List.set_cons_succ]
                    refine s_tk (v := .bool false) 10 rfl (by kernel_rfl) (by rfl) (by intro w' hw; rw [HSd.out] at hw; obtain ⟨h0, h1, h2, h3⟩ := hw; go_simp; try (simp [hb])) hS ?_
                    simp only [List.getElem_toArray, List.getElem_cons_succ, List.getElem_cons_zero, Act.put, List.setIfInBounds_toArray, List.set_cons_zero, List.set_cons_succ]
                    refine s_tk 11 rfl (by kernel_rfl) (by rfl) (by intro w' hw; rw [HSd.out] at hw; obtain ⟨h0, h1, h2, h3⟩ := hw; go_simp; try (with_reducible rfl)) hS ?_
                    simp only [List.getElem_toArray, List.getElem_cons_succ, List.getElem_cons_zero, Act.put, List.setIfInBounds_toArray, List.set_cons_zero, List.set_cons_succ]
                    refine s_tk 12 rfl (by kernel_rfl) (by rfl) (by intro w' hw; rw [HSd.out] at hw; obtain ⟨h0, h1, h2, h3⟩ := hw; go_simp; try (with_reducible rfl)) hS ?_
                    simp only [List.getElem_toArray, List.getElem_cons_succ, List.getElem_cons_zero, Act.put, List.setIfInBounds_toArray, List.set_cons_zero, List.set_cons_succ]
                    refine s_tk 13 rfl (by kernel_rfl) (by rfl) (by intro w' hw; rw [HSd.out] at hw; obtain ⟨h0, h1, h2, h3⟩ := hw; go_simp; try (with_reducible rfl)) hS ?_
                    simp only [List.getElem_toArray, List.getElem_cons_succ, List.getElem_cons_zero, Act.put, List.setIfInBounds_toArray, List.set_cons_zero, List.set_cons_succ]
                    refine s_tk 14 rfl (by kernel_rfl) (by rfl) (by intro w' hw; rw [HSd.out] at hw; obtain ⟨h0, h1, h2, h3⟩ := hw; go_simp; try (with_reducible rfl)) hS ?_
                    simp only [List.getElem_toArray, List.getElem_cons_succ, List.getElem_cons_zero, Act.put, List.setIfInBounds_toArray, List.set_cons_zero, List.set_cons_succ]
                    refine s_tk 15 rfl (by kernel_rfl) (by rfl) (by intro w' hw; rw [HSd.out] at hw; obtain ⟨h0, h1, h2, h3⟩ := hw; go_simp; try (with_reducible rfl)) hS ?_
                    simp only [List.getElem_toArray, List.getElem_cons_succ, List.getElem_cons_zero, Act.put, List.setIfInBounds_toArray, List.set_cons_zero, List.set_cons_succ]
                    refine s_tk (v := .bool true) 16 rfl (by kernel_rfl) (by rfl) (by intro w' hw; rw [HSd.out] at hw; obtain ⟨h0, h1, h2, h3⟩ := hw; go_simp; try (simp [hl'])) hS ?_
                    simp only [List.getElem_toArray, List.getElem_cons_succ, List.getElem_cons_zero, Act.put, List.setIfInBounds_toArray, List.set_cons_zero, List.set_cons_succ]
                    refine s_tk 17 rfl (by kernel_rfl) (by rfl) (by intro w' hw; rw [HSd.out] at hw; obtain ⟨h0, h1, h2, h3⟩ := hw; go_simp; try (with_reducible rfl)) hS ?_
                    simp only [List.getElem_toArray, List.getElem_cons_succ, List.getElem_cons_zero, Act.put, List.setIfInBounds_toArray, List.set_cons_zero, List.set_cons_succ]
                    refine s_tk 18 rfl (by kernel_rfl) (by rfl) (by intro w' hw; rw [HSd.out] at hw; obtain ⟨h0, h1, h2, h3⟩ := hw; go_simp; try (with_reducible rfl)) hS ?_
                    simp only [List.getElem_toArray, List.getElem_cons_succ, List.getElem_cons_zero, Act.put, List.setIfInBounds_toArray, List.set_cons_zero, List.set_cons_succ]
                    refine s_tk 19 rfl (by kernel_rfl) (by rfl) (by intro w' hw; rw [HSd.out] at hw; obtain ⟨h0, h1, h2, h3⟩ := hw; go_simp; try (with_reducible rfl)) hS ?_
                    simp only [List.getElem_toArray, List.getElem_cons_succ, List.getElem_cons_zero, Act.put, List.setIfInBounds_toArray, List.set_cons_zero, List.set_cons_succ]
                    refine s_tk (v := .int .i64 (C : Nat)) 20 rfl (by kernel_rfl) (by rfl) (by intro w' hw; rw [HSd.out] at hw; obtain ⟨h0, h1, h2, h3⟩ := hw; go_simp; try (rw [hwr])) hS ?_
                    simp only [List.getElem_toArray, List.getElem_cons_succ, List.getElem_cons_zero, Act.put, List.setIfInBounds_toArray, List.set_cons_zero, List.set_cons_succ]
                    refine s_tk 21 rfl (by kernel_rfl) (by rfl) (by intro w' hw; rw [HSd.out] at hw; obtain ⟨h0, h1, h2, h3⟩ := hw; go_simp; try (with_reducible rfl)) hS ?_
                    simp only [List.getElem_toArray, List.getElem_cons_succ, List.getElem_cons_zero, Act.put, List.setIfInBounds_toArray, List.set_cons_zero, List.set_cons_succ]
                    refine s_tk 22 rfl (by kernel_rfl) (by rfl) (by intro w' hw; rw [HSd.out] at hw; obtain ⟨h0, h1, h2, h3⟩ := hw; go_simp; try (with_reducible rfl)) hS ?_
                    simp only [List.getElem_toArray, List.getElem_cons_succ, List.getElem_cons_zero, Act.put, List.setIfInBounds_toArray, List.set_cons_zero, List.set_cons_succ]
                    refine s_tk 23 rfl (by kernel_rfl) (by rfl) (by intro w' hw; rw [HSd.out] at hw; obtain ⟨h0, h1, h2, h3⟩ := hw; go_simp; try (with_reducible rfl)) hS ?_
                    simp only [List.getElem_toArray, List.getElem_cons_succ, List.getElem_cons_zero, Act.put, List.setIfInBounds_toArray, List.set_cons_zero, List.set_cons_succ]
                    refine s_tk 24 rfl (by kernel_rfl) (by rfl) (by intro w' hw; rw [HSd.out] at hw; obtain ⟨h0, h1, h2, h3⟩ := hw; go_simp; try (with_reducible rfl)) hS ?_
                    simp only [List.getElem_toArray, List.getElem_cons_succ, List.getElem_cons_zero, Act.put, List.setIfInBounds_toArray, List.set_cons_zero, List.set_cons_succ]
                    refine s_tk (v := .bool false) 25 rfl (by kernel_rfl) (by rfl) (by intro w' hw; rw [HSd.out] at hw; obtain ⟨h0, h1, h2, h3⟩ := hw; go_simp; try (simp [hcl])) hS ?_
                    simp only [List.getElem_toArray, List.getElem_cons_succ, List.getElem_cons_zero, Act.put, List.setIfInBounds_toArray, List.set_cons_zero, List.set_cons_succ]
                    refine s_tk 26 rfl (by kernel_rfl) (by rfl) (by intro w' hw; rw [HSd.out] at hw; obtain ⟨h0, h1, h2, h3⟩ := hw; go_simp; try (with_reducible rfl)) hS ?_
                    simp only [List.getElem_toArray, List.getElem_cons_succ, List.getElem_cons_zero, Act.put, List.setIfInBounds_toArray, List.set_cons_zero, List.set_cons_succ]
                    refine s_tk 27 rfl (by kernel_rfl) (by rfl) (by intro w' hw; rw [HSd.out] at hw; obtain ⟨h0, h1, h2, h3⟩ := hw; go_simp; try (with_reducible rfl)) hS ?_
                    simp only [List.getElem_toArray, List.getElem_cons_succ, List.getElem_cons_zero, Act.put, List.setIfInBounds_toArray, List.set_cons_zero, List.set_cons_succ]
                    refine s_tk 28 rfl (by kernel_rfl) (by rfl) (by intro w' hw; rw [HSd.out] at hw; obtain ⟨h0, h1, h2, h3⟩ := hw; go_simp; try (with_reducible rfl)) hS ?_
                    simp only [List.getElem_toArray, List.getElem_cons_succ, List.getElem_cons_zero, Act.put, List.setIfInBounds_toArray, List.set_cons_zero, List.set_cons_succ]
                    refine s_tk 29 rfl (by kernel_rfl) (by rfl) (by intro w' hw; rw [HSd.out] at hw; obtain ⟨h0, h1, h2, h3⟩ := hw; go_simp; try (with_reducible rfl)) hS ?_
                    simp only [List.getElem_toArray, List.getElem_cons_succ, List.getElem_cons_zero, Act.put, List.setIfInBounds_toArray, List.set_cons_zero, List.set_cons_succ]
                    refine s_tk 30 rfl (by kernel_rfl) (by rfl) (by intro w' hw; rw [HSd.out] at hw; obtain ⟨h0, h1, h2, h3⟩ := hw; go_simp; try (with_reducible rfl)) hS ?_
                    simp only [List.getElem_toArray, List.getElem_cons_succ, List.getElem_cons_zero, Act.put, List.setIfInBounds_toArray, List.set_cons_zero, List.set_cons_succ]
                    refine s_done (by kernel_rfl) ?_ _
                    go_wp2_with fail
                    refine forgetX (fun V => Bx V (g + 1) 32 zMsg ∧ Bx V r 90 (rcs room limit last (.slice (some ⟨b0, 0, none⟩) j c)) ∧ OwnC 64 8 (fun _ => True) V 0 (.slice (some ⟨b0, 0, none⟩) j c) j (eits ((L.set i (freeE (cntE e C))).map fun e => (e, bv e.id))) ∧ Tch [b0, g + 1] W V) ⟨?_, ?_, ?_, ?_⟩ ?_
                    · have h1 : Bx (W.setCell ⟨b0, i * 8 + 7, none⟩ (.bool false)) (g + 1) 32 zMsg := Bx.off N4.out (by omega)
                      refine Bx.drew ?_
                      with_reducible refine Bx.to (((((h1.set 0 _).set 1 _).set 2 _).set 3 _).set 4 _) ?_
                      rfl
                    · have h1 : Bx (W.setCell ⟨b0, i * 8 + 7, none⟩ (.bool false)) r 90 (rcs room limit last (.slice (some ⟨b0, 0, none⟩) j c)) := Bx.off N1.out hrb
                      have hne : r ≠ g + 1 := by omega
                      refine Bx.drew ?_
                      with_reducible exact ((((h1.off hne).off hne).off hne).off hne).off hne
                    · have hv := N2.out.set_cell (i * 8 + 7) (by omega) (.bool false) rfl
                      rw [eits_set hi2 (by decide) (.bool false) (freeE (cntE e C), bv e.id) (by rw [List.getElem_map, List.getElem_set_self]; rfl)] at hv
                      have h2 : ((L.set i (cntE e C)).map fun e => (e, bv e.id)).set i (freeE (cntE e C), bv e.id) = (L.set i (freeE (cntE e C))).map fun e => (e, bv e.id) := by
                        rw [List.map_set, List.map_set, List.set_set]; rfl
                      rw [h2] at hv
                      refine OwnC.drew (OwnC.tch (F := [g + 1]) hv ?_ fun k hk hm => ?_)
                      · with_reducible repeat first | exact Tch.refl _ _ | refine Tch.setCell ?_ _ (.inl (by simp))
                      · simp only [Value.ownBlock, Option.some.injEq] at hk
                        subst hk
                        simp only [List.mem_singleton] at hm
                        omega
                    · refine Tch.drew ?_
                      with_reducible repeat first | exact Tch.refl _ _ | refine Tch.setCell ?_ _ (.inl (by simp))
                    rintro V ⟨k1, k2, k3, k4⟩
                    rw [HF.out]
                    have hs : RStep Z w V := ⟨[b0], N6.out.trans k4 (by intro q hq; simp at hq ⊢; have := HG.out; omega), fun q hq => by simp only [List.mem_singleton] at hq; subst hq; exact HZB.out⟩
                    have hEi : (L.set i (freeE (cntE e C))) = modL (freeE (cntE e C)) L := (modL_set HE.out.1 (freeE (cntE e C)) (by rw [HE.out.2]; rfl) H6.out.sorted).symm
                    refine bodyPost_ret (results_ctt rfl rfl rfl rfl (k1.loadAgg (by kernel_rfl) (by kernel_rfl))) rfl ⟨.slice none 0 0, rfl, by intro d hd; simp at hd, [], by simp, ⟨⟨.slice (some ⟨b0, 0, none⟩) j c, bv, k2, ?_, H3.out, fun x hx => ?_⟩, H5.out, ?_⟩, hs⟩
                    · show OwnC _ _ _ _ _ _ (modL (freeE (cntE e C)) L).length (eits ((modL (freeE (cntE e C)) L).map fun e => (e, bv e.id)))
                      rw [← hEi, List.length_set, HN.out]
                      exact k3
                    · have hx : x ∈ modL (freeE (cntE e C)) L := hx
                      have hb : ∃ y ∈ L, y.id = x.id ∧ y.m.body = x.m.body := by
                        rcases mem_modL hx with rfl | ⟨h, _⟩
                        · exact ⟨e, HMEM.out, rfl, rfl⟩
                        · exact ⟨x, h, rfl, rfl⟩
                      obtain ⟨y, hy, h1, h2⟩ := hb
                      rw [← h1, ← h2]
                      exact ⟨hs.bdv (H4.out y hy).1, (H4.out y hy).2⟩
                    · show WfQ room limit last (modL (freeE (cntE e C)) L)
                      exact H6.out.mod HMEM.out rfl hok (H6.out.tm e HMEM.out)
        · rw [show finO O = false by rw [← HO.out]; unfold finO; exact decide_eq_false hfin]
          have HF := Lib.hid (show setQ limit L e.id O = (L, 1, none) by
            unfold setQ
            rw [HFH.out, ← HO.out]
            simp only
            rw [if_neg (by omega), if_neg (by omega), if_neg (by omega), if_neg (by omega)])
          have K4 := Lib.hid k4
          clear k3 k4
          go_wp2_with fail
          refine forgetX (fun W => Bx W (g + 1) 32 zMsg ∧ Below w.heap.size w W) ⟨?_, ?_⟩ ?_
          · with_reducible refine Bx.to (((((K4.out.set 0 _).set 1 _).set 2 _).set 3 _).set 4 _) ?_
            rfl
          · refine Tch.below (F := [g + 1]) ?_ (Nat.le_refl _) (by rw [HG.out]; simp)
            with_reducible repeat first | exact Tch.of_below _ B2.out | refine Tch.setCell ?_ _ (.inl (by simp))
          rintro W ⟨k1, k2⟩
          rw [HF.out]
          exact bodyPost_ret (results_ctt rfl rfl rfl rfl (k1.loadAgg (by kernel_rfl) (by kernel_rfl))) rfl ⟨.slice none 0 0, rfl, by intro d hd; simp at hd, [], by simp, HQ.out.below HZ.out k2, RStep.of_below k2⟩
end Go.Proofs.Ytkoihcfdchcgdaa
