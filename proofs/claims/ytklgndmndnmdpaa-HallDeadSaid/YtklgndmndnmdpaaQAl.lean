import Derived.Test.YtklgndmndnmdpaaQst
set_option linter.unusedVariables false
set_option linter.unusedSimpArgs false
namespace Go.Proofs.Ytklgndmndnmdpaa
open Go.RowKit Go.Shelf
attribute [local go_sem] Oper.semAt_some

/-- Without those of D. -/
def less (D : List Nat) (L : List En) : List En := L.filter fun e => !(D.contains e.id)
/-- What the iterator of a queue relies on: of what has come some may have gone; rows of which nothing has come are as they were. -/
structure AlR (B : Nat) (F : List Nat) (q Bq Bh room limit last : Nat) (h : Bool) (L : List En) (bk : Nat → Nat) (bv rv : Nat → Value) (pre : List En) (W : World) : Prop where
  bq : W.cell? ⟨Bq, 0, none⟩ = some (.pointer (some ⟨q, 0, none⟩))
  bh : W.cell? ⟨Bh, 0, none⟩ = some (.bool h)
  st : ∃ (rv' : Nat → Value) (D : List Nat), (∀ d ∈ D, ∃ e ∈ pre, e.id = d) ∧ Qq W B F q room limit last (less D L) bk bv rv' ∧ ∀ p < 10, (∀ e ∈ pre, e.m.pr ≠ p) → rv' p = rv p

/-- What is said beside blocks G of one's own. -/
theorem clo_own {β γ : Type} {J : γ → List Nat → World → Prop} (hJ : Clo J) (f : β → γ) (G : List Nat) (P : β → World → Prop) (hP : ∀ s W W', P s W → (∀ k ∈ G, W'.heap[k]? = W.heap[k]?) → P s W') :
    Clo (fun (s : β) (Z : List Nat) (W : World) => J (f s) (G ++ Z) W ∧ P s W ∧ (∀ k ∈ G, k ∉ Z ∧ k < W.heap.size) ∧ ∀ k ∈ Z, k < W.heap.size) := by
  refine ⟨fun s Z N W W' ⟨h1, h2, h3, h4⟩ hb hN => ⟨?_, hP s W W' h2 fun k hk => hb.block k (h3 k hk).2, fun k hk => ⟨fun hm => ?_, Nat.lt_of_lt_of_le (h3 k hk).2 hb.size⟩, fun k hk => ?_⟩,
    fun s Z W W' ⟨h1, h2, h3, h4⟩ t => ⟨hJ.zset _ _ _ _ h1 (t.mono fun k hk => List.mem_append_right _ hk), hP s W W' h2 fun k hk => t.block k (h3 k hk).2 (h3 k hk).1, fun k hk => ⟨(h3 k hk).1, Nat.lt_of_lt_of_le (h3 k hk).2 t.size⟩, fun k hk => Nat.lt_of_lt_of_le (h4 k hk) t.size⟩,
    fun s Z Z' W ⟨h1, h2, h3, h4⟩ hs => ⟨hJ.sub _ _ _ _ h1 fun k hk => ?_, h2, fun k hk => ⟨fun hm => (h3 k hk).1 (hs k hm), (h3 k hk).2⟩, fun k hk => h4 k (hs k hk)⟩⟩
  · refine hJ.sub _ _ _ _ (hJ.guest _ _ _ _ _ h1 hb hN) fun k hk => ?_
    simp only [List.mem_append] at hk ⊢
    rcases hk with h | h | h <;> simp [h]
  · rcases List.mem_append.1 hm with e | e
    · have := (hN k e).1; have := (h3 k hk).2; omega
    · exact (h3 k hk).1 e
  · rcases List.mem_append.1 hk with e | e
    · exact (hN k e).2
    · exact Nat.lt_of_lt_of_le (h4 k e) hb.size
  · rcases List.mem_append.1 hk with e | e
    · exact List.mem_append_left _ e
    · exact List.mem_append_right _ (hs k e)
theorem prs_take (p : Nat) : ∀ k, p ∈ prs.take k → 10 ≤ p + k := by
  intro k hk
  by_cases h : k < 10
  · have : ∀ k < 10, ∀ p ∈ prs.take k, 10 ≤ p + k := by decide
    exact this k h p hk
  · omega
theorem prs_take_succ : ∀ k, k < 10 → prs.take (k + 1) = prs.take k ++ [9 - k] := by decide
theorem RoundIn.inRound {F : Fence} {n : Nat} {P : Program} {l : Nat} {f : FuncId} {tmps : Array Value} {assign body : Code} {w : World} {R : Ending → World → Prop} (l2 : Nat) (h : RoundIn F n P l f tmps assign body w R) : RoundIn (F.inRound l2) n P l f tmps assign body w R := h
theorem rndZ_cases {α : Type} {J Jx : List α → List Nat → World → Prop} {xs : List α} {Z : List Nat} {W : World} {e : Ending} {W' : World} (h : RndZ J Jx xs Z W e W') :
    ∃ b : Bool, e = .returned (.bool b) ∧ Hid (ZK Z W W') ∧ Hid (if b then J xs Z W' else Jx xs Z W') := by
  obtain ⟨hk, ⟨rfl, h1⟩ | ⟨rfl, h1⟩⟩ := h
  · exact ⟨true, rfl, Lib.hid hk, Lib.hid (by simpa using h1)⟩
  · exact ⟨false, rfl, Lib.hid hk, Lib.hid (by simpa using h1)⟩
def uptoQ (h : Bool) (L : List En) (pre : List Nat) : List En := pre.flatMap fun p => ask h (rowp L p)

theorem rowp_less {D : List Nat} {L : List En} {p : Nat} (h : ∀ e ∈ L, e.m.pr = p → e.id ∉ D) : rowp (less D L) p = rowp L p := by
  unfold rowp less
  rw [List.filter_filter]
  refine List.filter_congr fun e he => ?_
  by_cases hp : e.m.pr = p
  · have := h e he hp
    simp [hp, this]
  · simp [hp]
theorem less_nil (L : List En) : less [] L = L := by simp [less]
theorem mem_less {D : List Nat} {L : List En} {e : En} : e ∈ less D L ↔ e ∈ L ∧ e.id ∉ D := by simp [less]
theorem sorted_uniq {L : List En} (h : L.Pairwise fun a b => a.id < b.id) {e e' : En} (he : e ∈ L) (he' : e' ∈ L) (hid : e.id = e'.id) : e = e' := by
  induction L with
  | nil => cases he
  | cons a L ih =>
    obtain ⟨h1, h2⟩ := List.pairwise_cons.1 h
    rcases List.mem_cons.1 he with r1 | r1 <;> rcases List.mem_cons.1 he' with r2 | r2
    · rw [r1, r2]
    · have := h1 _ r2; rw [← r1] at this; omega
    · have := h1 _ r1; rw [← r2] at this; omega
    · exact ih h2 r1 r2
theorem sorted_take {L : List En} (h : L.Pairwise fun a b => a.id < b.id) {j : Nat} (hj : j < L.length) {e : En} (he : e ∈ L.take j) : e.id < L[j].id := by
  have h2 := h
  rw [← List.take_append_drop j L, List.pairwise_append] at h2
  exact h2.2.2 e he _ (by rw [List.drop_eq_getElem_cons hj]; exact List.mem_cons_self)
theorem upto_app (h : Bool) (L : List En) (a b : List Nat) : uptoQ h L (a ++ b) = uptoQ h L a ++ uptoQ h L b := by simp [uptoQ]
theorem upto_one (h : Bool) (L : List En) (p : Nat) : uptoQ h L [p] = ask h (rowp L p) := by simp [uptoQ]
theorem ask_take_succ (h : Bool) (l : List En) (j : Nat) (hj : j < l.length) : ask h (l.take (j + 1)) = ask h (l.take j) ++ if l[j].held == h then [l[j]] else [] := by
  rw [take_succ' l j hj, ask, List.filter_append]
  unfold ask
  by_cases hh : (l[j].held == h) = true <;> simp [hh]
theorem upto_prefix {h : Bool} {L : List En} {k j i : Nat} (hk : k < 10) (hi : i = 9 - k) (hj : j ≤ (rowp L i).length) : (uptoQ h L (prs.take k) ++ ask h ((rowp L i).take j)) <+: ordQ h L := by
  have h1 : ordQ h L = uptoQ h L (prs.take (k + 1)) ++ uptoQ h L (prs.drop (k + 1)) := by rw [← upto_app, List.take_append_drop]; rfl
  rw [h1, prs_take_succ k hk, ← hi, upto_app, upto_one]
  refine ((List.prefix_append_right_inj _).2 ?_).trans (List.prefix_append _ _)
  exact (List.take_prefix _ _).filter _
theorem mem_ask {h : Bool} {l : List En} {e : En} : e ∈ ask h l ↔ e ∈ l ∧ e.held = h := by simp [ask]
theorem mem_upto {h : Bool} {L : List En} {pre : List Nat} {e : En} : e ∈ uptoQ h L pre ↔ e ∈ L ∧ e.held = h ∧ e.m.pr ∈ pre := by
  simp only [uptoQ, List.mem_flatMap, mem_ask, mem_rowp]
  constructor
  · rintro ⟨p, h1, ⟨h2, rfl⟩, h4⟩; exact ⟨h2, h4, h1⟩
  · rintro ⟨h1, h2, h3⟩; exact ⟨_, h3, ⟨h1, rfl⟩, h2⟩
set_option maxRecDepth 100000 in
set_option maxHeartbeats 2000000 in
theorem all_sq (B : Nat) (F : List Nat) (q Bq Bh room limit last : Nat) (h : Bool) (L : List En) (bk : Nat → Nat) (bv rv : Nat → Value) (w : World) :
    SqZ Fence.wide Try.prog 80 #[.pointer (some ⟨Bq, 0, none⟩), .pointer (some ⟨Bh, 0, none⟩)] (fun e : En => #[ev (bk e.id)]) (AlR B F q Bq Bh room limit last h L bk bv rv) (fun pre x => (pre ++ [x]) <+: ordQ h L) (fun xs => xs = ordQ h L) w := by
  intro n l J Jx W hb hJ hJx hR hY h0
  have R0 := Lib.hid (hR _ _ _ h0)
  have hq := R0.out.bq
  obtain ⟨hS, hLl⟩ : (L.Pairwise fun a b => a.id < b.id) ∧ L.length ≤ 64 := by
    obtain ⟨rv', D, hD, hQ, -⟩ := R0.out.st
    have : D = [] := List.eq_nil_iff_forall_not_mem.2 fun d hd => by obtain ⟨e, he, _⟩ := hD d hd; cases he
    subst this
    rw [less_nil] at hQ
    exact ⟨hQ.wf.sorted, Nat.le_trans hQ.wf.len hQ.wf.room2⟩
  have hlt := World.block_lt_of_cell? _ _ hq
  have hlt2 := World.block_lt_of_cell? _ _ R0.out.bh
  dsimp only at hlt hlt2
  refine callsIn_of_wp_marks Try.func80 rfl trivial ?_ rfl
  simp only [Try.ntmps80, List.size_toArray, List.length_cons, List.length_nil, Nat.reduceAdd, Nat.reduceSub, Array.replicate_succ, Array.replicate_zero, List.push_toArray, List.append_toArray, List.nil_append, List.cons_append]
  gi_wp2_with (refine ⟨trivial, (fun h => by cases h), ?_⟩; gi_at_call 81; refine (back_in _ _ trivial rfl _ _ _ _).mono ?_; rintro e w1 ⟨rfl, rfl⟩)
  refine range_outer (encs := fun i : Nat => #[.int .i64 i, rv i]) (w0 := W) rfl rfl (gf := 86) (lb := #[.pointer (some ⟨W.heap.size + 1, 0, none⟩)]) rfl trivial (enters_of Try.func86 (by kernel_rfl) rfl) (back_sq Fence.wide rfl trivial rfl (W.heap.size + 1) q 3 10 10 rv (by omega) W) ?b0 (fun _ => rfl)
    (fun pre Z W' => J (uptoQ h L pre) ([W.heap.size, W.heap.size + 1] ++ Z) W' ∧ (W'.cell? ⟨W.heap.size, 0, none⟩ = some (.func (.yield l) #[] #[]) ∧ W'.cell? ⟨W.heap.size + 1, 0, none⟩ = some (.slice (some ⟨q, 3, none⟩) 10 10) ∧ pre = prs.take pre.length) ∧ (∀ k ∈ [W.heap.size, W.heap.size + 1], k ∉ Z ∧ k < W'.heap.size) ∧ ∀ k ∈ Z, k < W'.heap.size)
    (fun c _ Z W' => ∃ pre, Jx pre ([W.heap.size, W.heap.size + 1] ++ Z) W' ∧ c = .ret ∧ (∀ k ∈ [W.heap.size, W.heap.size + 1], k ∉ Z ∧ k < W'.heap.size) ∧ ∀ k ∈ Z, k < W'.heap.size) ?c1 ?c2 ?i0 ?iR
    (fun i => { tmps := #[.func (.yield l) #[] #[], .pointer (some ⟨Bq, 0, none⟩), .pointer (some ⟨Bh, 0, none⟩), .pointer (some ⟨W.heap.size, 0, none⟩), undef, rv i, undef, undef, .pointer (some ⟨q, 0, none⟩), .bool false, .pointer (some ⟨q, 0, none⟩), .pointer (some ⟨q, 0, none⟩), .pointer (some ⟨q, 3, none⟩), .slice (some ⟨q, 3, none⟩) 10 10, .func (.func 86) #[] #[.pointer (some ⟨W.heap.size + 1, 0, none⟩)], .int .i64 i, rv i, undef, undef, undef, undef, undef, undef, undef, undef, undef, undef, undef, undef, undef, undef, undef, undef, undef, undef, undef, undef], defers := [] }) ?assign ?body ?done ?stop
  case c1 => exact clo_own hJ (uptoQ h L) [W.heap.size, W.heap.size + 1] (fun pre W' => W'.cell? ⟨W.heap.size, 0, none⟩ = some (.func (.yield l) #[] #[]) ∧ W'.cell? ⟨W.heap.size + 1, 0, none⟩ = some (.slice (some ⟨q, 3, none⟩) 10 10) ∧ pre = prs.take pre.length) fun s A A' hc hk => ⟨by rw [← hc.1]; unfold World.cell?; rw [hk _ (by simp)], by rw [← hc.2.1]; unfold World.cell?; rw [hk _ (by simp)], hc.2.2⟩
  case c2 =>
    intro c
    have := clo_some (α := Nat) (J := fun (p : List En) (_ : List Nat) Z W' => Jx p ([W.heap.size, W.heap.size + 1] ++ Z) W' ∧ c = .ret ∧ (∀ k ∈ [W.heap.size, W.heap.size + 1], k ∉ Z ∧ k < W'.heap.size) ∧ ∀ k ∈ Z, k < W'.heap.size) fun p => clo_own hJx (fun _ => p) [W.heap.size, W.heap.size + 1] (fun _ _ => c = .ret) fun _ _ _ h _ => h
    exact this
  case iR => exact fun pre Z W' hI => ⟨hI.2.1.2.1, fun i hi => by
    obtain ⟨rv', D, -, hQ, hrv⟩ := (hR _ _ _ hI.1).st
    rw [← hrv i (by omega) fun e he hp => by
      have := (mem_upto.1 he).2.2
      rw [hI.2.1.2.2] at this
      have := prs_take _ _ this
      omega]
    exact hQ.cr i (by omega)⟩
  case b0 => exact ((Below.refl _ W).alloc (Nat.le_refl _) _).alloc (by simp) _
  case i0 =>
    refine ⟨hJ.sub _ _ _ _ (hJ.guest _ _ [W.heap.size, W.heap.size + 1] _ _ h0 (((Below.refl _ W).alloc (Nat.le_refl _) _).alloc (by simp) _) (fun k hk => by simp at hk; simp; omega)) (fun k hk => hk), ⟨by go_simp, by go_simp, rfl⟩, fun k hk => ⟨by simp, by simp at hk; simp; omega⟩, by simp⟩
  case assign => intro l2 x W2 K hK; gi_wp2; exact hK
  case body =>
    rintro l2 pre i Z W2 hV hl ⟨r, hr⟩ ⟨hJ2, ⟨hc1, hc2, hpre⟩, hG, hZ⟩
    have R2 := hR _ _ _ hJ2
    obtain ⟨rv', D, hD, hQ, hrv⟩ := R2.st
    have hi9 : i = 9 - pre.length := by omega
    have hnp : ∀ e ∈ uptoQ h L pre, e.m.pr ≠ i := fun e he hp => by
      have := (mem_upto.1 he).2.2
      rw [hpre] at this
      have := prs_take _ _ this
      omega
    have hrow := hrv i (by omega) hnp
    have ho := hQ.rows i (by omega)
    have hlen := Nat.le_trans (rowp_len L i) hLl
    have hless : rowp (less D L) i = rowp L i := rowp_less fun e he hp hm => by
      obtain ⟨e', h1, h2⟩ := hD _ hm
      have h3 := mem_upto.1 h1
      have := sorted_uniq hS he h3.1 h2.symm
      subst this
      exact hnp _ h1 hp
    rw [hrow, hless] at ho
    obtain ⟨A, c, hv, hrd⟩ := ho.rd
    obtain ⟨N, hN⟩ : ∃ N, (rowp L i).length = N := ⟨_, rfl⟩
    obtain ⟨bs, hbs⟩ : ∃ bs, bs = (rowp L i).map fun e => bk e.id := ⟨_, rfl⟩
    have hrd' : RdC 1 W2 A N c (bs.map ev) := by rw [hbs, List.map_map, ← hN]; exact hrd
    rw [hN] at hv hlen
    rw [hv]
    have HRD := Lib.hid hrd'
    have HN := Lib.hid hN
    have HBS := Lib.hid hbs
    have HP := Lib.hid hpre
    clear hbs hrd' hrd hv ho hless hrow hnp hrv hQ hD R2 hpre hN
    gi_wp2_with (refine ⟨trivial, (fun h => by cases h), ?_⟩; gi_at_call 82; refine (CallsIn.inRound l2 (callsIn_wide.2 (cloneE_calls A N c bs W2 HRD.out (by omega)))).mono ?_; rintro e w3 ⟨v, rfl, hown, hbel⟩; obtain ⟨A', c', rfl, hrd'⟩ := hown.rd; have HO := Lib.hid hown; have HB := Lib.hid hbel; clear hown hbel hrd')
    have hNv : ∀ k ∈ (Value.slice A' N c').ownBlock.toList, W2.heap.size ≤ k ∧ k < w3.heap.size := fun k hk => HO.out.lt k (by simpa using hk)
    gi_loopw [20] (fun p wr => ∃ k : Nat, k ≤ N ∧ p = .int .i64 k ∧ J (uptoQ h L pre ++ ask h ((rowp L i).take k)) ([W.heap.size, W.heap.size + 1] ++ ((Value.slice A' N c').ownBlock.toList ++ Z)) wr ∧ wr.cell? ⟨W.heap.size, 0, none⟩ = some (.func (.yield l) #[] #[]) ∧ wr.cell? ⟨W.heap.size + 1, 0, none⟩ = some (.slice (some ⟨q, 3, none⟩) 10 10) ∧ OwnC 143 1 (fun _ => True) wr W2.heap.size (.slice A' N c') N (bs.map ev) ∧ ZK Z W2 wr) (fun p _ => N - (intOf p).toNat)
    case atStart =>
      refine ⟨0, by omega, by first | rfl | go_num, ?_, stays_ HB.out hc1, stays_ HB.out hc2, HO.out, HB.out.size, fun k hk => ?_⟩
      · rw [List.take_zero, show ask h [] = [] from rfl, List.append_nil]
        exact hJ.sub _ _ _ _ (hJ.guest _ _ _ _ _ hJ2 HB.out hNv) (fun k hk => by simp only [List.mem_append] at hk ⊢; rcases hk with h | h | h <;> simp [h])
      · exact HB.out.block k (hZ k hk)
    case round =>
      obtain ⟨k, hk, rfl, hJs, hcs1, hcs2, hos, hzk⟩ := hrel
      by_cases hkN : k < N
      · have hkL : k < (rowp L i).length := by rw [HN.out]; exact hkN
        obtain ⟨e, he⟩ : ∃ e, (rowp L i)[k] = e := ⟨_, rfl⟩
        have heL : e ∈ L ∧ e.m.pr = i := mem_rowp.1 (by rw [← he]; exact List.getElem_mem _)
        obtain ⟨ad, rfl, hcad⟩ : ∃ ad, A' = some ad ∧ wr.cell? (ad.add k) = some (ev (bk e.id)) := by
          obtain ⟨A2, c2, hh, hrd⟩ := hos.rd
          simp only [Value.slice.injEq, true_and] at hh
          obtain ⟨rfl, rfl⟩ := hh
          exact hrd.cell k _ (by rw [HBS.out, List.map_map, List.getElem?_map, List.getElem?_eq_getElem hkL, he]; rfl)
        have R3 := hR _ _ _ hJs
        obtain ⟨rv3, D3, hD3, hQ3, -⟩ := R3.st
        have hbh := R3.bh
        have hent := hQ3.ent e (mem_less.2 ⟨heL.1, fun hm => by
          obtain ⟨e', h1, h2⟩ := hD3 _ hm
          rcases List.mem_append.1 h1 with h1 | h1
          · have h3 := mem_upto.1 h1
            have := sorted_uniq hS heL.1 h3.1 h2.symm
            subst this
            have h4 := h3.2.2
            rw [HP.out] at h4
            have := prs_take _ _ h4
            omega
          · have h3 := (mem_ask.1 h1).1
            have := sorted_take (hS.sublist (rowp_sub L i)) hkL h3
            rw [he] at this
            omega⟩)
        have hheld : wr.cell? ⟨bk e.id, 7, none⟩ = some (.bool e.held) := cell_of_heap hent 7 _ rfl
        unfold ev at hcad
        have hkI : (k : Int) < N := by omega
        clear R3 hD3 hQ3 hent
        by_cases hh : e.held = h
        · rw [hh] at hheld
          have hpx : (uptoQ h L pre ++ ask h ((rowp L i).take k)) ++ [e] <+: ordQ h L := by
            have h1 := upto_prefix (h := h) (L := L) (k := pre.length) (j := k + 1) (i := i) (by omega) hi9 hkL
            rw [ask_take_succ h _ k hkL, he, hh, ← HP.out] at h1
            simpa using h1
          obtain ⟨fn, tmps, assign, body, hy, hRd⟩ := hY (n - 1 - 1 - 1) _ e _ wr.drew (hJ.guest _ _ [] _ _ hJs (below_drew wr) (by simp)) hpx
          have HRd := Lib.hid (hRd.mono fun _ _ h => rndZ_cases h)
          unfold ev at hy
          have HPX := Lib.hid hpx
          have HJS := Lib.hid hJs
          clear hRd hpx hJs
          gi_wp2_with fail
          gi_region_with (refine ⟨(fun h => by cases h), ?_⟩; refine (RoundIn.inRound l2 HRd.out).mono ?_; rintro e4 W4 ⟨b, rfl, hkf, hJ4⟩)
          all_goals
            have hkf' : wr.heap.size ≤ W4.heap.size ∧ ∀ k ∈ [W.heap.size, W.heap.size + 1] ++ ((Value.slice (some ad) N c').ownBlock.toList ++ Z), W4.heap[k]? = wr.heap[k]? := hkf.out
            have hz4 := Lib.hid (hzk.trans ⟨hkf'.1, fun k hk => hkf'.2 k (by simp [hk])⟩ : ZK Z W2 W4)
            have hd1 := Lib.hid (cell_of_block (hkf'.2 W.heap.size (by simp)) hcs1)
            have hd2 := Lib.hid (cell_of_block (hkf'.2 (W.heap.size + 1) (by simp)) hcs2)
            have ho4 := Lib.hid (hos.keep fun k hk => hkf'.2 k (by simp [hk]))
            clear hkf' hkf
            cases b
            · gi_wp2_with fail
              refine ⟨hz4.out, _, hJx.sub _ _ _ _ hJ4.out ?_, rfl, fun k hk => ⟨(hG k hk).1, Nat.lt_of_lt_of_le (hG k hk).2 hz4.out.1⟩, fun k hk => Nat.lt_of_lt_of_le (hZ k hk) hz4.out.1⟩
              exact fun k hk => by simp only [List.mem_append, List.nil_append] at hk ⊢; rcases hk with h | h <;> simp [h]
            · gi_wp2_with fail
              refine ⟨⟨k + 1, hkN, by go_num, ?_, hd1.out, hd2.out, ho4.out, hz4.out⟩, by simp [intOf]; omega⟩
              rw [ask_take_succ h _ k hkL, he, hh, if_pos (by simp), ← List.append_assoc]
              exact hJ4.out
        · have hnb : (e.held == h) = false := by simpa using hh
          have HJS := Lib.hid hJs
          clear hJs hh
          gi_wp2_with fail
          gi_region_with (refine ⟨fun _ h => (by cases h), ?_⟩)
          all_goals
            gi_wp2_with fail
            refine ⟨⟨k + 1, hkN, by go_num, ?_, hcs1, hcs2, hos, hzk.trans ⟨Nat.le_refl _, fun _ _ => rfl⟩⟩, by simp [intOf]; omega⟩
            rw [ask_take_succ h _ k hkL, he, if_neg (by simp [hnb]), List.append_nil]
            exact hJ.guest _ _ [] _ _ HJS.out (below_drew wr) (by simp)
      · obtain rfl : k = N := by omega
        have HJS := Lib.hid hJs
        clear hJs
        gi_wp2_with fail
        refine ⟨hzk, hJ.sub _ ([W.heap.size, W.heap.size + 1] ++ ((Value.slice A' k c').ownBlock.toList ++ Z)) _ _ ?_ ?_, ⟨hcs1, hcs2, ?_⟩, fun k hk => ⟨(hG k hk).1, Nat.lt_of_lt_of_le (hG k hk).2 hzk.1⟩, fun k hk => Nat.lt_of_lt_of_le (hZ k hk) hzk.1⟩
        · rw [upto_app, upto_one]
          have := HJS.out
          rw [← HN.out, List.take_length] at this
          rw [← HN.out]
          exact this
        · exact fun k hk => by simp only [List.mem_append] at hk ⊢; rcases hk with h | h <;> simp [h]
        · rw [List.length_append, List.length_singleton, prs_take_succ _ (by omega), ← hi9, ← HP.out]
  case done =>
    rintro D xs W3 hD hS3 hI hDD
    gi_wp2_with fail
    refine ⟨by simp, .inl ⟨_, _, rfl, run_takeDeferred hDD, ?_⟩⟩
    refine ⟨_, results_none rfl _ _ _, ⟨_, rfl⟩, .inl ⟨_, rfl, ?_⟩⟩
    have h1 : xs = prs := by
      have := hI.2.1.2.2
      rw [hS3] at this
      exact this
    rw [h1] at hI
    exact hJ.sub _ _ _ _ (hJ.zset _ _ _ _ hI.1 ((tch_put W3 D (.deferred none)).mono fun k hk => by simp at hk; simp [hk])) (fun k hk => by cases hk)
  case stop =>
    rintro D c pre W3 hD ⟨pre', hJ3, rfl, -⟩ hDD
    gi_wp2_with fail
    refine ⟨by simp, .inl ⟨_, _, rfl, run_takeDeferred hDD, ?_⟩⟩
    refine ⟨_, results_none rfl _ _ _, ⟨_, rfl⟩, .inr ⟨pre', ?_⟩⟩
    exact hJx.sub _ _ _ _ (hJx.zset _ _ _ _ hJ3 ((tch_put W3 D (.deferred none)).mono fun k hk => by simp at hk; simp [hk])) (fun k hk => by cases hk)
end Go.Proofs.Ytklgndmndnmdpaa
