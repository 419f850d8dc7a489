import Derived.Test.YtklgndmndnmdpaaHOpen
set_option linter.unusedVariables false
set_option linter.unusedSimpArgs false
namespace Go.Proofs.Ytklgndmndnmdpaa
open Go.RowKit Go.Shelf

theorem atC2 (a b : Cf) (x : List UInt8) : atC [a, b] x = if a.name = x then some 0 else if b.name = x then some 1 else none := by
  unfold atC
  by_cases h1 : a.name = x
  · simp [List.findIdx?_cons, h1]
  · by_cases h2 : b.name = x
    · simp [List.findIdx?_cons, h1, h2]
    · simp [List.findIdx?_cons, h1, h2]
theorem deadOk_a {a b : Cf} (hne : a.name ≠ b.name) : deadOk [a, b] a = (decide (a.dead = []) || (decide (a.dead = b.name) && decide (b.dead = []))) := by
  unfold deadOk
  rw [atC2]
  by_cases h1 : a.name = a.dead
  · have h2 : ¬ a.dead = b.name := fun h => hne (h1.trans h)
    rw [if_pos h1, decide_eq_false h2]
    show (decide (a.dead = []) || (decide (a.dead ≠ a.name) && _)) = _
    rw [decide_eq_false (fun h : a.dead ≠ a.name => h h1.symm)]
    rfl
  · by_cases h2 : b.name = a.dead
    · rw [if_neg h1, if_pos h2]
      show (decide (a.dead = []) || (decide (a.dead ≠ a.name) && decide (b.dead = []))) = _
      have h3 : a.dead ≠ a.name := fun h => h1 h.symm
      rw [decide_eq_true h3, decide_eq_true h2.symm]
    · have h2' : ¬ a.dead = b.name := fun h => h2 h.symm
      rw [if_neg h1, if_neg h2, decide_eq_false h2']
      rfl
theorem deadOk_b {a b : Cf} (hne : a.name ≠ b.name) : deadOk [a, b] b = (decide (b.dead = []) || (decide (b.dead = a.name) && decide (a.dead = []))) := by
  unfold deadOk
  rw [atC2]
  by_cases h1 : a.name = b.dead
  · rw [if_pos h1]
    show (decide (b.dead = []) || (decide (b.dead ≠ b.name) && decide (a.dead = []))) = _
    have h3 : b.dead ≠ b.name := fun h => hne (h1.trans h)
    rw [decide_eq_true h3, decide_eq_true h1.symm]
  · have h3 : ¬ b.dead = a.name := fun h => h1 h.symm
    by_cases h2 : b.name = b.dead
    · rw [if_neg h1, if_pos h2, decide_eq_false h3]
      show (decide (b.dead = []) || (decide (b.dead ≠ b.name) && _)) = _
      rw [decide_eq_false (fun h : b.dead ≠ b.name => h h2.symm)]
      rfl
    · rw [if_neg h1, if_neg h2, decide_eq_false h3]
      rfl
theorem newH2_bad {a b : Cf} (h : (okCf a && okCf b) = false) : newH [a, b] = 1 := by
  unfold newH
  rw [if_neg (by simp), if_pos]
  simpa using h
theorem newH2_twice {a b : Cf} (h : (okCf a && okCf b) = true) (hn : a.name = b.name) : newH [a, b] = 8 := by
  unfold newH
  rw [if_neg (by simp), if_neg (by simpa using h), if_neg (by simp [hn])]
theorem newH2_ok {a b : Cf} (h : (okCf a && okCf b) = true) (hn : a.name ≠ b.name) : newH [a, b] = if (decide (a.dead = []) || (decide (a.dead = b.name) && decide (b.dead = []))) && (decide (b.dead = []) || (decide (b.dead = a.name) && decide (a.dead = []))) then 0 else 1 := by
  unfold newH
  rw [if_neg (by simp), if_neg (by simpa using h), if_pos (by simp [hn])]
  rw [← deadOk_a hn, ← deadOk_b hn]
  simp
theorem cfs_arr (a : Cf) : (cfs a).toArray = #[.string ⟨a.name.toArray⟩, .int .i64 a.room, .int .i64 a.limit, .string ⟨a.dead.toArray⟩] := rfl
set_option maxRecDepth 100000 in
set_option maxHeartbeats 8000000 in
theorem refuses_row {w : World} (a b : Cf) (ha : WfC a) (hb : WfC b) :
    Calls Try.prog 3 #[.agg (cfs a).toArray, .agg (cfs b).toArray] w fun e w' => e = .returned (.bool true) ∧ Below w.heap.size w w' := by
  have hnew := fun W (hbW : Below w.heap.size w W) => hnew_calls (w0 := w) (w := W.alloc (.cells #[.string ⟨a.name.toArray⟩, .int .i64 a.room, .int .i64 a.limit, .string ⟨a.dead.toArray⟩, .string ⟨b.name.toArray⟩, .int .i64 b.room, .int .i64 b.limit, .string ⟨b.dead.toArray⟩] 23)) (hbW.alloc hbW.size _) (some ⟨W.heap.size, 0, none⟩) 2 2 [a, b]
    (rdc_box (w := W) (e := 23) ([a, b].flatMap cfs) 2 4 rfl (fun u hu => by obtain ⟨c, _, hc⟩ := List.mem_flatMap.1 hu; exact cfs_one c u hc) (by decide)) (by decide) (fun x hx => by simp only [List.mem_cons, List.not_mem_nil, or_false] at hx; rcases hx with rfl | rfl; exact ha; exact hb)
  have HNEW := Lib.hid hnew
  clear hnew ha hb
  rw [cfs_arr, cfs_arr]
  go_enter Try.func3, Try.ntmps3
  go_wp2_with fail
  obtain ⟨wb, hwb⟩ : ∃ wb, wb = (w.alloc (.cells #[.string ⟨a.name.toArray⟩, .int .i64 a.room, .int .i64 a.limit, .string ⟨a.dead.toArray⟩] 23)).alloc (.cells #[.string ⟨b.name.toArray⟩, .int .i64 b.room, .int .i64 b.limit, .string ⟨b.dead.toArray⟩] 23) := ⟨_, rfl⟩
  obtain ⟨g, hg⟩ : ∃ g, w.heap.size = g := ⟨_, rfl⟩
  have hbw : Below w.heap.size w wb := by rw [hwb]; exact below2 w _ _
  have hsz : wb.heap.size = g + 1 + 1 := by rw [hwb]; simp [hg]
  have hxa : Bx wb g 23 (cfs a) := by rw [hwb]; exact (Bx.new' w 23 (cfs a) hg.symm).alloc _
  have hxb : Bx wb (g + 1) 23 (cfs b) := by rw [hwb]; exact Bx.new' (w.alloc _) (b := g + 1) 23 (cfs b) (by simp; omega)
  have hcl := HNEW.out wb hbw
  rw [hsz] at hcl
  rw [← hwb, hg]
  refine hcl.mono ?_
  rintro e w1 ⟨p, rfl, hb1, hn0, h0⟩
  have hbw1 : Below w.heap.size w w1 := below_then hbw hbw.size (below_then (below_alloc wb _) (by simp) hb1)
  have hb11 : Below wb.heap.size wb w1 := below_then (below_alloc wb _) (by simp) hb1
  have k1 := hxa.below hb11
  have k2 := hxb.below hb11
  have hpn : newH [a, b] = 0 ∧ p ≠ none ∨ newH [a, b] ≠ 0 ∧ p = none := by
    by_cases hz : newH [a, b] = 0
    · obtain ⟨h, Qs, hp, -⟩ := h0 hz
      exact .inl ⟨hz, by rw [hp]; simp⟩
    · exact .inr ⟨hz, hn0 hz⟩
  have HPN := Lib.hid hpn
  have HBW := Lib.hid hbw1
  have a0 := k1.cell 0 (.string ⟨a.name.toArray⟩) rfl
  have a1 := k1.cell 1 (.int .i64 a.room) rfl
  have a2 := k1.cell 2 (.int .i64 a.limit) rfl
  have a3 := k1.cell 3 (.string ⟨a.dead.toArray⟩) rfl
  have b0 := k2.cell 0 (.string ⟨b.name.toArray⟩) rfl
  have b1 := k2.cell 1 (.int .i64 b.room) rfl
  have b2 := k2.cell 2 (.int .i64 b.limit) rfl
  have b3 := k2.cell 3 (.string ⟨b.dead.toArray⟩) rfl
  have kl1 := k1.lt
  have kl2 := k2.lt
  obtain ⟨N, hN⟩ : ∃ N : Int, ((newH [a, b] : Nat) : Int) = N := ⟨_, rfl⟩
  rw [hN]
  have HN := Lib.hid hN
  have K1 := Lib.hid k1
  have K2 := Lib.hid k2
  clear hcl hwb hbw hsz hxa hxb hb1 hn0 h0 hbw1 hb11 k1 k2 hpn hN HNEW
  go_wp2_with fail
  obtain ⟨gl, hgl⟩ : ∃ gl, w1.heap.size = gl := ⟨_, rfl⟩
  rw [hgl]
  refine forget (fun W => Below w.heap.size w W ∧ Bx W g 23 (cfs a) ∧ Bx W (g + 1) 23 (cfs b) ∧ Bx W gl 23 (cfs a ++ cfs b)) ⟨HBW.out.alloc HBW.out.size _, K1.out.alloc _, K2.out.alloc _, Bx.new' w1 23 (cfs a ++ cfs b) hgl.symm⟩ ?_
  rintro W2 ⟨hbW, ka, kb, kc⟩
  have HBW2 := Lib.hid hbW
  have KA := Lib.hid ka
  have KB := Lib.hid kb
  have c0 := kc.cell 0 (.string ⟨a.name.toArray⟩) rfl
  have c1 := kc.cell 1 (.int .i64 a.room) rfl
  have c2 := kc.cell 2 (.int .i64 a.limit) rfl
  have c4 := kc.cell 4 (.string ⟨b.name.toArray⟩) rfl
  have c5 := kc.cell 5 (.int .i64 b.room) rfl
  have c6 := kc.cell 6 (.int .i64 b.limit) rfl
  clear hbW ka kb kc a0 a1 a2 a3 b0 b1 b2 b3 kl1 kl2 K1 K2 HBW hgl
  go_loopw [7, 9] (fun f i wr => ∃ k : Nat, k ≤ 2 ∧ i = .int .i64 k ∧ f = .bool (if k = 0 then true else if k = 1 then okCf a else okCf a && okCf b) ∧ W2 = wr) (fun _ i _ => 2 - (intOf i).toNat)
  case atStart => exact ⟨0, by omega, rfl, rfl, rfl⟩
  case round =>
    obtain ⟨k, hk, rfl, rfl, rfl⟩ := hrel
    have hkc : k = 0 ∨ k = 1 ∨ k = 2 := by omega
    rcases hkc with rfl | rfl | rfl
    · simp only [if_true]
      by_cases q0 : 1 ≤ (a.name.length : Int)
      rotate_left
      · have HF := Lib.hid (show okCf a = false from decide_eq_false (by omega))
        clear HPN
        go_wp2_with fail
        exact ⟨⟨1, by omega, by go_num, by rw [HF.out]; rfl, trivial⟩, by simp [intOf]⟩
      by_cases q1 : (a.name.length : Int) ≤ 64
      rotate_left
      · have HF := Lib.hid (show okCf a = false from decide_eq_false (by omega))
        clear HPN
        go_wp2_with fail
        exact ⟨⟨1, by omega, by go_num, by rw [HF.out]; rfl, trivial⟩, by simp [intOf]⟩
      by_cases q2 : 1 ≤ a.room
      rotate_left
      · have HF := Lib.hid (show okCf a = false from decide_eq_false (by omega))
        clear HPN
        go_wp2_with fail
        exact ⟨⟨1, by omega, by go_num, by rw [HF.out]; rfl, trivial⟩, by simp [intOf]⟩
      by_cases q3 : a.room ≤ 64
      rotate_left
      · have HF := Lib.hid (show okCf a = false from decide_eq_false (by omega))
        clear HPN
        go_wp2_with fail
        exact ⟨⟨1, by omega, by go_num, by rw [HF.out]; rfl, trivial⟩, by simp [intOf]⟩
      by_cases q4 : 0 ≤ a.limit
      rotate_left
      · have HF := Lib.hid (show okCf a = false from decide_eq_false (by omega))
        clear HPN
        go_wp2_with fail
        exact ⟨⟨1, by omega, by go_num, by rw [HF.out]; rfl, trivial⟩, by simp [intOf]⟩
      by_cases q5 : a.limit ≤ 1000
      rotate_left
      · have HF := Lib.hid (show okCf a = false from decide_eq_false (by omega))
        clear HPN
        go_wp2_with fail
        exact ⟨⟨1, by omega, by go_num, by rw [HF.out]; rfl, trivial⟩, by simp [intOf]⟩
      have HF := Lib.hid (show okCf a = true from decide_eq_true (by omega))
      go_wp2_with fail
      exact ⟨⟨1, by omega, by go_num, by rw [HF.out]; rfl, trivial⟩, by simp [intOf]⟩
    · cases hfa : okCf a with
      | false =>
        have HFA := Lib.hid hfa
        clear hfa
        go_wp2_with fail
        exact ⟨⟨2, by omega, by go_num, by rfl, trivial⟩, by simp [intOf]⟩
      | true =>
        have HFA := Lib.hid hfa
        clear hfa
        by_cases q0 : 1 ≤ (b.name.length : Int)
        rotate_left
        · have HF := Lib.hid (show okCf b = false from decide_eq_false (by omega))
          clear HPN
          go_wp2_with fail
          exact ⟨⟨2, by omega, by go_num, by rw [HF.out]; rfl, trivial⟩, by simp [intOf]⟩
        by_cases q1 : (b.name.length : Int) ≤ 64
        rotate_left
        · have HF := Lib.hid (show okCf b = false from decide_eq_false (by omega))
          clear HPN
          go_wp2_with fail
          exact ⟨⟨2, by omega, by go_num, by rw [HF.out]; rfl, trivial⟩, by simp [intOf]⟩
        by_cases q2 : 1 ≤ b.room
        rotate_left
        · have HF := Lib.hid (show okCf b = false from decide_eq_false (by omega))
          clear HPN
          go_wp2_with fail
          exact ⟨⟨2, by omega, by go_num, by rw [HF.out]; rfl, trivial⟩, by simp [intOf]⟩
        by_cases q3 : b.room ≤ 64
        rotate_left
        · have HF := Lib.hid (show okCf b = false from decide_eq_false (by omega))
          clear HPN
          go_wp2_with fail
          exact ⟨⟨2, by omega, by go_num, by rw [HF.out]; rfl, trivial⟩, by simp [intOf]⟩
        by_cases q4 : 0 ≤ b.limit
        rotate_left
        · have HF := Lib.hid (show okCf b = false from decide_eq_false (by omega))
          clear HPN
          go_wp2_with fail
          exact ⟨⟨2, by omega, by go_num, by rw [HF.out]; rfl, trivial⟩, by simp [intOf]⟩
        by_cases q5 : b.limit ≤ 1000
        rotate_left
        · have HF := Lib.hid (show okCf b = false from decide_eq_false (by omega))
          clear HPN
          go_wp2_with fail
          exact ⟨⟨2, by omega, by go_num, by rw [HF.out]; rfl, trivial⟩, by simp [intOf]⟩
        have HF := Lib.hid (show okCf b = true from decide_eq_true (by omega))
        go_wp2_with fail
        exact ⟨⟨2, by omega, by go_num, by rw [HF.out]; rfl, trivial⟩, by simp [intOf]⟩
    · cases hF : okCf a && okCf b with
      | false =>
        obtain rfl : N = 1 := by rw [← HN.out, newH2_bad hF]; rfl
        obtain rfl : p = none := by
          rcases HPN.out with ⟨h, -⟩ | ⟨-, h⟩
          · rw [newH2_bad hF] at h; cases h
          · exact h
        rw [show (if (2 : Nat) = 0 then true else if (2 : Nat) = 1 then okCf a else false) = false from rfl]
        clear hF HPN HN
        go_wp2_with fail
        refine (works_calls _).mono ?_
        rintro e w7 ⟨rfl, b7⟩
        have B7 := Lib.hid b7
        clear b7
        go_wp2_with fail
        go_ret
        exact ⟨rfl, below_then HBW2.out HBW2.out.size B7.out⟩
      | true =>
        have a0 := KA.out.cell 0 (.string ⟨a.name.toArray⟩) rfl
        have a3 := KA.out.cell 3 (.string ⟨a.dead.toArray⟩) rfl
        have b0 := KB.out.cell 0 (.string ⟨b.name.toArray⟩) rfl
        have b3 := KB.out.cell 3 (.string ⟨b.dead.toArray⟩) rfl
        rw [show (if (2 : Nat) = 0 then true else if (2 : Nat) = 1 then okCf a else true) = true from rfl]
        by_cases hn : a.name = b.name
        · have hnb : (a.name == b.name) = true := by rw [hn]; simp
          obtain rfl : N = 8 := by rw [← HN.out, newH2_twice hF hn]; rfl
          obtain rfl : p = none := by
            rcases HPN.out with ⟨h, -⟩ | ⟨-, h⟩
            · rw [newH2_twice hF hn] at h; cases h
            · exact h
          clear hn hF HPN HN
          go_wp2_with fail
          refine (works_calls _).mono ?_
          rintro e w7 ⟨rfl, b7⟩
          have B7 := Lib.hid b7
          clear b7
          go_wp2_with fail
          go_ret
          exact ⟨rfl, below_then HBW2.out HBW2.out.size B7.out⟩
        have hnb : (a.name == b.name) = false := by simpa using hn
        have hN := newH2_ok hF hn
        by_cases qA : a.dead = []
        · by_cases qAN : a.dead = b.name
          · by_cases qB : b.dead = []
            · by_cases qBN : b.dead = a.name
              · rw [decide_eq_true qA, decide_eq_true qAN, decide_eq_true qB, decide_eq_true qBN] at hN
                have eA : a.dead.isEmpty = true := by simpa using qA
                have eAN : (a.dead == b.name) = true := by simpa using qAN
                have eB : b.dead.isEmpty = true := by simpa using qB
                have eBN : (b.dead == a.name) = true := by simpa using qBN
                have hN0 : newH [a, b] = 0 := hN
                obtain ⟨ad, rfl⟩ : ∃ ad, p = some ad := by
                  rcases HPN.out with ⟨-, h⟩ | ⟨h, -⟩
                  · exact Option.ne_none_iff_exists'.1 h
                  · exact absurd hN0 h
                obtain rfl : N = 0 := by rw [← HN.out, hN0]; rfl
                clear hN0
                clear qA qAN qB qBN hN hn hF HPN HN
                go_wp2_with fail
                refine (works_calls _).mono ?_
                rintro e w7 ⟨rfl, b7⟩
                have B7 := Lib.hid b7
                clear b7
                go_wp2_with fail
                go_ret
                exact ⟨rfl, below_then HBW2.out HBW2.out.size B7.out⟩
              · rw [decide_eq_true qA, decide_eq_true qAN, decide_eq_true qB, decide_eq_false qBN] at hN
                have eA : a.dead.isEmpty = true := by simpa using qA
                have eAN : (a.dead == b.name) = true := by simpa using qAN
                have eB : b.dead.isEmpty = true := by simpa using qB
                have eBN : (b.dead == a.name) = false := by simpa using qBN
                have hN0 : newH [a, b] = 0 := hN
                obtain ⟨ad, rfl⟩ : ∃ ad, p = some ad := by
                  rcases HPN.out with ⟨-, h⟩ | ⟨h, -⟩
                  · exact Option.ne_none_iff_exists'.1 h
                  · exact absurd hN0 h
                obtain rfl : N = 0 := by rw [← HN.out, hN0]; rfl
                clear hN0
                clear qA qAN qB qBN hN hn hF HPN HN
                go_wp2_with fail
                refine (works_calls _).mono ?_
                rintro e w7 ⟨rfl, b7⟩
                have B7 := Lib.hid b7
                clear b7
                go_wp2_with fail
                go_ret
                exact ⟨rfl, below_then HBW2.out HBW2.out.size B7.out⟩
            · by_cases qBN : b.dead = a.name
              · rw [decide_eq_true qA, decide_eq_true qAN, decide_eq_false qB, decide_eq_true qBN] at hN
                have eA : a.dead.isEmpty = true := by simpa using qA
                have eAN : (a.dead == b.name) = true := by simpa using qAN
                have eB : b.dead.isEmpty = false := by simpa using qB
                have eBN : (b.dead == a.name) = true := by simpa using qBN
                have hN0 : newH [a, b] = 0 := hN
                obtain ⟨ad, rfl⟩ : ∃ ad, p = some ad := by
                  rcases HPN.out with ⟨-, h⟩ | ⟨h, -⟩
                  · exact Option.ne_none_iff_exists'.1 h
                  · exact absurd hN0 h
                obtain rfl : N = 0 := by rw [← HN.out, hN0]; rfl
                clear hN0
                clear qA qAN qB qBN hN hn hF HPN HN
                go_wp2_with fail
                refine (works_calls _).mono ?_
                rintro e w7 ⟨rfl, b7⟩
                have B7 := Lib.hid b7
                clear b7
                go_wp2_with fail
                go_ret
                exact ⟨rfl, below_then HBW2.out HBW2.out.size B7.out⟩
              · rw [decide_eq_true qA, decide_eq_true qAN, decide_eq_false qB, decide_eq_false qBN] at hN
                have eA : a.dead.isEmpty = true := by simpa using qA
                have eAN : (a.dead == b.name) = true := by simpa using qAN
                have eB : b.dead.isEmpty = false := by simpa using qB
                have eBN : (b.dead == a.name) = false := by simpa using qBN
                have hN0 : newH [a, b] = 1 := hN
                obtain rfl : p = none := by
                  rcases HPN.out with ⟨h, -⟩ | ⟨-, h⟩
                  · rw [hN0] at h; cases h
                  · exact h
                obtain rfl : N = 1 := by rw [← HN.out, hN0]; rfl
                clear hN0
                clear qA qAN qB qBN hN hn hF HPN HN
                go_wp2_with fail
                refine (works_calls _).mono ?_
                rintro e w7 ⟨rfl, b7⟩
                have B7 := Lib.hid b7
                clear b7
                go_wp2_with fail
                go_ret
                exact ⟨rfl, below_then HBW2.out HBW2.out.size B7.out⟩
          · by_cases qB : b.dead = []
            · by_cases qBN : b.dead = a.name
              · rw [decide_eq_true qA, decide_eq_false qAN, decide_eq_true qB, decide_eq_true qBN] at hN
                have eA : a.dead.isEmpty = true := by simpa using qA
                have eAN : (a.dead == b.name) = false := by simpa using qAN
                have eB : b.dead.isEmpty = true := by simpa using qB
                have eBN : (b.dead == a.name) = true := by simpa using qBN
                have hN0 : newH [a, b] = 0 := hN
                obtain ⟨ad, rfl⟩ : ∃ ad, p = some ad := by
                  rcases HPN.out with ⟨-, h⟩ | ⟨h, -⟩
                  · exact Option.ne_none_iff_exists'.1 h
                  · exact absurd hN0 h
                obtain rfl : N = 0 := by rw [← HN.out, hN0]; rfl
                clear hN0
                clear qA qAN qB qBN hN hn hF HPN HN
                go_wp2_with fail
                refine (works_calls _).mono ?_
                rintro e w7 ⟨rfl, b7⟩
                have B7 := Lib.hid b7
                clear b7
                go_wp2_with fail
                go_ret
                exact ⟨rfl, below_then HBW2.out HBW2.out.size B7.out⟩
              · rw [decide_eq_true qA, decide_eq_false qAN, decide_eq_true qB, decide_eq_false qBN] at hN
                have eA : a.dead.isEmpty = true := by simpa using qA
                have eAN : (a.dead == b.name) = false := by simpa using qAN
                have eB : b.dead.isEmpty = true := by simpa using qB
                have eBN : (b.dead == a.name) = false := by simpa using qBN
                have hN0 : newH [a, b] = 0 := hN
                obtain ⟨ad, rfl⟩ : ∃ ad, p = some ad := by
                  rcases HPN.out with ⟨-, h⟩ | ⟨h, -⟩
                  · exact Option.ne_none_iff_exists'.1 h
                  · exact absurd hN0 h
                obtain rfl : N = 0 := by rw [← HN.out, hN0]; rfl
                clear hN0
                clear qA qAN qB qBN hN hn hF HPN HN
                go_wp2_with fail
                refine (works_calls _).mono ?_
                rintro e w7 ⟨rfl, b7⟩
                have B7 := Lib.hid b7
                clear b7
                go_wp2_with fail
                go_ret
                exact ⟨rfl, below_then HBW2.out HBW2.out.size B7.out⟩
            · by_cases qBN : b.dead = a.name
              · rw [decide_eq_true qA, decide_eq_false qAN, decide_eq_false qB, decide_eq_true qBN] at hN
                have eA : a.dead.isEmpty = true := by simpa using qA
                have eAN : (a.dead == b.name) = false := by simpa using qAN
                have eB : b.dead.isEmpty = false := by simpa using qB
                have eBN : (b.dead == a.name) = true := by simpa using qBN
                have hN0 : newH [a, b] = 0 := hN
                obtain ⟨ad, rfl⟩ : ∃ ad, p = some ad := by
                  rcases HPN.out with ⟨-, h⟩ | ⟨h, -⟩
                  · exact Option.ne_none_iff_exists'.1 h
                  · exact absurd hN0 h
                obtain rfl : N = 0 := by rw [← HN.out, hN0]; rfl
                clear hN0
                clear qA qAN qB qBN hN hn hF HPN HN
                go_wp2_with fail
                refine (works_calls _).mono ?_
                rintro e w7 ⟨rfl, b7⟩
                have B7 := Lib.hid b7
                clear b7
                go_wp2_with fail
                go_ret
                exact ⟨rfl, below_then HBW2.out HBW2.out.size B7.out⟩
              · rw [decide_eq_true qA, decide_eq_false qAN, decide_eq_false qB, decide_eq_false qBN] at hN
                have eA : a.dead.isEmpty = true := by simpa using qA
                have eAN : (a.dead == b.name) = false := by simpa using qAN
                have eB : b.dead.isEmpty = false := by simpa using qB
                have eBN : (b.dead == a.name) = false := by simpa using qBN
                have hN0 : newH [a, b] = 1 := hN
                obtain rfl : p = none := by
                  rcases HPN.out with ⟨h, -⟩ | ⟨-, h⟩
                  · rw [hN0] at h; cases h
                  · exact h
                obtain rfl : N = 1 := by rw [← HN.out, hN0]; rfl
                clear hN0
                clear qA qAN qB qBN hN hn hF HPN HN
                go_wp2_with fail
                refine (works_calls _).mono ?_
                rintro e w7 ⟨rfl, b7⟩
                have B7 := Lib.hid b7
                clear b7
                go_wp2_with fail
                go_ret
                exact ⟨rfl, below_then HBW2.out HBW2.out.size B7.out⟩
        · by_cases qAN : a.dead = b.name
          · by_cases qB : b.dead = []
            · by_cases qBN : b.dead = a.name
              · rw [decide_eq_false qA, decide_eq_true qAN, decide_eq_true qB, decide_eq_true qBN] at hN
                have eA : a.dead.isEmpty = false := by simpa using qA
                have eAN : (a.dead == b.name) = true := by simpa using qAN
                have eB : b.dead.isEmpty = true := by simpa using qB
                have eBN : (b.dead == a.name) = true := by simpa using qBN
                have hN0 : newH [a, b] = 0 := hN
                obtain ⟨ad, rfl⟩ : ∃ ad, p = some ad := by
                  rcases HPN.out with ⟨-, h⟩ | ⟨h, -⟩
                  · exact Option.ne_none_iff_exists'.1 h
                  · exact absurd hN0 h
                obtain rfl : N = 0 := by rw [← HN.out, hN0]; rfl
                clear hN0
                clear qA qAN qB qBN hN hn hF HPN HN
                go_wp2_with fail
                refine (works_calls _).mono ?_
                rintro e w7 ⟨rfl, b7⟩
                have B7 := Lib.hid b7
                clear b7
                go_wp2_with fail
                go_ret
                exact ⟨rfl, below_then HBW2.out HBW2.out.size B7.out⟩
              · rw [decide_eq_false qA, decide_eq_true qAN, decide_eq_true qB, decide_eq_false qBN] at hN
                have eA : a.dead.isEmpty = false := by simpa using qA
                have eAN : (a.dead == b.name) = true := by simpa using qAN
                have eB : b.dead.isEmpty = true := by simpa using qB
                have eBN : (b.dead == a.name) = false := by simpa using qBN
                have hN0 : newH [a, b] = 0 := hN
                obtain ⟨ad, rfl⟩ : ∃ ad, p = some ad := by
                  rcases HPN.out with ⟨-, h⟩ | ⟨h, -⟩
                  · exact Option.ne_none_iff_exists'.1 h
                  · exact absurd hN0 h
                obtain rfl : N = 0 := by rw [← HN.out, hN0]; rfl
                clear hN0
                clear qA qAN qB qBN hN hn hF HPN HN
                go_wp2_with fail
                refine (works_calls _).mono ?_
                rintro e w7 ⟨rfl, b7⟩
                have B7 := Lib.hid b7
                clear b7
                go_wp2_with fail
                go_ret
                exact ⟨rfl, below_then HBW2.out HBW2.out.size B7.out⟩
            · by_cases qBN : b.dead = a.name
              · rw [decide_eq_false qA, decide_eq_true qAN, decide_eq_false qB, decide_eq_true qBN] at hN
                have eA : a.dead.isEmpty = false := by simpa using qA
                have eAN : (a.dead == b.name) = true := by simpa using qAN
                have eB : b.dead.isEmpty = false := by simpa using qB
                have eBN : (b.dead == a.name) = true := by simpa using qBN
                have hN0 : newH [a, b] = 1 := hN
                obtain rfl : p = none := by
                  rcases HPN.out with ⟨h, -⟩ | ⟨-, h⟩
                  · rw [hN0] at h; cases h
                  · exact h
                obtain rfl : N = 1 := by rw [← HN.out, hN0]; rfl
                clear hN0
                clear qA qAN qB qBN hN hn hF HPN HN
                go_wp2_with fail
                refine (works_calls _).mono ?_
                rintro e w7 ⟨rfl, b7⟩
                have B7 := Lib.hid b7
                clear b7
                go_wp2_with fail
                go_ret
                exact ⟨rfl, below_then HBW2.out HBW2.out.size B7.out⟩
              · rw [decide_eq_false qA, decide_eq_true qAN, decide_eq_false qB, decide_eq_false qBN] at hN
                have eA : a.dead.isEmpty = false := by simpa using qA
                have eAN : (a.dead == b.name) = true := by simpa using qAN
                have eB : b.dead.isEmpty = false := by simpa using qB
                have eBN : (b.dead == a.name) = false := by simpa using qBN
                have hN0 : newH [a, b] = 1 := hN
                obtain rfl : p = none := by
                  rcases HPN.out with ⟨h, -⟩ | ⟨-, h⟩
                  · rw [hN0] at h; cases h
                  · exact h
                obtain rfl : N = 1 := by rw [← HN.out, hN0]; rfl
                clear hN0
                clear qA qAN qB qBN hN hn hF HPN HN
                go_wp2_with fail
                refine (works_calls _).mono ?_
                rintro e w7 ⟨rfl, b7⟩
                have B7 := Lib.hid b7
                clear b7
                go_wp2_with fail
                go_ret
                exact ⟨rfl, below_then HBW2.out HBW2.out.size B7.out⟩
          · by_cases qB : b.dead = []
            · by_cases qBN : b.dead = a.name
              · rw [decide_eq_false qA, decide_eq_false qAN, decide_eq_true qB, decide_eq_true qBN] at hN
                have eA : a.dead.isEmpty = false := by simpa using qA
                have eAN : (a.dead == b.name) = false := by simpa using qAN
                have eB : b.dead.isEmpty = true := by simpa using qB
                have eBN : (b.dead == a.name) = true := by simpa using qBN
                have hN0 : newH [a, b] = 1 := hN
                obtain rfl : p = none := by
                  rcases HPN.out with ⟨h, -⟩ | ⟨-, h⟩
                  · rw [hN0] at h; cases h
                  · exact h
                obtain rfl : N = 1 := by rw [← HN.out, hN0]; rfl
                clear hN0
                clear qA qAN qB qBN hN hn hF HPN HN
                go_wp2_with fail
                refine (works_calls _).mono ?_
                rintro e w7 ⟨rfl, b7⟩
                have B7 := Lib.hid b7
                clear b7
                go_wp2_with fail
                go_ret
                exact ⟨rfl, below_then HBW2.out HBW2.out.size B7.out⟩
              · rw [decide_eq_false qA, decide_eq_false qAN, decide_eq_true qB, decide_eq_false qBN] at hN
                have eA : a.dead.isEmpty = false := by simpa using qA
                have eAN : (a.dead == b.name) = false := by simpa using qAN
                have eB : b.dead.isEmpty = true := by simpa using qB
                have eBN : (b.dead == a.name) = false := by simpa using qBN
                have hN0 : newH [a, b] = 1 := hN
                obtain rfl : p = none := by
                  rcases HPN.out with ⟨h, -⟩ | ⟨-, h⟩
                  · rw [hN0] at h; cases h
                  · exact h
                obtain rfl : N = 1 := by rw [← HN.out, hN0]; rfl
                clear hN0
                clear qA qAN qB qBN hN hn hF HPN HN
                go_wp2_with fail
                refine (works_calls _).mono ?_
                rintro e w7 ⟨rfl, b7⟩
                have B7 := Lib.hid b7
                clear b7
                go_wp2_with fail
                go_ret
                exact ⟨rfl, below_then HBW2.out HBW2.out.size B7.out⟩
            · by_cases qBN : b.dead = a.name
              · rw [decide_eq_false qA, decide_eq_false qAN, decide_eq_false qB, decide_eq_true qBN] at hN
                have eA : a.dead.isEmpty = false := by simpa using qA
                have eAN : (a.dead == b.name) = false := by simpa using qAN
                have eB : b.dead.isEmpty = false := by simpa using qB
                have eBN : (b.dead == a.name) = true := by simpa using qBN
                have hN0 : newH [a, b] = 1 := hN
                obtain rfl : p = none := by
                  rcases HPN.out with ⟨h, -⟩ | ⟨-, h⟩
                  · rw [hN0] at h; cases h
                  · exact h
                obtain rfl : N = 1 := by rw [← HN.out, hN0]; rfl
                clear hN0
                clear qA qAN qB qBN hN hn hF HPN HN
                go_wp2_with fail
                refine (works_calls _).mono ?_
                rintro e w7 ⟨rfl, b7⟩
                have B7 := Lib.hid b7
                clear b7
                go_wp2_with fail
                go_ret
                exact ⟨rfl, below_then HBW2.out HBW2.out.size B7.out⟩
              · rw [decide_eq_false qA, decide_eq_false qAN, decide_eq_false qB, decide_eq_false qBN] at hN
                have eA : a.dead.isEmpty = false := by simpa using qA
                have eAN : (a.dead == b.name) = false := by simpa using qAN
                have eB : b.dead.isEmpty = false := by simpa using qB
                have eBN : (b.dead == a.name) = false := by simpa using qBN
                have hN0 : newH [a, b] = 1 := hN
                obtain rfl : p = none := by
                  rcases HPN.out with ⟨h, -⟩ | ⟨-, h⟩
                  · rw [hN0] at h; cases h
                  · exact h
                obtain rfl : N = 1 := by rw [← HN.out, hN0]; rfl
                clear hN0
                clear qA qAN qB qBN hN hn hF HPN HN
                go_wp2_with fail
                refine (works_calls _).mono ?_
                rintro e w7 ⟨rfl, b7⟩
                have B7 := Lib.hid b7
                clear b7
                go_wp2_with fail
                go_ret
                exact ⟨rfl, below_then HBW2.out HBW2.out.size B7.out⟩
theorem refuses_rw {w : World} (a : Cf) (ha : WfC a) (b : Cf) (hb : WfC b) : Calls Try.prog 3 #[.agg (cfs a).toArray, .agg (cfs b).toArray] w fun e w' => e = .returned (.bool true) ∧ Below w.heap.size w w' := refuses_row a b ha hb
end Go.Proofs.Ytklgndmndnmdpaa
