import Derived.Test.YtgmoodcojpbbdaaTold
set_option linter.unusedVariables false
set_option linter.unusedSimpArgs false
namespace Go.Proofs.Ytgmoodcojpbbdaa
open Go.RowKit

/-- What is to be done: its cells; where its list lies, and how long it is. -/
structure OpD where
  K : Int
  t : List UInt8
  o : Outc
  A : Option Addr
  n : Nat
  c : Nat
  th : Ms
def opc (d : OpD) : List Value := [.int .i64 d.K, .string ⟨d.t.toArray⟩, .int .u8 d.o.k, .int .u64 d.o.a, .int .u64 d.o.b, .string ⟨d.o.c.toArray⟩, .slice d.A d.n d.c]
def opcs (l : List OpD) : List Value := l.flatMap opc
theorem flat_at {α : Type} (f : α → List Value) (sz : Nat) (l : List α) (hf : ∀ x ∈ l, (f x).length = sz) (i : Nat) (hi : i < l.length) (j : Nat) (hj : j < sz) : (l.flatMap f)[i * sz + j]? = (f l[i])[j]? := by
  induction l generalizing i with
  | nil => simp at hi
  | cons p ms ih =>
    have hl : (f p).length = sz := hf p (by simp)
    rw [List.flatMap_cons]
    cases i with
    | zero => rw [List.getElem?_append_left (by omega)]; simp
    | succ i =>
      have e : (i + 1) * sz + j - sz = i * sz + j := by rw [Nat.succ_mul]; omega
      rw [List.getElem?_append_right (by rw [hl, Nat.succ_mul]; omega), hl, e, ih (fun x hx => hf x (by simp [hx])) i (by simpa using hi)]
      rfl
theorem opcs_length (l : List OpD) : (opcs l).length = l.length * 7 := by
  induction l with
  | nil => rfl
  | cons p ms ih =>
    rw [opcs, List.flatMap_cons, List.length_append, List.length_cons]
    have : (ms.flatMap opc).length = ms.length * 7 := ih
    rw [this]
    simp [opc]
    omega
def OAt (W : World) (b off : Nat) (d : OpD) : Prop :=
  W.cell? ⟨b, off, none⟩ = some (.int .i64 d.K) ∧ W.cell? ⟨b, off + 1, none⟩ = some (.string ⟨d.t.toArray⟩) ∧ W.cell? ⟨b, off + 2, none⟩ = some (.int .u8 d.o.k) ∧ W.cell? ⟨b, off + 3, none⟩ = some (.int .u64 d.o.a) ∧
    W.cell? ⟨b, off + 4, none⟩ = some (.int .u64 d.o.b) ∧ W.cell? ⟨b, off + 5, none⟩ = some (.string ⟨d.o.c.toArray⟩) ∧ W.cell? ⟨b, off + 6, none⟩ = some (.slice d.A d.n d.c)
theorem op_at {w : World} {A : Option Addr} {n c : Nat} {l : List OpD} (h : RdC 7 w A n c (opcs l)) (i : Nat) (hi : i < l.length) : ∃ b o, A = some ⟨b, o, none⟩ ∧ OAt w b (o + i * 7) l[i] := by
  have hc : ∀ j u, (opc l[i])[j]? = some u → ∃ ad, A = some ad ∧ w.cell? (ad.add (i * 7 + j)) = some u := fun j u hj => by
    refine h.cell (i * 7 + j) u ?_
    have hj5 : j < 7 := by
      have := (List.getElem?_eq_some_iff.1 hj).1
      simpa [opc] using this
    rw [opcs, flat_at opc 7 l (fun _ _ => rfl) i hi j hj5]
    exact hj
  obtain ⟨ad, rfl, h0⟩ := hc 0 _ rfl
  obtain ⟨a1, e1, h1⟩ := hc 1 _ rfl
  obtain ⟨a2, e2, h2⟩ := hc 2 _ rfl
  obtain ⟨a3, e3, h3⟩ := hc 3 _ rfl
  obtain ⟨a4, e4, h4⟩ := hc 4 _ rfl
  obtain ⟨a5, e5, h5⟩ := hc 5 _ rfl
  obtain ⟨a6, e6, h6⟩ := hc 6 _ rfl
  cases e1; cases e2; cases e3; cases e4; cases e5; cases e6
  have hz : ∃ u, w.cell? ad = some u := by
    obtain ⟨a7, e7, h7⟩ := h.cell 0 (.int .i64 (l[0]'(by omega)).K) (by
      have := flat_at opc 7 l (fun _ _ => rfl) 0 (by omega) 0 (by omega)
      simpa [opc, opcs] using this)
    cases e7
    exact ⟨_, h7⟩
  obtain ⟨u, hu⟩ := hz
  have hs : ad.spot = none := by
    cases hs : ad.spot with
    | none => rfl
    | some s =>
      exfalso
      unfold World.cell? at hu
      simp only [hs] at hu
      split at hu <;> simp at hu
  obtain ⟨b, o, sp⟩ := ad
  cases hs
  rw [plain_add] at h0 h1 h2 h3 h4 h5 h6
  exact ⟨b, o, rfl, h0, by rw [Nat.add_assoc]; exact h1, by rw [Nat.add_assoc]; exact h2, by rw [Nat.add_assoc]; exact h3, by rw [Nat.add_assoc]; exact h4, by rw [Nat.add_assoc]; exact h5, by rw [Nat.add_assoc]; exact h6⟩
def vastD (d : OpD) : Bool := decide (1024 < d.t.length) || decide (100 < d.n)
def vastL (l : List OpD) : Bool := decide (100 < l.length) || l.any vastD
theorem vast_take {l : List OpD} {k : Nat} (hk : k < l.length) (h : (l.take k).any vastD = false) (h2 : vastD l[k] = false) : (l.take (k + 1)).any vastD = false := by
  rw [List.take_succ_eq_append_getElem hk, List.any_append, h]
  simp [h2]

set_option maxHeartbeats 1000000 in
theorem vast_calls (A : Option Addr) (n c : Nat) (l : List OpD) (w : World) (h : RdC 7 w A n c (opcs l)) :
    Calls Try.prog 10 #[.slice A n c] w fun e w' => e = .returned (.bool (vastL l)) ∧ w = w' := by
  have hl : n = l.length := by have := h.1; rw [opcs_length] at this; omega
  subst hl
  have H := Lib.hid h
  have hmx := h.2.2.1
  have hlc := h.2.1
  obtain ⟨N, hN⟩ : ∃ N, l.length = N := ⟨_, rfl⟩
  rw [hN] at hlc ⊢
  have HN := Lib.hid hN
  clear h hN
  by_cases hbig : 100 < N
  · have HV := Lib.hid (show vastL l = true by unfold vastL; rw [HN.out, decide_eq_true hbig]; rfl)
    go_enter Try.func10, Try.ntmps10
    go_wp2
    go_ret
    exact ⟨by rw [HV.out]; rfl, rfl⟩
  · have hb' : ¬ (100 : Int) < N := by omega
    have HB := Lib.hid hbig
    clear hbig
    go_enter Try.func10, Try.ntmps10
    go_wp2_with fail
    go_loopw [3] (fun i wr => ∃ k : Nat, k ≤ N ∧ i = .int .i64 k ∧ w = wr ∧ Hid ((l.take k).any vastD = false)) (fun i _ => N - (intOf i).toNat)
    case atStart => exact ⟨0, by omega, rfl, rfl, Lib.hid rfl⟩
    case round =>
      obtain ⟨k, hk, rfl, rfl, HT⟩ := hrel
      by_cases hkN : k < N
      · have hkl : k < l.length := by rw [HN.out]; exact hkN
        obtain ⟨b0, o0, e, g0, g1, g2, g3, g4, g5, g6⟩ := op_at H.out k hkl
        subst e
        have hkN' : (k : Int) < N := by omega
        cases hv : vastD l[k] with
        | true =>
          have HV := Lib.hid (show vastL l = true by
            unfold vastL
            rw [List.any_eq_true.2 ⟨l[k], List.getElem_mem _, hv⟩]
            simp)
          unfold vastD at hv
          obtain ⟨d, hd⟩ : ∃ d, l[k] = d := ⟨_, rfl⟩
          rw [hd] at g0 g1 g2 g3 g4 g5 g6 hv
          clear hd
          by_cases hq : 1024 < d.t.length
          · have e1 : decide ((1024 : Int) < d.t.length) = true := decide_eq_true (by omega)
            clear hv
            go_wp2_with fail
            go_ret
            exact ⟨by rw [HV.out]; rfl, rfl⟩
          · have e1 : decide ((1024 : Int) < d.t.length) = false := decide_eq_false (by omega)
            have hq2 : 100 < d.n := by
              rw [decide_eq_false hq] at hv
              simpa using hv
            have e2 : decide ((100 : Int) < d.n) = true := decide_eq_true (by omega)
            clear hv
            go_wp2_with fail
            go_ret
            exact ⟨by rw [HV.out]; rfl, rfl⟩
        | false =>
          have HT2 := Lib.hid (vast_take hkl HT.out hv)
          unfold vastD at hv
          obtain ⟨d, hd⟩ : ∃ d, l[k] = d := ⟨_, rfl⟩
          rw [hd] at g0 g1 g2 g3 g4 g5 g6 hv
          clear hd
          rw [Bool.or_eq_false_iff] at hv
          have e1 : decide ((1024 : Int) < d.t.length) = false := decide_eq_false (by have := of_decide_eq_false hv.1; omega)
          have e2 : decide ((100 : Int) < d.n) = false := decide_eq_false (by have := of_decide_eq_false hv.2; omega)
          clear hv
          go_wp2_with fail
          exact ⟨⟨k + 1, by omega, by go_num, trivial, HT2⟩, by simp [intOf]; omega⟩
      · obtain rfl : k = N := by omega
        have HV := Lib.hid (show vastL l = false by
          have := HT.out
          rw [← HN.out, List.take_length] at this
          unfold vastL
          rw [HN.out, decide_eq_false HB.out, this]
          rfl)
        go_wp2_with fail
        go_ret
        exact ⟨by rw [HV.out]; rfl, rfl⟩
end Go.Proofs.Ytgmoodcojpbbdaa
