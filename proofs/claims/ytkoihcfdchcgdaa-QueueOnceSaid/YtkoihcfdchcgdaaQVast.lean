import Derived.Test.YtkoihcfdchcgdaaQDoes2
set_option linter.unusedVariables false
set_option linter.unusedSimpArgs false
namespace Go.Proofs.Ytkoihcfdchcgdaa
open Go.RowKit Go.Shelf

/-- What is to be done, and where its body lies. -/
structure OpD where
  x : QOp
  A : Option Addr
  c : Nat
def opd (d : OpD) : List Value := opc d.x (.slice d.A d.x.m.body.length d.c)
def opds (l : List OpD) : List Value := l.flatMap opd
theorem opd_length (d : OpD) : (opd d).length = 12 := rfl
theorem flat_at {α : Type} (f : α → List Value) (sz : Nat) (l : List α) (hf : ∀ x ∈ l, (f x).length = sz) (i : Nat) (hi : i < l.length) (j : Nat) (hj : j < sz) : (l.flatMap f)[i * sz + j]? = (f l[i])[j]? := by
  induction l generalizing i with
  | nil => simp at hi
  | cons p ms ih =>
    have hl : (f p).length = sz := hf p (by simp)
    rw [List.flatMap_cons]
    cases i with
    | zero => rw [List.getElem?_append_left (by omega)]; simp
    | succ i =>
      have e : (i + 1) * sz + j - sz = i * sz + j := by rw [Nat.succ_mul]; omega
      rw [List.getElem?_append_right (by rw [hl, Nat.succ_mul]; omega), hl, e, ih (fun x hx => hf x (by simp [hx])) i (by simpa using hi)]
      rfl
theorem flat_length {α : Type} (f : α → List Value) (sz : Nat) (hf : ∀ x, (f x).length = sz) : ∀ l : List α, (l.flatMap f).length = l.length * sz
  | [] => by simp
  | p :: ms => by rw [List.flatMap_cons, List.length_append, flat_length f sz hf ms, hf, List.length_cons, Nat.succ_mul]; omega
/-- An element of a row in memory, cell by cell. -/
theorem flat_cells {α : Type} (f : α → List Value) (sz : Nat) (h0 : 0 < sz) (hf : ∀ x, (f x).length = sz) {w : World} {A : Option Addr} {n c : Nat} {l : List α} (h : RdC sz w A n c (l.flatMap f)) (i : Nat) (hi : i < l.length) :
    ∃ b o, A = some ⟨b, o, none⟩ ∧ ∀ j u, (f l[i])[j]? = some u → w.cell? ⟨b, o + (i * sz + j), none⟩ = some u := by
  have hc : ∀ j u, (f l[i])[j]? = some u → ∃ ad, A = some ad ∧ w.cell? (ad.add (i * sz + j)) = some u := fun j u hj => by
    refine h.cell (i * sz + j) u ?_
    have hj5 : j < sz := by
      have := (List.getElem?_eq_some_iff.1 hj).1
      rwa [hf] at this
    rw [flat_at f sz l (fun x _ => hf x) i hi j hj5]
    exact hj
  have hz : ∃ ad u, A = some ad ∧ w.cell? ad = some u := by
    have h1 : 0 < l.length := by omega
    have h2 : 0 < (f l[0]).length := by rw [hf]; exact h0
    have h3 := flat_at f sz l (fun x _ => hf x) 0 h1 0 h0
    simp only [Nat.zero_mul, Nat.zero_add] at h3
    obtain ⟨ad, e, hh⟩ := h.cell 0 ((f l[0])[0]) (by rw [h3]; exact List.getElem?_eq_getElem h2)
    exact ⟨ad, _, e, hh⟩
  obtain ⟨ad, u, rfl, hu⟩ := hz
  have hs : ad.spot = none := by
    cases hs : ad.spot with
    | none => rfl
    | some s =>
      exfalso
      unfold World.cell? at hu
      simp only [hs] at hu
      split at hu <;> simp at hu
  obtain ⟨b, o, sp⟩ := ad
  cases hs
  refine ⟨b, o, rfl, fun j u hj => ?_⟩
  obtain ⟨ad, e, hh⟩ := hc j u hj
  cases e
  rw [plain_add] at hh
  exact hh
def vastD (d : OpD) : Bool := decide (4096 < d.x.m.body.length) || decide (1024 < d.x.m.ids.length)
def vastL (l : List OpD) : Bool := decide (150 < l.length) || l.any vastD
theorem vast_take {l : List OpD} {k : Nat} (hk : k < l.length) (h : (l.take k).any vastD = false) (h2 : vastD l[k] = false) : (l.take (k + 1)).any vastD = false := by
  rw [List.take_succ_eq_append_getElem hk, List.any_append, h]
  simp [h2]

set_option maxHeartbeats 1000000 in
theorem vast_calls (A : Option Addr) (n c : Nat) (l : List OpD) (w : World) (h : RdC 12 w A n c (opds l)) :
    Calls Try.prog 15 #[.slice A n c] w fun e w' => e = .returned (.bool (vastL l)) ∧ w = w' := by
  have hl : n = l.length := by have := h.1; rw [opds, flat_length opd 12 opd_length] at this; omega
  subst hl
  have H := Lib.hid h
  have hmx := h.2.2.1
  have hlc := h.2.1
  obtain ⟨N, hN⟩ : ∃ N, l.length = N := ⟨_, rfl⟩
  rw [hN] at hlc ⊢
  have HN := Lib.hid hN
  clear h hN
  by_cases hbig : 150 < N
  · have HV := Lib.hid (show vastL l = true by unfold vastL; rw [HN.out, decide_eq_true hbig]; rfl)
    go_enter Try.func15, Try.ntmps15
    go_wp2
    go_ret
    exact ⟨by rw [HV.out]; rfl, rfl⟩
  · have hb' : ¬ (150 : Int) < N := by omega
    have HB := Lib.hid hbig
    clear hbig
    go_enter Try.func15, Try.ntmps15
    go_wp2_with fail
    go_loopw [3] (fun i wr => ∃ k : Nat, k ≤ N ∧ i = .int .i64 k ∧ w = wr ∧ Hid ((l.take k).any vastD = false)) (fun i _ => N - (intOf i).toNat)
    case atStart => exact ⟨0, by omega, rfl, rfl, Lib.hid rfl⟩
    case round =>
      obtain ⟨k, hk, rfl, rfl, HT⟩ := hrel
      by_cases hkN : k < N
      · have hkl : k < l.length := by rw [HN.out]; exact hkN
        obtain ⟨b0, o0, e, hcell⟩ := flat_cells opd 12 (by decide) opd_length H.out k hkl
        subst e
        have g6 := hcell 6 _ rfl
        have g5 := hcell 5 _ rfl
        simp only [← Nat.add_assoc] at g5 g6
        have hkN' : (k : Int) < N := by omega
        have hm6 := (show (l[k]).x.m.body.length ≤ 9223372036854775807 ∨ True from .inr trivial)
        cases hv : vastD l[k] with
        | true =>
          have HV := Lib.hid (show vastL l = true by
            unfold vastL
            rw [List.any_eq_true.2 ⟨l[k], List.getElem_mem _, hv⟩]
            simp)
          unfold vastD at hv
          obtain ⟨d, hd⟩ : ∃ d, l[k] = d := ⟨_, rfl⟩
          rw [hd] at g5 g6 hv
          clear hd hcell hm6
          unfold str at g5
          by_cases hq : 4096 < d.x.m.body.length
          · have e1 : decide ((4096 : Int) < d.x.m.body.length) = true := decide_eq_true (by omega)
            clear hv
            go_wp2_with fail
            go_ret
            exact ⟨by rw [HV.out]; rfl, rfl⟩
          · have e1 : decide ((4096 : Int) < d.x.m.body.length) = false := decide_eq_false (by omega)
            have hq2 : 1024 < d.x.m.ids.length := by
              rw [decide_eq_false hq] at hv
              simpa using hv
            have e2 : decide ((1024 : Int) < d.x.m.ids.length) = true := decide_eq_true (by omega)
            clear hv
            go_wp2_with fail
            go_ret
            exact ⟨by rw [HV.out]; rfl, rfl⟩
        | false =>
          have HT2 := Lib.hid (vast_take hkl HT.out hv)
          unfold vastD at hv
          obtain ⟨d, hd⟩ : ∃ d, l[k] = d := ⟨_, rfl⟩
          rw [hd] at g5 g6 hv
          clear hd hcell hm6
          unfold str at g5
          rw [Bool.or_eq_false_iff] at hv
          have e1 : decide ((4096 : Int) < d.x.m.body.length) = false := decide_eq_false (by have := of_decide_eq_false hv.1; omega)
          have e2 : decide ((1024 : Int) < d.x.m.ids.length) = false := decide_eq_false (by have := of_decide_eq_false hv.2; omega)
          clear hv
          go_wp2_with fail
          exact ⟨⟨k + 1, by omega, by go_num, trivial, HT2⟩, by simp [intOf]; omega⟩
      · obtain rfl : k = N := by omega
        have HV := Lib.hid (show vastL l = false by
          have := HT.out
          rw [← HN.out, List.take_length] at this
          unfold vastL
          rw [HN.out, decide_eq_false HB.out, this]
          rfl)
        go_wp2_with fail
        go_ret
        exact ⟨by rw [HV.out]; rfl, rfl⟩
end Go.Proofs.Ytkoihcfdchcgdaa
