import Derived.Test.YtafmhpcfjmannaaOwnI
set_option linter.unusedVariables false
set_option linter.unusedSimpArgs false
namespace Go.Proofs.Ytafmhpcfjmannaa
open Go.RowKit

/-- What is to be done: its cells. -/
structure OpI where
  K : Int
  id : Nat
  last : Nat
  k : Ky
def opc (d : OpI) : List Value := [.int .i64 d.K, .int .u32 d.id, .int .u32 d.last, .int .i64 d.k.h, .string ⟨d.k.t.toArray⟩]
def opcs (l : List OpI) : List Value := l.flatMap opc
def OkI (d : OpI) : Prop := d.id < 4294967296 ∧ d.last < 4294967296
theorem flat_at {α : Type} (f : α → List Value) (sz : Nat) (l : List α) (hf : ∀ x ∈ l, (f x).length = sz) (i : Nat) (hi : i < l.length) (j : Nat) (hj : j < sz) : (l.flatMap f)[i * sz + j]? = (f l[i])[j]? := by
  induction l generalizing i with
  | nil => simp at hi
  | cons p ms ih =>
    have hl : (f p).length = sz := hf p (by simp)
    rw [List.flatMap_cons]
    cases i with
    | zero => rw [List.getElem?_append_left (by omega)]; simp
    | succ i =>
      have e : (i + 1) * sz + j - sz = i * sz + j := by rw [Nat.succ_mul]; omega
      rw [List.getElem?_append_right (by rw [hl, Nat.succ_mul]; omega), hl, e, ih (fun x hx => hf x (by simp [hx])) i (by simpa using hi)]
      rfl
/-- The cells of the i-th of a row of records. -/
theorem rec_at {α : Type} (f : α → List Value) {sz : Nat} (h0 : 0 < sz) {w : World} {A : Option Addr} {n c : Nat} {l : List α} (hf : ∀ x, (f x).length = sz) (h : RdC sz w A n c (l.flatMap f)) (i : Nat) (hi : i < l.length) :
    ∃ b o, A = some ⟨b, o, none⟩ ∧ ∀ j u, (f l[i])[j]? = some u → w.cell? ⟨b, o + i * sz + j, none⟩ = some u := by
  have hc : ∀ j u, (f l[i])[j]? = some u → ∃ ad, A = some ad ∧ w.cell? (ad.add (i * sz + j)) = some u := fun j u hj => by
    refine h.cell (i * sz + j) u ?_
    have hj5 : j < sz := by
      have := (List.getElem?_eq_some_iff.1 hj).1
      rwa [hf] at this
    rw [flat_at f sz l (fun x _ => hf x) i hi j hj5]
    exact hj
  have hz0 : ∃ u, (l.flatMap f)[0]? = some u := by
    have := flat_at f sz l (fun x _ => hf x) 0 (by omega) 0 h0
    rw [Nat.zero_mul] at this
    refine ⟨(f (l[0]'(by omega)))[0]'(by rw [hf]; exact h0), ?_⟩
    rw [this]
    exact List.getElem?_eq_getElem _
  obtain ⟨u, hu⟩ := hz0
  obtain ⟨ad, rfl, hu⟩ := h.cell 0 u hu
  have had : ad.add 0 = ad := by
    unfold Addr.add
    split <;> simp_all
  rw [had] at hu
  have hs : ad.spot = none := by
    cases hs : ad.spot with
    | none => rfl
    | some s =>
      exfalso
      unfold World.cell? at hu
      simp only [hs] at hu
      split at hu <;> simp at hu
  obtain ⟨b, o, sp⟩ := ad
  cases hs
  refine ⟨b, o, rfl, fun j u hj => ?_⟩
  obtain ⟨ad, e, hu⟩ := hc j u hj
  cases e
  rw [plain_add] at hu
  rw [Nat.add_assoc]
  exact hu
theorem opcs_length (l : List OpI) : (opcs l).length = l.length * 5 := by
  induction l with
  | nil => rfl
  | cons p ms ih =>
    rw [opcs, List.flatMap_cons, List.length_append, List.length_cons]
    have : (ms.flatMap opc).length = ms.length * 5 := ih
    rw [this]
    simp [opc]
    omega
def OAt (W : World) (b off : Nat) (d : OpI) : Prop :=
  W.cell? ⟨b, off, none⟩ = some (.int .i64 d.K) ∧ W.cell? ⟨b, off + 1, none⟩ = some (.int .u32 d.id) ∧ W.cell? ⟨b, off + 2, none⟩ = some (.int .u32 d.last) ∧ W.cell? ⟨b, off + 3, none⟩ = some (.int .i64 d.k.h) ∧
    W.cell? ⟨b, off + 4, none⟩ = some (.string ⟨d.k.t.toArray⟩)
theorem op_at {w : World} {A : Option Addr} {n c : Nat} {l : List OpI} (h : RdC 5 w A n c (opcs l)) (i : Nat) (hi : i < l.length) : ∃ b o, A = some ⟨b, o, none⟩ ∧ OAt w b (o + i * 5) l[i] := by
  obtain ⟨b, o, e, hc⟩ := rec_at opc (by decide) (fun _ => rfl) h i hi
  exact ⟨b, o, e, hc 0 _ rfl, hc 1 _ rfl, hc 2 _ rfl, hc 3 _ rfl, hc 4 _ rfl⟩
def vastD (d : OpI) : Bool := decide (1024 < d.k.t.length)
def vastL (l : List OpI) : Bool := decide (200 < l.length) || l.any vastD
theorem vast_take {l : List OpI} {k : Nat} (hk : k < l.length) (h : (l.take k).any vastD = false) (h2 : vastD l[k] = false) : (l.take (k + 1)).any vastD = false := by
  rw [List.take_succ_eq_append_getElem hk, List.any_append, h]
  simp [h2]

set_option maxHeartbeats 1000000 in
theorem vast_any (A : Option Addr) (n c : Nat) (l : List OpI) {b : Bool} (hb : vastL l = b) (w : World) (h : RdC 5 w A n c (opcs l)) :
    Calls Try.prog 9 #[.slice A n c] w fun e w' => e = .returned (.bool b) ∧ w = w' := by
  subst hb
  have hl : n = l.length := by have := h.1; rw [opcs_length] at this; omega
  subst hl
  have H := Lib.hid h
  have hmx := h.2.2.1
  have hlc := h.2.1
  obtain ⟨N, hN⟩ : ∃ N, l.length = N := ⟨_, rfl⟩
  rw [hN] at hlc ⊢
  have HN := Lib.hid hN
  clear h hN
  by_cases hbig : 200 < N
  · have HV := Lib.hid (show vastL l = true by unfold vastL; rw [HN.out, decide_eq_true hbig]; rfl)
    go_enter Try.func9, Try.ntmps9
    go_wp2
    go_ret
    exact ⟨by rw [HV.out]; rfl, rfl⟩
  · have hb' : ¬ (200 : Int) < N := by omega
    have HB := Lib.hid hbig
    clear hbig
    go_enter Try.func9, Try.ntmps9
    go_wp2_with fail
    go_loopw [3] (fun i wr => ∃ k : Nat, k ≤ N ∧ i = .int .i64 k ∧ w = wr ∧ Hid ((l.take k).any vastD = false)) (fun i _ => N - (intOf i).toNat)
    case atStart => exact ⟨0, by omega, rfl, rfl, Lib.hid rfl⟩
    case round =>
      obtain ⟨k, hk, rfl, rfl, HT⟩ := hrel
      by_cases hkN : k < N
      · have hkl : k < l.length := by rw [HN.out]; exact hkN
        obtain ⟨b0, o0, e, g0, g1, g2, g3, g4⟩ := op_at H.out k hkl
        subst e
        have hkN' : (k : Int) < N := by omega
        cases hv : vastD l[k] with
        | true =>
          have HV := Lib.hid (show vastL l = true by
            unfold vastL
            rw [List.any_eq_true.2 ⟨l[k], List.getElem_mem _, hv⟩]
            simp)
          unfold vastD at hv
          obtain ⟨d, hd⟩ : ∃ d, l[k] = d := ⟨_, rfl⟩
          rw [hd] at g0 g1 g2 g3 g4 hv
          clear hd
          have hq := of_decide_eq_true hv
          have e1 : decide ((1024 : Int) < d.k.t.length) = true := decide_eq_true (by omega)
          clear hv
          go_wp2_with fail
          go_ret
          exact ⟨by rw [HV.out]; rfl, rfl⟩
        | false =>
          have HT2 := Lib.hid (vast_take hkl HT.out hv)
          unfold vastD at hv
          obtain ⟨d, hd⟩ : ∃ d, l[k] = d := ⟨_, rfl⟩
          rw [hd] at g0 g1 g2 g3 g4 hv
          clear hd
          have e1 : decide ((1024 : Int) < d.k.t.length) = false := decide_eq_false (by have := of_decide_eq_false hv; omega)
          clear hv
          go_wp2_with fail
          exact ⟨⟨k + 1, by omega, by go_num, trivial, HT2⟩, by simp [intOf]; omega⟩
      · obtain rfl : k = N := by omega
        have HV := Lib.hid (show vastL l = false by
          have := HT.out
          rw [← HN.out, List.take_length] at this
          unfold vastL
          rw [HN.out, decide_eq_false HB.out, this]
          rfl)
        go_wp2_with fail
        go_ret
        exact ⟨by rw [HV.out]; rfl, rfl⟩
end Go.Proofs.Ytafmhpcfjmannaa
