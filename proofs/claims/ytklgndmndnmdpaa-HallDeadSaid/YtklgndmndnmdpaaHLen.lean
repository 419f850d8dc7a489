import Derived.Test.YtklgndmndnmdpaaHPut
import Derived.Test.YtklgndmndnmdpaaQNilL
set_option linter.unusedVariables false
set_option linter.unusedSimpArgs false
namespace Go.Proofs.Ytklgndmndnmdpaa
open Go.RowKit Go.Shelf

/-- The items of a name's queue. -/
def qLs (C : List Cf) (Qs : List Qu) (name : List UInt8) : List En := (((atC C name).bind fun i => Qs[i]?).map (·.L)).getD []
theorem qLs_none {C : List Cf} {Qs : List Qu} {name : List UInt8} (hq : qAt C Qs name = none) : qLs C Qs name = [] := by
  unfold qAt at hq
  unfold qLs
  cases h : (atC C name).bind fun i => Qs[i]? with
  | none => rfl
  | some x => rw [h] at hq; cases hq
theorem qLs_some {C : List Cf} {Qs : List Qu} {name : List UInt8} {i : Nat} (hi : i < Qs.length) (hA : atC C name = some i) : qLs C Qs name = (Qs[i]).L := by
  unfold qLs
  rw [hA]
  simp [List.getElem?_eq_getElem hi]
section
variable {w0 w : World} {G : List Nat} {h lost : Nat} {C : List Cf} {Qs : List Qu}
set_option maxRecDepth 100000 in
theorem hlen_calls (hf : HF w0 w G h C Qs lost) (name : List UInt8) :
    Calls Try.prog 19 #[.pointer (some ⟨h, 0, none⟩), str name] w fun e w' => e = .returned (.tuple #[.int .i64 (ordQ false (qLs C Qs name)).length, .int .i64 (ordQ true (qLs C Qs name)).length]) ∧ Below w.heap.size w w' := by
  have hcl := hqueue_calls hf name
  have hq2 : Calls Try.prog 48 #[.pointer (qAt C Qs name)] w fun e w' => e = .returned (.tuple #[.int .i64 (ordQ false (qLs C Qs name)).length, .int .i64 (ordQ true (qLs C Qs name)).length]) ∧ Below w.heap.size w w' := by
    cases hq : qAt C Qs name with
    | none =>
      rw [qLs_none hq]
      exact len_nil w
    | some a =>
      obtain ⟨i, hi, hA, rfl, -⟩ := qAt_some hq
      rw [qLs_some hi hA]
      obtain ⟨Z, g1, -, -⟩ := hf.step i hi
      exact qf_len g1
  unfold str at hcl ⊢
  obtain ⟨P, hP⟩ : ∃ P, qAt C Qs name = P := ⟨_, rfl⟩
  obtain ⟨a, ha⟩ : ∃ a, (ordQ false (qLs C Qs name)).length = a := ⟨_, rfl⟩
  obtain ⟨b, hb⟩ : ∃ b, (ordQ true (qLs C Qs name)).length = b := ⟨_, rfl⟩
  rw [hP] at hcl hq2
  rw [ha, hb] at hq2 ⊢
  have HCL := Lib.hid hcl
  have HQ := Lib.hid hq2
  clear hcl hq2 hP ha hb hf
  go_enter Try.func19, Try.ntmps19
  go_wp2_with fail
  refine HCL.out.mono ?_
  rintro e w' ⟨rfl, rfl⟩
  go_wp2_with fail
  refine HQ.out.mono ?_
  rintro e w' ⟨rfl, hb⟩
  have HB := Lib.hid hb
  clear hb
  go_wp2_with fail
  exact bodyPost_ret (results_tt rfl rfl rfl) rfl ⟨rfl, HB.out⟩
set_option maxRecDepth 100000 in
theorem hlen_nil (name : List UInt8) (w : World) :
    Calls Try.prog 19 #[.pointer none, str name] w fun e w' => e = .returned (.tuple #[.int .i64 0, .int .i64 0]) ∧ Below w.heap.size w w' := by
  have HCL := Lib.hid (hqueue_nil name w)
  unfold str at HCL ⊢
  go_enter Try.func19, Try.ntmps19
  go_wp2_with fail
  refine HCL.out.mono ?_
  rintro e w' ⟨rfl, rfl⟩
  go_wp2_with fail
  refine (len_nil w).mono ?_
  rintro e w' ⟨rfl, hb⟩
  have HB := Lib.hid hb
  clear hb
  go_wp2_with fail
  exact bodyPost_ret (results_tt rfl rfl rfl) rfl ⟨rfl, HB.out⟩
set_option maxRecDepth 100000 in
theorem hput_nil (name : List UInt8) (m : Mg) (A : Option Addr) (c n : Nat) (now : Int) (w : World) :
    Calls Try.prog 21 #[.pointer none, str name, mgv m (.slice A n c), .int .i64 now] w fun e w' => e = .returned (.int .i64 2) ∧ Below w.heap.size w w' := by
  have HCL := Lib.hid (fun p1 p2 W => hwithI_nil name p1 p2 W)
  have hmk : ∀ W, (Instr.makeFunc (Fn.func 50) #[] #[.pointer (some ⟨w.heap.size, 0, none⟩), .pointer (some ⟨w.heap.size + 1, 0, none⟩)]).run Try.prog W = .ok (.func (.func 50) #[] #[.pointer (some ⟨w.heap.size, 0, none⟩), .pointer (some ⟨w.heap.size + 1, 0, none⟩)]) W := fun W => rfl
  unfold str at HCL ⊢
  rw [mgv_eq']
  go_enter Try.func21, Try.ntmps21
  go_wp2_with fail
  refine (HCL.out _ _ _).mono ?_
  rintro e w' ⟨rfl, rfl⟩
  clear hmk
  go_wp2_with fail
  go_ret
  exact ⟨rfl, (below_alloc w _).alloc (by simp) _⟩
end
end Go.Proofs.Ytklgndmndnmdpaa
