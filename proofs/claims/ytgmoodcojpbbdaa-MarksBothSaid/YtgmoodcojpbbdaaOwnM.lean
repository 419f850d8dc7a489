import Derived.Test.YtgmoodcojpbbdaaKeepM
import Derived.Test.YtgmoodcojpbbdaaMeetM
set_option linter.unusedVariables false
set_option linter.unusedSimpArgs false
namespace Go.Proofs.Ytgmoodcojpbbdaa
open Go.RowKit

/-- Marks that were made since w0. -/
structure MkF (w0 w : World) (a : Nat) (F : List Nat) (ms : Ms) : Prop where
  old : Below w0.heap.size w0 w
  is : Mk w a F ms
  hi : ∀ k ∈ F, w0.heap.size ≤ k
def Stp (v : Value) (w0 w : World) (a : Nat) (F : List Nat) (ms' : Ms) (e : Ending) (w' : World) : Prop :=
  ∃ F', e = .returned v ∧ MkF w0 w' a F' ms' ∧ Tch F w w' ∧ ∀ k ∈ F', k ∈ F ∨ w.heap.size ≤ k
theorem MkF.below {w0 w w' : World} {a : Nat} {F : List Nat} {ms : Ms} (h : MkF w0 w a F ms) (hb : Below w.heap.size w w') : MkF w0 w' a F ms :=
  ⟨below_then h.old h.old.size hb, h.is.below hb, h.hi⟩
theorem MkF.step {w0 w w' : World} {a : Nat} {F F' : List Nat} {ms ms' : Ms} (h : MkF w0 w a F ms) (hm : Mk w' a F' ms') (ht : Tch F w w') (hf : ∀ k ∈ F', k ∈ F ∨ w.heap.size ≤ k) : MkF w0 w' a F' ms' :=
  ⟨h.old.trans (ht.below h.old.size h.hi), hm, fun k hk => by
    rcases hf k hk with e | e
    · exact h.hi k e
    · exact Nat.le_trans h.old.size e⟩
theorem mf_new (w0 w : World) (h : Below w0.heap.size w0 w) :
    Calls Try.prog 12 #[] w fun e w' => e = .returned (.pointer (some ⟨w.heap.size + 1, 0, none⟩)) ∧ MkF w0 w' (w.heap.size + 1) [w.heap.size, w.heap.size + 1] [] ∧ Below w.heap.size w w' :=
  (new_calls w).mono fun e w' ⟨h1, h2, h3⟩ => ⟨h1, ⟨below_then h h.size h3, h2, fun k hk => by
    have := h.size
    simp at hk
    omega⟩, h3⟩
theorem mf_add {w0 w : World} {a : Nat} {F : List Nat} {ms ms' : Ms} (t : List UInt8) {n : Nat} (h : MkF w0 w a F ms) (r : addM ms t = (n, ms')) :
    Calls Try.prog 22 #[.pointer (some ⟨a, 0, none⟩), .string ⟨t.toArray⟩] w (Stp (.int .i64 n) w0 w a F ms') := by
  by_cases ht : t.length < 1 ∨ 32 < t.length
  · refine (add_arg a F ms t w h.is ht).mono fun e w' ⟨h1, h2⟩ => ?_
    rw [addM, if_pos ht] at r
    cases r
    subst h2
    exact ⟨F, h1, h, Tch.refl _ _, fun k hk => .inl hk⟩
  · refine (add_calls a F ms t w h.is (by omega) (by omega)).mono fun e w' ⟨F', h1, h2, h3, h4⟩ => ?_
    rw [r] at h1 h2
    exact ⟨F', h1, h.step h2 h3 h4, h3, h4⟩
theorem mf_tell {w0 w : World} {a : Nat} {F : List Nat} {ms ms' : Ms} (t : List UInt8) (o : Outc) {b : Bool} (h : MkF w0 w a F ms) (r : tellM ms t o = (b, ms')) :
    Calls Try.prog 23 #[.pointer (some ⟨a, 0, none⟩), .string ⟨t.toArray⟩, .agg #[.int .u8 o.k, .int .u64 o.a, .int .u64 o.b, .string ⟨o.c.toArray⟩]] w (Stp (.bool b) w0 w a F ms') := by
  refine (tell_calls a F ms t o w h.is).mono fun e w' ⟨h1, h2, h3⟩ => ?_
  rw [r] at h1 h2
  exact ⟨F, h1, h.step h2 h3 fun k hk => .inl hk, h3, fun k hk => .inl hk⟩
theorem mf_get {w0 w : World} {a : Nat} {F : List Nat} {ms : Ms} (t : List UInt8) {o : Outc} {b : Bool} (h : MkF w0 w a F ms) (r : getM ms t = (o, b)) :
    Calls Try.prog 25 #[.pointer (some ⟨a, 0, none⟩), .string ⟨t.toArray⟩] w fun e w' => e = .returned (.tuple #[.agg #[.int .u8 o.k, .int .u64 o.a, .int .u64 o.b, .string ⟨o.c.toArray⟩], .bool b]) ∧ MkF w0 w' a F ms ∧ Below w.heap.size w w' := by
  refine (get_calls a F ms t w h.is).mono fun e w' ⟨h1, h2⟩ => ?_
  rw [r] at h1
  exact ⟨h1, h.below h2, h2⟩
theorem mf_settle {w0 w : World} {a : Nat} {F : List Nat} {ms ms' : Ms} (t : List UInt8) {o : Outc} {b : Bool} (h : MkF w0 w a F ms) (r : settleM ms t = (o, b, ms')) :
    Calls Try.prog 28 #[.pointer (some ⟨a, 0, none⟩), .string ⟨t.toArray⟩] w (Stp (.tuple #[.agg #[.int .u8 o.k, .int .u64 o.a, .int .u64 o.b, .string ⟨o.c.toArray⟩], .bool b]) w0 w a F ms') := by
  refine (settle_calls a F ms t w h.is).mono fun e w' ⟨F', h1, h2, h3, h4⟩ => ?_
  rw [r] at h1 h2
  exact ⟨F', h1, h.step h2 h3 h4, h3, h4⟩
theorem mf_list {w0 w : World} {a : Nat} {F : List Nat} {ms : Ms} (h : MkF w0 w a F ms) (hb : ms.length ≤ 1000000) :
    Calls Try.prog 18 #[.pointer (some ⟨a, 0, none⟩)] w fun e w' => ∃ v, e = .returned v ∧ OwnC 47 5 (fun _ => True) w' w.heap.size v ms.length (mcs ms) ∧ MkF w0 w' a F ms ∧ Below w.heap.size w w' := by
  refine (list_calls a F ms w h.is hb).mono fun e w' ⟨v, h1, h2, h3⟩ => ?_
  exact ⟨v, h1, h2, h.below h3, h3⟩
def MtP (w0 w : World) (a : Nat) (F : List Nat) (ms' : Ms) (st : List St) (e : Ending) (w' : World) : Prop :=
  ∃ v, e = .returned v ∧ OwnC 55 6 (fun _ => True) w' w.heap.size v st.length (scs st) ∧ MkF w0 w' a F ms' ∧ Tch F w w'
theorem mf_meet {w0 w : World} {a : Nat} {F : List Nat} {ms th ms' : Ms} {st : List St} (A : Option Addr) (n c : Nat) (h : MkF w0 w a F ms) (hb : ms.length ≤ 1000000) (ht : RdC 5 w A n c (mcs th)) (hA : ∀ ad, A = some ad → ad.block ∉ F) (r : meetM th ms = (ms', st)) :
    Calls Try.prog 24 #[.pointer (some ⟨a, 0, none⟩), .slice A n c] w (MtP w0 w a F ms' st) := by
  refine (meet_calls a F ms th A n c w h.is hb ht hA).mono fun e w' ⟨v, h1, h2, h3, h4⟩ => ?_
  have hl : st.length = ms.length := by rw [show st = (meetM th ms).2 by rw [r]]; simp [meetM]
  rw [r] at h2 h3
  exact ⟨v, h1, by rw [hl]; exact h2, h.step h3 h4 fun k hk => .inl hk, h4⟩
def KpP (w0 w : World) (a : Nat) (F : List Nat) (ms' : Ms) (gl : List (List UInt8)) (e : Ending) (w' : World) : Prop :=
  ∃ v F', e = .returned v ∧ OwnC 9 1 (fun _ => True) w' w.heap.size v gl.length (gl.map str) ∧ MkF w0 w' a F' ms' ∧ Tch F w w' ∧ (∀ k ∈ F', k ∈ F ∨ w.heap.size ≤ k) ∧ ∀ g, v.ownBlock = some g → g ∉ F'
theorem mf_keep {w0 w : World} {a : Nat} {F : List Nat} {ms th ms' : Ms} {gl : List (List UInt8)} (A : Option Addr) (n c : Nat) (h : MkF w0 w a F ms) (hb : ms.length ≤ 1000000) (ht : RdC 5 w A n c (mcs th)) (hA : ∀ ad, A = some ad → ad.block ∉ F) (r : keepM th ms = (gl, ms')) :
    Calls Try.prog 26 #[.pointer (some ⟨a, 0, none⟩), .slice A n c] w (KpP w0 w a F ms' gl) := by
  refine (keep_calls a F ms th A n c w h.is hb ht hA).mono fun e w' ⟨v, F', h1, h2, h3, h4, h5, h6⟩ => ?_
  rw [r] at h2 h3
  exact ⟨v, F', h1, h2, h.step h3 h4 h5, h4, h5, h6⟩
end Go.Proofs.Ytgmoodcojpbbdaa
