import Derived.Test.YtmeljnohkhkfmaaFoot
import Derived.Laws.EntriesVeiled
set_option linter.unusedVariables false
set_option linter.unusedSimpArgs false
namespace Go.Proofs.Ytmeljnohkhkfmaa
open Go.RowKit

def stB : List UInt8 := [65, 77, 81, 80, 0, 1, 0, 0]
/-- What comes next: its kind, the frame; what is held then, and how far it is. -/
structure NxI where
  kind : Nat
  ch : Nat
  body : List UInt8
  l : List UInt8
  ph : Nat
def nextI (most : Nat) (l : List UInt8) (ph : Nat) : NxI :=
  if ph = 0 then
    if l.take (min l.length 8) = stB.take (min l.length 8) then (if l.length < 8 then ⟨0, 0, [], l, 0⟩ else ⟨1, 0, [], l.drop 8, 1⟩) else ⟨3, 0, [], [], 2⟩
  else if ph = 1 then
    if (fr l most).err = 7 then ⟨0, 0, [], l, 1⟩ else if (fr l most).err = 0 then ⟨2, (fr l most).ch, (fr l most).body, l.drop (fr l most).n, 1⟩ else ⟨3, 0, [], [], 2⟩
  else ⟨3, 0, [], [], 2⟩
def roomI (most : Nat) (l : List UInt8) (ph : Nat) : Nat := if ph = 2 then 0 else most + 8 - l.length
def tookI (most : Nat) (l : List UInt8) (ph : Nat) (b : List UInt8) : Nat := min (roomI most l ph) b.length

def fnv (a ph : Nat) : Value :=
  if ph = 0 then .func (.func 28) #[.pointer (some ⟨a, 0, none⟩)] #[]
  else if ph = 1 then .func (.func 41) #[.pointer (some ⟨a, 0, none⟩)] #[]
  else .func (.func 44) #[] #[]
/-- How an intake may be. -/
structure OkI (most : Nat) (l : List UInt8) (ph : Nat) : Prop where
  lo : 512 ≤ most
  hi : most ≤ 4096
  len : l.length ≤ most + 8
  ph2 : ph ≤ 2
  bad : ph = 2 → l = []
/-- An intake in memory: all that it is lies in blocks of F. -/
structure In (w : World) (a : Nat) (F : List Nat) (most : Nat) (l : List UInt8) (ph : Nat) : Prop where
  ex : ∃ hv, w.heap[a]? = some (.cells #[.int .u32 most, hv, .bool (decide (ph = 2)), fnv a ph] 61 (0, 0)) ∧ OwnB w 0 hv l ∧ ∀ g, hv.ownBlock = some g → g ∈ F
  mem : a ∈ F
  lts : ∀ k ∈ F, k < w.heap.size
  ok : OkI most l ph
theorem In.lt {w : World} {a : Nat} {F : List Nat} {most ph : Nat} {l : List UInt8} (h : In w a F most l ph) : a < w.heap.size := h.lts a h.mem
theorem In.tch {w w' : World} {a : Nat} {F G : List Nat} {most ph : Nat} {l : List UInt8} (h : In w a F most l ph) (ht : Tch G w w') (hd : ∀ k ∈ F, k ∉ G) : In w' a F most l ph := by
  obtain ⟨⟨hv, h1, h2, h3⟩, hm, hs, hk⟩ := h
  exact ⟨⟨hv, (ht.block a (heap_lt h1) (hd a hm)).trans h1, OwnC.tch h2 ht (fun k hk => hd k (h3 k hk)), h3⟩, hm, fun k hk => Nat.lt_of_lt_of_le (hs k hk) ht.size, hk⟩
theorem In.below {w w' : World} {a : Nat} {F : List Nat} {most ph : Nat} {l : List UInt8} (h : In w a F most l ph) (hb : Below w.heap.size w w') : In w' a F most l ph := h.tch (Tch.of_below [] hb) (fun _ _ hk => by cases hk)
/-- Its cells. -/
theorem In.row {w : World} {a : Nat} {F : List Nat} {most ph : Nat} {l : List UInt8} (h : In w a F most l ph) : ∃ A c, w.heap[a]? = some (.cells #[.int .u32 most, .slice A l.length c, .bool (decide (ph = 2)), fnv a ph] 61 (0, 0)) ∧ OwnB w 0 (.slice A l.length c) l ∧ Rd w A c l ∧
    (w.cell? ⟨a, 0, none⟩ = some (.int .u32 most) ∧ w.cell? ⟨a, 1, none⟩ = some (.slice A l.length c) ∧ w.cell? ⟨a, 2, none⟩ = some (.bool (decide (ph = 2))) ∧ w.cell? ⟨a, 3, none⟩ = some (fnv a ph)) ∧ (∀ j, w.frozen? ⟨a, j, none⟩ = false) ∧
    ∀ g, (Value.slice A l.length c).ownBlock = some g → g ∈ F ∧ g ≠ a := by
  obtain ⟨⟨hv, h1, h2, h3⟩, hm, hs, hk⟩ := h
  obtain ⟨A, c, rfl, hr⟩ := h2.rd
  have hc := fun j u hj => cell_of_heap (l := [.int .u32 most, .slice A l.length c, .bool (decide (ph = 2)), fnv a ph]) h1 j u hj
  refine ⟨A, c, h1, h2, hr, ⟨hc 0 _ rfl, hc 1 _ rfl, hc 2 _ rfl, hc 3 _ rfl⟩, fun j => froz_of_heap h1 j, fun g hg => ⟨h3 g hg, fun e => ?_⟩⟩
  rcases h2.open_ with ⟨e1, _⟩ | ⟨g', cap, sp, e1, _, hh, _⟩
  · rw [e1] at hg; simp [Value.ownBlock] at hg
  · rw [e1] at hg
    simp [Value.ownBlock] at hg
    subst hg
    rw [e, h1] at hh
    simp at hh
/-- It is laid anew: its block holds what it is. -/
theorem in_close {w w2 : World} {a : Nat} {F : List Nat} {most ph : Nat} {l : List UInt8} {hv : Value} (H1 : w2.heap[a]? = some (.cells #[.int .u32 most, hv, .bool (decide (ph = 2)), fnv a ph] 61 (0, 0)))
    (HO : OwnB w2 0 hv l) (ha : a ∈ F) (hv' : ∀ g, hv.ownBlock = some g → g ∈ F ∨ w.heap.size ≤ g) (hk : OkI most l ph) (hF : ∀ k ∈ F, k < w.heap.size) (hs : w.heap.size ≤ w2.heap.size) :
    ∃ F', In w2 a F' most l ph ∧ (∀ k ∈ F', k ∈ F ∨ w.heap.size ≤ k) ∧ ∀ k ∈ F', k = a ∨ hv.ownBlock = some k := by
  refine ⟨a :: hv.ownBlock.toList, ⟨⟨hv, H1, HO, fun g hg => by simp [hg]⟩, by simp, fun k hk => ?_, hk⟩, fun k hk => ?_, fun k hk => ?_⟩
  · rcases List.mem_cons.1 hk with rfl | h
    · exact heap_lt H1
    · exact (HO.lt k (by simpa using h)).2
  · rcases List.mem_cons.1 hk with rfl | h
    · exact .inl ha
    · exact hv' k (by simpa using h)
  · rcases List.mem_cons.1 hk with rfl | h
    · exact .inl rfl
    · exact .inr (by simpa using h)
theorem repack {w : World} {a : Nat} {e : TypeId} {l : List Value} (h : w.heap[a]? = some (.cells l.toArray e (0, 0))) : True := trivial

set_option maxHeartbeats 400000 in
theorem inew_ok (most : Nat) (w : World) (h1 : 512 ≤ most) (h2 : most ≤ 4096) :
    Calls Try.prog 11 #[.int .u32 most] w fun e w' => e = .returned (.tuple #[.pointer (some ⟨w.heap.size, 0, none⟩), .int .i64 0]) ∧ In w' w.heap.size [w.heap.size] most [] 0 ∧ Below w.heap.size w w' := by
  have hmf : ∀ (fn : Fn) (first cap : Array Value) (w : World), (Instr.makeFunc fn first cap).run Try.prog w = .ok (.func fn first cap) w := fun _ _ _ _ => rfl
  go_enter Try.func11, Try.ntmps11
  go_wp2_with fail
  go_ret2
  refine ⟨rfl, ⟨⟨.slice none 0 0, ?_, OwnB.nil_, by simp [Value.ownBlock]⟩, by simp, by intro k hk; simp at hk ⊢; omega, ⟨h1, h2, by simp, by omega, fun _ => rfl⟩⟩, ?_⟩
  · have := heap_alloc_new w (.cells #[.int .u32 most, .slice none 0 0, .bool false, fnv w.heap.size 0] 61)
    simpa [fnv] using this
  · exact (below_alloc w _)
set_option maxHeartbeats 400000 in
theorem inew_bad (most : Nat) (w : World) (h : most < 512 ∨ 4096 < most) (hm : most ≤ 4294967295) :
    Calls Try.prog 11 #[.int .u32 most] w fun e w' => e = .returned (.tuple #[.pointer none, .int .i64 1]) ∧ w = w' := by
  by_cases h1 : most < 512
  · go_enter Try.func11, Try.ntmps11
    go_wp2_with fail
    go_ret2
    exact ⟨rfl, rfl⟩
  · have h2 : 4096 < most := by omega
    go_enter Try.func11, Try.ntmps11
    go_wp2_with fail
    go_ret2
    exact ⟨rfl, rfl⟩
set_option maxHeartbeats 400000 in
theorem iheld_nil (w : World) : Calls Try.prog 20 #[.pointer none] w fun e w' => e = .returned (.int .i64 0) ∧ w = w' := by
  go_enter Try.func20, Try.ntmps20
  go_wp2_with fail
  go_ret
  exact ⟨rfl, rfl⟩
set_option maxHeartbeats 400000 in
theorem iroom_nil (w : World) : Calls Try.prog 21 #[.pointer none] w fun e w' => e = .returned (.int .i64 0) ∧ w = w' := by
  go_enter Try.func21, Try.ntmps21
  go_wp2_with fail
  go_ret
  exact ⟨rfl, rfl⟩
set_option maxHeartbeats 400000 in
theorem iheld_calls {w : World} {a : Nat} {F : List Nat} {most ph : Nat} {l : List UInt8} (h : In w a F most l ph) :
    Calls Try.prog 20 #[.pointer (some ⟨a, 0, none⟩)] w fun e w' => e = .returned (.int .i64 l.length) ∧ w = w' := by
  obtain ⟨A, c, -, -, -, ⟨c0, c1, c2, c3⟩, -, -⟩ := h.row
  obtain ⟨n, hn⟩ : ∃ n, l.length = n := ⟨_, rfl⟩
  rw [hn] at c1 ⊢
  clear h hn
  go_enter Try.func20, Try.ntmps20
  go_wp2_with fail
  go_ret
  exact ⟨rfl, rfl⟩
set_option maxHeartbeats 400000 in
theorem iroom_calls {w : World} {a : Nat} {F : List Nat} {most ph : Nat} {l : List UInt8} (h : In w a F most l ph) :
    Calls Try.prog 21 #[.pointer (some ⟨a, 0, none⟩)] w fun e w' => e = .returned (.int .i64 (roomI most l ph : Nat)) ∧ Below w.heap.size w w' := by
  obtain ⟨A, c, -, -, -, ⟨c0, c1, c2, c3⟩, -, -⟩ := h.row
  obtain ⟨k1, k2, k3, k4, k5⟩ := h.ok
  by_cases hp : ph = 2
  · have e : roomI most l ph = 0 := by simp [roomI, hp]
    rw [decide_eq_true hp] at c2
    rw [e]
    clear h hp e k5
    go_enter Try.func21, Try.ntmps21
    go_wp2_with fail
    go_ret
    exact ⟨rfl, Below.refl _ _⟩
  · have e : roomI most l ph = most + 8 - l.length := by simp [roomI, hp]
    rw [decide_eq_false hp] at c2
    rw [e]
    obtain ⟨n, hn⟩ : ∃ n, l.length = n := ⟨_, rfl⟩
    rw [hn] at c1 k3 ⊢
    have q1 : IntKind.i64.wrap ((most : Nat) : Int) = most := IntWalk.i64_in _ (by omega)
    have q2 : IntKind.i64.wrap ((most : Int) + 8) = most + 8 := IntWalk.i64_in _ (by omega)
    have q3 : IntKind.i64.wrap ((most : Int) + 8 - n) = most + 8 - n := IntWalk.i64_in _ (by omega)
    have q4 : (((most + 8 - n : Nat)) : Int) = most + 8 - n := by omega
    rw [q4]
    clear h hp e k5 hn q4
    go_enter Try.func21, Try.ntmps21
    go_wp2_with fail
    go_quiet (fail)
    go_wp2_with fail
    go_ret
    exact ⟨rfl, below_drewN w _⟩
end Go.Proofs.Ytmeljnohkhkfmaa
