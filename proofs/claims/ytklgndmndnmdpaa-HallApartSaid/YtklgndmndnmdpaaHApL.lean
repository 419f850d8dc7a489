import Derived.Test.YtklgndmndnmdpaaHOpen
set_option linter.unusedVariables false
set_option linter.unusedSimpArgs false
namespace Go.Proofs.Ytklgndmndnmdpaa
open Go.RowKit Go.Shelf

def cA2 : Cf := ⟨[97], 9, 2, []⟩
def cB2 : Cf := ⟨[98], 9, 0, []⟩
def CB : List Cf := [cA2, cB2]
def bM1 : Mg := ⟨0, 0, 0, [], [111, 110, 101]⟩
def bM2 : Mg := ⟨0, 0, 0, [], [116, 119, 111]⟩
/-- The second queue, while things are done with the first. -/
def apX (q : Nat) : Qu := ⟨q, 9, 0, 2, [⟨1, bM1, 0, true⟩, ⟨2, bM2, 0, false⟩]⟩
theorem newH_CB : newH CB = 0 := by kernel_rfl
theorem atC_a : atC CB [97] = some 0 := by kernel_rfl
theorem atC_b : atC CB [98] = some 1 := by kernel_rfl
theorem atC_e : atC CB [] = none := by kernel_rfl
theorem cfg_a : (cfgAt CB [97]).dead = [] := by kernel_rfl
theorem cfg_b : (cfgAt CB [98]).dead = [] := by kernel_rfl
section
variable {x0 X : Qu} {lost : Nat}
/-- Of two queues the second stays. -/
def Two (X : Qu) (r : List Qu × Nat) : Prop := ∃ x0 lost, r = ([x0, X], lost)
theorem ap_put (m : Mg) (now : Int) : ∃ x0', (hputR CB [x0, X] [97] m now).1 = [x0', X] := by
  unfold hputR
  rw [atC_a]
  exact ⟨_, rfl⟩
theorem ap_acq (now : Int) : ∃ x0', (hacqR CB [x0, X] [97] now).1 = [x0', X] := by
  unfold hacqR
  rw [atC_a]
  simp only [Option.bind_some, List.getElem?_cons_zero, Option.map_some]
  cases acqQ x0.L now with
  | none => exact ⟨_, rfl⟩
  | some e => exact ⟨_, rfl⟩
theorem ap_bury (Qs : List Qu) (name : List UInt8) (hn : (cfgAt CB name).dead = []) (m : Mg) (now : Int) : hburyR CB Qs lost name m now = (Qs, lost + 1) := by
  unfold hburyR
  rw [hn]
  have h : hputR CB Qs [] (stale m) now = (Qs, 5) := by unfold hputR; rw [atC_e]; rfl
  rw [h]
  rfl
theorem ap_buryL (name : List UInt8) (hn : (cfgAt CB name).dead = []) (now : Int) : ∀ (ms : List Mg) (r : List Qu × Nat), ∃ l', hburyL CB r name ms now = (r.1, l')
  | [], r => ⟨r.2, rfl⟩
  | m :: ms, r => by
    obtain ⟨l', h⟩ := ap_buryL name hn now ms (hburyR CB r.1 r.2 name m now)
    refine ⟨l', ?_⟩
    show hburyL CB (hburyR CB r.1 r.2 name m now) name ms now = _
    rw [h, ap_bury _ _ hn]
theorem ap_set (id : Int) (o : Oc) (now : Int) : Two X (hsetR CB [x0, X] lost [97] id o now).1 := by
  unfold hsetR
  rw [atC_a]
  simp only [Option.bind_some, List.getElem?_cons_zero, Option.map_some]
  cases h : (setQ x0.limit x0.L id o).2.2 with
  | none => exact ⟨_, _, rfl⟩
  | some e =>
    simp only
    rw [ap_bury _ _ cfg_a]
    exact ⟨_, _, rfl⟩
theorem ap_tick (q : Nat) (now : Int) : Two (apX q) (htickL CB ([x0, apX q], lost) now CB.length) := by
  have h1 : htickL CB ([x0, apX q], lost) now CB.length = htick1R CB (htick1R CB [x0, apX q] lost 0 [97] now).1 (htick1R CB [x0, apX q] lost 0 [97] now).2 1 [98] now := rfl
  rw [h1]
  obtain ⟨l1, h2⟩ := ap_buryL [97] cfg_a now ((expL x0.L now).map (·.m)) ([{ x0 with L := expQ x0.L now }, apX q], lost)
  have h3 : htick1R CB [x0, apX q] lost 0 [97] now = ([{ x0 with L := expQ x0.L now }, apX q], l1) := h2
  rw [h3]
  have he : expL (apX q).L now = [] := by
    unfold expL
    rw [show ordQ false (apX q).L = [⟨2, bM2, 0, false⟩] from by kernel_rfl]
    simp [oldE, bM2]
  have h4 : htick1R CB [{ x0 with L := expQ x0.L now }, apX q] l1 1 [98] now = ([{ x0 with L := expQ x0.L now }, { apX q with L := expQ (apX q).L now }], l1) := by
    show hburyL CB ([{ x0 with L := expQ x0.L now }, { apX q with L := expQ (apX q).L now }], l1) [98] ((expL (apX q).L now).map (·.m)) now = _
    rw [he]
    rfl
  rw [h4]
  have h5 : expQ (apX q).L now = (apX q).L := by unfold expQ; rw [he]; exact less_nil _
  rw [h5]
  exact ⟨_, _, rfl⟩
theorem ap_do (q : Nat) (x : HOp) (hx : x.name = [97]) : Two (apX q) (hdoR CB ([x0, apX q], lost) x).1 := by
  unfold hdoR
  rw [hx]
  split
  · obtain ⟨x0', h⟩ := ap_put (x0 := x0) (X := apX q) x.m x.now
    exact ⟨x0', lost, by simp only; rw [h]⟩
  · split
    · obtain ⟨x0', h⟩ := ap_acq (x0 := x0) (X := apX q) x.now
      exact ⟨x0', lost, by simp only; rw [h]⟩
    · split
      · exact ap_set x.id x.o x.now
      · split
        · exact ap_tick q x.now
        · exact ⟨x0, lost, rfl⟩
end
end Go.Proofs.Ytklgndmndnmdpaa
