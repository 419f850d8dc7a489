import Derived.Test.YtmeljnohkhkfmaaFReadOk
set_option linter.unusedVariables false
set_option linter.unusedSimpArgs false
namespace Go.Proofs.Ytmeljnohkhkfmaa
open Go.RowKit

/-- What a reading yields: the error, the size, the channel, the body. -/
structure Fr where
  err : Nat
  n : Nat
  ch : Nat
  body : List UInt8
/-- The frame of any bytes. -/
def fr (l : List UInt8) (most : Nat) : Fr :=
  if l.length < 4 then ⟨7, 0, 0, []⟩ else
  if okSize (be (l.take 4)) most = false then ⟨6, 0, 0, []⟩ else
  if l.length < 5 then ⟨7, 0, 0, []⟩ else
  if okSize (4 * ((l[4]?).getD 0).toNat) (be (l.take 4)) = false then ⟨6, 0, 0, []⟩ else
  if l.length < 6 then ⟨7, 0, 0, []⟩ else
  if ((l[5]?).getD 0).toNat ≠ 0 then ⟨6, 0, 0, []⟩ else
  if l.length < be (l.take 4) then ⟨7, 0, 0, []⟩ else
  ⟨0, be (l.take 4), be ((l.take 8).drop 6), (l.take (be (l.take 4))).drop (4 * ((l[4]?).getD 0).toNat)⟩

def frRet (r : Fr) (v : Value) : Ending := .returned (.tuple #[.agg #[.int .u16 (r.ch : Nat), v], .int .i64 (r.n : Nat), .int .i64 (r.err : Nat)])

theorem read_calls (A : Option Addr) (c : Nat) (l : List UInt8) (most : Nat) (w : World) (h : Rd w A c l) (hm : most ≤ 4294967295) :
    Calls Try.prog 26 #[.slice A l.length c, .int .u32 most] w fun e w' => ∃ v, e = frRet (fr l most) v ∧ OwnB w' w.heap.size v (fr l most).body ∧ Below w.heap.size w w' := by
  have no7 : fr l most = ⟨7, 0, 0, []⟩ → (Calls Try.prog 26 #[.slice A l.length c, .int .u32 most] w fun e w' => e = .returned (.tuple #[.agg #[.int .u16 0, .slice none 0 0], .int .i64 0, .int .i64 7]) ∧ Below w.heap.size w w') →
      Calls Try.prog 26 #[.slice A l.length c, .int .u32 most] w fun e w' => ∃ v, e = frRet (fr l most) v ∧ OwnB w' w.heap.size v (fr l most).body ∧ Below w.heap.size w w' := by
    intro hf hc
    rw [hf]
    exact hc.mono fun _ _ ⟨h1, h2⟩ => ⟨.slice none 0 0, h1, OwnB.nil_, h2⟩
  have no6 : fr l most = ⟨6, 0, 0, []⟩ → (Calls Try.prog 26 #[.slice A l.length c, .int .u32 most] w fun e w' => e = .returned (.tuple #[.agg #[.int .u16 0, .slice none 0 0], .int .i64 0, .int .i64 6]) ∧ Below w.heap.size w w') →
      Calls Try.prog 26 #[.slice A l.length c, .int .u32 most] w fun e w' => ∃ v, e = frRet (fr l most) v ∧ OwnB w' w.heap.size v (fr l most).body ∧ Below w.heap.size w w' := by
    intro hf hc
    rw [hf]
    exact hc.mono fun _ _ ⟨h1, h2⟩ => ⟨.slice none 0 0, h1, OwnB.nil_, h2⟩
  by_cases h4 : l.length < 4
  · exact no7 (by rw [fr, if_pos h4]) (read_s4 A c l most w h hm h4)
  cases ho : okSize (be (l.take 4)) most with
  | false =>
    refine no6 (by rw [fr, if_neg h4, if_pos ho]) ?_
    by_cases h5 : l.length = 4
    · exact read_f4a A c l most w h hm h5 ho
    · exact read_f4 A c l most w h hm (by omega) ho
  | true =>
  by_cases h5 : l.length < 5
  · exact no7 (by rw [fr, if_neg h4, if_neg (by rw [ho]; decide), if_pos h5]) (read_s5 A c l most w h hm (by omega) ho)
  cases hp : okSize (4 * ((l[4]?).getD 0).toNat) (be (l.take 4)) with
  | false => exact no6 (by rw [fr, if_neg h4, if_neg (by rw [ho]; decide), if_neg h5, if_pos hp]) (read_f5 A c l most w h hm (by omega) ho hp)
  | true =>
  by_cases h6 : l.length < 6
  · exact no7 (by rw [fr, if_neg h4, if_neg (by rw [ho]; decide), if_neg h5, if_neg (by rw [hp]; decide), if_pos h6]) (read_s6 A c l most w h hm (by omega) ho hp)
  by_cases hz : ((l[5]?).getD 0).toNat ≠ 0
  · exact no6 (by rw [fr, if_neg h4, if_neg (by rw [ho]; decide), if_neg h5, if_neg (by rw [hp]; decide), if_neg h6, if_pos hz]) (read_f6 A c l most w h hm (by omega) ho hp (by simp; omega))
  have hz' : (((((l[5]?).getD 0).toNat : Nat) : Int) == 0) = true := by simp; omega
  by_cases hl : l.length < be (l.take 4)
  · exact no7 (by rw [fr, if_neg h4, if_neg (by rw [ho]; decide), if_neg h5, if_neg (by rw [hp]; decide), if_neg h6, if_neg hz, if_pos hl]) (read_sl A c l most w h hm (by omega) ho hp hz' hl)
  have hf : fr l most = ⟨0, be (l.take 4), be ((l.take 8).drop 6), (l.take (be (l.take 4))).drop (4 * ((l[4]?).getD 0).toNat)⟩ := by
    rw [fr, if_neg h4, if_neg (by rw [ho]; decide), if_neg h5, if_neg (by rw [hp]; decide), if_neg h6, if_neg hz, if_neg hl]
  rw [hf]
  exact (read_ok A c l most w h hm (by omega) ho hp hz' (by omega)).mono fun _ _ ⟨v, h1, h2, h3⟩ => ⟨v, h1, h2, h3⟩
end Go.Proofs.Ytmeljnohkhkfmaa
