import Derived.Test.YtafmhpcfjmannaaIkLeave
set_option linter.unusedVariables false
set_option linter.unusedSimpArgs false
namespace Go.Proofs.Ytafmhpcfjmannaa
open Go.RowKit

/-- Entries as they can be. -/
structure GoodI (es : Is) : Prop where
  sm : Small es
  few : es.length ≤ 512
  ids : (es.map (·.1)).Nodup
  kn : (es.map (·.2)).Nodup
theorem GoodI.nil : GoodI [] := ⟨by simp [Small], by simp, by simp, by simp⟩
theorem GoodI.sub {es es' : Is} (h : GoodI es) (hs : es'.Sublist es) : GoodI es' :=
  ⟨fun p hp => h.sm p (hs.subset hp), Nat.le_trans hs.length_le h.few, h.ids.sublist (hs.map _), h.kn.sublist (hs.map _)⟩
theorem GoodI.put {es es' : Is} {i : Nat} {k : Ky} {n : Nat} (h : GoodI es) (hi : i < 4294967296) (r : putI es i k = (n, es')) : GoodI es' := by
  unfold putI at r
  split at r
  · cases r; exact h
  · rename_i h1
    split at r
    · cases r; exact h
    · rename_i h2
      cases r
      have hg : geI es i = none := by cases hh : geI es i <;> simp_all
      have hf : fiI es k = none := by cases hh : fiI es k <;> simp_all
      refine ⟨fun p hp => ?_, by simp; omega, nodupI_snoc h.ids hg k, ?_⟩
      · rcases List.mem_append.1 hp with e | e
        · exact h.sm p e
        · simp at e; subst e; exact hi
      · rw [List.map_append]
        refine List.nodup_append.2 ⟨h.kn, by simp, ?_⟩
        intro a ha b hb e
        simp at hb
        subst hb e
        obtain ⟨p, hp, rfl⟩ := List.mem_map.1 ha
        exact fiI_none.1 hf p hp rfl
theorem GoodI.drop {es es' : Is} {i : Nat} {b : Bool} (h : GoodI es) (r : dropI es i = (b, es')) : GoodI es' := by
  unfold dropI at r
  split at r <;> cases r
  · exact h.sub List.filter_sublist
  · exact h
theorem GoodI.leave {es es' : Is} {x : Int} {gl : List Ky} (h : GoodI es) (r : leaveI es x = (gl, es')) : GoodI es' := by
  have : es' = (leaveI es x).2 := by rw [r]
  subst this
  exact h.sub List.filter_sublist

/-- Numbers that were made since w0. -/
structure IkF (w0 w : World) (a : Nat) (F : List Nat) (es : Is) : Prop where
  old : Below w0.heap.size w0 w
  is : Ik w a F es
  hi : ∀ k ∈ F, w0.heap.size ≤ k
  good : GoodI es
def Sti (v : Value) (w0 w : World) (a : Nat) (F : List Nat) (es' : Is) (e : Ending) (w' : World) : Prop :=
  ∃ F', e = .returned v ∧ IkF w0 w' a F' es' ∧ Tch F w w' ∧ ∀ k ∈ F', k ∈ F ∨ w.heap.size ≤ k
theorem IkF.below {w0 w w' : World} {a : Nat} {F : List Nat} {es : Is} (h : IkF w0 w a F es) (hb : Below w.heap.size w w') : IkF w0 w' a F es :=
  ⟨below_then h.old h.old.size hb, h.is.below hb, h.hi, h.good⟩
theorem IkF.step {w0 w w' : World} {a : Nat} {F F' : List Nat} {es es' : Is} (h : IkF w0 w a F es) (hm : Ik w' a F' es') (ht : Tch F w w') (hf : ∀ k ∈ F', k ∈ F ∨ w.heap.size ≤ k) (hg : GoodI es') : IkF w0 w' a F' es' :=
  ⟨h.old.trans (ht.below h.old.size h.hi), hm, fun k hk => by
    rcases hf k hk with e | e
    · exact h.hi k e
    · exact Nat.le_trans h.old.size e, hg⟩
theorem IkF.len {w0 w : World} {a : Nat} {F : List Nat} {es : Is} (h : IkF w0 w a F es) : es.length ≤ 1000000 := by have := h.good.few; omega
theorem if_new (w0 w : World) (h : Below w0.heap.size w0 w) :
    Calls Try.prog 11 #[] w fun e w' => e = .returned (.pointer (some ⟨w.heap.size + 1, 0, none⟩)) ∧ IkF w0 w' (w.heap.size + 1) [w.heap.size, w.heap.size + 1] [] ∧ Below w.heap.size w w' :=
  (newI_calls w).mono fun e w' ⟨h1, h2, h3⟩ => ⟨h1, ⟨below_then h h.size h3, h2, (fun k hk => by
    have := h.size
    simp at hk
    omega), GoodI.nil⟩, h3⟩
theorem if_put {w0 w : World} {a : Nat} {F : List Nat} {es es' : Is} (i : Nat) (k : Ky) {n : Nat} (h : IkF w0 w a F es) (hi : i < 4294967296) (r : putI es i k = (n, es')) :
    Calls Try.prog 23 #[.pointer (some ⟨a, 0, none⟩), .int .u32 i, .agg #[.int .i64 k.h, .string ⟨k.t.toArray⟩]] w (Sti (.int .i64 n) w0 w a F es') :=
  (putI_calls a F es i k w h.is h.len r).mono fun e w' ⟨F', h1, h2, h3, h4⟩ => ⟨F', h1, h.step h2 h3 h4 (h.good.put hi r), h3, h4⟩
theorem if_get {w0 w : World} {a : Nat} {F : List Nat} {es : Is} (i : Nat) {k : Ky} {b : Bool} (h : IkF w0 w a F es) (r : getA es i = (k, b)) :
    Calls Try.prog 19 #[.pointer (some ⟨a, 0, none⟩), .int .u32 i] w fun e w' => e = .returned (.tuple #[.agg #[.int .i64 k.h, .string ⟨k.t.toArray⟩], .bool b]) ∧ IkF w0 w' a F es ∧ Below w.heap.size w w' :=
  (getI_calls a F es i w h.is r).mono fun e w' ⟨h1, h2⟩ => ⟨h1, h.below h2, h2⟩
theorem if_find {w0 w : World} {a : Nat} {F : List Nat} {es : Is} (k : Ky) {n : Nat} {b : Bool} (h : IkF w0 w a F es) (r : fndA es k = (n, b)) :
    Calls Try.prog 20 #[.pointer (some ⟨a, 0, none⟩), .agg #[.int .i64 k.h, .string ⟨k.t.toArray⟩]] w fun e w' => e = .returned (.tuple #[.int .u32 n, .bool b]) ∧ IkF w0 w' a F es ∧ Below w.heap.size w w' :=
  (findI_calls a F es k w h.is h.len r).mono fun e w' ⟨h1, h2⟩ => ⟨h1, h.below h2, h2⟩
theorem if_drop {w0 w : World} {a : Nat} {F : List Nat} {es es' : Is} (i : Nat) {b : Bool} (h : IkF w0 w a F es) (r : dropI es i = (b, es')) :
    Calls Try.prog 22 #[.pointer (some ⟨a, 0, none⟩), .int .u32 i] w (Sti (.bool b) w0 w a F es') :=
  (dropI_calls a F es i w h.is r).mono fun e w' ⟨F', h1, h2, h3, h4⟩ => ⟨F', h1, h.step h2 h3 h4 (h.good.drop r), h3, h4⟩
theorem if_count {w0 w : World} {a : Nat} {F : List Nat} {es : Is} (h : IkF w0 w a F es) :
    Calls Try.prog 16 #[.pointer (some ⟨a, 0, none⟩)] w fun e w' => e = .returned (.int .i64 es.length) ∧ w = w' := count_calls a F es w h.is
theorem if_range {w0 w : World} {a : Nat} {F : List Nat} {es : Is} (f l : Nat) {ns : List Nat} (h : IkF w0 w a F es) (hf : f < 4294967296) (hl : l < 4294967296) (r : rangeI es f l = ns) :
    Calls Try.prog 18 #[.pointer (some ⟨a, 0, none⟩), .int .u32 f, .int .u32 l] w fun e w' => ∃ v, e = .returned v ∧ OwnN w' w.heap.size v ns ∧ IkF w0 w' a F es ∧ Below w.heap.size w w' := by
  subst r
  exact (rangeI_calls a F es f l w h.is h.len hf hl h.good.sm).mono fun e w' ⟨v, h1, h2, h3⟩ => ⟨v, h1, h2, h.below h3, h3⟩
def LvP (w0 w : World) (a : Nat) (F : List Nat) (es' : Is) (gl : List Ky) (e : Ending) (w' : World) : Prop :=
  ∃ v F', e = .returned v ∧ OwnK w' w.heap.size v gl ∧ IkF w0 w' a F' es' ∧ Tch F w w' ∧ (∀ k ∈ F', k ∈ F ∨ w.heap.size ≤ k) ∧ ∀ g, v.ownBlock = some g → g ∉ F'
theorem if_leave {w0 w : World} {a : Nat} {F : List Nat} {es es' : Is} (x : Int) {gl : List Ky} (h : IkF w0 w a F es) (r : leaveI es x = (gl, es')) :
    Calls Try.prog 21 #[.pointer (some ⟨a, 0, none⟩), .int .i64 x] w (LvP w0 w a F es' gl) := by
  refine (leaveI_calls a F es x w h.is h.len).mono fun e w' ⟨v, F', h1, h2, h3, h4, h5, h6⟩ => ?_
  rw [r] at h2 h3
  exact ⟨v, F', h1, h2, h.step h3 h4 h5 (h.good.leave r), h4, h5, h6⟩

def wi1 : Is := [(4294967295, ⟨0, [97]⟩)]
def wi2 : Is := [(4294967295, ⟨0, [97]⟩), (0, ⟨0, [98]⟩)]
def wi3 : Is := [(4294967295, ⟨0, [97]⟩), (0, ⟨0, [98]⟩), (5, ⟨1, [97]⟩)]
def wi4 : Is := [(5, ⟨1, [97]⟩)]
set_option maxRecDepth 100000 in
set_option maxHeartbeats 4000000 in
theorem works_calls (w : World) :
    Calls Try.prog 10 #[] w fun e w' => e = .returned (.bool true) ∧ Below w.heap.size w w' := by
  go_enter Try.func10, Try.ntmps10
  go_wp2_with fail
  refine (if_new w w (Below.refl _ _)).mono ?_
  rintro e w1 ⟨rfl, m1, -⟩
  have M1 := Lib.hid m1
  clear m1
  go_wp2_with fail
  refine (if_put 4294967295 ⟨0, [97]⟩ M1.out (n := 0) (es' := wi1) (by decide) (by decide +kernel)).mono ?_
  rintro e w2 ⟨F2, rfl, m2, -, -⟩
  have M2 := Lib.hid m2
  clear m2 M1
  go_wp2_with fail
  refine (if_put 0 ⟨0, [98]⟩ M2.out (n := 0) (es' := wi2) (by decide) (by decide +kernel)).mono ?_
  rintro e w3 ⟨F3, rfl, m3, -, -⟩
  have M3 := Lib.hid m3
  clear m3 M2
  go_wp2_with fail
  refine (if_put 5 ⟨1, [97]⟩ M3.out (n := 0) (es' := wi3) (by decide) (by decide +kernel)).mono ?_
  rintro e w4 ⟨F4, rfl, m4, -, -⟩
  have M4 := Lib.hid m4
  clear m4 M3
  go_wp2_with fail
  refine (if_put 5 ⟨0, [99]⟩ M4.out (n := 8) (es' := wi3) (by decide) (by decide +kernel)).mono ?_
  rintro e w5 ⟨F5, rfl, m5, -, -⟩
  have M5 := Lib.hid m5
  clear m5 M4
  go_wp2_with fail
  refine (if_put 6 ⟨0, [98]⟩ M5.out (n := 8) (es' := wi3) (by decide) (by decide +kernel)).mono ?_
  rintro e w6 ⟨F6, rfl, m6, -, -⟩
  have M6 := Lib.hid m6
  clear m6 M5
  go_wp2_with fail
  refine (if_range 4294967295 0 M6.out (ns := [4294967295, 0]) (by decide) (by decide) (by decide +kernel)).mono ?_
  rintro e w7 ⟨v7, rfl, o7, m7, -⟩
  have M7 := Lib.hid m7
  unfold OwnN at o7
  obtain ⟨g7, cp7, rfl, hg7, hg71, hg72⟩ := o7.form (by decide)
  have O7 := Lib.hid o7
  have HG7 := Lib.hid (show g7 ∉ F6 from fun hF => by have := M6.out.is.lts _ hF; omega)
  have hl : ([4294967295, 0] : List Nat).length = 2 := rfl
  rw [hl]
  clear m7 M6 o7 hg7
  go_wp2_with fail
  refine (if_range 0 4294967295 M7.out (ns := []) (by decide) (by decide) (by decide +kernel)).mono ?_
  rintro e w8 ⟨v8, rfl, o8, m8, b8⟩
  have M8 := Lib.hid m8
  unfold OwnN at o8
  obtain ⟨A8, c8, rfl⟩ := o8.slice
  have O8 := Lib.hid (O7.out.below b8)
  have hl : ([] : List Nat).length = 0 := rfl
  rw [hl]
  clear m8 M7 o8 b8 O7 hg71
  go_wp2_with fail
  refine (if_find ⟨1, [97]⟩ M8.out (n := 5) (b := true) (by decide +kernel)).mono ?_
  rintro e w9 ⟨rfl, m9, b9⟩
  have M9 := Lib.hid m9
  have O9 := Lib.hid (O8.out.below b9)
  clear m9 M8 b9 O8
  go_wp2_with fail
  refine (if_leave 0 M9.out (gl := [⟨0, [97]⟩, ⟨0, [98]⟩]) (es' := wi4) (by decide +kernel)).mono ?_
  rintro e w10 ⟨v10, F10, rfl, o10, m10, t10, f10, -⟩
  have M10 := Lib.hid m10
  have O10 := O9.out.tch t10 (fun g hg => by
    simp [Value.ownBlock] at hg
    subst hg
    exact HG7.out)
  have d1 := (O10.cell_at 0 (uv 4294967295) (by rfl)).1
  have d2 := (O10.cell_at 1 (uv 0) (by rfl)).1
  unfold uv at d1 d2
  unfold OwnK at o10
  obtain ⟨g, cp, rfl, hg0, hg1, hg2⟩ := o10.form (by decide)
  have c1 := (o10.cell_at 3 (.string ⟨#[98]⟩) (by rfl)).1
  have hl : ([⟨0, [97]⟩, ⟨0, [98]⟩] : List Ky).length = 2 := rfl
  rw [hl]
  clear m10 M9 o10 t10 hg0 O10 O9 HG7 f10
  go_wp2_with fail
  refine (if_count M10.out).mono ?_
  rintro e w11 ⟨rfl, rfl⟩
  have hl : (wi4 : Is).length = 1 := rfl
  rw [hl]
  clear d1 d2 c1
  go_wp2_with fail
  refine (if_drop 5 M10.out (b := true) (es' := []) (by decide +kernel)).mono ?_
  rintro e w11 ⟨F11, rfl, m11, -, -⟩
  have M11 := Lib.hid m11
  clear m11 M10
  go_wp2_with fail
  refine (if_drop 5 M11.out (b := false) (es' := []) (by decide +kernel)).mono ?_
  rintro e w12 ⟨F12, rfl, m12, -, -⟩
  have M12 := Lib.hid m12
  clear m12 M11
  go_wp2_with fail
  go_ret
  exact ⟨rfl, M12.out.old⟩
end Go.Proofs.Ytafmhpcfjmannaa
