import Derived.Test.YtkoihcfdchcgdaaQOnceP
import Derived.Test.YtkoihcfdchcgdaaHeld
set_option linter.unusedVariables false
set_option linter.unusedSimpArgs false
namespace Go.Proofs.Ytkoihcfdchcgdaa
open Go.RowKit Go.Shelf

def ki (k : Nat) : Value := .int .i64 k
theorem same_ki (a b : Nat) : Instr.sameNow (.int .i64) (ki a) (ki b) = some (decide (a = b)) := by
  show some (((a : Int) == (b : Int))) = _
  congr 1
  by_cases h : a = b
  · subst h; simp
  · have : (a : Int) ≠ b := by omega
    simp [h, this]
theorem keyI : KeyOK Try.prog 3 ki := ⟨⟨_, Try.underlying3, same_ki, fun em a w => by
  unfold Instr.checkKey
  rw [Sem.run_bind, run_underlying Try.underlying3]
  rfl⟩, fun a => by unfold ki Instr.sameBits; simp⟩
theorem zero_msgv (w : World) : (zeroValue 32).run Try.prog w = .ok (mgv zMg (.slice none 0 0)) w := by kernel_rfl
theorem zero_intv (w : World) : (zeroValue 3).run Try.prog w = .ok (.int .i64 0) w := by kernel_rfl
/-- The law's maps in memory; all is a queue's guest. -/
structure OM (W : World) (Z : List Nat) (r1 r2 r3 : Nat) (D1 D2 D3 : List (Nat × Value)) (last : Nat) (M : Nat → Mg) (V : Nat → Value) : Prop where
  m1 : MapS ki W r1 D1
  m2 : MapS ki W r2 D2
  m3 : MapS ki W r3 D3
  z1 : r1 ∈ Z
  z2 : r2 ∈ Z
  z3 : r3 ∈ Z
  n12 : r1 ≠ r2
  n13 : r1 ≠ r3
  n23 : r2 ≠ r3
  bd : ∀ i, 1 ≤ i → i ≤ last → Bdv W (V i) (M i).body ∧ ∀ k, bblk (V i) (M i).body = some k → k ∈ Z
section
variable {W W' w0 : World} {Z Z' : List Nat} {r1 r2 r3 : Nat} {D1 D2 D3 D' : List (Nat × Value)} {last : Nat} {M : Nat → Mg} {V : Nat → Value}
theorem OM.keep (h : OM W Z r1 r2 r3 D1 D2 D3 last M V) (hk : ∀ k ∈ Z, W'.heap[k]? = W.heap[k]?) : OM W' Z r1 r2 r3 D1 D2 D3 last M V :=
  ⟨h.m1.keep (hk _ h.z1), h.m2.keep (hk _ h.z2), h.m3.keep (hk _ h.z3), h.z1, h.z2, h.z3, h.n12, h.n13, h.n23, fun i a b => ⟨(h.bd i a b).1.keepK fun k hb => hk k ((h.bd i a b).2 k hb), (h.bd i a b).2⟩⟩
theorem OM.kz (h : OM W Z r1 r2 r3 D1 D2 D3 last M V) (hk : Kz Z w0 W W') : OM W' Z r1 r2 r3 D1 D2 D3 last M V := h.keep fun k hz => hk.block k (.inl hz)
theorem OM.more (h : OM W Z r1 r2 r3 D1 D2 D3 last M V) (hs : ∀ k ∈ Z, k ∈ Z') : OM W Z' r1 r2 r3 D1 D2 D3 last M V :=
  ⟨h.m1, h.m2, h.m3, hs _ h.z1, hs _ h.z2, hs _ h.z3, h.n12, h.n13, h.n23, fun i a b => ⟨(h.bd i a b).1, fun k hk => hs k ((h.bd i a b).2 k hk)⟩⟩
theorem map_no8 {r : Nat} {D : List (Nat × Value)} (h : MapS ki W r D) : ∀ k ∈ [r], ∃ o, W.heap[k]? = some o ∧ ∀ (cs : Array Value) (fr : Nat × Nat), o ≠ Obj.cells cs 5 fr := by
  intro k hk
  simp only [List.mem_singleton] at hk
  subst hk
  obtain ⟨_, es, clock, hr, _⟩ := h
  exact ⟨_, hr, by simp⟩
theorem OM.set1 (h : OM W Z r1 r2 r3 D1 D2 D3 last M V) (hm : MapS ki W' r1 D') (t : Tch [r1] W W') : OM W' Z r1 r2 r3 D' D2 D3 last M V :=
  ⟨hm, h.m2.tch t (by simpa using h.n12.symm), h.m3.tch t (by simpa using h.n13.symm), h.z1, h.z2, h.z3, h.n12, h.n13, h.n23, fun i a b => ⟨(h.bd i a b).1.tch t (map_no8 h.m1), (h.bd i a b).2⟩⟩
theorem OM.set2 (h : OM W Z r1 r2 r3 D1 D2 D3 last M V) (hm : MapS ki W' r2 D') (t : Tch [r2] W W') : OM W' Z r1 r2 r3 D1 D' D3 last M V :=
  ⟨h.m1.tch t (by simpa using h.n12), hm, h.m3.tch t (by simpa using h.n23.symm), h.z1, h.z2, h.z3, h.n12, h.n13, h.n23, fun i a b => ⟨(h.bd i a b).1.tch t (map_no8 h.m2), (h.bd i a b).2⟩⟩
theorem OM.set3 (h : OM W Z r1 r2 r3 D1 D2 D3 last M V) (hm : MapS ki W' r3 D') (t : Tch [r3] W W') : OM W' Z r1 r2 r3 D1 D2 D' last M V :=
  ⟨h.m1.tch t (by simpa using h.n13), h.m2.tch t (by simpa using h.n23), hm, h.z1, h.z2, h.z3, h.n12, h.n13, h.n23, fun i a b => ⟨(h.bd i a b).1.tch t (map_no8 h.m3), (h.bd i a b).2⟩⟩
theorem OM.put (h : OM W Z r1 r2 r3 D1 D2 D3 last M V) {m : Mg} {v : Value} {base : Nat} (ho : OwnB W base v m.body) : OM W (v.ownBlock.toList ++ Z) r1 r2 r3 D1 D2 D3 (last + 1) (updF M (last + 1) m) (updF V (last + 1) v) := by
  have h2 := h.more (Z' := v.ownBlock.toList ++ Z) fun k hk => List.mem_append_right _ hk
  refine ⟨h2.m1, h2.m2, h2.m3, h2.z1, h2.z2, h2.z3, h.n12, h.n13, h.n23, fun i a b => ?_⟩
  by_cases hi : i = last + 1
  · subst hi
    unfold updF
    rw [if_pos rfl, if_pos rfl]
    exact ⟨Bdv.of_own ho, fun k hk => List.mem_append_left _ (by simpa using bblk_own ho hk)⟩
  · unfold updF
    rw [if_neg hi, if_neg hi]
    exact h2.bd i a (by omega)
end
/-- A queue and the law's maps, as they belong together. -/
def OI (w W : World) (q room limit last : Nat) (L : List En) (r1 r2 r3 dead done : Nat) : Prop :=
  ∃ Z D1 D2 D3 M V, QF w W Z q room limit last L ∧ OM W Z r1 r2 r3 D1 D2 D3 last M V ∧ OP last L D1 D2 D3 dead done M V
section
variable {w W W' W6 W7 : World} {Z : List Nat} {q room limit last : Nat} {L L' : List En} {r1 r2 r3 dead done : Nat} {D1 D2 D3 : List (Nat × Value)} {M : Nat → Mg} {V : Nat → Value}
theorem OI.below (h : OI w W q room limit last L r1 r2 r3 dead done) (hb : Below W.heap.size W W') : OI w W' q room limit last L r1 r2 r3 dead done := by
  obtain ⟨Z, D1, D2, D3, M, V, h1, h2, h3⟩ := h
  exact ⟨Z, D1, D2, D3, M, V, h1.below hb, h2.keep fun k hk => hb.block k (h1.zs k hk).2, h3⟩
theorem om_below (h1 : QF w W Z q room limit last L') {last' : Nat} (h2 : OM W Z r1 r2 r3 D1 D2 D3 last' M V) (hb : Below W.heap.size W W') : OM W' Z r1 r2 r3 D1 D2 D3 last' M V := h2.keep fun k hk => hb.block k (h1.zs k hk).2
theorem tchz {r : Nat} (h : r ∈ Z) (t : Tch [r] W W') : Tch Z W W' := t.mono fun k hk => by simp only [List.mem_singleton] at hk; subst hk; exact h
theorem oi_same (hq : QF w W Z q room limit last L) (hm : OM W Z r1 r2 r3 D1 D2 D3 last M V) (hp : OP last L D1 D2 D3 dead done M V) (hb : Below W.heap.size W W') : OI w W' q room limit last L r1 r2 r3 dead done :=
  OI.below ⟨Z, D1, D2, D3, M, V, hq, hm, hp⟩ hb
theorem oi_put {m : Mg} {now : Int} {v : Value} (hq : QF w W Z q room limit (last + 1) (L ++ [newE last m now])) (hm : OM W Z r1 r2 r3 D1 D2 D3 last M V) (hp : OP last L D1 D2 D3 dead done M V) (hi : ∀ e ∈ L, 1 ≤ e.id ∧ e.id ≤ last)
    (hb : Below W.heap.size W W') (ho : OwnB W' W.heap.size v m.body) (hr : MapS ki W6 r1 (mput D1 (last + 1) (mgv m v))) (t : Tch [r1] W' W6) : OI w W6 q room limit (last + 1) (L ++ [newE last m now]) r1 r2 r3 dead done := by
  have hq2 := hq.guest (N := v.ownBlock.toList) hb fun k hk => ho.lt k (by simpa using hk)
  have hm2 := (om_below hq hm hb).put ho
  exact ⟨_, _, _, _, _, _, hq2.zset (tchz hm2.z1 t), hm2.set1 hr t, hp.put hi m now v⟩
theorem oi_acq {e : En} (hq : QF w W Z q room limit last (modL (holdE e) L)) (hm : OM W Z r1 r2 r3 D1 D2 D3 last M V) (hp : OP last L D1 D2 D3 dead done M V) (he : e ∈ L) (hb : Below W.heap.size W W')
    (hr : MapS ki W6 r2 (mput D2 e.id one)) (t : Tch [r2] W' W6) : OI w W6 q room limit last (modL (holdE e) L) r1 r2 r3 dead done :=
  ⟨_, _, _, _, _, _, (hq.below hb).zset (tchz hm.z2 t), (om_below hq hm hb).set2 hr t, hp.acq he⟩
theorem oi_gone {e : En} {dead' done' : Nat} (hq : QF w W Z q room limit last (less [e.id] L)) (hm : OM W Z r1 r2 r3 D1 D2 D3 last M V) (hp : OP last L D1 D2 D3 dead done M V) (he : e ∈ L) (hs : L.Pairwise fun a b => a.id < b.id) (hl : e.id ≤ last) (hc : done' + dead' = done + dead + 1)
    (hr : MapS ki W6 r2 (mdel D2 e.id)) (t : Tch [r2] W W6) (hr3 : MapS ki W7 r3 (mput D3 e.id one)) (t3 : Tch [r3] W6 W7) : OI w W7 q room limit last (less [e.id] L) r1 r2 r3 dead' done' :=
  ⟨_, _, _, _, _, _, (hq.zset (tchz hm.z2 t)).zset (tchz hm.z3 t3), (hm.set2 hr t).set3 hr3 t3, hp.gone he hs hl hc⟩
theorem oi_free {e e' : En} (hq : QF w W Z q room limit last (modL e' L)) (hm : OM W Z r1 r2 r3 D1 D2 D3 last M V) (hp : OP last L D1 D2 D3 dead done M V) (he : e ∈ L) (hid : e'.id = e.id) (hh : e'.held = false) (hml : ∀ m0, LikeM m0 e.m → LikeM m0 e'.m)
    (hr : MapS ki W6 r2 (mdel D2 e.id)) (t : Tch [r2] W W6) : OI w W6 q room limit last (modL e' L) r1 r2 r3 dead done :=
  ⟨_, _, _, _, _, _, hq.zset (tchz hm.z2 t), hm.set2 hr t, hp.free he hid hh hml⟩
theorem oi_exp {now : Int} (hq : QF w W Z q room limit last (expQ L now)) (hm : OM W Z r1 r2 r3 D1 D2 D3 last M V) (hp : OP last L D1 D2 D3 dead done M V) (hs : L.Pairwise fun a b => a.id < b.id) : OI w W q room limit last (expQ L now) r1 r2 r3 (dead + (expL L now).length) done :=
  ⟨_, _, _, _, _, _, hq, hm, hp.exp hs now⟩
/-- What the maps say. -/
theorem OM.was (h : OM W Z r1 r2 r3 D1 D2 D3 last M V) (hp : OP last L D1 D2 D3 dead done M V) (i : Nat) : (Instr.lookup 67 (.map (some r1)) (.int .i64 i) true).run Try.prog W = .ok (if 1 ≤ i ∧ i ≤ last then .tuple #[mgv (M i) (V i), .bool true] else .tuple #[mgv zMg (.slice none 0 0), .bool false]) W := by
  have h1 := h.m1.look Try.underlying67 keyI i _ (zero_msgv _) true
  rw [hp.w1] at h1
  unfold ki at h1
  rw [h1]
  by_cases hi : 1 ≤ i ∧ i ≤ last
  · rw [if_pos hi, if_pos hi]; rfl
  · rw [if_neg hi, if_neg hi]; rfl
theorem map_no {W : World} {r : Nat} {D : List (Nat × Value)} (h : MapS ki W r D) (i : Nat) (hn : luk D i = none) : (Instr.lookup 68 (.map (some r)) (.int .i64 i) false).run Try.prog W = .ok (.int .i64 0) W := by
  have h1 := h.look Try.underlying68 keyI i _ (zero_intv _) false
  rw [hn] at h1
  unfold ki at h1
  rw [h1]; rfl
theorem map_one {W : World} {r : Nat} {D : List (Nat × Value)} (h : MapS ki W r D) (i : Nat) (hn : luk D i = some one) : (Instr.lookup 68 (.map (some r)) (.int .i64 i) false).run Try.prog W = .ok (.int .i64 1) W := by
  have h1 := h.look Try.underlying68 keyI i _ (zero_intv _) false
  rw [hn] at h1
  unfold ki at h1
  rw [h1]; rfl
theorem OP.held_no (hp : OP last L D1 D2 D3 dead done M V) {e : En} (he : e ∈ L) (hh : e.held = false) (hs : L.Pairwise fun a b => a.id < b.id) : luk D2 e.id = none := by
  rcases hp.h e.id with ⟨_, x, hx, h1, h2⟩ | ⟨h1, _⟩
  · have := sorted_uniq hs hx he h1
    subst this
    rw [hh] at h2; cases h2
  · exact h1
theorem OP.held_one (hp : OP last L D1 D2 D3 dead done M V) {e : En} (he : e ∈ L) (hh : e.held = true) : luk D2 e.id = some one := by
  rcases hp.h e.id with ⟨h1, _⟩ | ⟨_, h1⟩
  · exact h1
  · rw [h1 e he rfl] at hh; cases hh
theorem OP.gone_no (hp : OP last L D1 D2 D3 dead done M V) {e : En} (he : e ∈ L) : luk D3 e.id = none := by
  rcases hp.g e.id with h1 | ⟨_, _, h1⟩
  · exact h1
  · exact absurd rfl (h1 e he)
end
section
variable {κ : Type} [DecidableEq κ] {P : Program} {T kt et : TypeId} {kv : κ → Value}
theorem wpIn_mput {F : Fence} {n' : Nat} (hF : ∀ f, F.fn f) (w : World) {o : Oper} {a : Act} {K : Act → World → Prop} {Q : Exit → Act → World → Prop}
    (m x v : Operand) (hop : o.op = Op.mapUpdate T m x v) (ht : P.underlying T = some (.map kt et)) (Kk : KeyOK P kt kv) (r : Nat) (D : List (κ × Value))
    (hm : a.eval m = .map (some r)) (h : MapS kv w r D) (k : κ) (hx : a.eval x = kv k) (u : Value) (hv : a.eval v = u)
    (hK : ∀ w', MapS kv w' r (mput D k u) → Tch [r] w w' → K (a.put o.dst undef) w') : o.wpIn F n' P a w K Q := by
  obtain ⟨w', hrun, r1, r2⟩ := h.update ht Kk k u
  refine ⟨fun f _ => hF f, ?_⟩
  rw [Oper.semAt_eq _ _ o (fun c hc => by rw [hop] at hc; cases hc)]
  simp [execOp, hop, hm, hx, hv, hrun, Result.andThen]
  exact hK w' r1 r2
end
section
variable {F : Fence} {n : Nat} {P : Program} {ops : Array Oper} {Q : Exit → Act → World → Prop} {md : Region.Mode} {X : List Nat} {S : World → Prop}
def otkB (md : Region.Mode) (ops : Array Oper) (X : List Nat) (listed : Array Bool) (i : Nat) : Bool := noDfB ops && Region.noSelect ops && Region.free md ops listed i && (Region.ready md ops listed).contains i && waitB md ops X i
theorem o_tk (i : Nat) {oi : Oper} {v : Value} {fuel : Nat} {listed : Array Bool} {a : Act} {w : World} (hi : ops[i]? = some oi) (hb : otkB md ops X listed i = true) (hw : Region.wanted oi (yielded ops a.tmps) = true) (hy : ∀ w, S w → (execOp a.eval oi).run P w = .ok (.value v) w) (hS : S w)
    (h : AnyS F n P md ops Q X S fuel (listed.setIfInBounds i true) (a.put oi.dst v) w) (hF : ∀ f, F.fn f := by exact fun _ => trivial) (hQ : ∀ c a w, Q (.panic c) (a.put oi.dst v) w → Q (.panic c) a w := by exact fun _ _ _ h => h) : AnyS F n P md ops Q X S (fuel + 1) listed a w := by
  unfold otkB at hb
  simp only [Bool.and_eq_true] at hb
  obtain ⟨⟨⟨⟨h1, h2⟩, h3⟩, h4⟩, h5⟩ := hb
  exact s_take hF h1 i hi h2 h3 h4 h5 hQ hw hy hS h
theorem o_ps (i : Nat) {oi : Oper} {fuel : Nat} {listed : Array Bool} {a : Act} {w : World} (hi : ops[i]? = some oi) (hb : otkB md ops X listed i = true) (hw : Region.wanted oi (yielded ops a.tmps) = false) (hS : S w)
    (h : AnyS F n P md ops Q X S fuel (listed.setIfInBounds i true) (a.put oi.dst undef) w) (hF : ∀ f, F.fn f := by exact fun _ => trivial) (hQ : ∀ c a w, Q (.panic c) (a.put oi.dst undef) w → Q (.panic c) a w := by exact fun _ _ _ h => h) : AnyS F n P md ops Q X S (fuel + 1) listed a w := by
  unfold otkB at hb
  simp only [Bool.and_eq_true] at hb
  obtain ⟨⟨⟨⟨h1, h2⟩, h3⟩, h4⟩, h5⟩ := hb
  exact s_pass hF h1 i hi h2 h3 h4 h5 hQ hw hS h
end
end Go.Proofs.Ytkoihcfdchcgdaa
