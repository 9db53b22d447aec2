/- wire's pen, writing: its cells; number, and the numbers: walks. -/
import Derived.Test.YtimjpkmdphccmaaWS12
import Derived.Test.YtimjpkmdphccmaaWS3
import Derived.Test.YtimjpkmdphccmaaWS7
import Derived.Test.YtimjpkmdphccmaaProg
import Derived.Test.YtimjpkmdphccmaaWS5
import Derived.Deep.RegionHeld2
import Derived.Laws.EntriesVeiled
import Derived.Laws.Pointers
import Derived.WalkLawsBesides
import Derived.WalkSpells
import Derived.Tactics
import Derived.Tactics2
import Derived.WalkKit
import Derived.Handy
import Derived.Deep.RegionHeld3
import Derived.Deep.DrawnRows
import Derived.Deep.DeepCutAuto
import Derived.KernelRfl
import Derived.BigRegion
import Derived.BigQuiet
import Derived.Deep.QuietTactic
import Derived.Outline
import Derived.Lib.Hide
import Derived.Defers
import Derived.Recover

namespace Go.Proofs.Ytimjpkmdphccmaa
open Go.RowKit
attribute [local go_sem ↓] Go.wp_at_zero Go.wp_at_succ
set_option linter.unusedVariables false
set_option linter.unusedSimpArgs false

/-- A slice's address leads to these bytes, not in block p. -/
def OutAt (w : World) (p : Nat) (A : Option Addr) (l : List UInt8) : Prop := l = [] ∨ ∃ b o, A = some ⟨b, o, none⟩ ∧ b ≠ p ∧ ∀ i (h : i < l.length), w.cell? ⟨b, o + i, none⟩ = some (.int .u8 (l[i].toNat : Int))
theorem OutAt.bytes {w : World} {p : Nat} {A : Option Addr} {l : List UInt8} (h : OutAt w p A l) : BytesAt w A l := by
  rcases h with h | ⟨b, o, hA, _, h⟩
  · exact .inl h
  · exact .inr ⟨b, o, hA, h⟩
theorem OutAt.grown {w w' : World} {p : Nat} {A : Option Addr} {l : List UInt8} (h : OutAt w p A l) (hg : w.grownBy w' (some p)) : OutAt w' p A l := by
  rcases h with h | ⟨b, o, hA, hne, h⟩
  · exact .inl h
  · exact .inr ⟨b, o, hA, hne, fun i hi => (World.cell?_of_block (a := ⟨b, o + i, none⟩) (hg.block b (World.block_lt_of_cell? _ _ (h i hi)) (by simpa using hne))).trans (h i hi)⟩
theorem OutAt.made {w w' : World} {p : Nat} {v : Value} {l : List UInt8} (h : ByRow w.heap.size w' v l) (hp : p < w.heap.size) : ∃ A c, v = .slice A l.length c ∧ l.length ≤ c ∧ OutAt w' p A l := by
  obtain ⟨A, c, hv, hc, hA⟩ := h.opens
  refine ⟨A, c, hv, hc, ?_⟩
  rcases hA with h0 | ⟨b, hA, h1, h2, h3⟩
  · exact .inl h0
  · exact .inr ⟨b, 0, hA, by omega, fun i hi => by rw [Nat.zero_add]; exact h3 i hi⟩

/-- What a pen's call that writes comes to: the bytes behind out, the note of what it was. -/
def PenPost (ok : Bool) (bM bP : Nat) (out : List UInt8) (L : List Value) (w : World) (e : Ending) (w' : World) : Prop :=
  if ok then e = .returned (.tuple #[]) ∧ w.grownBy w' (some bP) ∧ ∃ A c, w'.heap[bP]? = some (.cells (.pointer (some ⟨bM, 0, none⟩) :: .pointer none :: .slice A out.length c :: L).toArray 110 (0, 0)) ∧ out.length ≤ c ∧ OutAt w' bP A out
  else e = .panicked [{ v := .iface 133 (.agg #[]), recovered := false }] ∧ Below w.heap.size w w'
theorem PenPost.fail {bM bP : Nat} {out : List UInt8} {L : List Value} {w w' : World} {ok : Bool} (h : ok = false) (hb : Below w.heap.size w w') : PenPost ok bM bP out L w (.panicked [{ v := .iface 133 (.agg #[]), recovered := false }]) w' := by
  rw [PenPost, h]; exact ⟨rfl, hb⟩
theorem PenPost.good {bM bP : Nat} {out : List UInt8} {L : List Value} {w w' : World} {ok : Bool} {A : Option Addr} {c : Nat} (h : ok = true) (hg : w.grownBy w' (some bP)) (hP : w'.heap[bP]? = some (.cells (.pointer (some ⟨bM, 0, none⟩) :: .pointer none :: .slice A out.length c :: L).toArray 110 (0, 0)))
    (hc : out.length ≤ c) (ho : OutAt w' bP A out) : PenPost ok bM bP out L w (.returned (.tuple #[])) w' := by
  rw [PenPost, h]; exact ⟨rfl, hg, A, c, hP, hc, ho⟩

theorem PenPost.put {bM bP : Nat} {out : List UInt8} {L : List Value} {w w1 w2 : World} {x : Value} {A : Option Addr} {c k : Nat} (hg : w.grownBy w1 (some bP)) (hb : Below w1.heap.size w1 w2) (hP : w2.heap[bP]? = some (.cells (.pointer (some ⟨bM, 0, none⟩) :: .pointer none :: x :: L).toArray 110 (0, 0)))
    (hk : k = out.length) (hc : out.length ≤ c) (ho : OutAt w2 bP A out) : PenPost true bM bP out L w (.returned (.tuple #[])) (w2.setCell ⟨bP, 2, none⟩ (.slice A k c)) := by
  subst hk
  have hg2 : w2.grownBy (w2.setCell ⟨bP, 2, none⟩ (.slice A out.length c)) (some bP) := grown_set (grown_refl w2 _) _ _
  refine PenPost.good rfl (grown_step (grown_step hg (grown_of_below hb (some bP)) (.inl rfl)) hg2 (.inl rfl)) ?_ hc (ho.grown hg2)
  rw [setCell_blk hP]
  simp

set_option maxRecDepth 100000 in
set_option maxHeartbeats 2000000 in
theorem number_w (bM bP i : Nat) (n fr : Int) (A : Option Addr) (c : Nat) (out : List UInt8) (L : List Value) (w : World)
    (hP : w.heap[bP]? = some (.cells (.pointer (some ⟨bM, 0, none⟩) :: .pointer none :: .slice A out.length c :: L).toArray 110 (0, 0))) (hi : i < L.length) (hM : w.cell? ⟨bM, i, none⟩ = some (.int .i64 n)) (hne : bM ≠ bP) (hout : OutAt w bP A out)
    (hl : out.length ≤ 1099511627776) (hn0 : -9223372036854775808 ≤ n) (hn1 : n ≤ 9223372036854775807) :
    Calls Try.prog 130 #[.pointer (some ⟨bP, 0, none⟩), .pointer (some ⟨bM, i, none⟩), .pointer (some ⟨bP, 3 + i, none⟩), .int .i64 fr] w
      (PenPost (leastB n fr) bM bP (out ++ numB n) (L.set i (.int .i64 n)) w) := by
  obtain ⟨p1, pz⟩ := cell_of hP (i := 1) (v := .pointer none) rfl
  cases hq : leastB n fr with
  | false =>
    go_enter Try.func130, Try.ntmps130
    go_wp2_with fail
    refine (least_calls n fr w).mono ?_
    rintro e w1 ⟨rfl, rfl⟩
    rw [hq]
    go_wp2_with fail
    refine (must_false w).mono ?_
    rintro e w1 ⟨rfl, rfl⟩
    exact ⟨rfl, PenPost.fail rfl (Below.refl _ _)⟩
  | true =>
    have lP := (Array.getElem?_eq_some_iff.1 hP).1
    have hE := setCell_blk hP (3 + i) (.int .i64 n)
    have hset : (.pointer (some ⟨bM, 0, none⟩) :: .pointer none :: .slice A out.length c :: L).toArray.setIfInBounds (3 + i) (.int .i64 n) = (.pointer (some ⟨bM, 0, none⟩) :: .pointer none :: .slice A out.length c :: L.set i (.int .i64 n)).toArray := by
      rw [show 3 + i = i + 1 + 1 + 1 by omega]; simp
    rw [hset] at hE
    have hG1 : w.grownBy (w.setCell ⟨bP, 3 + i, none⟩ (.int .i64 n)) (some bP) := grown_set (grown_refl w _) _ _
    have hM1 : (w.setCell ⟨bP, 3 + i, none⟩ (.int .i64 n)).cell? ⟨bM, i, none⟩ = some (.int .i64 n) := (World.cell?_of_block (a := ⟨bM, i, none⟩) (hG1.block bM (World.block_lt_of_cell? _ _ hM) (by simpa using hne))).trans hM
    have hO1 := hout.grown hG1
    obtain ⟨pi, _⟩ := cell_of hP (i := 3 + i) (v := L[i]) (by rw [show 3 + i = i + 1 + 1 + 1 by omega]; simp [hi])
    have pzi : w.frozen? ⟨bP, 3 + i, none⟩ = false := (cell_of hP (i := 3 + i) (v := L[i]) (by rw [show 3 + i = i + 1 + 1 + 1 by omega]; simp [hi])).2
    clear hset
    go_enter Try.func130, Try.ntmps130
    go_wp2_with fail
    refine (least_calls n fr w).mono ?_
    rintro e w1 ⟨rfl, rfl⟩
    rw [hq]
    go_wp2_with fail
    refine (must_true w).mono ?_
    rintro e w1 ⟨rfl, rfl⟩
    go_wp2_with fail
    generalize w1.setCell ⟨bP, 3 + i, none⟩ (.int .i64 n) = W1 at hE hG1 hM1 hO1 ⊢
    clear p1 pz pi pzi hM
    obtain ⟨p2, pz2⟩ := cell_of hE (i := 2) (v := .slice A out.length c) rfl
    go_region_with ((go_at_call 87; refine (Number_calls out A c n _ (by first | exact hO1.bytes | exact hO1.bytes.drew | exact hO1.bytes.drew.drew) hl hn0 hn1).mono ?_; rintro e w2 ⟨v2, rfl, hr2, hb2⟩; replace hb2 := below_undrew hb2; have hE2 := (hb2.block bP (Array.getElem?_eq_some_iff.1 hE).1).trans hE; obtain ⟨p2', pz2'⟩ := cell_of hE2 (i := 2) (v := .slice A out.length c) rfl; obtain ⟨A2, c2, rfl, hc2, hO2⟩ := OutAt.made hr2 (Array.getElem?_eq_some_iff.1 hE).1))
    all_goals
      go_end0
      exact PenPost.put hG1 hb2 hE2 (by simp) hc2 hO2

/-- A message, and where its rows lie. -/
structure MsgV where
  m : Msg
  As : Option Addr
  cs : Nat
  At : Option Addr
  ct : Nat
def MsgV.cells (x : MsgV) : List Value := [.int .i8 x.m.kind, .int .i64 x.m.from_, .int .i64 x.m.to_, .int .i64 x.m.boot, .int .i64 x.m.server, .int .i64 x.m.number, .int .i64 x.m.node, .int .i64 x.m.lease, .int .i64 x.m.epoch, .int .i64 x.m.version, .int .i64 x.m.e, .slice x.As x.m.steps.length x.cs, .int .i64 x.m.tree.id, .int .i64 x.m.tree.kind, .string x.m.tree.text, .slice x.At x.m.tree.kids.length x.ct]
def Fld.seeV (x y : MsgV) (f : Fld) : MsgV := match f with
  | .steps => { y with m := f.see x.m y.m, As := x.As, cs := x.cs }
  | .tree => { y with m := f.see x.m y.m, At := x.At, ct := x.ct }
  | _ => { y with m := f.see x.m y.m }
theorem Fld.seeV_m (x y : MsgV) (f : Fld) : (f.seeV x y).m = f.see x.m y.m := by cases f <;> rfl
def MsgV.rows (x : MsgV) (S : Nat → Prop) (w : World) : Prop := MsgAt S w x.m x.As x.cs x.At x.ct
/-- All numbers are Go's. -/
def Msg.wf (m : Msg) : Prop := (-128 ≤ m.kind ∧ m.kind ≤ 127) ∧ (∀ n ∈ [m.from_, m.to_, m.boot, m.server, m.number, m.node, m.lease, m.epoch, m.version, m.e], -9223372036854775808 ≤ n ∧ n ≤ 9223372036854775807) ∧ (∀ s ∈ m.steps, s.wf) ∧ m.tree.wf
/-- The pen that writes. -/
structure PenW (w : World) (bM bP : Nat) (x y : MsgV) (out : List UInt8) : Prop where
  M : w.heap[bM]? = some (.cells x.cells.toArray 41 (0, 0))
  P : ∃ A c, w.heap[bP]? = some (.cells (.pointer (some ⟨bM, 0, none⟩) :: .pointer none :: .slice A out.length c :: y.cells).toArray 110 (0, 0)) ∧ out.length ≤ c ∧ OutAt w bP A out
  lt : bM < bP
def FldPostW (f : Fld) (x y : MsgV) (out : List UInt8) (bM bP : Nat) (w : World) (e : Ending) (w' : World) : Prop :=
  if f.ok x.m then e = .returned (.tuple #[]) ∧ w.grownBy w' (some bP) ∧ PenW w' bM bP x (f.seeV x y) (out ++ f.bytes x.m)
  else e = .panicked [{ v := .iface 133 (.agg #[]), recovered := false }] ∧ Below w.heap.size w w'
theorem FldPostW.of {f : Fld} {x y : MsgV} {out : List UInt8} {bM bP : Nat} {w w' : World} {e : Ending} (h : PenW w bM bP x y out) (hp : PenPost (f.ok x.m) bM bP (out ++ f.bytes x.m) (f.seeV x y).cells w e w') : FldPostW f x y out bM bP w e w' := by
  rw [PenPost] at hp
  rw [FldPostW]
  split
  · rename_i hok
    rw [if_pos hok] at hp
    obtain ⟨he, hg, A, c, hP, hc, ho⟩ := hp
    have := h.lt
    exact ⟨he, hg, (hg.block bM (Array.getElem?_eq_some_iff.1 h.M).1 (by simp; omega)).trans h.M, ⟨A, c, hP, hc, ho⟩, h.lt⟩
  · rename_i hok
    rwa [if_neg hok] at hp
theorem PenPost.undrew {ok : Bool} {bM bP : Nat} {out : List UInt8} {L : List Value} {w w' : World} {e : Ending} (h : PenPost ok bM bP out L w.drew e w') : PenPost ok bM bP out L w e w' := by
  rw [PenPost] at h ⊢
  split
  · rename_i hok
    rw [if_pos hok] at h
    exact ⟨h.1, grown_undrew h.2.1, h.2.2⟩
  · rename_i hok
    rw [if_neg hok] at h
    exact ⟨h.1, below_undrew h.2⟩
theorem FldPostW.parts {f : Fld} {x y : MsgV} {out : List UInt8} {bM bP : Nat} {w w' : World} {e : Ending} (h : FldPostW f x y out bM bP w e w') : e = .panicked [{ v := .iface 133 (.agg #[]), recovered := false }] ∨ e = .returned (.tuple #[]) := by
  rw [FldPostW] at h
  split at h
  · exact .inr h.1
  · exact .inl h.1

set_option maxRecDepth 100000 in
set_option maxHeartbeats 2000000 in
theorem penBoot_w (bM bP : Nat) (x y : MsgV) (out : List UInt8) (w : World) (h : PenW w bM bP x y out) (hwf : x.m.wf) (hl : out.length ≤ 1099511627776) :
    Calls Try.prog 102 #[.pointer (some ⟨bP, 0, none⟩)] w (FldPostW .boot x y out bM bP w) := by
  obtain ⟨A, c, hP, hc, ho⟩ := h.P
  obtain ⟨p0, _⟩ := cell_of hP (i := 0) (v := .pointer (some ⟨bM, 0, none⟩)) rfl
  have hr := hwf.2.1 x.m.boot (by simp)
  have HC := Lib.hid (number_w bM bP 3 x.m.boot 1 A c out y.cells w.drew hP (by simp [MsgV.cells]) (cell_of h.M (i := 3) (v := .int .i64 x.m.boot) rfl).1 (by have := h.lt; omega) ho hl hr.1 hr.2)
  go_enter Try.func102, Try.ntmps102
  go_region_with ((go_at_call 130; refine HC.out.mono ?_; rintro e w2 hp; replace hp := FldPostW.of (f := .boot) h hp.undrew; rcases hp.parts with rfl | rfl; focus (exact ⟨rfl, hp⟩)))
  all_goals
    go_end0
    exact hp
set_option maxRecDepth 100000 in
set_option maxHeartbeats 2000000 in
theorem penKnown_w (bM bP : Nat) (x y : MsgV) (out : List UInt8) (w : World) (h : PenW w bM bP x y out) (hwf : x.m.wf) (hl : out.length ≤ 1099511627776) :
    Calls Try.prog 103 #[.pointer (some ⟨bP, 0, none⟩)] w (FldPostW .known x y out bM bP w) := by
  obtain ⟨A, c, hP, hc, ho⟩ := h.P
  obtain ⟨p0, _⟩ := cell_of hP (i := 0) (v := .pointer (some ⟨bM, 0, none⟩)) rfl
  have hr := hwf.2.1 x.m.server (by simp)
  have HC := Lib.hid (number_w bM bP 4 x.m.server 0 A c out y.cells w.drew hP (by simp [MsgV.cells]) (cell_of h.M (i := 4) (v := .int .i64 x.m.server) rfl).1 (by have := h.lt; omega) ho hl hr.1 hr.2)
  go_enter Try.func103, Try.ntmps103
  go_region_with ((go_at_call 130; refine HC.out.mono ?_; rintro e w2 hp; replace hp := FldPostW.of (f := .known) h hp.undrew; rcases hp.parts with rfl | rfl; focus (exact ⟨rfl, hp⟩)))
  all_goals
    go_end0
    exact hp
set_option maxRecDepth 100000 in
set_option maxHeartbeats 2000000 in
theorem penServer_w (bM bP : Nat) (x y : MsgV) (out : List UInt8) (w : World) (h : PenW w bM bP x y out) (hwf : x.m.wf) (hl : out.length ≤ 1099511627776) :
    Calls Try.prog 101 #[.pointer (some ⟨bP, 0, none⟩)] w (FldPostW .server x y out bM bP w) := by
  obtain ⟨A, c, hP, hc, ho⟩ := h.P
  obtain ⟨p0, _⟩ := cell_of hP (i := 0) (v := .pointer (some ⟨bM, 0, none⟩)) rfl
  have hr := hwf.2.1 x.m.server (by simp)
  have HC := Lib.hid (number_w bM bP 4 x.m.server 1 A c out y.cells w.drew hP (by simp [MsgV.cells]) (cell_of h.M (i := 4) (v := .int .i64 x.m.server) rfl).1 (by have := h.lt; omega) ho hl hr.1 hr.2)
  go_enter Try.func101, Try.ntmps101
  go_region_with ((go_at_call 130; refine HC.out.mono ?_; rintro e w2 hp; replace hp := FldPostW.of (f := .server) h hp.undrew; rcases hp.parts with rfl | rfl; focus (exact ⟨rfl, hp⟩)))
  all_goals
    go_end0
    exact hp
set_option maxRecDepth 100000 in
set_option maxHeartbeats 2000000 in
theorem penCount_w (bM bP : Nat) (x y : MsgV) (out : List UInt8) (w : World) (h : PenW w bM bP x y out) (hwf : x.m.wf) (hl : out.length ≤ 1099511627776) :
    Calls Try.prog 104 #[.pointer (some ⟨bP, 0, none⟩)] w (FldPostW .count x y out bM bP w) := by
  obtain ⟨A, c, hP, hc, ho⟩ := h.P
  obtain ⟨p0, _⟩ := cell_of hP (i := 0) (v := .pointer (some ⟨bM, 0, none⟩)) rfl
  have hr := hwf.2.1 x.m.number (by simp)
  have HC := Lib.hid (number_w bM bP 5 x.m.number 1 A c out y.cells w.drew hP (by simp [MsgV.cells]) (cell_of h.M (i := 5) (v := .int .i64 x.m.number) rfl).1 (by have := h.lt; omega) ho hl hr.1 hr.2)
  go_enter Try.func104, Try.ntmps104
  go_region_with ((go_at_call 130; refine HC.out.mono ?_; rintro e w2 hp; replace hp := FldPostW.of (f := .count) h hp.undrew; rcases hp.parts with rfl | rfl; focus (exact ⟨rfl, hp⟩)))
  all_goals
    go_end0
    exact hp
set_option maxRecDepth 100000 in
set_option maxHeartbeats 2000000 in
theorem penNode_w (bM bP : Nat) (x y : MsgV) (out : List UInt8) (w : World) (h : PenW w bM bP x y out) (hwf : x.m.wf) (hl : out.length ≤ 1099511627776) :
    Calls Try.prog 105 #[.pointer (some ⟨bP, 0, none⟩)] w (FldPostW .node x y out bM bP w) := by
  obtain ⟨A, c, hP, hc, ho⟩ := h.P
  obtain ⟨p0, _⟩ := cell_of hP (i := 0) (v := .pointer (some ⟨bM, 0, none⟩)) rfl
  have hr := hwf.2.1 x.m.node (by simp)
  have HC := Lib.hid (number_w bM bP 6 x.m.node 1 A c out y.cells w.drew hP (by simp [MsgV.cells]) (cell_of h.M (i := 6) (v := .int .i64 x.m.node) rfl).1 (by have := h.lt; omega) ho hl hr.1 hr.2)
  go_enter Try.func105, Try.ntmps105
  go_region_with ((go_at_call 130; refine HC.out.mono ?_; rintro e w2 hp; replace hp := FldPostW.of (f := .node) h hp.undrew; rcases hp.parts with rfl | rfl; focus (exact ⟨rfl, hp⟩)))
  all_goals
    go_end0
    exact hp
set_option maxRecDepth 100000 in
set_option maxHeartbeats 2000000 in
theorem penLease_w (bM bP : Nat) (x y : MsgV) (out : List UInt8) (w : World) (h : PenW w bM bP x y out) (hwf : x.m.wf) (hl : out.length ≤ 1099511627776) :
    Calls Try.prog 106 #[.pointer (some ⟨bP, 0, none⟩)] w (FldPostW .lease x y out bM bP w) := by
  obtain ⟨A, c, hP, hc, ho⟩ := h.P
  obtain ⟨p0, _⟩ := cell_of hP (i := 0) (v := .pointer (some ⟨bM, 0, none⟩)) rfl
  have hr := hwf.2.1 x.m.lease (by simp)
  have HC := Lib.hid (number_w bM bP 7 x.m.lease 1 A c out y.cells w.drew hP (by simp [MsgV.cells]) (cell_of h.M (i := 7) (v := .int .i64 x.m.lease) rfl).1 (by have := h.lt; omega) ho hl hr.1 hr.2)
  go_enter Try.func106, Try.ntmps106
  go_region_with ((go_at_call 130; refine HC.out.mono ?_; rintro e w2 hp; replace hp := FldPostW.of (f := .lease) h hp.undrew; rcases hp.parts with rfl | rfl; focus (exact ⟨rfl, hp⟩)))
  all_goals
    go_end0
    exact hp
set_option maxRecDepth 100000 in
set_option maxHeartbeats 2000000 in
theorem penEpoch_w (bM bP : Nat) (x y : MsgV) (out : List UInt8) (w : World) (h : PenW w bM bP x y out) (hwf : x.m.wf) (hl : out.length ≤ 1099511627776) :
    Calls Try.prog 107 #[.pointer (some ⟨bP, 0, none⟩)] w (FldPostW .epoch x y out bM bP w) := by
  obtain ⟨A, c, hP, hc, ho⟩ := h.P
  obtain ⟨p0, _⟩ := cell_of hP (i := 0) (v := .pointer (some ⟨bM, 0, none⟩)) rfl
  have hr := hwf.2.1 x.m.epoch (by simp)
  have HC := Lib.hid (number_w bM bP 8 x.m.epoch 1 A c out y.cells w.drew hP (by simp [MsgV.cells]) (cell_of h.M (i := 8) (v := .int .i64 x.m.epoch) rfl).1 (by have := h.lt; omega) ho hl hr.1 hr.2)
  go_enter Try.func107, Try.ntmps107
  go_region_with ((go_at_call 130; refine HC.out.mono ?_; rintro e w2 hp; replace hp := FldPostW.of (f := .epoch) h hp.undrew; rcases hp.parts with rfl | rfl; focus (exact ⟨rfl, hp⟩)))
  all_goals
    go_end0
    exact hp
set_option maxRecDepth 100000 in
set_option maxHeartbeats 2000000 in
theorem penVersion_w (bM bP : Nat) (x y : MsgV) (out : List UInt8) (w : World) (h : PenW w bM bP x y out) (hwf : x.m.wf) (hl : out.length ≤ 1099511627776) :
    Calls Try.prog 108 #[.pointer (some ⟨bP, 0, none⟩)] w (FldPostW .version x y out bM bP w) := by
  obtain ⟨A, c, hP, hc, ho⟩ := h.P
  obtain ⟨p0, _⟩ := cell_of hP (i := 0) (v := .pointer (some ⟨bM, 0, none⟩)) rfl
  have hr := hwf.2.1 x.m.version (by simp)
  have HC := Lib.hid (number_w bM bP 9 x.m.version 0 A c out y.cells w.drew hP (by simp [MsgV.cells]) (cell_of h.M (i := 9) (v := .int .i64 x.m.version) rfl).1 (by have := h.lt; omega) ho hl hr.1 hr.2)
  go_enter Try.func108, Try.ntmps108
  go_region_with ((go_at_call 130; refine HC.out.mono ?_; rintro e w2 hp; replace hp := FldPostW.of (f := .version) h hp.undrew; rcases hp.parts with rfl | rfl; focus (exact ⟨rfl, hp⟩)))
  all_goals
    go_end0
    exact hp
end Go.Proofs.Ytimjpkmdphccmaa

/- wire's pen, writing: fault, tree, steps: walks. -/
namespace Go.Proofs.Ytimjpkmdphccmaa
open Go.RowKit
attribute [local go_sem ↓] Go.wp_at_zero Go.wp_at_succ
set_option linter.unusedVariables false
set_option linter.unusedSimpArgs false

set_option maxRecDepth 100000 in
set_option maxHeartbeats 4000000 in
theorem penFault_w (bM bP : Nat) (x y : MsgV) (out : List UInt8) (w : World) (h : PenW w bM bP x y out) (hwf : x.m.wf) (hl : out.length ≤ 1099511627776) :
    Calls Try.prog 110 #[.pointer (some ⟨bP, 0, none⟩)] w (FldPostW .fault x y out bM bP w) := by
  obtain ⟨A, c, hP, hc, ho⟩ := h.P
  obtain ⟨p0, _⟩ := cell_of hP (i := 0) (v := .pointer (some ⟨bM, 0, none⟩)) rfl
  obtain ⟨p1, _⟩ := cell_of hP (i := 1) (v := .pointer none) rfl
  obtain ⟨m10, _⟩ := cell_of h.M (i := 10) (v := .int .i64 x.m.e) rfl
  have hr := hwf.2.1 x.m.e (by simp)
  have hlt := h.lt
  have HPW := Lib.hid h
  cases hq : Fld.fault.ok x.m with
  | false =>
    have HQ : Hid (∀ w', Below w.heap.size w w' → FldPostW .fault x y out bM bP w (.panicked [{ v := .iface 133 (.agg #[]), recovered := false }]) w') := Lib.hid (fun w' hb => by rw [FldPostW, hq]; exact ⟨rfl, hb⟩)
    simp only [Fld.ok, Bool.and_eq_false_iff, decide_eq_false_iff_not] at hq
    by_cases h1 : 1 ≤ x.m.e
    · have h2 : ¬ x.m.e ≤ 999 := by omega
      have d1 : decide ((1 : Int) ≤ x.m.e) = true := by simpa using h1
      have d2 : decide (x.m.e ≤ 999) = false := by simpa using h2
      clear hq h
      go_enter Try.func110, Try.ntmps110
      go_wp2_with fail
      refine (must_false w).mono ?_
      rintro e w1 ⟨rfl, rfl⟩
      exact ⟨rfl, HQ.out _ (Below.refl _ _)⟩
    · have d1 : decide ((1 : Int) ≤ x.m.e) = false := by simpa using h1
      clear hq h
      go_enter Try.func110, Try.ntmps110
      go_wp2_with fail
      refine (must_false w).mono ?_
      rintro e w1 ⟨rfl, rfl⟩
      exact ⟨rfl, HQ.out _ (Below.refl _ _)⟩
  | true =>
    have HQ := Lib.hid hq
    simp only [Fld.ok, Bool.and_eq_true, decide_eq_true_eq] at hq
    obtain ⟨h1, h2⟩ := hq
    have d1 : decide ((1 : Int) ≤ x.m.e) = true := by simpa using h1
    have d2 : decide (x.m.e ≤ 999) = true := by simpa using h2
    have hE := setCell_blk hP 13 (.int .i64 x.m.e)
    have hG1 : w.grownBy (w.setCell ⟨bP, 13, none⟩ (.int .i64 x.m.e)) (some bP) := grown_set (grown_refl w _) _ _
    have hM1 := (hG1.block bM (Array.getElem?_eq_some_iff.1 h.M).1 (by simp; omega)).trans h.M
    have hO1 := ho.grown hG1
    obtain ⟨p13, z13⟩ := cell_of hP (i := 13) (v := .int .i64 y.m.e) rfl
    have hset : (.pointer (some ⟨bM, 0, none⟩) :: .pointer none :: .slice A out.length c :: y.cells).toArray.setIfInBounds 13 (.int .i64 x.m.e) = (.pointer (some ⟨bM, 0, none⟩) :: .pointer none :: .slice A out.length c :: (Fld.fault.seeV x y).cells).toArray := by simp [MsgV.cells, Fld.seeV, Fld.see]
    rw [hset] at hE
    clear hset h
    go_enter Try.func110, Try.ntmps110
    go_wp2_with fail
    refine (must_true w).mono ?_
    rintro e w1 ⟨rfl, rfl⟩
    go_wp2_with fail
    generalize w1.setCell ⟨bP, 13, none⟩ (.int .i64 x.m.e) = W1 at hE hG1 hM1 hO1 ⊢
    clear p1 p0 p13 z13 m10 hP ho
    obtain ⟨p0, _⟩ := cell_of hE (i := 0) (v := .pointer (some ⟨bM, 0, none⟩)) rfl
    obtain ⟨p2, _⟩ := cell_of hE (i := 2) (v := .slice A out.length c) rfl
    obtain ⟨m10, _⟩ := cell_of hM1 (i := 10) (v := .int .i64 x.m.e) rfl
    go_region_with ((go_at_call 87; refine (Number_calls out A c x.m.e _ (by first | exact hO1.bytes | exact hO1.bytes.drew | exact hO1.bytes.drew.drew) hl hr.1 hr.2).mono ?_; rintro e w2 ⟨v2, rfl, hr2, hb2⟩; replace hb2 := below_undrew hb2; have hE2 := (hb2.block bP (Array.getElem?_eq_some_iff.1 hE).1).trans hE; obtain ⟨p2', pz2'⟩ := cell_of hE2 (i := 2) (v := .slice A out.length c) rfl; obtain ⟨A2, c2, rfl, hc2, hO2⟩ := OutAt.made hr2 (Array.getElem?_eq_some_iff.1 hE).1))
    all_goals
      go_end0
      refine FldPostW.of HPW.out ?_
      rw [HQ.out]
      exact PenPost.put hG1 hb2 hE2 (by simp [Fld.bytes]) hc2 hO2
end Go.Proofs.Ytimjpkmdphccmaa

/- wire's pen, writing: tree, steps: walks. -/
namespace Go.Proofs.Ytimjpkmdphccmaa
open Go.RowKit
attribute [local go_sem ↓] Go.wp_at_zero Go.wp_at_succ
set_option linter.unusedVariables false
set_option linter.unusedSimpArgs false

theorem grown_sets4 {w : World} {b : Nat} (i : Nat) (v0 v1 v2 v3 : Value) : w.grownBy ((((w.setCell ⟨b, i, none⟩ v0).setCell ⟨b, i + 1, none⟩ v1).setCell ⟨b, i + 2, none⟩ v2).setCell ⟨b, i + 3, none⟩ v3) (some b) :=
  grown_set (grown_set (grown_set (grown_set (grown_refl w _) _ _) _ _) _ _) _ _
theorem sets4_blk {w : World} {b : Nat} {cs : Array Value} {t : TypeId} (h : w.heap[b]? = some (.cells cs t (0, 0))) (i : Nat) (v0 v1 v2 v3 : Value) :
    ((((w.setCell ⟨b, i, none⟩ v0).setCell ⟨b, i + 1, none⟩ v1).setCell ⟨b, i + 2, none⟩ v2).setCell ⟨b, i + 3, none⟩ v3).heap[b]? = some (.cells ((((cs.setIfInBounds i v0).setIfInBounds (i + 1) v1).setIfInBounds (i + 2) v2).setIfInBounds (i + 3) v3) t (0, 0)) :=
  setCell_blk (setCell_blk (setCell_blk (setCell_blk h _ _) _ _) _ _) _ _

set_option maxRecDepth 100000 in
set_option maxHeartbeats 4000000 in
theorem penTree_w (bM bP : Nat) (x y : MsgV) (out : List UInt8) (w : World) (h : PenW w bM bP x y out) (hwf : x.m.wf) (hl : out.length ≤ 1099511627776) (hrows : x.rows (fun b => b < bM) w) (hbk : x.m.tree.bulk ≤ 274877906944) :
    Calls Try.prog 109 #[.pointer (some ⟨bP, 0, none⟩)] w (FldPostW .tree x y out bM bP w) := by
  obtain ⟨A, c, hP, hc, ho⟩ := h.P
  obtain ⟨_, _, htc, htk⟩ := hrows
  obtain ⟨p0, _⟩ := cell_of hP (i := 0) (v := .pointer (some ⟨bM, 0, none⟩)) rfl
  obtain ⟨p1, _⟩ := cell_of hP (i := 1) (v := .pointer none) rfl
  obtain ⟨m12, _⟩ := cell_of h.M (i := 12) (v := .int .i64 x.m.tree.id) rfl
  obtain ⟨m13, _⟩ := cell_of h.M (i := 13) (v := .int .i64 x.m.tree.kind) rfl
  obtain ⟨m14, _⟩ := cell_of h.M (i := 14) (v := .string x.m.tree.text) rfl
  obtain ⟨m15, _⟩ := cell_of h.M (i := 15) (v := .slice x.At x.m.tree.kids.length x.ct) rfl
  have hlt := h.lt
  have HPW := Lib.hid h
  have HWF := Lib.hid hwf.2.2.2
  clear hwf
  have HT := Lib.hid (wireTree_calls x.m.tree (by omega) x.At x.ct w htk.at_ htc)
  cases hq : okTree x.m.tree with
  | false =>
    have HQ : Hid (∀ w', Below w.heap.size w w' → FldPostW .tree x y out bM bP w (.panicked [{ v := .iface 133 (.agg #[]), recovered := false }]) w') := Lib.hid (fun w' hb => by rw [FldPostW, Fld.ok, hq]; exact ⟨rfl, hb⟩)
    clear h
    go_enter Try.func109, Try.ntmps109
    go_wp2_with fail
    refine HT.out.mono ?_
    rintro e w1 ⟨rfl, hb1⟩
    rw [hq]
    go_wp2_with fail
    refine (must_false w1).mono ?_
    rintro e w2 ⟨rfl, rfl⟩
    exact ⟨rfl, HQ.out _ hb1⟩
  | true =>
    have HQ := Lib.hid hq
    clear h
    go_enter Try.func109, Try.ntmps109
    go_wp2_with fail
    refine HT.out.mono ?_
    rintro e w1 ⟨rfl, hb1⟩
    rw [hq]
    clear hq HT
    have hP' := (hb1.block bP (Array.getElem?_eq_some_iff.1 hP).1).trans hP
    have hM' := (hb1.block bM (Array.getElem?_eq_some_iff.1 HPW.out.M).1).trans HPW.out.M
    have ho' := ho.grown (grown_of_below hb1 (some bP))
    clear p1 p0 m12 m13 m14 m15
    obtain ⟨p0, _⟩ := cell_of hP' (i := 0) (v := .pointer (some ⟨bM, 0, none⟩)) rfl
    obtain ⟨m12, _⟩ := cell_of hM' (i := 12) (v := .int .i64 x.m.tree.id) rfl
    obtain ⟨m13, _⟩ := cell_of hM' (i := 13) (v := .int .i64 x.m.tree.kind) rfl
    obtain ⟨m14, _⟩ := cell_of hM' (i := 14) (v := .string x.m.tree.text) rfl
    obtain ⟨m15, _⟩ := cell_of hM' (i := 15) (v := .slice x.At x.m.tree.kids.length x.ct) rfl
    obtain ⟨p15, z15⟩ := cell_of hP' (i := 15) (v := .int .i64 y.m.tree.id) rfl
    obtain ⟨p16, z16⟩ := cell_of hP' (i := 16) (v := .int .i64 y.m.tree.kind) rfl
    obtain ⟨p17, z17⟩ := cell_of hP' (i := 17) (v := .string y.m.tree.text) rfl
    obtain ⟨p18, z18⟩ := cell_of hP' (i := 18) (v := .slice y.At y.m.tree.kids.length y.ct) rfl
    go_wp2_with fail
    refine (must_true w1).mono ?_
    rintro e w2 ⟨rfl, rfl⟩
    go_wp2_with fail
    have hE := sets4_blk hP' 15 (.int .i64 x.m.tree.id) (.int .i64 x.m.tree.kind) (.string x.m.tree.text) (.slice x.At x.m.tree.kids.length x.ct)
    have hG1 := grown_sets4 (w := w2) (b := bP) 15 (.int .i64 x.m.tree.id) (.int .i64 x.m.tree.kind) (.string x.m.tree.text) (.slice x.At x.m.tree.kids.length x.ct)
    have hset : ((((.pointer (some ⟨bM, 0, none⟩) :: .pointer none :: .slice A out.length c :: y.cells).toArray.setIfInBounds 15 (.int .i64 x.m.tree.id)).setIfInBounds (15 + 1) (.int .i64 x.m.tree.kind)).setIfInBounds (15 + 2) (.string x.m.tree.text)).setIfInBounds (15 + 3) (.slice x.At x.m.tree.kids.length x.ct) = (.pointer (some ⟨bM, 0, none⟩) :: .pointer none :: .slice A out.length c :: (Fld.tree.seeV x y).cells).toArray := by simp [MsgV.cells, Fld.seeV, Fld.see]
    rw [hset] at hE
    simp only [Nat.reduceAdd] at hE hG1
    generalize (((w2.setCell ⟨bP, 15, none⟩ _).setCell ⟨bP, 16, none⟩ _).setCell ⟨bP, 17, none⟩ _).setCell ⟨bP, 18, none⟩ _ = W1 at hE hG1 ⊢
    have hM1 := (hG1.block bM (Array.getElem?_eq_some_iff.1 hM').1 (by simp; omega)).trans hM'
    have hO1 := ho'.grown hG1
    have hG2 : w.grownBy W1 (some bP) := grown_step (grown_of_below hb1 (some bP)) hG1 (.inl rfl)
    have hk1 : KidsAt W1 x.At x.m.tree.kids := (htk.move (S' := fun _ => True) fun b hb hlt2 => ⟨trivial, hG2.block b hlt2 (by simp; omega)⟩)
    clear p0 p15 z15 p16 z16 p17 z17 p18 z18 m12 m13 m14 m15 hP ho hP' hM' ho' hset hb1 hG1
    obtain ⟨p0, _⟩ := cell_of hE (i := 0) (v := .pointer (some ⟨bM, 0, none⟩)) rfl
    obtain ⟨p2, _⟩ := cell_of hE (i := 2) (v := .slice A out.length c) rfl
    obtain ⟨m12, _⟩ := cell_of hM1 (i := 12) (v := .int .i64 x.m.tree.id) rfl
    obtain ⟨m13, _⟩ := cell_of hM1 (i := 13) (v := .int .i64 x.m.tree.kind) rfl
    obtain ⟨m14, _⟩ := cell_of hM1 (i := 14) (v := .string x.m.tree.text) rfl
    obtain ⟨m15, _⟩ := cell_of hM1 (i := 15) (v := .slice x.At x.m.tree.kids.length x.ct) rfl
    go_region_with ((go_at_call 132; refine (Node_calls out A c x.m.tree x.At x.ct _ (by first | exact hO1.bytes | exact hO1.bytes.drew | exact hO1.bytes.drew.drew) (by first | exact hk1 | exact hk1.drew) htc HWF.out (by omega) (by omega)).mono ?_; rintro e w2 ⟨v2, rfl, hr2, hb2⟩; replace hb2 := below_undrew hb2; have hE2 := (hb2.block bP (Array.getElem?_eq_some_iff.1 hE).1).trans hE; obtain ⟨p2', pz2'⟩ := cell_of hE2 (i := 2) (v := .slice A out.length c) rfl; obtain ⟨A2, c2, rfl, hc2, hO2⟩ := OutAt.made hr2 (Array.getElem?_eq_some_iff.1 hE).1))
    all_goals
      go_end0
      refine FldPostW.of HPW.out ?_
      rw [Fld.ok, HQ.out]
      exact PenPost.put hG2 hb2 hE2 (by simp [Fld.bytes]) hc2 hO2

set_option maxRecDepth 100000 in
set_option maxHeartbeats 4000000 in
theorem penSteps_w (bM bP : Nat) (x y : MsgV) (out : List UInt8) (w : World) (h : PenW w bM bP x y out) (hwf : x.m.wf) (hl : out.length ≤ 1099511627776) (hrows : x.rows (fun b => b < bM) w) (hbk : stepsBulk x.m.steps ≤ 274877906944) :
    Calls Try.prog 111 #[.pointer (some ⟨bP, 0, none⟩)] w (FldPostW .steps x y out bM bP w) := by
  obtain ⟨A, c, hP, hc, ho⟩ := h.P
  obtain ⟨hsc, hsk, _, _⟩ := hrows
  obtain ⟨p0, _⟩ := cell_of hP (i := 0) (v := .pointer (some ⟨bM, 0, none⟩)) rfl
  obtain ⟨p1, _⟩ := cell_of hP (i := 1) (v := .pointer none) rfl
  obtain ⟨m11, _⟩ := cell_of h.M (i := 11) (v := .slice x.As x.m.steps.length x.cs) rfl
  have hlt := h.lt
  have HPW := Lib.hid h
  have HWF := Lib.hid hwf.2.2.1
  clear hwf
  have hsa : StepsAt w x.As x.m.steps := hsk.at_
  have HT := Lib.hid (Check_calls x.m.steps x.As x.cs w hsa hsc (by omega))
  have HU := Lib.hid (ContainsFunc_calls x.m.steps x.As x.cs w hsa hsc (by omega))
  cases hq : okCheck x.m.steps with
  | false =>
    have HQ : Hid (∀ w', Below w.heap.size w w' → FldPostW .steps x y out bM bP w (.panicked [{ v := .iface 133 (.agg #[]), recovered := false }]) w') := Lib.hid (fun w' hb => by rw [FldPostW, Fld.ok, okSteps, hq]; exact ⟨rfl, hb⟩)
    have HE := Lib.hid (checkE_no hq)
    clear h hq
    go_enter Try.func111, Try.ntmps111
    go_wp2_with fail
    refine HT.out.mono ?_
    rintro e w1 ⟨rfl, rfl⟩
    rw [HE.out]
    go_wp2_with fail
    refine (must_false w1).mono ?_
    rintro e w2 ⟨rfl, rfl⟩
    exact ⟨rfl, HQ.out _ (Below.refl _ _)⟩
  | true =>
  have HE := Lib.hid (checkE_ok hq)
  cases hq2 : x.m.steps.all okStep with
  | false =>
    have HQ : Hid (∀ w', Below w.heap.size w w' → FldPostW .steps x y out bM bP w (.panicked [{ v := .iface 133 (.agg #[]), recovered := false }]) w') := Lib.hid (fun w' hb => by rw [FldPostW, Fld.ok, okSteps, hq, hq2]; exact ⟨rfl, hb⟩)
    have HQ2 := Lib.hid hq2
    clear h hq hq2
    go_enter Try.func111, Try.ntmps111
    go_wp2_with fail
    refine HT.out.mono ?_
    rintro e w1 ⟨rfl, rfl⟩
    rw [HE.out]
    go_wp2_with fail
    refine HU.out.mono ?_
    rintro e w2 ⟨rfl, hb2⟩
    rw [HQ2.out]
    go_wp2_with fail
    refine (must_false w2).mono ?_
    rintro e w3 ⟨rfl, rfl⟩
    exact ⟨rfl, HQ.out _ hb2⟩
  | true =>
    have HQ : Hid (Fld.steps.ok x.m = true) := Lib.hid (by rw [Fld.ok, okSteps, hq, hq2]; rfl)
    have HQ2 := Lib.hid hq2
    clear h hq hq2
    go_enter Try.func111, Try.ntmps111
    go_wp2_with fail
    refine HT.out.mono ?_
    rintro e w1 ⟨rfl, rfl⟩
    rw [HE.out]
    go_wp2_with fail
    refine HU.out.mono ?_
    rintro e w2 ⟨rfl, hb1⟩
    rw [HQ2.out]
    clear HT HU
    have hP' := (hb1.block bP (Array.getElem?_eq_some_iff.1 hP).1).trans hP
    have hM' := (hb1.block bM (Array.getElem?_eq_some_iff.1 HPW.out.M).1).trans HPW.out.M
    have ho' := ho.grown (grown_of_below hb1 (some bP))
    clear p1 p0 m11
    obtain ⟨p0, _⟩ := cell_of hP' (i := 0) (v := .pointer (some ⟨bM, 0, none⟩)) rfl
    obtain ⟨m11, _⟩ := cell_of hM' (i := 11) (v := .slice x.As x.m.steps.length x.cs) rfl
    obtain ⟨p14, z14⟩ := cell_of hP' (i := 14) (v := .slice y.As y.m.steps.length y.cs) rfl
    go_wp2_with fail
    refine (must_true w2).mono ?_
    rintro e w3 ⟨rfl, rfl⟩
    go_wp2_with fail
    have hE := setCell_blk hP' 14 (.slice x.As x.m.steps.length x.cs)
    have hG1 : w3.grownBy (w3.setCell ⟨bP, 14, none⟩ (.slice x.As x.m.steps.length x.cs)) (some bP) := grown_set (grown_refl w3 _) _ _
    have hset : (.pointer (some ⟨bM, 0, none⟩) :: .pointer none :: .slice A out.length c :: y.cells).toArray.setIfInBounds 14 (.slice x.As x.m.steps.length x.cs) = (.pointer (some ⟨bM, 0, none⟩) :: .pointer none :: .slice A out.length c :: (Fld.steps.seeV x y).cells).toArray := by simp [MsgV.cells, Fld.seeV, Fld.see]
    rw [hset] at hE
    generalize w3.setCell ⟨bP, 14, none⟩ _ = W1 at hE hG1 ⊢
    have hM1 := (hG1.block bM (Array.getElem?_eq_some_iff.1 hM').1 (by simp; omega)).trans hM'
    have hO1 := ho'.grown hG1
    have hG2 : w1.grownBy W1 (some bP) := grown_step (grown_of_below hb1 (some bP)) hG1 (.inl rfl)
    have hk1 : StepsAt W1 x.As x.m.steps := (hsk.move (S' := fun _ => True) fun b hb hlt2 => ⟨trivial, hG2.block b hlt2 (by simp; omega)⟩)
    clear p0 p14 z14 m11 hP ho hP' hM' ho' hset hb1 hG1
    obtain ⟨p0, _⟩ := cell_of hE (i := 0) (v := .pointer (some ⟨bM, 0, none⟩)) rfl
    obtain ⟨p2, _⟩ := cell_of hE (i := 2) (v := .slice A out.length c) rfl
    obtain ⟨m11, _⟩ := cell_of hM1 (i := 11) (v := .slice x.As x.m.steps.length x.cs) rfl
    go_region_with ((go_at_call 137; refine (Steps_calls out A c x.m.steps x.As x.cs _ (by first | exact hO1.bytes | exact hO1.bytes.drew | exact hO1.bytes.drew.drew) (by first | exact hk1 | exact hk1.drew) hsc HWF.out (by omega) (by omega)).mono ?_; rintro e w2 ⟨v2, rfl, hr2, hb2⟩; replace hb2 := below_undrew hb2; have hE2 := (hb2.block bP (Array.getElem?_eq_some_iff.1 hE).1).trans hE; obtain ⟨p2', pz2'⟩ := cell_of hE2 (i := 2) (v := .slice A out.length c) rfl; obtain ⟨A2, c2, rfl, hc2, hO2⟩ := OutAt.made hr2 (Array.getElem?_eq_some_iff.1 hE).1))
    all_goals
      go_end0
      refine FldPostW.of HPW.out ?_
      rw [HQ.out]
      exact PenPost.put hG2 hb2 hE2 (by simp [Fld.bytes]) hc2 hO2
end Go.Proofs.Ytimjpkmdphccmaa

/- wire.write: the pen's state over its fields; the recovery: walks. -/
namespace Go.Proofs.Ytimjpkmdphccmaa
open Go.RowKit
attribute [local go_sem ↓] Go.wp_at_zero Go.wp_at_succ
set_option linter.unusedVariables false
set_option linter.unusedSimpArgs false

def seen0V (x : MsgV) : MsgV := ⟨seen0 x.m, none, 0, none, 0⟩
def seenV (x : MsgV) (l : List Fld) : MsgV := l.foldl (fun y f => f.seeV x y) (seen0V x)
theorem seenV_snoc (x : MsgV) (l : List Fld) (f : Fld) : seenV x (l ++ [f]) = f.seeV x (seenV x l) := by simp [seenV]
theorem seenK_snoc (m : Msg) (l : List Fld) (f : Fld) : seenK m (l ++ [f]) = f.see m (seenK m l) := by simp [seenK]
theorem bytesK_snoc (m : Msg) (l : List Fld) (f : Fld) : bytesK m (l ++ [f]) = bytesK m l ++ f.bytes m := by simp [bytesK]
theorem snoc_induct {α : Type} {P : List α → Prop} (h0 : P []) (h1 : ∀ l x, P l → P (l ++ [x])) : ∀ l, P l := fun l => by
  rw [← List.reverse_reverse l]
  induction l.reverse with
  | nil => exact h0
  | cons x r ih => rw [List.reverse_cons]; exact h1 _ _ ih
theorem seenV_m (x : MsgV) (l : List Fld) : (seenV x l).m = seenK x.m l := by
  induction l using snoc_induct with
  | h0 => rfl
  | h1 l f ih => rw [seenV_snoc, seenK_snoc, Fld.seeV_m, ih]
theorem seenV_rows (x : MsgV) (S : Nat → Prop) (w : World) (h : x.rows S w) (l : List Fld) : (seenV x l).rows S w := by
  induction l using snoc_induct with
  | h0 => exact ⟨Nat.le_refl _, .inl rfl, Nat.le_refl _, .inl rfl⟩
  | h1 l f ih =>
    rw [seenV_snoc]
    obtain ⟨a1, a2, a3, a4⟩ := ih
    obtain ⟨b1, b2, b3, b4⟩ := h
    cases f
    case steps => exact ⟨b1, b2, a3, a4⟩
    case tree => exact ⟨a1, a2, b3, b4⟩
    all_goals exact ⟨a1, a2, a3, a4⟩
theorem MsgV.rows_move {x : MsgV} {S S' : Nat → Prop} {w w' : World} (h : x.rows S w) (hs : ∀ b, S b → b < w.heap.size → S' b ∧ w'.heap[b]? = w.heap[b]?) : x.rows S' w' := ⟨h.1, h.2.1.move hs, h.2.2.1, h.2.2.2.move hs⟩

def stepW (m : Msg) (f : Fld) (d : List Fld) : Option (List Fld) := if f.ok m then some (d ++ [f]) else none
theorem goW (m : Msg) : ∀ (l d : List Fld), goFlds (stepW m) l d = if l.all (Fld.ok m) then some (d ++ l) else none
  | [], d => by simp [goFlds]
  | f :: r, d => by
    rw [goFlds, stepW]
    cases h : f.ok m
    · simp [h]
    · simp only [if_true, Option.bind_some, goW m r, List.all_cons, h, Bool.true_and, List.append_assoc, List.singleton_append]
theorem Fld.bytes_le (m : Msg) (f : Fld) (h : m.bulk ≤ 1073741824) : (f.bytes m).length ≤ 137438953472 := by
  rw [Msg.bulk] at h
  cases f
  case steps => have := stepsBs_le m.steps; simp only [Fld.bytes, stepsB, List.length_append, numB_length]; omega
  case tree => have := m.tree.bytes_le; simp only [Fld.bytes]; omega
  all_goals simp only [Fld.bytes, numB_length]; omega
theorem bytesK_le (m : Msg) (h : m.bulk ≤ 1073741824) (l : List Fld) : (bytesK m l).length ≤ 17 + l.length * 137438953472 := by
  induction l using snoc_induct with
  | h0 => simp [bytesK, numB_length]
  | h1 l f ih => rw [bytesK_snoc, List.length_append, List.length_append]; have := f.bytes_le m h; simp only [List.length_singleton]; omega

/-- The pen's state behind these fields. -/
def InvW (bM bP : Nat) (x : MsgV) (d : List Fld) (w : World) : Prop := PenW w bM bP x (seenV x d) (bytesK x.m d) ∧ x.rows (fun b => b < bM) w
theorem PenW.later {w w' : World} {bM bP : Nat} {x y : MsgV} {out : List UInt8} (h : PenW w bM bP x y out) (hb : Below w.heap.size w w') : PenW w' bM bP x y out := by
  obtain ⟨A, c, hP, hc, ho⟩ := h.P
  exact ⟨(hb.block _ (Array.getElem?_eq_some_iff.1 h.M).1).trans h.M, ⟨A, c, (hb.block _ (Array.getElem?_eq_some_iff.1 hP).1).trans hP, hc, ho.grown (grown_of_below hb _)⟩, h.lt⟩
theorem InvW.later {bM bP : Nat} {x : MsgV} {d : List Fld} {w w' : World} (h : InvW bM bP x d w) (hb : Below w.heap.size w w') : InvW bM bP x d w' := ⟨h.1.later hb, MsgV.rows_move h.2 fun b hS hlt => ⟨hS, hb.block b hlt⟩⟩
theorem Keep.of_grown {p : Nat → Prop} {w w' : World} {b : Nat} (h : w.grownBy w' (some b)) (hp : ∀ k, p k → k ≠ b) : Keep p w w' := ⟨h.os, h.tape, h.output, h.size, fun k hk hpk => h.block k hk (by simpa using hp k hpk)⟩
theorem fld_run {bM bP : Nat} {x : MsgV} {f : Fld} {d : List Fld} {w w' : World} {e : Ending} (hi : InvW bM bP x d w) (hp : FldPostW f x (seenV x d) (bytesK x.m d) bM bP w e w') :
    RunPost (InvW bM bP x) (fun b => b ≠ bP ∧ b ≠ bM ∧ b ≠ bP) (stepW x.m f d) (.tuple #[]) w e w' := by
  rw [FldPostW] at hp
  rw [stepW]
  split
  · rename_i hok
    rw [if_pos hok] at hp
    obtain ⟨he, hg, hw⟩ := hp
    have hlt := hi.1.lt
    refine ⟨he, ⟨by rw [seenV_snoc, bytesK_snoc]; exact hw, MsgV.rows_move hi.2 fun b hS hlt2 => ⟨hS, hg.block b hlt2 (by simp; omega)⟩⟩, Keep.of_grown hg fun k hk => hk.1⟩
  · rename_i hok
    rw [if_neg hok] at hp
    exact ⟨hp.1, Keep.of_below hp.2⟩
theorem fld_calls (bM bP : Nat) (x : MsgV) (hwf : x.m.wf) (hbk : x.m.bulk ≤ 1073741824) (f : Fld) (j : Nat) (l d : List Fld) (w : World) (hj : j < 6) (hgo : goFlds (stepW x.m) (l.take j) [] = some d) (hi : InvW bM bP x d w) :
    Calls Try.prog (fldFn f) #[.pointer (some ⟨bP, 0, none⟩)] w (RunPost (InvW bM bP x) (fun b => b ≠ bP ∧ b ≠ bM ∧ b ≠ bP) (stepW x.m f d) (.tuple #[]) w) := by
  have hd : d.length ≤ 6 := by
    rw [goW] at hgo
    split at hgo
    · injection hgo with hgo
      rw [← hgo]; simp; omega
    · cases hgo
  have hl := bytesK_le x.m hbk d
  have hl' : (bytesK x.m d).length ≤ 1099511627776 := by omega
  have hb2 := hbk
  rw [Msg.bulk] at hb2
  have hm : ∀ {e w'}, FldPostW f x (seenV x d) (bytesK x.m d) bM bP w e w' → RunPost (InvW bM bP x) (fun b => b ≠ bP ∧ b ≠ bM ∧ b ≠ bP) (stepW x.m f d) (.tuple #[]) w e w' := fun h => fld_run hi h
  cases f
  · exact (penBoot_w bM bP x _ _ w hi.1 hwf hl').mono fun _ _ => hm
  · exact (penKnown_w bM bP x _ _ w hi.1 hwf hl').mono fun _ _ => hm
  · exact (penServer_w bM bP x _ _ w hi.1 hwf hl').mono fun _ _ => hm
  · exact (penCount_w bM bP x _ _ w hi.1 hwf hl').mono fun _ _ => hm
  · exact (penNode_w bM bP x _ _ w hi.1 hwf hl').mono fun _ _ => hm
  · exact (penLease_w bM bP x _ _ w hi.1 hwf hl').mono fun _ _ => hm
  · exact (penEpoch_w bM bP x _ _ w hi.1 hwf hl').mono fun _ _ => hm
  · exact (penVersion_w bM bP x _ _ w hi.1 hwf hl').mono fun _ _ => hm
  · exact (penFault_w bM bP x _ _ w hi.1 hwf hl').mono fun _ _ => hm
  · exact (penSteps_w bM bP x _ _ w hi.1 hwf hl' hi.2 (by omega)).mono fun _ _ => hm
  · exact (penTree_w bM bP x _ _ w hi.1 hwf hl' hi.2 (by omega)).mono fun _ _ => hm

@[go_sem] theorem assert_wrong (v : Value) (w : World) : (Instr.typeAssert (.iface 133 v) 20 133 true).run Try.prog w = .ok (.tuple #[v, .bool true]) w := by kernel_rfl

set_option maxRecDepth 100000 in
set_option maxHeartbeats 2000000 in
theorem writeD_idle (a b : Addr) (w : World) :
    CallsD Try.prog 86 #[.pointer (some a), .pointer (some b)] .returning w fun e u' w' => e = .returned (.tuple #[]) ∧ u' = .returning ∧ w' = w := by
  refine callsD_of_wpS Try.func86 rfl fun c₀ cs hu => ?_
  simp only [Try.ntmps86, List.size_toArray, List.length_cons, List.length_nil, Nat.reduceAdd, Nat.reduceSub, Array.replicate_succ, Array.replicate_zero, List.push_toArray, List.append_toArray, List.nil_append, List.cons_append]
  apply wpS_seq
  apply wpS_region
  simp [wpOpsS, go_sem, recoverD, hu, Exit.thenS]
  apply wpS_seq
  apply wpS_region
  simp [wpOpsS, go_sem, Exit.thenS]
  refine wpS_cond (t := false) (by simp [Act.eval, Array.replicate]) ?_
  simp only [Bool.false_eq_true, if_false]
  refine wpS_of_wp (wp_skip ?_)
  cases c₀
  simp_all [bodyPostS, results, Try.results86]

set_option maxRecDepth 100000 in
set_option maxHeartbeats 2000000 in
theorem writeD_panics (bB bO : Nat) (tB tO : TypeId) (xB xO : Value) (w : World) (hB : w.heap[bB]? = some (.cells #[xB] tB (0, 0))) (hO : w.heap[bO]? = some (.cells #[xO] tO (0, 0))) (hne : bB < bO) :
    CallsD Try.prog 86 #[.pointer (some ⟨bB, 0, none⟩), .pointer (some ⟨bO, 0, none⟩)] (.panicking [{ v := .iface 133 (.agg #[]), recovered := false }]) w fun e u' w' =>
      e = .returned (.tuple #[]) ∧ u' = .panicking [{ v := .iface 133 (.agg #[]), recovered := true }] ∧ w' = (((w.alloc (.cells #[] 133)).setCell ⟨bB, 0, none⟩ (.slice none 0 0)).setCell ⟨bO, 0, none⟩ (.bool false)) := by
  obtain ⟨q0, qz⟩ := blk1 (alloc_old hB (.cells #[] 133))
  obtain ⟨x0, xz⟩ := blk1 (setCell_ne (alloc_old hO (.cells #[] 133)) (by omega : bO ≠ bB) 0 (.slice none 0 0))
  refine callsD_of_wpS Try.func86 rfl fun c₀ cs hu => ?_
  simp only [Try.ntmps86, List.size_toArray, List.length_cons, List.length_nil, Nat.reduceAdd, Nat.reduceSub, Array.replicate_succ, Array.replicate_zero, List.push_toArray, List.append_toArray, List.nil_append, List.cons_append]
  apply wpS_seq
  apply wpS_region
  simp [wpOpsS, go_sem, recoverD, hu, Exit.thenS]
  apply wpS_seq
  apply wpS_region
  simp [wpOpsS, go_sem, Exit.thenS]
  refine wpS_cond (t := true) (by simp [Act.eval, Array.replicate]) ?_
  simp only [if_true]
  refine wpS_of_wp ?_
  go_wp2
  cases c₀
  simp_all [bodyPostS, results, Try.results86]
end Go.Proofs.Ytimjpkmdphccmaa
