/- wire's pen, reading: its state; the numbers, fault, steps, tree: walks. -/
import Derived.Test.YtimjpkmdphccmaaWS13
import Derived.Test.YtimjpkmdphccmaaWS8
import Derived.Test.YtimjpkmdphccmaaProg
import Derived.Laws.EntriesVeiled
import Derived.Laws.Pointers
import Derived.WalkLawsBesides
import Derived.WalkSpells
import Derived.Tactics
import Derived.Tactics2
import Derived.WalkKit
import Derived.Handy
import Derived.Deep.RegionHeld3
import Derived.Deep.DrawnRows
import Derived.Deep.DeepCutAuto
import Derived.KernelRfl
import Derived.BigRegion
import Derived.BigQuiet
import Derived.Deep.QuietTactic
import Derived.Outline
import Derived.Lib.Hide
import Derived.StillTailTactics
import Derived.Deep.RegionHeld2
import Derived.Defers
import Derived.Recover

namespace Go.Proofs.Ytimjpkmdphccmaa
open Go.RowKit
attribute [local go_sem ↓] Go.wp_at_zero Go.wp_at_succ
set_option linter.unusedVariables false
set_option linter.unusedSimpArgs false

/-- The pen that reads. -/
structure PenR (w : World) (bM bP br : Nat) (B : Src) (x : MsgV) (st : Rst) : Prop where
  M : w.heap[bM]? = some (.cells x.cells.toArray 41 (0, 0))
  P : ∃ rest : List Value, w.heap[bP]? = some (.cells (.pointer (some ⟨bM, 0, none⟩) :: .pointer (some ⟨br, 0, none⟩) :: rest).toArray 110 (0, 0))
  R : RdS w br B st
  rows : x.rows (fun b => br < b ∧ b ≠ bM) w
  lt1 : br < bM
  lt2 : bM < bP
theorem PenR.keep {w w' : World} {bM bP br : Nat} {B : Src} {x : MsgV} {st : Rst} (h : PenR w bM bP br B x st) (hb : Below w.heap.size w w') : PenR w' bM bP br B x st := by
  obtain ⟨rest, hP⟩ := h.P
  exact ⟨(hb.block _ (Array.getElem?_eq_some_iff.1 h.M).1).trans h.M, ⟨rest, (hb.block _ (Array.getElem?_eq_some_iff.1 hP).1).trans hP⟩, h.R.later hb, MsgV.rows_move h.rows fun b hS hlt => ⟨hS, hb.block b hlt⟩, h.lt1, h.lt2⟩
theorem PenR.drew {w : World} {bM bP br : Nat} {B : Src} {x : MsgV} {st : Rst} (h : PenR w bM bP br B x st) : PenR w.drew bM bP br B x st := h.keep (below_drewN (Below.refl _ _) 1)
def keepR (bM br : Nat) : Nat → Prop := fun b => b ≠ bM ∧ b ≠ br
/-- What a field's reading comes to. -/
def FldPostR (f : Fld) (bM bP br : Nat) (B : Src) (x : MsgV) (st : Rst) (w : World) (e : Ending) (w' : World) : Prop :=
  e = .returned (.tuple #[]) ∧ Keep (keepR bM br) w w' ∧ ∃ y : MsgV, (y.m, (f.read B.l (x.m, st)).2) = f.read B.l (x.m, st) ∧ PenR w' bM bP br B y (f.read B.l (x.m, st)).2
theorem Keep.undrew {p : Nat → Prop} {w w' : World} (h : Keep p w.drew w') : Keep p w w' := ⟨h.os, h.tape, h.output, h.size, h.block⟩

set_option maxRecDepth 100000 in
set_option maxHeartbeats 2000000 in
theorem number_r (bM bP br i : Nat) (B : Src) (L : List Value) (st : Rst) (s : Value) (fr : Int) (w : World) (hM : w.heap[bM]? = some (.cells L.toArray 41 (0, 0))) (hi : i < L.length)
    (hP : ∃ rest : List Value, w.heap[bP]? = some (.cells (.pointer (some ⟨bM, 0, none⟩) :: .pointer (some ⟨br, 0, none⟩) :: rest).toArray 110 (0, 0))) (hR : RdS w br B st) (hB : B.l.length ≤ 1099511627776) (h1 : br < bM) (h2 : bM < bP) :
    Calls Try.prog 130 #[.pointer (some ⟨bP, 0, none⟩), .pointer (some ⟨bM, i, none⟩), s, .int .i64 fr] w fun e w' => e = .returned (.tuple #[]) ∧
      w'.heap[bM]? = some (.cells (L.set i (.int .i64 (askP (numberP B.l) 0 st).1)).toArray 41 (0, 0)) ∧ RdS w' br B (askP (numberP B.l) 0 st).2 ∧ Keep (keepR bM br) w w' := by
  obtain ⟨rest, hP⟩ := hP
  obtain ⟨p1, _⟩ := cell_of hP (i := 1) (v := .pointer (some ⟨br, 0, none⟩)) rfl
  have HC := Lib.hid (RNumber_calls br B st w hR hB)
  generalize hq : askP (numberP B.l) 0 st = q at HC
  have HQ := Lib.hid hq
  clear hq
  go_enter Try.func130, Try.ntmps130
  go_wp2_with fail
  refine HC.out.mono ?_
  clear HC
  rintro e w2 ⟨_, rfl, rfl, hr, hg⟩
  have hM2 := (hg.block bM (Array.getElem?_eq_some_iff.1 hM).1 (by simp; omega)).trans hM
  obtain ⟨m1, mz⟩ := cell_of hM2 (i := i) (v := L[i]) (by simp [hi])
  have HF : Hid ((w2.setCell ⟨bM, i, none⟩ (.int .i64 q.1)).heap[bM]? = some (.cells (L.set i (.int .i64 q.1)).toArray 41 (0, 0)) ∧ RdS (w2.setCell ⟨bM, i, none⟩ (.int .i64 q.1)) br B q.2 ∧ Keep (keepR bM br) w (w2.setCell ⟨bM, i, none⟩ (.int .i64 q.1))) := Lib.hid (by
    have hG := grown_set (grown_refl w2 (some bM)) i (.int .i64 q.1)
    refine ⟨by rw [setCell_blk hM2]; simp, hr.grown hG (fun b hb => by simp at hb; omega), ?_⟩
    exact (Keep.of_grown hg fun k hk => hk.2).trans (Keep.of_grown hG fun k hk => hk.1))
  clear hr hg hM2 hM hR
  go_wp2
  first
    | exact ⟨rfl, _, by simp [results, Try.results130], rfl, HF.out⟩
    | (go_end0; exact ⟨rfl, HF.out⟩)
    | (refine bodyPost_ret (v := .tuple #[]) (by simp [results, Try.results130]) rfl ⟨rfl, ?_⟩; rw [HQ.out]; exact HF.out)

theorem FldPostR.num {f : Fld} {bM bP br i : Nat} {B : Src} {x : MsgV} {st : Rst} {w w' : World} {v : Value} {st' : Rst} (h : PenR w bM bP br B x st) (hM : w'.heap[bM]? = some (.cells (x.cells.set i v).toArray 41 (0, 0))) (hR : RdS w' br B st') (hk : Keep (keepR bM br) w.drew w')
    (he : ({ x with m := (f.read B.l (x.m, st)).1 } : MsgV).cells = x.cells.set i v) (hs : (f.read B.l (x.m, st)).2 = st') (h1 : (f.read B.l (x.m, st)).1.steps = x.m.steps) (h2 : (f.read B.l (x.m, st)).1.tree = x.m.tree) : FldPostR f bM bP br B x st w (.returned (.tuple #[])) w' := by
  have hk' : Keep (keepR bM br) w w' := ⟨hk.os, hk.tape, hk.output, hk.size, hk.block⟩
  obtain ⟨rest, hP⟩ := h.P
  have l1 := h.lt1
  have l2 := h.lt2
  refine ⟨rfl, hk', ({ x with m := (f.read B.l (x.m, st)).1 } : MsgV), rfl, ?_⟩
  rw [hs]
  refine ⟨by rw [he]; exact hM, ⟨rest, hk'.get hP ⟨by omega, by omega⟩⟩, hR, ?_, l1, l2⟩
  have hr : x.rows (fun b => br < b ∧ b ≠ bM) w' := MsgV.rows_move h.rows fun b hS hlt => ⟨hS, hk'.block b hlt ⟨hS.2, by have := hS.1; omega⟩⟩
  rw [MsgV.rows, MsgAt]
  simp only
  rw [h1, h2]
  exact hr
set_option maxRecDepth 100000 in
set_option maxHeartbeats 2000000 in
theorem penBoot_r (bM bP br : Nat) (B : Src) (x : MsgV) (st : Rst) (w : World) (h : PenR w bM bP br B x st) (hB : B.l.length ≤ 1099511627776) :
    Calls Try.prog 102 #[.pointer (some ⟨bP, 0, none⟩)] w (FldPostR .boot bM bP br B x st w) := by
  obtain ⟨rest, hP⟩ := h.P
  obtain ⟨p0, _⟩ := cell_of hP (i := 0) (v := .pointer (some ⟨bM, 0, none⟩)) rfl
  have HC := Lib.hid (fun s => number_r bM bP br 3 B x.cells st s 1 w.drew h.drew.M (by simp [MsgV.cells]) h.drew.P h.drew.R hB h.lt1 h.lt2)
  have HPR := Lib.hid h
  clear h
  go_enter Try.func102, Try.ntmps102
  go_region_with ((go_at_call 130; refine (HC.out _).mono ?_; rintro e w2 ⟨rfl, hM2, hR2, hk2⟩))
  all_goals
    go_end0
    exact FldPostR.num HPR.out hM2 hR2 hk2 rfl rfl rfl rfl
set_option maxRecDepth 100000 in
set_option maxHeartbeats 2000000 in
theorem penKnown_r (bM bP br : Nat) (B : Src) (x : MsgV) (st : Rst) (w : World) (h : PenR w bM bP br B x st) (hB : B.l.length ≤ 1099511627776) :
    Calls Try.prog 103 #[.pointer (some ⟨bP, 0, none⟩)] w (FldPostR .known bM bP br B x st w) := by
  obtain ⟨rest, hP⟩ := h.P
  obtain ⟨p0, _⟩ := cell_of hP (i := 0) (v := .pointer (some ⟨bM, 0, none⟩)) rfl
  have HC := Lib.hid (fun s => number_r bM bP br 4 B x.cells st s 0 w.drew h.drew.M (by simp [MsgV.cells]) h.drew.P h.drew.R hB h.lt1 h.lt2)
  have HPR := Lib.hid h
  clear h
  go_enter Try.func103, Try.ntmps103
  go_region_with ((go_at_call 130; refine (HC.out _).mono ?_; rintro e w2 ⟨rfl, hM2, hR2, hk2⟩))
  all_goals
    go_end0
    exact FldPostR.num HPR.out hM2 hR2 hk2 rfl rfl rfl rfl
set_option maxRecDepth 100000 in
set_option maxHeartbeats 2000000 in
theorem penServer_r (bM bP br : Nat) (B : Src) (x : MsgV) (st : Rst) (w : World) (h : PenR w bM bP br B x st) (hB : B.l.length ≤ 1099511627776) :
    Calls Try.prog 101 #[.pointer (some ⟨bP, 0, none⟩)] w (FldPostR .server bM bP br B x st w) := by
  obtain ⟨rest, hP⟩ := h.P
  obtain ⟨p0, _⟩ := cell_of hP (i := 0) (v := .pointer (some ⟨bM, 0, none⟩)) rfl
  have HC := Lib.hid (fun s => number_r bM bP br 4 B x.cells st s 1 w.drew h.drew.M (by simp [MsgV.cells]) h.drew.P h.drew.R hB h.lt1 h.lt2)
  have HPR := Lib.hid h
  clear h
  go_enter Try.func101, Try.ntmps101
  go_region_with ((go_at_call 130; refine (HC.out _).mono ?_; rintro e w2 ⟨rfl, hM2, hR2, hk2⟩))
  all_goals
    go_end0
    exact FldPostR.num HPR.out hM2 hR2 hk2 rfl rfl rfl rfl
set_option maxRecDepth 100000 in
set_option maxHeartbeats 2000000 in
theorem penCount_r (bM bP br : Nat) (B : Src) (x : MsgV) (st : Rst) (w : World) (h : PenR w bM bP br B x st) (hB : B.l.length ≤ 1099511627776) :
    Calls Try.prog 104 #[.pointer (some ⟨bP, 0, none⟩)] w (FldPostR .count bM bP br B x st w) := by
  obtain ⟨rest, hP⟩ := h.P
  obtain ⟨p0, _⟩ := cell_of hP (i := 0) (v := .pointer (some ⟨bM, 0, none⟩)) rfl
  have HC := Lib.hid (fun s => number_r bM bP br 5 B x.cells st s 1 w.drew h.drew.M (by simp [MsgV.cells]) h.drew.P h.drew.R hB h.lt1 h.lt2)
  have HPR := Lib.hid h
  clear h
  go_enter Try.func104, Try.ntmps104
  go_region_with ((go_at_call 130; refine (HC.out _).mono ?_; rintro e w2 ⟨rfl, hM2, hR2, hk2⟩))
  all_goals
    go_end0
    exact FldPostR.num HPR.out hM2 hR2 hk2 rfl rfl rfl rfl
set_option maxRecDepth 100000 in
set_option maxHeartbeats 2000000 in
theorem penNode_r (bM bP br : Nat) (B : Src) (x : MsgV) (st : Rst) (w : World) (h : PenR w bM bP br B x st) (hB : B.l.length ≤ 1099511627776) :
    Calls Try.prog 105 #[.pointer (some ⟨bP, 0, none⟩)] w (FldPostR .node bM bP br B x st w) := by
  obtain ⟨rest, hP⟩ := h.P
  obtain ⟨p0, _⟩ := cell_of hP (i := 0) (v := .pointer (some ⟨bM, 0, none⟩)) rfl
  have HC := Lib.hid (fun s => number_r bM bP br 6 B x.cells st s 1 w.drew h.drew.M (by simp [MsgV.cells]) h.drew.P h.drew.R hB h.lt1 h.lt2)
  have HPR := Lib.hid h
  clear h
  go_enter Try.func105, Try.ntmps105
  go_region_with ((go_at_call 130; refine (HC.out _).mono ?_; rintro e w2 ⟨rfl, hM2, hR2, hk2⟩))
  all_goals
    go_end0
    exact FldPostR.num HPR.out hM2 hR2 hk2 rfl rfl rfl rfl
set_option maxRecDepth 100000 in
set_option maxHeartbeats 2000000 in
theorem penLease_r (bM bP br : Nat) (B : Src) (x : MsgV) (st : Rst) (w : World) (h : PenR w bM bP br B x st) (hB : B.l.length ≤ 1099511627776) :
    Calls Try.prog 106 #[.pointer (some ⟨bP, 0, none⟩)] w (FldPostR .lease bM bP br B x st w) := by
  obtain ⟨rest, hP⟩ := h.P
  obtain ⟨p0, _⟩ := cell_of hP (i := 0) (v := .pointer (some ⟨bM, 0, none⟩)) rfl
  have HC := Lib.hid (fun s => number_r bM bP br 7 B x.cells st s 1 w.drew h.drew.M (by simp [MsgV.cells]) h.drew.P h.drew.R hB h.lt1 h.lt2)
  have HPR := Lib.hid h
  clear h
  go_enter Try.func106, Try.ntmps106
  go_region_with ((go_at_call 130; refine (HC.out _).mono ?_; rintro e w2 ⟨rfl, hM2, hR2, hk2⟩))
  all_goals
    go_end0
    exact FldPostR.num HPR.out hM2 hR2 hk2 rfl rfl rfl rfl
set_option maxRecDepth 100000 in
set_option maxHeartbeats 2000000 in
theorem penEpoch_r (bM bP br : Nat) (B : Src) (x : MsgV) (st : Rst) (w : World) (h : PenR w bM bP br B x st) (hB : B.l.length ≤ 1099511627776) :
    Calls Try.prog 107 #[.pointer (some ⟨bP, 0, none⟩)] w (FldPostR .epoch bM bP br B x st w) := by
  obtain ⟨rest, hP⟩ := h.P
  obtain ⟨p0, _⟩ := cell_of hP (i := 0) (v := .pointer (some ⟨bM, 0, none⟩)) rfl
  have HC := Lib.hid (fun s => number_r bM bP br 8 B x.cells st s 1 w.drew h.drew.M (by simp [MsgV.cells]) h.drew.P h.drew.R hB h.lt1 h.lt2)
  have HPR := Lib.hid h
  clear h
  go_enter Try.func107, Try.ntmps107
  go_region_with ((go_at_call 130; refine (HC.out _).mono ?_; rintro e w2 ⟨rfl, hM2, hR2, hk2⟩))
  all_goals
    go_end0
    exact FldPostR.num HPR.out hM2 hR2 hk2 rfl rfl rfl rfl
set_option maxRecDepth 100000 in
set_option maxHeartbeats 2000000 in
theorem penVersion_r (bM bP br : Nat) (B : Src) (x : MsgV) (st : Rst) (w : World) (h : PenR w bM bP br B x st) (hB : B.l.length ≤ 1099511627776) :
    Calls Try.prog 108 #[.pointer (some ⟨bP, 0, none⟩)] w (FldPostR .version bM bP br B x st w) := by
  obtain ⟨rest, hP⟩ := h.P
  obtain ⟨p0, _⟩ := cell_of hP (i := 0) (v := .pointer (some ⟨bM, 0, none⟩)) rfl
  have HC := Lib.hid (fun s => number_r bM bP br 9 B x.cells st s 0 w.drew h.drew.M (by simp [MsgV.cells]) h.drew.P h.drew.R hB h.lt1 h.lt2)
  have HPR := Lib.hid h
  clear h
  go_enter Try.func108, Try.ntmps108
  go_region_with ((go_at_call 130; refine (HC.out _).mono ?_; rintro e w2 ⟨rfl, hM2, hR2, hk2⟩))
  all_goals
    go_end0
    exact FldPostR.num HPR.out hM2 hR2 hk2 rfl rfl rfl rfl

set_option maxRecDepth 100000 in
set_option maxHeartbeats 2000000 in
theorem penFault_r (bM bP br : Nat) (B : Src) (x : MsgV) (st : Rst) (w : World) (h : PenR w bM bP br B x st) (hB : B.l.length ≤ 1099511627776) :
    Calls Try.prog 110 #[.pointer (some ⟨bP, 0, none⟩)] w (FldPostR .fault bM bP br B x st w) := by
  obtain ⟨rest, hP⟩ := h.P
  obtain ⟨p0, _⟩ := cell_of hP (i := 0) (v := .pointer (some ⟨bM, 0, none⟩)) rfl
  obtain ⟨p1, _⟩ := cell_of hP (i := 1) (v := .pointer (some ⟨br, 0, none⟩)) rfl
  have HPR := Lib.hid h
  have hM := h.M
  have hlt := h.lt1
  have hlt2 := h.lt2
  have HC := Lib.hid (RNumber_calls br B st w.drew h.drew.R hB)
  clear h
  go_enter Try.func110, Try.ntmps110
  go_wp2_with fail
  go_region_with ((go_at_call 63; refine HC.out.mono ?_; rintro e w2 ⟨_, rfl, rfl, hr, hg⟩; replace hg := grown_undrew hg; have hM2 := (hg.block bM (Array.getElem?_eq_some_iff.1 hM).1 (by simp; omega)).trans hM; obtain ⟨m10, mz⟩ := cell_of hM2 (i := 10) (v := .int .i64 x.m.e) rfl; have hP2 := (hg.block bP (Array.getElem?_eq_some_iff.1 hP).1 (by simp; omega)).trans hP; obtain ⟨p0', _⟩ := cell_of hP2 (i := 0) (v := .pointer (some ⟨bM, 0, none⟩)) rfl))
  all_goals
    generalize hq : askP (numberP B.l) 0 st = q at hr ⊢
    have HF : Hid (FldPostR .fault bM bP br B x st w (.returned (.tuple #[])) (w2.setCell ⟨bM, 10, none⟩ (.int .i64 q.1))) := Lib.hid (by
      have hG := grown_set (grown_refl w2 (some bM)) 10 (.int .i64 q.1)
      refine FldPostR.num (i := 10) (v := .int .i64 q.1) (st' := q.2) HPR.out (by rw [setCell_blk hM2]; simp) (hr.grown hG (fun b hb => by simp at hb; omega)) ?_ (by rw [← hq]; rfl) (by rw [← hq]; rfl) rfl rfl
      have := (Keep.of_grown (p := keepR bM br) hg fun k hk => hk.2).trans (Keep.of_grown hG fun k hk => hk.1)
      exact ⟨this.os, this.tape, this.output, this.size, this.block⟩)
    clear hq
    go_wp2
    go_end0
    exact HF.out
end Go.Proofs.Ytimjpkmdphccmaa

/- wire's pen, reading: steps, tree: walks. -/
namespace Go.Proofs.Ytimjpkmdphccmaa
open Go.RowKit
attribute [local go_sem ↓] Go.wp_at_zero Go.wp_at_succ
set_option linter.unusedVariables false
set_option linter.unusedSimpArgs false

theorem FldPostR.row {f : Fld} {bM bP br : Nat} {B : Src} {x y : MsgV} {st : Rst} {w w' : World} {st' : Rst} (h : PenR w bM bP br B x st) (hM : w'.heap[bM]? = some (.cells y.cells.toArray 41 (0, 0))) (hR : RdS w' br B st') (hk : Keep (keepR bM br) w w')
    (hy : y.m = (f.read B.l (x.m, st)).1) (hs : (f.read B.l (x.m, st)).2 = st') (hr : y.rows (fun b => br < b ∧ b ≠ bM) w') : FldPostR f bM bP br B x st w (.returned (.tuple #[])) w' := by
  obtain ⟨rest, hP⟩ := h.P
  have l1 := h.lt1
  have l2 := h.lt2
  refine ⟨rfl, hk, y, by rw [hy], ?_⟩
  rw [hs]
  exact ⟨hM, ⟨rest, hk.get hP ⟨by omega, by omega⟩⟩, hR, hr, l1, l2⟩

set_option maxRecDepth 100000 in
set_option maxHeartbeats 2000000 in
theorem penSteps_r (bM bP br : Nat) (B : Src) (x : MsgV) (st : Rst) (w : World) (h : PenR w bM bP br B x st) (hB : B.l.length ≤ 1099511627776) :
    Calls Try.prog 111 #[.pointer (some ⟨bP, 0, none⟩)] w (FldPostR .steps bM bP br B x st w) := by
  obtain ⟨rest, hP⟩ := h.P
  obtain ⟨p0, _⟩ := cell_of hP (i := 0) (v := .pointer (some ⟨bM, 0, none⟩)) rfl
  obtain ⟨p1, _⟩ := cell_of hP (i := 1) (v := .pointer (some ⟨br, 0, none⟩)) rfl
  have HPR := Lib.hid h
  have hM := h.M
  have hlt := h.lt1
  have hlt2 := h.lt2
  have HC := Lib.hid (RSteps_calls br B st w.drew h.drew.R hB)
  clear h
  go_enter Try.func111, Try.ntmps111
  go_wp2_with fail
  go_region_with ((go_at_call 133; refine HC.out.mono ?_; rintro e w2 ⟨_, rfl, ⟨A, c, rfl, hc, hk⟩, hr, hg⟩; replace hg := grown_undrew hg; have hM2 := (hg.block bM (Array.getElem?_eq_some_iff.1 hM).1 (by simp; omega)).trans hM; obtain ⟨m11, mz⟩ := cell_of hM2 (i := 11) (v := .slice x.As x.m.steps.length x.cs) rfl; have hP2 := (hg.block bP (Array.getElem?_eq_some_iff.1 hP).1 (by simp; omega)).trans hP; obtain ⟨p0', _⟩ := cell_of hP2 (i := 0) (v := .pointer (some ⟨bM, 0, none⟩)) rfl))
  all_goals
    generalize hq : askP (stepsP B.l) ([], ()) st = q at hr hc hk ⊢
    have HF : Hid (FldPostR .steps bM bP br B x st w (.returned (.tuple #[])) (w2.setCell ⟨bM, 11, none⟩ (.slice A q.1.1.length c))) := Lib.hid (by
      have hG := grown_set (grown_refl w2 (some bM)) 11 (.slice A q.1.1.length c)
      have hlM := (Array.getElem?_eq_some_iff.1 hM).1
      have hlR := HPR.out.R.lt
      have hK : Keep (keepR bM br) w (w2.setCell ⟨bM, 11, none⟩ (.slice A q.1.1.length c)) := (Keep.of_grown (p := keepR bM br) hg fun k hk => hk.2).trans (Keep.of_grown hG fun k hk => hk.1)
      have hr0 : x.rows (fun b => br < b ∧ b ≠ bM) (w2.setCell ⟨bM, 11, none⟩ (.slice A q.1.1.length c)) := MsgV.rows_move HPR.out.rows fun b hS hlt => ⟨hS, hK.block b hlt ⟨hS.2, by have := hS.1; omega⟩⟩
      refine FldPostR.row (y := ⟨{ x.m with steps := q.1.1 }, A, c, x.At, x.ct⟩) (st' := q.2) HPR.out ?_ (hr.grown hG (fun b hb => by simp at hb; omega)) hK (by rw [Fld.read, hq]) (by rw [Fld.read, hq]) ⟨hc, ?_, hr0.2.2⟩
      · rw [setCell_blk hM2]; simp [MsgV.cells]
      · exact hk.move fun b hb hlt => ⟨⟨by simp at hb; omega, by simp at hb; omega⟩, hG.block b hlt (by simp at hb ⊢; omega)⟩)
    clear hq
    go_wp2
    go_end0
    exact HF.out

set_option maxRecDepth 100000 in
set_option maxHeartbeats 2000000 in
theorem penTree_r (bM bP br : Nat) (B : Src) (x : MsgV) (st : Rst) (w : World) (h : PenR w bM bP br B x st) (hB : B.l.length ≤ 1099511627776) :
    Calls Try.prog 109 #[.pointer (some ⟨bP, 0, none⟩)] w (FldPostR .tree bM bP br B x st w) := by
  obtain ⟨rest, hP⟩ := h.P
  obtain ⟨p0, _⟩ := cell_of hP (i := 0) (v := .pointer (some ⟨bM, 0, none⟩)) rfl
  obtain ⟨p1, _⟩ := cell_of hP (i := 1) (v := .pointer (some ⟨br, 0, none⟩)) rfl
  have HPR := Lib.hid h
  have hM := h.M
  have hlt := h.lt1
  have hlt2 := h.lt2
  have HC := Lib.hid (RNode_calls br B st w.drew h.drew.R hB)
  clear h
  go_enter Try.func109, Try.ntmps109
  go_wp2_with fail
  go_region_with ((go_at_call 131; refine HC.out.mono ?_; rintro e w2 ⟨_, rfl, ⟨A, c, rfl, hc, hk⟩, hr, hg⟩; replace hg := grown_undrew hg; have hM2 := (hg.block bM (Array.getElem?_eq_some_iff.1 hM).1 (by simp; omega)).trans hM; obtain ⟨m12, mz⟩ := cell_of hM2 (i := 12) (v := .int .i64 x.m.tree.id) rfl; obtain ⟨m13, mz3⟩ := cell_of hM2 (i := 13) (v := .int .i64 x.m.tree.kind) rfl; obtain ⟨m14, mz4⟩ := cell_of hM2 (i := 14) (v := .string x.m.tree.text) rfl; obtain ⟨m15, mz5⟩ := cell_of hM2 (i := 15) (v := .slice x.At x.m.tree.kids.length x.ct) rfl; have hP2 := (hg.block bP (Array.getElem?_eq_some_iff.1 hP).1 (by simp; omega)).trans hP; obtain ⟨p0', _⟩ := cell_of hP2 (i := 0) (v := .pointer (some ⟨bM, 0, none⟩)) rfl))
  all_goals
    generalize hq : askP (treeP B.l) Nd.zero st = q at hr hc hk ⊢
    have HF : Hid (FldPostR .tree bM bP br B x st w (.returned (.tuple #[])) ((((w2.setCell ⟨bM, 12, none⟩ (.int .i64 q.1.id)).setCell ⟨bM, 13, none⟩ (.int .i64 q.1.kind)).setCell ⟨bM, 14, none⟩ (.string q.1.text)).setCell ⟨bM, 15, none⟩ (.slice A q.1.kids.length c))) := Lib.hid (by
      have hG := grown_sets4 (w := w2) (b := bM) 12 (.int .i64 q.1.id) (.int .i64 q.1.kind) (.string q.1.text) (.slice A q.1.kids.length c)
      have hE := sets4_blk hM2 12 (.int .i64 q.1.id) (.int .i64 q.1.kind) (.string q.1.text) (.slice A q.1.kids.length c)
      simp only [Nat.reduceAdd] at hG hE
      have hlM := (Array.getElem?_eq_some_iff.1 hM).1
      have hlR := HPR.out.R.lt
      generalize (((w2.setCell ⟨bM, 12, none⟩ (.int .i64 q.1.id)).setCell ⟨bM, 13, none⟩ (.int .i64 q.1.kind)).setCell ⟨bM, 14, none⟩ (.string q.1.text)).setCell ⟨bM, 15, none⟩ (.slice A q.1.kids.length c) = Wf at hG hE ⊢
      have hK : Keep (keepR bM br) w Wf := (Keep.of_grown (p := keepR bM br) hg fun k hk => hk.2).trans (Keep.of_grown hG fun k hk => hk.1)
      have hr0 : x.rows (fun b => br < b ∧ b ≠ bM) Wf := MsgV.rows_move HPR.out.rows fun b hS hlt => ⟨hS, hK.block b hlt ⟨hS.2, by have := hS.1; omega⟩⟩
      refine FldPostR.row (y := ⟨{ x.m with tree := q.1 }, x.As, x.cs, A, c⟩) (st' := q.2) HPR.out ?_ (hr.grown hG (fun b hb => by simp at hb; omega)) hK (by rw [Fld.read, hq]) (by rw [Fld.read, hq]) ⟨hr0.1, hr0.2.1, hc, ?_⟩
      · rw [hE]; simp [MsgV.cells]
      · exact hk.move fun b hb hlt => ⟨⟨by simp at hb; omega, by simp at hb; omega⟩, hG.block b hlt (by simp at hb ⊢; omega)⟩)
    clear hq
    go_wp2
    go_end0
    exact HF.out
end Go.Proofs.Ytimjpkmdphccmaa

/- wire.write: a walk. -/
namespace Go.Proofs.Ytimjpkmdphccmaa
open Go.RowKit
attribute [local go_sem ↓] Go.wp_at_zero Go.wp_at_succ
set_option linter.unusedVariables false
set_option linter.unusedSimpArgs false

set_option maxRecDepth 100000 in
set_option maxHeartbeats 2000000 in
theorem fields_bad (bP bM : Nat) (k : Int) (w : World) (hk : k < 1 ∨ 10 < k) (h0 : -128 ≤ k) (h1 : k ≤ 127) (p0 : w.cell? ⟨bP, 0, none⟩ = some (.pointer (some ⟨bM, 0, none⟩))) (m0 : w.cell? ⟨bM, 0, none⟩ = some (.int .i8 k)) (hlP : bP < w.heap.size) (hlM : bM < w.heap.size) :
    Calls Try.prog 64 #[.pointer (some ⟨bP, 0, none⟩)] w (fun e w' => e = .panicked [{ v := .iface 133 (.agg #[]), recovered := false }] ∧ Below w.heap.size w w') := by
  have hmf : ∀ (fn : Fn) (first cap : Array Value) (w : World), (Instr.makeFunc fn first cap).run Try.prog w = .ok (.func fn first cap) w := fun _ _ _ _ => rfl
  go_enter Try.func64, Try.ntmps64
  go_upto_region 2 with (fail)
  generalize hW1 : ((((((((((w.alloc _).alloc _).alloc _).alloc _).alloc _).alloc _).alloc _).alloc _).alloc _).alloc _).alloc _ = W1
  have hB : Below w.heap.size w W1 := by rw [← hW1]; go_grown
  clear hW1
  have p1 := cell_keep hB p0
  have m1 := cell_keep hB m0
  clear p0 m0
  by_cases hk1 : 1 ≤ k
  · have d1 : decide ((1 : Int) ≤ k) = true := by simpa using hk1
    have d2 : decide (k < 11) = false := by simp; omega
    go_wp2_with fail
    refine (must_false W1).mono ?_
    rintro e w1 ⟨rfl, rfl⟩
    exact ⟨rfl, rfl, hB⟩
  · have d1 : decide ((1 : Int) ≤ k) = false := by simpa using hk1
    go_wp2_with fail
    refine (must_false W1).mono ?_
    rintro e w1 ⟨rfl, rfl⟩
    exact ⟨rfl, rfl, hB⟩

theorem seenK_kind (m : Msg) (l : List Fld) : (seenK m l).kind = m.kind := by
  induction l using snoc_induct with
  | h0 => rfl
  | h1 l f ih => rw [seenK_snoc]; cases f <;> exact ih
theorem blk19 {w : World} {b : Nat} {a0 a1 a2 c0 c1 c2 c3 c4 c5 c6 c7 c8 c9 c10 c11 c12 c13 c14 c15 : Value} {t : TypeId} (h : w.heap[b]? = some (.cells (a0 :: a1 :: a2 :: [c0, c1, c2, c3, c4, c5, c6, c7, c8, c9, c10, c11, c12, c13, c14, c15]).toArray t (0, 0))) :
    w.cell? ⟨b, 3, none⟩ = some c0 ∧ w.cell? ⟨b, 4, none⟩ = some c1 ∧ w.cell? ⟨b, 5, none⟩ = some c2 ∧ w.cell? ⟨b, 6, none⟩ = some c3 ∧ w.cell? ⟨b, 7, none⟩ = some c4 ∧ w.cell? ⟨b, 8, none⟩ = some c5 ∧ w.cell? ⟨b, 9, none⟩ = some c6 ∧ w.cell? ⟨b, 10, none⟩ = some c7 ∧ w.cell? ⟨b, 11, none⟩ = some c8 ∧ w.cell? ⟨b, 12, none⟩ = some c9 ∧ w.cell? ⟨b, 13, none⟩ = some c10 ∧ w.cell? ⟨b, 14, none⟩ = some c11 ∧ w.cell? ⟨b, 15, none⟩ = some c12 ∧ w.cell? ⟨b, 16, none⟩ = some c13 ∧ w.cell? ⟨b, 17, none⟩ = some c14 ∧ w.cell? ⟨b, 18, none⟩ = some c15 ∧ (∀ j, w.frozen? ⟨b, j, none⟩ = false) := by
  simp [World.cell?, World.frozen?, h]
theorem bytes_after {W W' : World} {p q1 q2 : Nat} {A : Option Addr} {l : List UInt8} {t1 t2 : TypeId} (h : OutAt W p A l) (h1 : W.heap[q1]? = some (.cells #[.slice none 0 0] t1 (0, 0))) (h2 : W.heap[q2]? = some (.cells #[.bool false] t2 (0, 0)))
    (hk : ∀ b, b < W.heap.size → b ≠ q1 → b ≠ q2 → W'.heap[b]? = W.heap[b]?) : BytesAt W' A l := by
  rcases h with h | ⟨b, o, hA, _, h⟩
  · exact .inl h
  · refine .inr ⟨b, o, hA, fun i hi => ?_⟩
    have hc := h i hi
    have hlt := World.block_lt_of_cell? _ _ hc
    have hn1 : b ≠ q1 := by
      rintro rfl
      simp only [World.cell?, h1] at hc
      have : o + i = 0 ∨ 0 < o + i := by omega
      rcases this with h0 | h0
      · rw [h0] at hc; simp at hc
      · obtain ⟨m, hm⟩ : ∃ m, o + i = m + 1 := ⟨o + i - 1, by omega⟩
        rw [hm] at hc; simp at hc
    have hn2 : b ≠ q2 := by
      rintro rfl
      simp only [World.cell?, h2] at hc
      have : o + i = 0 ∨ 0 < o + i := by omega
      rcases this with h0 | h0
      · rw [h0] at hc; simp at hc
      · obtain ⟨m, hm⟩ : ∃ m, o + i = m + 1 := ⟨o + i - 1, by omega⟩
        rw [hm] at hc; simp at hc
    exact (World.cell?_of_block (a := ⟨b, o + i, none⟩) (hk b hlt hn1 hn2)).trans hc
/-- What write hands back. -/
def WritePost (m : Msg) (w : World) (e : Ending) (w' : World) : Prop :=
  Below w.heap.size w w' ∧ match writeP m with
  | some b => ∃ A c, e = .returned (.tuple #[.slice A b.length c, .bool true]) ∧ b.length ≤ c ∧ BytesAt w' A b
  | none => e = .returned (.tuple #[.slice none 0 0, .bool false])

theorem write_fails {m : Msg} {w W : World} {tB tO : TypeId} {xB xO : Value} (hn : writeP m = none) (hB : Below w.heap.size w W) (hb : W.heap[w.heap.size + 1]? = some (.cells #[xB] tB (0, 0))) (ho : W.heap[w.heap.size + 2]? = some (.cells #[xO] tO (0, 0))) :
    WritePost m w (.returned (.tuple #[.slice none 0 0, .bool false])) (((W.alloc (.cells #[] 133)).setCell ⟨w.heap.size + 1, 0, none⟩ (.slice none 0 0)).setCell ⟨w.heap.size + 2, 0, none⟩ (.bool false)) ∧
      (((W.alloc (.cells #[] 133)).setCell ⟨w.heap.size + 1, 0, none⟩ (.slice none 0 0)).setCell ⟨w.heap.size + 2, 0, none⟩ (.bool false)).cell? ⟨w.heap.size + 1, 0, none⟩ = some (.slice none 0 0) ∧
      (((W.alloc (.cells #[] 133)).setCell ⟨w.heap.size + 1, 0, none⟩ (.slice none 0 0)).setCell ⟨w.heap.size + 2, 0, none⟩ (.bool false)).cell? ⟨w.heap.size + 2, 0, none⟩ = some (.bool false) := by
  have h1 := setCell_blk (alloc_old hb (.cells #[] 133)) 0 (.slice none 0 0)
  have h2 := setCell_ne (alloc_old ho (.cells #[] 133)) (by omega : w.heap.size + 2 ≠ w.heap.size + 1) 0 (.slice none 0 0)
  have h3 := setCell_ne h1 (by omega : w.heap.size + 1 ≠ w.heap.size + 2) 0 (.bool false)
  have h4 := setCell_blk h2 0 (.bool false)
  refine ⟨⟨((hB.alloc hB.size _).setCell (by simp only; omega) _).setCell (by simp only; omega) _, by rw [hn]⟩, ?_, ?_⟩
  · exact (blk1 (by simpa using h3)).1
  · exact (blk1 (by simpa using h4)).1

/-- code.Number, what came out under a name. -/
theorem Number_any (l : List UInt8) (A : Option Addr) (c : Nat) (n : Int) (w : World) (h : BytesAt w A l) (hl : l.length ≤ 1099511627776) (hn0 : -9223372036854775808 ≤ n) (hn1 : n ≤ 9223372036854775807) :
    Calls Try.prog 87 #[.slice A l.length c, .int .i64 n] w fun e w' => ∃ l1 A1 c1, Hid (l1 = l ++ numB n) ∧ l1.length ≤ l.length + 8 ∧ e = .returned (.slice A1 l1.length c1) ∧ l1.length ≤ c1 ∧ (∀ p, p < w.heap.size → OutAt w' p A1 l1) ∧ Below w.heap.size w w' := by
  refine (Number_calls l A c n w h hl hn0 hn1).mono ?_
  rintro e w' ⟨v, rfl, hr, hb⟩
  obtain ⟨A1, c1, rfl, hc1, hA⟩ := hr.opens
  refine ⟨_, A1, c1, Lib.hid rfl, by simp [numB_length], rfl, hc1, fun p hp => ?_, hb⟩
  rcases hA with h0 | ⟨b, hA, h1, h2, h3⟩
  · exact .inl h0
  · exact .inr ⟨b, 0, hA, by omega, fun i hi => by rw [Nat.zero_add]; exact h3 i hi⟩

set_option maxRecDepth 100000 in
set_option maxHeartbeats 4000000 in
theorem write_calls (x : MsgV) (w : World) (hrows : x.rows (fun _ => True) w) (hwf : x.m.wf) (hbk : x.m.bulk ≤ 1073741824) :
    Calls Try.prog 44 #[.agg #[.int .i8 x.m.kind, .int .i64 x.m.from_, .int .i64 x.m.to_, .int .i64 x.m.boot, .int .i64 x.m.server, .int .i64 x.m.number, .int .i64 x.m.node, .int .i64 x.m.lease, .int .i64 x.m.epoch, .int .i64 x.m.version, .int .i64 x.m.e, .slice x.As x.m.steps.length x.cs, .int .i64 x.m.tree.id, .int .i64 x.m.tree.kind, .string x.m.tree.text, .slice x.At x.m.tree.kids.length x.ct]] w (WritePost x.m w) := by
  obtain ⟨hk0, hk1⟩ := hwf.1
  have hf := hwf.2.1 x.m.from_ (by simp)
  have ht := hwf.2.1 x.m.to_ (by simp)
  have hrw : x.rows (fun b => b < w.heap.size) w := by
    obtain ⟨r1, r2, r3, r4⟩ := hrows
    exact ⟨r1, r2.lt.mono fun b hb => hb.2, r3, r4.lt.mono fun b hb => hb.2⟩
  have hmf : ∀ (fn : Fn) (first cap : Array Value) (w : World), (Instr.makeFunc fn first cap).run Try.prog w = .ok (.func fn first cap) w := fun _ _ _ _ => rfl
  have HWF := Lib.hid hwf
  clear hrows hwf
  go_enter_defers Try.func44, Try.ntmps44
  go_upto_region 3 with (fail)
  simp only [Nat.add_assoc, Nat.reduceAdd]
  generalize hW1 : ((((w.alloc _).alloc _).alloc _).alloc _).alloc _ = W1
  have hA : W1 = allocs w [_, _, _, _, _] := hW1.symm
  have hB1 : Below w.heap.size w W1 := by rw [← hW1]; go_grown
  have hz1 : w.heap.size + 5 ≤ W1.heap.size := by rw [← hW1]; simp
  have hM1 : W1.heap[w.heap.size]? = some (.cells x.cells.toArray 41 (0, 0)) := by rw [hA]; exact allocs_get _ w 0 _ rfl
  have hb1 : W1.heap[w.heap.size + 1]? = some (.cells #[.slice none 0 0] 46 (0, 0)) := by rw [hA]; exact allocs_get _ w 1 _ rfl
  have ho1 : W1.heap[w.heap.size + 2]? = some (.cells #[.bool false] 4 (0, 0)) := by rw [hA]; exact allocs_get _ w 2 _ rfl
  have hO1 : OutAt W1 (w.heap.size + 4) (some ⟨w.heap.size + 3, 0, none⟩) [opB x.m.kind] := .inr ⟨w.heap.size + 3, 0, rfl, by omega, fun i hi => by
    have hi0 : i = 0 := by simpa using hi
    subst hi0
    have h3 : W1.heap[w.heap.size + 3]? = some (.cells #[.int .u8 (x.m.kind % 256)] 5 (0, 0)) := by rw [hA]; exact allocs_get _ w 3 _ rfl
    have := (blk1 h3).1
    simpa [opB_val] using this⟩
  have hP1 : W1.heap[w.heap.size + 4]? = some (.cells (.pointer (some ⟨w.heap.size, 0, none⟩) :: .pointer none :: .slice (some ⟨w.heap.size + 3, 0, none⟩) 1 1 :: (seen0V x).cells).toArray 110 (0, 0)) := by rw [hA]; exact allocs_get _ w 4 _ rfl
  have hR1 : x.rows (fun b => b < w.heap.size) W1 := MsgV.rows_move hrw fun b hS _ => ⟨hS, hB1.block b hS⟩
  clear hA hW1 hrw
  obtain ⟨p2, _⟩ := cell_of hP1 (i := 2) rfl
  obtain ⟨m1, _⟩ := cell_of hM1 (i := 1) (v := .int .i64 x.m.from_) rfl
  obtain ⟨m2, _⟩ := cell_of hM1 (i := 2) (v := .int .i64 x.m.to_) rfl
  go_cut [] from 21 to 33 (fun wc => InvW w.heap.size (w.heap.size + 4) x [] wc ∧ Below w.heap.size w wc ∧ wc.heap[w.heap.size + 1]? = some (.cells #[.slice none 0 0] 46 (0, 0)) ∧ wc.heap[w.heap.size + 2]? = some (.cells #[.bool false] 4 (0, 0)))
  case first =>
   refine wp_region_noPanic ?_
   go_region_with (first
    | (go_at_call_of 87 (x.m.from_); refine (Number_any [opB x.m.kind] _ _ x.m.from_ _ (by first | exact hO1.bytes | exact hO1.bytes.drew) (by simp) hf.1 hf.2).mono ?_; rintro e w2 ⟨l1, A2, c2, hl1, hll1, rfl, hc2, hO2, hb2⟩; replace hb2 := below_undrew hb2; have m2' := cell_keep hb2 m2)
    | (go_at_call_of 87 (x.m.to_); refine (Number_any l1 A2 c2 x.m.to_ _ (hO2 _ (by show _ < W1.heap.size; exact hz1)).bytes (by simp at hll1; omega) ht.1 ht.2).mono ?_; rintro e w3 ⟨l2, A3, c3, hl2, hll2, rfl, hc3, hO3, hb3⟩; have hb3' := below_then hb2 hb3; have hE3 := (hb3'.block _ (Array.getElem?_eq_some_iff.1 hP1).1).trans hP1; obtain ⟨p2', pz2'⟩ := cell_of hE3 (i := 2) rfl))
   all_goals
    refine NoPanic.normal ?_
    simp only [Exit.then]
    go_wp2
    go_meet
    case rel =>
      have hG : w3.grownBy (w3.setCell ⟨w.heap.size + 4, 2, none⟩ (.slice A3 l2.length c3)) (some (w.heap.size + 4)) := grown_set (grown_refl w3 _) _ _
      have hl : bytesK x.m [] = l2 := by rw [hl2.out, hl1.out]; simp [bytesK]
      have hz3 : w.heap.size + 4 < w3.heap.size := by have := hb3'.size; omega
      have hB3 : Below w.heap.size w w3 := hB1.trans (hb3'.mono hB1.size)
      refine ⟨⟨⟨?_, ⟨A3, c3, ?_, ?_, ?_⟩, by omega⟩, ?_⟩, ?_, ?_, ?_⟩
      · exact (hG.block _ (by omega) (by simp)).trans ((hb3'.block _ (by omega)).trans hM1)
      · rw [hl, setCell_blk hE3]
        simp [seenV]
      · rw [hl]; exact hc3
      · rw [hl]; exact (hO3 _ (by have := hb2.size; omega)).grown hG
      · exact MsgV.rows_move hR1 fun b hS hlt => ⟨hS, (hG.block _ (by have := hb3'.size; omega) (by simp; omega)).trans (hb3'.block _ hlt)⟩
      · exact hB3.setCell (by simp only; omega) _
      · exact (hG.block _ (by omega) (by simp)).trans ((hb3'.block _ (by omega)).trans hb1)
      · exact (hG.block _ (by omega) (by simp)).trans ((hb3'.block _ (by omega)).trans ho1)
  case rest =>
    obtain ⟨hI, hBw, hb, ho⟩ := hcut
    clear p2 m1 m2 hP1 hM1 hb1 ho1 hO1 hR1 hB1 hz1
    have hz := (Array.getElem?_eq_some_iff.1 (hI.1.P.choose_spec.choose_spec.1)).1
    obtain ⟨m1, _⟩ := cell_of hI.1.M (i := 1) (v := .int .i64 x.m.from_) rfl
    obtain ⟨m2, _⟩ := cell_of hI.1.M (i := 2) (v := .int .i64 x.m.to_) rfl
    go_upto_region 4 with (fail)
    go_quiet (fail)
    have hbd := below_drewN (Below.refl wc.heap.size wc) nq
    replace hI := hI.later hbd
    replace hBw := below_from hBw hBw.size hbd
    replace hb := (hbd.block _ (Array.getElem?_eq_some_iff.1 hb).1).trans hb
    replace ho := (hbd.block _ (Array.getElem?_eq_some_iff.1 ho).1).trans ho
    have hz4 : w.heap.size + 4 < (wc.drewN nq).heap.size := by have := hbd.size; omega
    clear m1 m2 hbd
    generalize wc.drewN nq = W4 at hI hBw hb ho hz4 ⊢
    have hP0 : W4.cell? ⟨w.heap.size + 4, 0, none⟩ = some (.pointer (some ⟨w.heap.size, 0, none⟩)) := by
      obtain ⟨A, c, hP, _⟩ := hI.1.P
      exact (cell_of hP (i := 0) rfl).1
    have hM0 := (cell_of hI.1.M (i := 0) (v := .int .i8 x.m.kind) rfl).1
    by_cases hkr : 1 ≤ x.m.kind ∧ x.m.kind ≤ 10
    case neg =>
      have hn : writeP x.m = none := by
        rw [writeP, if_neg]
        intro h
        have := okMsg_parts h
        exact hkr ⟨this.1, this.2.1⟩
      have HC := Lib.hid (fields_bad (w.heap.size + 4) w.heap.size x.m.kind W4 (by omega) hk0 hk1 hP0 hM0 (by omega) (by omega))
      have HN := Lib.hid hn
      clear hn hkr hP0 hM0 hI
      as_aux_lemma =>
      go_wp2_with fail
      refine HC.out.mono ?_
      rintro e w5 ⟨rfl, hb5⟩
      have hb' := (hb5.block _ (Array.getElem?_eq_some_iff.1 hb).1).trans hb
      have ho' := (hb5.block _ (Array.getElem?_eq_some_iff.1 ho).1).trans ho
      have hB5 := below_from hBw hBw.size hb5
      go_wp2
      refine leaves_cons (f := 86) (args := #[.pointer (some ⟨w.heap.size + 1, 0, none⟩), .pointer (some ⟨w.heap.size + 2, 0, none⟩)]) (by simp) (by simp [go_sem]) ?_
      refine (writeD_panics (w.heap.size + 1) (w.heap.size + 2) _ _ _ _ w5 hb' ho' (by omega)).mono ?_
      rintro e u' w'' ⟨rfl, rfl, rfl⟩
      have HP := Lib.hid (write_fails HN.out hB5 hb' ho')
      obtain ⟨_, e0, e1⟩ := HP.out
      simp [Leaves, settle, results, Try.results44, go_sem, e0, e1]
      exact HP.out.1
    case pos =>
    obtain ⟨hkr1, hkr2⟩ := hkr
    have HC := Lib.hid (fields_calls (InvW w.heap.size (w.heap.size + 4) x) (stepW x.m) (w.heap.size + 4) w.heap.size (w.heap.size + 4) x.m.kind [] W4 hkr1 hkr2 (by omega) (by omega) (by omega)
      (fun s X Y h hb => h.later hb) hI (fun s X h => ⟨by
        obtain ⟨A, c, hP, _⟩ := h.1.P
        exact (cell_of hP (i := 0) rfl).1, (cell_of h.1.M (i := 0) (v := .int .i8 x.m.kind) rfl).1⟩)
      (fun f j s X hj hgo h => fld_calls w.heap.size (w.heap.size + 4) x HWF.out hbk f j _ s X hj hgo h))
    clear hP0 hM0
    go_wp2_with fail
    refine HC.out.mono ?_
    clear HC
    rintro e w5 hp
    rw [goW] at hp
    cases hall : (kindFlds x.m.kind).all (Fld.ok x.m) with
    | false =>
      rw [hall] at hp
      obtain ⟨rfl, hk5⟩ := hp
      have HN : Hid (writeP x.m = none) := Lib.hid (by rw [writeP, if_neg]; intro h; rw [okMsg, hall] at h; simp at h)
      have hb' := hk5.get hb ⟨by omega, by omega, by omega⟩
      have ho' := hk5.get ho ⟨by omega, by omega, by omega⟩
      have hB5 := hk5.below hBw (Nat.le_refl _) fun b hb => ⟨by omega, by omega, by omega⟩
      clear hall
      go_wp2
      refine leaves_cons (f := 86) (args := #[.pointer (some ⟨w.heap.size + 1, 0, none⟩), .pointer (some ⟨w.heap.size + 2, 0, none⟩)]) (by simp) (by simp [go_sem]) ?_
      refine (writeD_panics (w.heap.size + 1) (w.heap.size + 2) _ _ _ _ w5 hb' ho' (by omega)).mono ?_
      rintro e u' w'' ⟨rfl, rfl, rfl⟩
      have HP := Lib.hid (write_fails HN.out hB5 hb' ho')
      obtain ⟨_, e0, e1⟩ := HP.out
      simp [Leaves, settle, results, Try.results44, go_sem, e0, e1]
      exact HP.out.1
    | true =>
      rw [hall] at hp
      obtain ⟨rfl, hI5, hk5⟩ := hp
      rw [List.nil_append] at hI5
      have hb' := hk5.get hb ⟨by omega, by omega, by omega⟩
      have ho' := hk5.get ho ⟨by omega, by omega, by omega⟩
      have hB5 := hk5.below hBw (Nat.le_refl _) fun b hb => ⟨by omega, by omega, by omega⟩
      have HALL := Lib.hid hall
      clear hall hI hb ho hBw hk5
      obtain ⟨m1, _⟩ := cell_of hI5.1.M (i := 1) (v := .int .i64 x.m.from_) rfl
      obtain ⟨m2, _⟩ := cell_of hI5.1.M (i := 2) (v := .int .i64 x.m.to_) rfl
      cases hcl : clientK x.m.kind with
      | false =>
        as_aux_lemma =>
          go_upto_region 7 with (fail)
          clear m1 m2
          have HW : Hid (okWho x.m = (decide (1 ≤ x.m.to_) && decide (x.m.to_ ≤ 8) && decide (x.m.from_ = 0))) := Lib.hid (by rw [okWho, hcl]; rfl)
          clear hcl
          by_cases h1 : 1 ≤ x.m.to_
          case neg =>
            have d1 : decide ((1 : Int) ≤ x.m.to_) = false := by simpa using h1
            have HN : Hid (writeP x.m = none) := Lib.hid (by rw [writeP, if_neg]; intro h; rw [okMsg, HW.out, d1] at h; simp at h)
            clear h1
            as_aux_lemma =>
              go_still_tail 16, (by kernel_rfl)
              go_wp2_with fail
              refine (must_false _).mono ?_
              rintro e w6 ⟨rfl, hw6⟩
              have hb6 : w6.heap[w.heap.size + 1]? = some (.cells #[.slice none 0 0] 46 (0, 0)) := by rw [hw6]; first | exact hb' | exact hb7
              have ho6 : w6.heap[w.heap.size + 2]? = some (.cells #[.bool false] 4 (0, 0)) := by rw [hw6]; first | exact ho' | exact ho7
              have hB6 : Below w.heap.size w w6 := by rw [hw6]; first | exact hB5 | exact below_drewN hB5 _ | exact hB7
              clear hw6
              go_wp2
              refine leaves_cons (f := 86) (args := #[.pointer (some ⟨w.heap.size + 1, 0, none⟩), .pointer (some ⟨w.heap.size + 2, 0, none⟩)]) (by simp) (by simp [go_sem]) ?_
              refine (writeD_panics (w.heap.size + 1) (w.heap.size + 2) _ _ _ _ w6 hb6 ho6 (by omega)).mono ?_
              rintro e u' w'' ⟨rfl, rfl, rfl⟩
              have HP := Lib.hid (write_fails HN.out hB6 hb6 ho6)
              obtain ⟨_, e0, e1⟩ := HP.out
              simp [Leaves, settle, results, Try.results44, go_sem, e0, e1]
              exact HP.out.1
          case pos =>
          have d1 : decide ((1 : Int) ≤ x.m.to_) = true := by simpa using h1
          by_cases h2 : x.m.to_ ≤ 8
          case neg =>
            have d2 : decide (x.m.to_ ≤ 8) = false := by simpa using h2
            have HN : Hid (writeP x.m = none) := Lib.hid (by rw [writeP, if_neg]; intro h; rw [okMsg, HW.out, d2] at h; simp at h)
            clear h1 h2
            as_aux_lemma =>
              go_still_tail 16, (by kernel_rfl)
              go_wp2_with fail
              refine (must_false _).mono ?_
              rintro e w6 ⟨rfl, hw6⟩
              have hb6 : w6.heap[w.heap.size + 1]? = some (.cells #[.slice none 0 0] 46 (0, 0)) := by rw [hw6]; first | exact hb' | exact hb7
              have ho6 : w6.heap[w.heap.size + 2]? = some (.cells #[.bool false] 4 (0, 0)) := by rw [hw6]; first | exact ho' | exact ho7
              have hB6 : Below w.heap.size w w6 := by rw [hw6]; first | exact hB5 | exact below_drewN hB5 _ | exact hB7
              clear hw6
              go_wp2
              refine leaves_cons (f := 86) (args := #[.pointer (some ⟨w.heap.size + 1, 0, none⟩), .pointer (some ⟨w.heap.size + 2, 0, none⟩)]) (by simp) (by simp [go_sem]) ?_
              refine (writeD_panics (w.heap.size + 1) (w.heap.size + 2) _ _ _ _ w6 hb6 ho6 (by omega)).mono ?_
              rintro e u' w'' ⟨rfl, rfl, rfl⟩
              have HP := Lib.hid (write_fails HN.out hB6 hb6 ho6)
              obtain ⟨_, e0, e1⟩ := HP.out
              simp [Leaves, settle, results, Try.results44, go_sem, e0, e1]
              exact HP.out.1
          case pos =>
          have d2 : decide (x.m.to_ ≤ 8) = true := by simpa using h2
          by_cases h3 : x.m.from_ = 0
          case neg =>
            have d3 : (x.m.from_ == (0 : Int)) = false := by simpa using h3
            have HN : Hid (writeP x.m = none) := Lib.hid (by rw [writeP, if_neg]; intro h; rw [okMsg, HW.out] at h; simp [h3] at h)
            clear h1 h2 h3
            as_aux_lemma =>
              go_still_tail 16, (by kernel_rfl)
              go_wp2_with fail
              refine (must_false _).mono ?_
              rintro e w6 ⟨rfl, hw6⟩
              have hb6 : w6.heap[w.heap.size + 1]? = some (.cells #[.slice none 0 0] 46 (0, 0)) := by rw [hw6]; first | exact hb' | exact hb7
              have ho6 : w6.heap[w.heap.size + 2]? = some (.cells #[.bool false] 4 (0, 0)) := by rw [hw6]; first | exact ho' | exact ho7
              have hB6 : Below w.heap.size w w6 := by rw [hw6]; first | exact hB5 | exact below_drewN hB5 _ | exact hB7
              clear hw6
              go_wp2
              refine leaves_cons (f := 86) (args := #[.pointer (some ⟨w.heap.size + 1, 0, none⟩), .pointer (some ⟨w.heap.size + 2, 0, none⟩)]) (by simp) (by simp [go_sem]) ?_
              refine (writeD_panics (w.heap.size + 1) (w.heap.size + 2) _ _ _ _ w6 hb6 ho6 (by omega)).mono ?_
              rintro e u' w'' ⟨rfl, rfl, rfl⟩
              have HP := Lib.hid (write_fails HN.out hB6 hb6 ho6)
              obtain ⟨_, e0, e1⟩ := HP.out
              simp [Leaves, settle, results, Try.results44, go_sem, e0, e1]
              exact HP.out.1
          case pos =>
          have d3 : (x.m.from_ == (0 : Int)) = true := by simpa using h3
          have HWT : Hid (okWho x.m = true) := Lib.hid (by rw [HW.out, d1, d2]; simp [h3])
          clear h1 h2 h3 HW
          obtain ⟨A5, c5, hP5, hc5, hO5⟩ := hI5.1.P
          have hR5 := hI5.2
          have HM5 := Lib.hid hI5.1.M
          have hS5 : (seenV x (kindFlds x.m.kind)).rows (fun _ => True) w5 := MsgV.rows_move (seenV_rows x _ _ hI5.2 _) fun b _ _ => ⟨trivial, rfl⟩
          have hX5 : x.rows (fun _ => True) w5 := MsgV.rows_move hI5.2 fun b _ _ => ⟨trivial, rfl⟩
          have hse : (seenV x (kindFlds x.m.kind)).m = seenK x.m (kindFlds x.m.kind) := seenV_m x _
          have hkk : (seenV x (kindFlds x.m.kind)).m.kind = x.m.kind := by rw [hse]; exact seenK_kind _ _
          obtain ⟨y, hy⟩ : ∃ y, y = seenV x (kindFlds x.m.kind) := ⟨_, rfl⟩
          rw [← hy] at hP5 hS5 hse hkk
          clear hy
          obtain ⟨x0, x1, x2, x3, x4, x5, x6, x7, x8, x9, x10, x11, x12, x13, x14, x15, xz⟩ := blk16 HM5.out
          obtain ⟨y0, y1, y2, y3, y4, y5, y6, y7, y8, y9, y10, y11, y12, y13, y14, y15, yz⟩ := blk19 hP5
          have HSE := Lib.hid hse
          have HC := Lib.hid (fun W (hW : Below w5.heap.size w5 W) => WireSame_calls x.m y.m x.As x.At y.As y.At x.cs x.ct y.cs y.ct W ⟨hX5.1, hX5.2.1.later hW, hX5.2.2.1, hX5.2.2.2.below hW⟩ ⟨hS5.1, hS5.2.1.later hW, hS5.2.2.1, hS5.2.2.2.below hW⟩ (by omega) ⟨hk0, hk1⟩ (by rw [hkk]; exact ⟨hk0, hk1⟩))
          clear hse hkk hX5 hS5 hR5 hI5
          go_still_tail 16, (by kernel_rfl)
          go_wp2_with fail
          refine (HC.out _ (below_drewN (Below.refl _ _) _)).mono ?_
          rintro e w7 ⟨rfl, hb7⟩
          replace hb7 : Below w5.heap.size w5 w7 := below_from (below_drewN (Below.refl _ _) _) (Nat.le_refl _) hb7
          have hB7 := below_from hB5 hB5.size hb7
          have hP7 := (hb7.block _ (Array.getElem?_eq_some_iff.1 hP5).1).trans hP5
          have hO7 := hO5.grown (grown_of_below hb7 (some (w.heap.size + 4)))
          have ho7 := (hb7.block _ (Array.getElem?_eq_some_iff.1 ho').1).trans ho'
          replace hb7 := (hb7.block _ (Array.getElem?_eq_some_iff.1 hb').1).trans hb'
          clear x0 x1 x2 x3 x4 x5 x6 x7 x8 x9 x10 x11 x12 x13 x14 x15 xz y0 y1 y2 y3 y4 y5 y6 y7 y8 y9 y10 y11 y12 y13 y14 y15 yz hP5 hO5 HC
          cases hsm : Msg.same x.m y.m with
          | false =>
            have HN : Hid (writeP x.m = none) := Lib.hid (by rw [writeP, if_neg]; intro h; rw [okMsg, ← HSE.out, hsm] at h; simp at h)
            clear hsm
            as_aux_lemma =>
              go_wp2_with fail
              refine (must_false _).mono ?_
              rintro e w6 ⟨rfl, hw6⟩
              have hb6 : w6.heap[w.heap.size + 1]? = some (.cells #[.slice none 0 0] 46 (0, 0)) := by rw [hw6]; first | exact hb' | exact hb7
              have ho6 : w6.heap[w.heap.size + 2]? = some (.cells #[.bool false] 4 (0, 0)) := by rw [hw6]; first | exact ho' | exact ho7
              have hB6 : Below w.heap.size w w6 := by rw [hw6]; first | exact hB5 | exact below_drewN hB5 _ | exact hB7
              clear hw6
              go_wp2
              refine leaves_cons (f := 86) (args := #[.pointer (some ⟨w.heap.size + 1, 0, none⟩), .pointer (some ⟨w.heap.size + 2, 0, none⟩)]) (by simp) (by simp [go_sem]) ?_
              refine (writeD_panics (w.heap.size + 1) (w.heap.size + 2) _ _ _ _ w6 hb6 ho6 (by omega)).mono ?_
              rintro e u' w'' ⟨rfl, rfl, rfl⟩
              have HP := Lib.hid (write_fails HN.out hB6 hb6 ho6)
              obtain ⟨_, e0, e1⟩ := HP.out
              simp [Leaves, settle, results, Try.results44, go_sem, e0, e1]
              exact HP.out.1
          | true =>
            have HN : Hid (writeP x.m = some (bytesK x.m (kindFlds x.m.kind))) := Lib.hid (by rw [writeP, if_pos (by rw [okMsg, ← HSE.out, hsm, HWT.out, HALL.out]; simp; omega)]; rfl)
            clear hsm
            as_aux_lemma =>
              go_wp2_with fail
              refine (must_true _).mono ?_
              rintro e w8 ⟨rfl, rfl⟩
              obtain ⟨p2, _⟩ := cell_of hP7 (i := 2) rfl
              obtain ⟨q1, z1⟩ := blk1 hb7
              obtain ⟨q2, z2⟩ := blk1 (setCell_ne ho7 (by omega : w.heap.size + 2 ≠ w.heap.size + 1) 0 (.slice A5 (bytesK x.m (kindFlds x.m.kind)).length c5))
              generalize bytesK x.m (kindFlds x.m.kind) = out at HN hc5 hO7 p2 q2 z2 hP7
              have hBy := bytes_after (W' := (w8.setCell ⟨w.heap.size + 1, 0, none⟩ (.slice A5 out.length c5)).setCell ⟨w.heap.size + 2, 0, none⟩ (.bool true)) hO7 hb7 ho7 (fun b _ h1 h2 => (Below.heap_setCell _ _ _ _ (by simpa using h2)).trans (Below.heap_setCell _ _ _ _ (by simpa using h1)))
              have HP : Hid (WritePost x.m w (.returned (.tuple #[.slice A5 out.length c5, .bool true])) ((w8.setCell ⟨w.heap.size + 1, 0, none⟩ (.slice A5 out.length c5)).setCell ⟨w.heap.size + 2, 0, none⟩ (.bool true))) := Lib.hid ⟨(hB7.setCell (by simp only; omega) _).setCell (by simp only; omega) _, by rw [HN.out]; exact ⟨A5, c5, rfl, hc5, hBy⟩⟩
              have e0 := (blk1 (setCell_ne (setCell_blk hb7 0 (.slice A5 out.length c5)) (by omega : w.heap.size + 1 ≠ w.heap.size + 2) 0 (.bool true))).1
              have e1 := (blk1 (setCell_blk (setCell_ne ho7 (by omega : w.heap.size + 2 ≠ w.heap.size + 1) 0 (.slice A5 out.length c5)) 0 (.bool true))).1
              clear hBy
              go_wp2
              refine leaves_cons (f := 86) (args := #[.pointer (some ⟨w.heap.size + 1, 0, none⟩), .pointer (some ⟨w.heap.size + 2, 0, none⟩)]) (by simp) (by simp [go_sem]) ?_
              refine (writeD_idle _ _ _).mono ?_
              rintro e u' w'' ⟨rfl, rfl, rfl⟩
              simp only [Leaves, settle, results, Try.results44]
              simp [go_sem, e0, e1]
              exact HP.out
      | true =>
        as_aux_lemma =>
          go_upto_region 6 with (fail)
          go_quiet (fail)
          have hbd := below_drewN (Below.refl w5.heap.size w5) nq
          replace hI5 := hI5.later hbd
          replace hB5 := below_from hB5 hB5.size hbd
          replace hb' := (hbd.block _ (Array.getElem?_eq_some_iff.1 hb').1).trans hb'
          replace ho' := (hbd.block _ (Array.getElem?_eq_some_iff.1 ho').1).trans ho'
          clear m1 m2 hbd
          generalize w5.drewN nq = w5 at hI5 hB5 hb' ho' ⊢
          go_upto_region 7 with (fail)
          have HW : Hid (okWho x.m = (decide (1 ≤ x.m.from_) && decide (x.m.from_ ≤ 8) && decide (x.m.to_ = 0))) := Lib.hid (by rw [okWho, hcl]; rfl)
          clear hcl
          by_cases h1 : 1 ≤ x.m.from_
          case neg =>
            have d1 : decide ((1 : Int) ≤ x.m.from_) = false := by simpa using h1
            have HN : Hid (writeP x.m = none) := Lib.hid (by rw [writeP, if_neg]; intro h; rw [okMsg, HW.out, d1] at h; simp at h)
            clear h1
            as_aux_lemma =>
              go_still_tail 16, (by kernel_rfl)
              go_wp2_with fail
              refine (must_false _).mono ?_
              rintro e w6 ⟨rfl, hw6⟩
              have hb6 : w6.heap[w.heap.size + 1]? = some (.cells #[.slice none 0 0] 46 (0, 0)) := by rw [hw6]; first | exact hb' | exact hb7
              have ho6 : w6.heap[w.heap.size + 2]? = some (.cells #[.bool false] 4 (0, 0)) := by rw [hw6]; first | exact ho' | exact ho7
              have hB6 : Below w.heap.size w w6 := by rw [hw6]; first | exact hB5 | exact below_drewN hB5 _ | exact hB7
              clear hw6
              go_wp2
              refine leaves_cons (f := 86) (args := #[.pointer (some ⟨w.heap.size + 1, 0, none⟩), .pointer (some ⟨w.heap.size + 2, 0, none⟩)]) (by simp) (by simp [go_sem]) ?_
              refine (writeD_panics (w.heap.size + 1) (w.heap.size + 2) _ _ _ _ w6 hb6 ho6 (by omega)).mono ?_
              rintro e u' w'' ⟨rfl, rfl, rfl⟩
              have HP := Lib.hid (write_fails HN.out hB6 hb6 ho6)
              obtain ⟨_, e0, e1⟩ := HP.out
              simp [Leaves, settle, results, Try.results44, go_sem, e0, e1]
              exact HP.out.1
          case pos =>
          have d1 : decide ((1 : Int) ≤ x.m.from_) = true := by simpa using h1
          by_cases h2 : x.m.from_ ≤ 8
          case neg =>
            have d2 : decide (x.m.from_ ≤ 8) = false := by simpa using h2
            have HN : Hid (writeP x.m = none) := Lib.hid (by rw [writeP, if_neg]; intro h; rw [okMsg, HW.out, d2] at h; simp at h)
            clear h1 h2
            as_aux_lemma =>
              go_still_tail 16, (by kernel_rfl)
              go_wp2_with fail
              refine (must_false _).mono ?_
              rintro e w6 ⟨rfl, hw6⟩
              have hb6 : w6.heap[w.heap.size + 1]? = some (.cells #[.slice none 0 0] 46 (0, 0)) := by rw [hw6]; first | exact hb' | exact hb7
              have ho6 : w6.heap[w.heap.size + 2]? = some (.cells #[.bool false] 4 (0, 0)) := by rw [hw6]; first | exact ho' | exact ho7
              have hB6 : Below w.heap.size w w6 := by rw [hw6]; first | exact hB5 | exact below_drewN hB5 _ | exact hB7
              clear hw6
              go_wp2
              refine leaves_cons (f := 86) (args := #[.pointer (some ⟨w.heap.size + 1, 0, none⟩), .pointer (some ⟨w.heap.size + 2, 0, none⟩)]) (by simp) (by simp [go_sem]) ?_
              refine (writeD_panics (w.heap.size + 1) (w.heap.size + 2) _ _ _ _ w6 hb6 ho6 (by omega)).mono ?_
              rintro e u' w'' ⟨rfl, rfl, rfl⟩
              have HP := Lib.hid (write_fails HN.out hB6 hb6 ho6)
              obtain ⟨_, e0, e1⟩ := HP.out
              simp [Leaves, settle, results, Try.results44, go_sem, e0, e1]
              exact HP.out.1
          case pos =>
          have d2 : decide (x.m.from_ ≤ 8) = true := by simpa using h2
          by_cases h3 : x.m.to_ = 0
          case neg =>
            have d3 : (x.m.to_ == (0 : Int)) = false := by simpa using h3
            have HN : Hid (writeP x.m = none) := Lib.hid (by rw [writeP, if_neg]; intro h; rw [okMsg, HW.out] at h; simp [h3] at h)
            clear h1 h2 h3
            as_aux_lemma =>
              go_still_tail 16, (by kernel_rfl)
              go_wp2_with fail
              refine (must_false _).mono ?_
              rintro e w6 ⟨rfl, hw6⟩
              have hb6 : w6.heap[w.heap.size + 1]? = some (.cells #[.slice none 0 0] 46 (0, 0)) := by rw [hw6]; first | exact hb' | exact hb7
              have ho6 : w6.heap[w.heap.size + 2]? = some (.cells #[.bool false] 4 (0, 0)) := by rw [hw6]; first | exact ho' | exact ho7
              have hB6 : Below w.heap.size w w6 := by rw [hw6]; first | exact hB5 | exact below_drewN hB5 _ | exact hB7
              clear hw6
              go_wp2
              refine leaves_cons (f := 86) (args := #[.pointer (some ⟨w.heap.size + 1, 0, none⟩), .pointer (some ⟨w.heap.size + 2, 0, none⟩)]) (by simp) (by simp [go_sem]) ?_
              refine (writeD_panics (w.heap.size + 1) (w.heap.size + 2) _ _ _ _ w6 hb6 ho6 (by omega)).mono ?_
              rintro e u' w'' ⟨rfl, rfl, rfl⟩
              have HP := Lib.hid (write_fails HN.out hB6 hb6 ho6)
              obtain ⟨_, e0, e1⟩ := HP.out
              simp [Leaves, settle, results, Try.results44, go_sem, e0, e1]
              exact HP.out.1
          case pos =>
          have d3 : (x.m.to_ == (0 : Int)) = true := by simpa using h3
          have HWT : Hid (okWho x.m = true) := Lib.hid (by rw [HW.out, d1, d2]; simp [h3])
          clear h1 h2 h3 HW
          obtain ⟨A5, c5, hP5, hc5, hO5⟩ := hI5.1.P
          have hR5 := hI5.2
          have HM5 := Lib.hid hI5.1.M
          have hS5 : (seenV x (kindFlds x.m.kind)).rows (fun _ => True) w5 := MsgV.rows_move (seenV_rows x _ _ hI5.2 _) fun b _ _ => ⟨trivial, rfl⟩
          have hX5 : x.rows (fun _ => True) w5 := MsgV.rows_move hI5.2 fun b _ _ => ⟨trivial, rfl⟩
          have hse : (seenV x (kindFlds x.m.kind)).m = seenK x.m (kindFlds x.m.kind) := seenV_m x _
          have hkk : (seenV x (kindFlds x.m.kind)).m.kind = x.m.kind := by rw [hse]; exact seenK_kind _ _
          obtain ⟨y, hy⟩ : ∃ y, y = seenV x (kindFlds x.m.kind) := ⟨_, rfl⟩
          rw [← hy] at hP5 hS5 hse hkk
          clear hy
          obtain ⟨x0, x1, x2, x3, x4, x5, x6, x7, x8, x9, x10, x11, x12, x13, x14, x15, xz⟩ := blk16 HM5.out
          obtain ⟨y0, y1, y2, y3, y4, y5, y6, y7, y8, y9, y10, y11, y12, y13, y14, y15, yz⟩ := blk19 hP5
          have HSE := Lib.hid hse
          have HC := Lib.hid (fun W (hW : Below w5.heap.size w5 W) => WireSame_calls x.m y.m x.As x.At y.As y.At x.cs x.ct y.cs y.ct W ⟨hX5.1, hX5.2.1.later hW, hX5.2.2.1, hX5.2.2.2.below hW⟩ ⟨hS5.1, hS5.2.1.later hW, hS5.2.2.1, hS5.2.2.2.below hW⟩ (by omega) ⟨hk0, hk1⟩ (by rw [hkk]; exact ⟨hk0, hk1⟩))
          clear hse hkk hX5 hS5 hR5 hI5
          go_still_tail 16, (by kernel_rfl)
          go_wp2_with fail
          refine (HC.out _ (below_drewN (Below.refl _ _) _)).mono ?_
          rintro e w7 ⟨rfl, hb7⟩
          replace hb7 : Below w5.heap.size w5 w7 := below_from (below_drewN (Below.refl _ _) _) (Nat.le_refl _) hb7
          have hB7 := below_from hB5 hB5.size hb7
          have hP7 := (hb7.block _ (Array.getElem?_eq_some_iff.1 hP5).1).trans hP5
          have hO7 := hO5.grown (grown_of_below hb7 (some (w.heap.size + 4)))
          have ho7 := (hb7.block _ (Array.getElem?_eq_some_iff.1 ho').1).trans ho'
          replace hb7 := (hb7.block _ (Array.getElem?_eq_some_iff.1 hb').1).trans hb'
          clear x0 x1 x2 x3 x4 x5 x6 x7 x8 x9 x10 x11 x12 x13 x14 x15 xz y0 y1 y2 y3 y4 y5 y6 y7 y8 y9 y10 y11 y12 y13 y14 y15 yz hP5 hO5 HC
          cases hsm : Msg.same x.m y.m with
          | false =>
            have HN : Hid (writeP x.m = none) := Lib.hid (by rw [writeP, if_neg]; intro h; rw [okMsg, ← HSE.out, hsm] at h; simp at h)
            clear hsm
            as_aux_lemma =>
              go_wp2_with fail
              refine (must_false _).mono ?_
              rintro e w6 ⟨rfl, hw6⟩
              have hb6 : w6.heap[w.heap.size + 1]? = some (.cells #[.slice none 0 0] 46 (0, 0)) := by rw [hw6]; first | exact hb' | exact hb7
              have ho6 : w6.heap[w.heap.size + 2]? = some (.cells #[.bool false] 4 (0, 0)) := by rw [hw6]; first | exact ho' | exact ho7
              have hB6 : Below w.heap.size w w6 := by rw [hw6]; first | exact hB5 | exact below_drewN hB5 _ | exact hB7
              clear hw6
              go_wp2
              refine leaves_cons (f := 86) (args := #[.pointer (some ⟨w.heap.size + 1, 0, none⟩), .pointer (some ⟨w.heap.size + 2, 0, none⟩)]) (by simp) (by simp [go_sem]) ?_
              refine (writeD_panics (w.heap.size + 1) (w.heap.size + 2) _ _ _ _ w6 hb6 ho6 (by omega)).mono ?_
              rintro e u' w'' ⟨rfl, rfl, rfl⟩
              have HP := Lib.hid (write_fails HN.out hB6 hb6 ho6)
              obtain ⟨_, e0, e1⟩ := HP.out
              simp [Leaves, settle, results, Try.results44, go_sem, e0, e1]
              exact HP.out.1
          | true =>
            have HN : Hid (writeP x.m = some (bytesK x.m (kindFlds x.m.kind))) := Lib.hid (by rw [writeP, if_pos (by rw [okMsg, ← HSE.out, hsm, HWT.out, HALL.out]; simp; omega)]; rfl)
            clear hsm
            as_aux_lemma =>
              go_wp2_with fail
              refine (must_true _).mono ?_
              rintro e w8 ⟨rfl, rfl⟩
              obtain ⟨p2, _⟩ := cell_of hP7 (i := 2) rfl
              obtain ⟨q1, z1⟩ := blk1 hb7
              obtain ⟨q2, z2⟩ := blk1 (setCell_ne ho7 (by omega : w.heap.size + 2 ≠ w.heap.size + 1) 0 (.slice A5 (bytesK x.m (kindFlds x.m.kind)).length c5))
              generalize bytesK x.m (kindFlds x.m.kind) = out at HN hc5 hO7 p2 q2 z2 hP7
              have hBy := bytes_after (W' := (w8.setCell ⟨w.heap.size + 1, 0, none⟩ (.slice A5 out.length c5)).setCell ⟨w.heap.size + 2, 0, none⟩ (.bool true)) hO7 hb7 ho7 (fun b _ h1 h2 => (Below.heap_setCell _ _ _ _ (by simpa using h2)).trans (Below.heap_setCell _ _ _ _ (by simpa using h1)))
              have HP : Hid (WritePost x.m w (.returned (.tuple #[.slice A5 out.length c5, .bool true])) ((w8.setCell ⟨w.heap.size + 1, 0, none⟩ (.slice A5 out.length c5)).setCell ⟨w.heap.size + 2, 0, none⟩ (.bool true))) := Lib.hid ⟨(hB7.setCell (by simp only; omega) _).setCell (by simp only; omega) _, by rw [HN.out]; exact ⟨A5, c5, rfl, hc5, hBy⟩⟩
              have e0 := (blk1 (setCell_ne (setCell_blk hb7 0 (.slice A5 out.length c5)) (by omega : w.heap.size + 1 ≠ w.heap.size + 2) 0 (.bool true))).1
              have e1 := (blk1 (setCell_blk (setCell_ne ho7 (by omega : w.heap.size + 2 ≠ w.heap.size + 1) 0 (.slice A5 out.length c5)) 0 (.bool true))).1
              clear hBy
              go_wp2
              refine leaves_cons (f := 86) (args := #[.pointer (some ⟨w.heap.size + 1, 0, none⟩), .pointer (some ⟨w.heap.size + 2, 0, none⟩)]) (by simp) (by simp [go_sem]) ?_
              refine (writeD_idle _ _ _).mono ?_
              rintro e u' w'' ⟨rfl, rfl, rfl⟩
              simp only [Leaves, settle, results, Try.results44]
              simp [go_sem, e0, e1]
              exact HP.out
end Go.Proofs.Ytimjpkmdphccmaa

/- wire.Right, wire.Bytes: walks. -/
namespace Go.Proofs.Ytimjpkmdphccmaa
open Go.RowKit
attribute [local go_sem ↓] Go.wp_at_zero Go.wp_at_succ
set_option linter.unusedVariables false
set_option linter.unusedSimpArgs false

set_option maxRecDepth 100000 in
set_option maxHeartbeats 1000000 in
theorem Right_calls (x : MsgV) (w : World) (hrows : x.rows (fun _ => True) w) (hwf : x.m.wf) (hbk : x.m.bulk ≤ 1073741824) :
    Calls Try.prog 19 #[.agg #[.int .i8 x.m.kind, .int .i64 x.m.from_, .int .i64 x.m.to_, .int .i64 x.m.boot, .int .i64 x.m.server, .int .i64 x.m.number, .int .i64 x.m.node, .int .i64 x.m.lease, .int .i64 x.m.epoch, .int .i64 x.m.version, .int .i64 x.m.e, .slice x.As x.m.steps.length x.cs, .int .i64 x.m.tree.id, .int .i64 x.m.tree.kind, .string x.m.tree.text, .slice x.At x.m.tree.kids.length x.ct]] w fun e w' => e = .returned (.bool (okMsg x.m)) ∧ Below w.heap.size w w' := by
  have hb1 : Below w.heap.size w (w.alloc (.cells x.cells.toArray 41)) := by go_grown
  have HC := Lib.hid (write_calls x _ (MsgV.rows_move hrows fun b _ hlt => ⟨trivial, hb1.block b hlt⟩) hwf hbk)
  go_enter Try.func19, Try.ntmps19
  go_wp2_with fail
  refine HC.out.mono ?_
  clear HC
  rintro e w2 ⟨hb2, hp⟩
  have hb := below_then hb1 hb2
  cases ho : okMsg x.m with
  | true =>
    rw [writeP, if_pos ho] at hp
    obtain ⟨A, c, rfl, _⟩ := hp
    go_wp2
    go_ret
    exact ⟨ret_bool ho.symm, hb⟩
  | false =>
    rw [writeP, ho] at hp
    simp only [Bool.false_eq_true, if_false] at hp
    subst hp
    go_wp2
    go_ret
    exact ⟨ret_bool ho.symm, hb⟩

theorem ByRow.bytes2 {base : Nat} {w : World} {v : Value} {l : List UInt8} (h : ByRow base w v l) : ∃ A c, v = .slice A l.length c ∧ l.length ≤ c ∧ c ≤ 9223372036854775807 ∧ BytesAt w A l := by
  rcases h.2.2 with ⟨rfl, h0⟩ | ⟨g, cap, cur, rfl, hb, hg, hle, hcap, hsz, htk⟩
  · exact ⟨none, 0, by rw [h0], by omega, by omega, .inl (List.eq_nil_of_length_eq_zero h0)⟩
  · refine ⟨_, cap, rfl, hle, by unfold maxLen at hcap; omega, .inr ⟨g, 0, rfl, fun i hi => ?_⟩⟩
    have := h.2.cells (g := g) rfl i (.int .u8 (l[i].toNat : Int)) (by simp [bv, hi])
    rwa [addr_add] at this
/-- What Bytes tells. -/
def BytesPost (m : Msg) (w : World) (e : Ending) (w' : World) : Prop :=
  Below w.heap.size w w' ∧ if okMsg m then ∃ A c, e = .returned (.tuple #[.slice A (sealB (msgB m)).length c, .int .i64 0]) ∧ (sealB (msgB m)).length ≤ c ∧ c ≤ 9223372036854775807 ∧ BytesAt w' A (sealB (msgB m))
  else e = .returned (.tuple #[.slice none 0 0, .int .i64 2])
theorem msgB_le (m : Msg) (h : m.bulk ≤ 1073741824) : (msgB m).length ≤ 1099511627776 := by
  have := bytesK_le m h (kindFlds m.kind)
  have hk : (kindFlds m.kind).length ≤ 6 := by
    unfold kindFlds
    repeat' split
    all_goals decide
  rw [msgB]; omega

set_option maxRecDepth 100000 in
set_option maxHeartbeats 1000000 in
theorem WBytes_calls (x : MsgV) (w : World) (hrows : x.rows (fun _ => True) w) (hwf : x.m.wf) (hbk : x.m.bulk ≤ 1073741824) :
    Calls Try.prog 28 #[.agg #[.int .i8 x.m.kind, .int .i64 x.m.from_, .int .i64 x.m.to_, .int .i64 x.m.boot, .int .i64 x.m.server, .int .i64 x.m.number, .int .i64 x.m.node, .int .i64 x.m.lease, .int .i64 x.m.epoch, .int .i64 x.m.version, .int .i64 x.m.e, .slice x.As x.m.steps.length x.cs, .int .i64 x.m.tree.id, .int .i64 x.m.tree.kind, .string x.m.tree.text, .slice x.At x.m.tree.kids.length x.ct]] w (BytesPost x.m w) := by
  have hb1 : Below w.heap.size w (w.alloc (.cells x.cells.toArray 41)) := by go_grown
  have HC := Lib.hid (write_calls x _ (MsgV.rows_move hrows fun b _ hlt => ⟨trivial, hb1.block b hlt⟩) hwf hbk)
  have hml := msgB_le x.m hbk
  go_enter Try.func28, Try.ntmps28
  go_wp2_with fail
  refine HC.out.mono ?_
  clear HC
  rintro e w2 ⟨hb2, hp⟩
  have hb := below_then hb1 hb2
  cases ho : okMsg x.m with
  | true =>
    have HO := Lib.hid ho
    rw [writeP, if_pos ho] at hp
    obtain ⟨A, c, rfl, hc, hA⟩ := hp
    generalize hm : msgB x.m = l at hc hA hml
    have HM := Lib.hid hm
    clear hm ho
    go_wp2_with fail
    refine (Seal_calls l A c w2 hA (by omega)).mono ?_
    rintro e w3 ⟨v, rfl, hr, hb3⟩
    obtain ⟨A3, c3, rfl, hc3, hc3', hA3⟩ := hr.bytes2
    have hb' := below_then hb hb3
    go_wp2
    go_ret2
    refine ⟨hb', ?_⟩
    rw [HO.out, if_pos rfl, HM.out]
    exact ⟨A3, c3, rfl, hc3, hc3', hA3⟩
  | false =>
    have HO := Lib.hid ho
    rw [writeP, ho] at hp
    simp only [Bool.false_eq_true, if_false] at hp
    subst hp
    clear ho
    go_wp2
    go_ret2
    refine ⟨hb, ?_⟩
    rw [HO.out]; rfl
end Go.Proofs.Ytimjpkmdphccmaa
