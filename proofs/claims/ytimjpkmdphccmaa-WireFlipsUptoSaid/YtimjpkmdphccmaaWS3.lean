/- code.Node, code.Steps: walks. -/
import Derived.Test.YtimjpkmdphccmaaWS1
import Derived.Test.YtimjpkmdphccmaaWS2
import Derived.Test.YtimjpkmdphccmaaProg
import Derived.LoopN
import Derived.Tactics
import Derived.Tactics2
import Derived.WalkKit
import Derived.Handy
import Derived.Deep.RegionHeld3
import Derived.Deep.DrawnRows
import Derived.Deep.DeepCutAuto
import Derived.KernelRfl
import Derived.BigRegion
import Derived.BigQuiet
import Derived.Deep.QuietTactic
import Derived.Outline
import Derived.Lib.Hide
import Derived.WalkLawsBesides
import Derived.WalkSpells
import Derived.Laws.EntriesVeiled

namespace Go.Proofs.Ytimjpkmdphccmaa
open Go.RowKit
attribute [local go_sem ↓] Go.wp_at_zero Go.wp_at_succ
set_option linter.unusedVariables false
set_option linter.unusedSimpArgs false

set_option maxRecDepth 100000 in
theorem Node_calls (l : List UInt8) (A : Option Addr) (c : Nat) (x : Nd) (A2 : Option Addr) (c2 : Nat) (w : World) (h : BytesAt w A l) (ha : KidsAt w A2 x.kids) (hc : x.kids.length ≤ c2) (hwf : x.wf) (hN : x.bulk ≤ 1099511627776) (hl : l.length + 32 * x.bulk ≤ 35184372088832) :
    Calls Try.prog 132 #[.slice A l.length c, .agg #[.int .i64 x.id, .int .i64 x.kind, .string x.text, .slice A2 x.kids.length c2]] w (MadeBy w (l ++ x.bytes)) := by
  go_enter Try.func132, Try.ntmps132
  go_wp2_with fail
  refine (own_calls l A c _ (h.alloc _) (by omega)).mono ?_
  rintro e w1 ⟨v1, rfl, hr1, hb1⟩
  have hbx := (hb1.block w.heap.size (by simp)).trans (alloc_new w _)
  have hx1 : ndIn (fun b => b < w.heap.size + 1) w1 w.heap.size 0 x := by
    obtain ⟨f0, f1, f2, f3, fz⟩ := blk4 hbx
    refine ndIn_iff.2 ⟨f0, f1, f2, A2, c2, f3, hc, ?_⟩
    exact ha.lt.move fun b hb hlt => ⟨by omega, (hb1.block b (by simp; omega)).trans (Below.heap_alloc _ _ _ hlt)⟩
  rw [World.size_alloc] at hr1 hb1
  have hm : Below w.heap.size w w1 := ((Below.refl _ w).alloc (Nat.le_refl _) _).trans (hb1.mono (by omega))
  have HC := Lib.hid (node_calls (w.heap.size + 1) x v1 l w.heap.size 0 w1 hr1 hx1 (by omega) hwf hN hl)
  clear hx1 hbx
  go_wp2_with fail
  refine HC.out.mono ?_
  rintro e w2 ⟨v2, rfl, hr2, hg2, ho2⟩
  have HM : Hid (MadeBy w (l ++ x.bytes) (.returned v2) w2) := Lib.hid ⟨v2, rfl, ⟨by have := hr2.1; omega, by
    obtain ⟨h1, h2⟩ := hr2
    refine ⟨h2.1, ?_⟩
    rcases h2.2 with h2 | ⟨g, cap, cur, rfl, hb, h3⟩
    · exact .inl h2
    · exact .inr ⟨g, cap, cur, rfl, by omega, h3⟩⟩, hm.grown hg2 (by have := hm.size; omega) fun k hk => by have := (hr1.2.lt k hk).1; omega⟩
  go_wp2
  go_ret
  exact HM.out

def opB (n : Int) : UInt8 := UInt8.ofNat ((n % 256).toNat)
theorem opB_val (n : Int) : ((opB n).toNat : Int) = n % 256 := by
  have h0 : 0 ≤ n % 256 := Int.emod_nonneg _ (by decide)
  have h1 : n % 256 < 256 := Int.emod_lt_of_pos _ (by decide)
  rw [opB, UInt8.toNat_ofNat']
  omega
def Stp.bytes (s : Stp) : List UInt8 := [opB s.op] ++ numB s.id ++ numB s.parent ++ numB s.place ++ textB s.text ++ s.sub.bytes
def stepsBs : List Stp → List UInt8
  | [] => []
  | s :: r => s.bytes ++ stepsBs r
def stepsB (l : List Stp) : List UInt8 := numB l.length ++ stepsBs l
theorem stepsBs_append : ∀ l m : List Stp, stepsBs (l ++ m) = stepsBs l ++ stepsBs m
  | [], m => by simp [stepsBs]
  | s :: r, m => by rw [List.cons_append, stepsBs, stepsBs, stepsBs_append r m, List.append_assoc]
theorem Stp.bytes_le (s : Stp) : s.bytes.length ≤ 66 * s.bulk := by
  have := s.sub.bytes_le
  simp only [Stp.bytes, List.length_append, List.length_singleton, numB_length, textB_length, Stp.bulk]
  omega
theorem stepsBs_le : ∀ l : List Stp, (stepsBs l).length ≤ 66 * stepsBulk l
  | [] => by simp [stepsBs]
  | s :: r => by
    have h1 := s.bytes_le
    have h2 := stepsBs_le r
    rw [stepsBs, stepsBulk, List.length_append]; omega

theorem stIn_grown {base b o : Nat} {w w' : World} {s : Stp} {row : Option Nat} (h : stIn (fun b => b < base) w b o s) (hb : b < base) (hg : w.grownBy w' row) (hr : ∀ b, row = some b → base ≤ b) : stIn (fun b => b < base) w' b o s :=
  h.move (fun b' hS hlt => ⟨hS, hg.block b' hlt fun he => by have := hr _ he.symm; omega⟩) (hg.block b h.lt fun he => by have := hr _ he.symm; omega)

set_option maxRecDepth 100000 in
set_option maxHeartbeats 4000000 in
theorem Steps_calls (l : List UInt8) (A : Option Addr) (c : Nat) (ss : List Stp) (A2 : Option Addr) (c2 : Nat) (w : World) (h : BytesAt w A l) (ha : StepsAt w A2 ss) (hc : ss.length ≤ c2) (hwf : ∀ s ∈ ss, s.wf) (hN : stepsBulk ss ≤ 274877906944) (hl : l.length ≤ 1099511627776) :
    Calls Try.prog 137 #[.slice A l.length c, .slice A2 ss.length c2] w (MadeBy w (l ++ stepsB ss)) := by
  obtain ⟨iY, jY, jY0, jY1, jY2⟩ := info_parts info_byte
  have hlen := stepsBulk_len ss
  have ha' : StepsIn (fun b => b < w.heap.size) w A2 ss := ha.lt.mono fun b hb => hb.2
  go_enter Try.func137, Try.ntmps137
  go_wp2_with fail
  refine (own_calls l A c _ h (by omega)).mono ?_
  rintro e w1 ⟨v1, rfl, hr1, hb1⟩
  go_wp2_with fail
  refine (number_calls w.heap.size v1 l ss.length w1 hr1 (by omega) (by omega) (by omega)).mono ?_
  rintro e w2 ⟨v2, rfl, hr2, hg2, ho2⟩
  have hB2 : Below w.heap.size w w2 := hb1.grown hg2 hb1.size fun k hk => (hr1.2.lt k hk).1
  have ha2 : StepsIn (fun b => b < w.heap.size) w2 A2 ss := ha'.move fun b hb hlt => ⟨hb, hB2.block b hb⟩
  have HW := Lib.hid hwf
  clear hwf ha ha' h hg2 ho2 hr1
  go_wp2
  go_loopw [0, 16] (fun v0 v16 wr => ∃ k : Nat, v16 = .int .i64 k ∧ k ≤ ss.length ∧ ByRow w.heap.size wr v0 (l ++ numB (ss.length : Int) ++ stepsBs (ss.take k)) ∧ w2.grownBy wr v2.ownBlock ∧ RowOf w2 v2.ownBlock v0) (fun _ v16 _ => ss.length - (intOf v16).toNat)
  case atStart => exact ⟨0, rfl, Nat.zero_le _, by simpa [stepsBs] using hr2, World.grownBy.refl _ _, .inl rfl⟩
  case round =>
    obtain ⟨k, rfl, hk, hrk, hgk, hok⟩ := hrel
    by_cases hlt : k < ss.length
    · have hak : StepsIn (fun b => b < w.heap.size) wr A2 ss := ha2.move fun b hb hlt' => ⟨hb, hgk.block b hlt' fun he => by have := hr2.rows b he.symm; omega⟩
      obtain ⟨bs, os, rfl, hbs, hst⟩ := hak.get k hlt
      obtain ⟨A3, c3, ⟨g0, g1, g2, g3, g4, g5, g6, g7, g8⟩, hc3, hk3⟩ := stIn_open hst
      have i1 : (0 : Int) ≤ (k : Int) := Int.natCast_nonneg _
      have i2 : (k : Int) < (ss.length : Int) := by omega
      have hb0 := hrk.1
      have hl1 : (l ++ numB (ss.length : Int) ++ stepsBs (ss.take k)).length ≤ l.length + 8 + 66 * stepsBulk ss := by
        have e1 := stepsBs_le (ss.take k)
        have e2 : stepsBulk ss = stepsBulk (ss.take k) + stepsBulk (ss.drop k) := by rw [← stepsBulk_append, List.take_append_drop]
        simp only [List.length_append, numB_length]; omega
      go_wp2_with (at_builtin; go_loud (refine wpList_append_lies _ rfl _ _ _ rfl w.heap.size 5 iY _ 1 1 Try.underlying46 jY jY0 jY1 jY2 rfl (by omega) u0 _ _ rfl (hrk.2.alloc _) ⟨wr.heap.size, 0, none⟩ 1 1 [_] rfl rfl (World.news_of_block (heap_alloc_new wr _)) (by simp [Value.oneCell']) (by omega) (by unfold maxLen; omega) (by omega) (by simp; omega) (wr.heap.size + 1) (by simp) ?_); intro g cap w3 hown3 hgrow hat hlt3)
      have hr3 := ByRow.appended (m := [opB ss[k].op]) hrk (by simp [bv, opB_val]) (by simp) hown3 hgrow
      have ho3 : RowOf w2 v2.ownBlock (.slice (some ⟨g, 0, none⟩) (l.length + ((numB (ss.length : Int)).length + (stepsBs (List.take k ss)).length) + 1) cap) := hok.appended hat (by have := hgk.size; omega)
      have hg3 : w2.grownBy w3 v2.ownBlock := grown_step hgk (World.grownBy.trans (World.grownBy_alloc _ _ _) hgrow) hok
      simp only [List.length_append, List.length_singleton, Nat.add_assoc] at hr3
      simp only [Nat.add_assoc] at ho3
      have hst3 : stIn (fun b => b < w.heap.size) w3 bs (os + k * 9) ss[k] := stIn_grown hst hbs (World.grownBy.trans (World.grownBy_alloc _ _ _) hgrow) hrk.rows
      simp only [Nat.add_assoc]
      generalize Value.slice (some ⟨g, 0, none⟩) (l.length + ((numB (ss.length : Int)).length + ((stepsBs (List.take k ss)).length + 1))) cap = V3 at hr3 ho3 ⊢
      clear hown3 hgrow hat hlt3 hrk hgk hok hst g0 g1 g2 g3 g4 g5 g6 g7 g8 hk3
      obtain ⟨A4, c4, ⟨g0, g1, g2, g3, g4, g5, g6, g7, g8⟩, hc4, hk4⟩ := stIn_open hst3
      obtain ⟨hwo, hw1, hw2, hw3, hw4, hw5, hw6, hw7, hw8⟩ := HW.out _ (List.getElem_mem hlt)
      have hsb := stepsBulk_mem (List.getElem_mem hlt)
      simp only [Stp.bulk] at hsb
      have j0 : ∀ w, (Instr.index 196 (.agg #[.int .i64 ss[k].id, .int .i64 ss[k].parent, .int .i64 ss[k].place]) (.int .i64 0)).run Try.prog w = .ok (.int .i64 ss[k].id) w := fun _ => by kernel_rfl
      have j1 : ∀ w, (Instr.index 196 (.agg #[.int .i64 ss[k].id, .int .i64 ss[k].parent, .int .i64 ss[k].place]) (.int .i64 1)).run Try.prog w = .ok (.int .i64 ss[k].parent) w := fun _ => by kernel_rfl
      have j2 : ∀ w, (Instr.index 196 (.agg #[.int .i64 ss[k].id, .int .i64 ss[k].parent, .int .i64 ss[k].place]) (.int .i64 2)).run Try.prog w = .ok (.int .i64 ss[k].place) w := fun _ => by kernel_rfl
      have J0 := Lib.hid j0
      have J1 := Lib.hid j1
      have J2 := Lib.hid j2
      have HST := Lib.hid hst3
      have HWR : Hid (∀ b, v2.ownBlock = some b → w.heap.size ≤ b) := Lib.hid hr2.rows
      clear j0 j1 j2 hst3
      go_quiet (fail)
      go_wp2
      go_loopw [0, 43] (fun v0 v43 wi => ((v43 = .int .i64 0 ∧ ByRow w.heap.size wi v0 (l ++ (numB (ss.length : Int) ++ (stepsBs (ss.take k) ++ [opB ss[k].op])))) ∨
          (v43 = .int .i64 1 ∧ ByRow w.heap.size wi v0 (l ++ (numB (ss.length : Int) ++ (stepsBs (ss.take k) ++ [opB ss[k].op])) ++ numB ss[k].id)) ∨
          (v43 = .int .i64 2 ∧ ByRow w.heap.size wi v0 (l ++ (numB (ss.length : Int) ++ (stepsBs (ss.take k) ++ [opB ss[k].op])) ++ numB ss[k].id ++ numB ss[k].parent)) ∨
          (v43 = .int .i64 3 ∧ ByRow w.heap.size wi v0 (l ++ (numB (ss.length : Int) ++ (stepsBs (ss.take k) ++ [opB ss[k].op])) ++ numB ss[k].id ++ numB ss[k].parent ++ numB ss[k].place))) ∧
          stIn (fun b => b < w.heap.size) wi bs (os + k * 9) ss[k] ∧ w2.grownBy wi v2.ownBlock ∧ RowOf w2 v2.ownBlock v0) (fun _ v43 _ => 3 - (intOf v43).toNat)
      case atStart =>
        have hbd := below_drewN (Below.refl w3.heap.size w3) nq
        exact ⟨.inl ⟨rfl, by have := hr3.later hbd; simpa [List.append_assoc] using this⟩, HST.out.move (fun b hb hlt => ⟨hb, hbd.block b hlt⟩) (hbd.block _ HST.out.lt), grown_step hg3 (grown_of_below hbd none) (.inr fun b hb => by simp at hb), ho3⟩
      case round =>
        obtain ⟨hcase, hsti, hgi, hoi⟩ := hrel
        rcases hcase with ⟨rfl, hri⟩ | ⟨rfl, hri⟩ | ⟨rfl, hri⟩ | ⟨rfl, hri⟩
        · have j0 := J0.out
          go_wp2_with fail
          refine (number_calls _ _ _ ss[k].id _ hri (by omega) (by omega) (by simp at hl1 ⊢; omega)).mono ?_
          rintro e wn ⟨vn, rfl, hrn, hgn, hon⟩
          go_wp2
          go_roundw
          case rel => exact ⟨.inr (.inl ⟨rfl, hrn⟩), stIn_grown hsti hbs hgn hri.rows, grown_step hgi hgn hoi, hoi.then_ hgi.size hon⟩
          case measure => simp [intOf]
        · have j0 := J1.out
          go_wp2_with fail
          refine (number_calls _ _ _ ss[k].parent _ hri (by omega) (by omega) (by simp [numB_length] at hl1 ⊢; omega)).mono ?_
          rintro e wn ⟨vn, rfl, hrn, hgn, hon⟩
          go_wp2
          go_roundw
          case rel => exact ⟨.inr (.inr (.inl ⟨rfl, hrn⟩)), stIn_grown hsti hbs hgn hri.rows, grown_step hgi hgn hoi, hoi.then_ hgi.size hon⟩
          case measure => simp [intOf]
        · have j0 := J2.out
          go_wp2_with fail
          refine (number_calls _ _ _ ss[k].place _ hri (by omega) (by omega) (by simp [numB_length] at hl1 ⊢; omega)).mono ?_
          rintro e wn ⟨vn, rfl, hrn, hgn, hon⟩
          go_wp2
          go_roundw
          case rel => exact ⟨.inr (.inr (.inr ⟨rfl, hrn⟩)), stIn_grown hsti hbs hgn hri.rows, grown_step hgi hgn hoi, hoi.then_ hgi.size hon⟩
          case measure => simp [intOf]
        · obtain ⟨A5, c5, ⟨g0, g1, g2, g3, g4, g5, g6, g7, g8⟩, hc5, hk5⟩ := stIn_open hsti
          go_wp2
          go_region_held3 (fun w' => w'.cell? ⟨bs, os + k * 9 + 4, none⟩ = some (.string ss[k].text))
            (first | go_keep | (exact cell_grown (by assumption) hgr hrr hbs))
            (first
              | (go_at_call 161; refine (text_calls w.heap.size _ _ ss[k].text _ hri.drew (by simp [numB_length] at hl1 ⊢; omega) (by omega)).mono ?_; rintro e wa ⟨va, rfl, hra, hgr, hoa⟩; have hrr := hri.rows; have hga := hgr; have hnda := (stIn_grown hsti hbs (grown_undrew hgr) hri.rows).2.2.2.2.2)
              | (go_at_call 153; refine (node_calls w.heap.size ss[k].sub va _ bs (os + k * 9 + 5) _ hra hnda hbs hw8 (by omega) (by simp [numB_length, textB_length] at hl1 ⊢; omega)).mono ?_; rintro e wb ⟨vb, rfl, hrb, hgr, hob⟩; have hrr := hra.rows; have hgb := hgr))
          go_wp2
          go_roundw
          case rel =>
            refine ⟨k + 1, by go_num, by omega, ?_, grown_step (grown_step hgi (grown_undrew hga) hoi) hgb (hoi.then_ hgi.size hoa.undrew), (hoi.then_ hgi.size hoa.undrew).then_ (Nat.le_trans hgi.size hga.size) hob⟩
            rw [take_snoc hlt, stepsBs_append]
            simpa [stepsBs, Stp.bytes, List.append_assoc] using hrb
          case measure => simp [intOf]; omega
    · have g5 : decide (k < ss.length) = false := by simpa using hlt
      go_wp2
      go_ret
      have hkx : ss.take k = ss := List.take_of_length_le (by omega)
      rw [hkx] at hrk
      refine ⟨_, rfl, ?_, hB2.grown hgk hB2.size hr2.rows⟩
      simpa [stepsB, List.append_assoc] using hrk
end Go.Proofs.Ytimjpkmdphccmaa

/- code's reader: its state, what its steps come to; take, number, small, count, text: walks. -/
namespace Go.Proofs.Ytimjpkmdphccmaa
open Go.RowKit
attribute [local go_sem ↓] Go.wp_at_zero Go.wp_at_succ
set_option linter.unusedVariables false
set_option linter.unusedSimpArgs false

/-- What a step of the reader comes to: a value and the place behind it; or the byte that can't stand there. -/
inductive PR (α : Type) where
  | ok (v : α) (at_ : Nat)
  | fail (at_ : Nat)
def PR.bind {α β : Type} : PR α → (α → Nat → PR β) → PR β
  | .ok v n, f => f v n
  | .fail n, _ => .fail n

/-- The reader's bytes: what they are, and where they lie. -/
structure Src where
  l : List UInt8
  A : Option Addr
  c : Nat
/-- The reader's block: the bytes, the place, the fault. -/
def RdAt (w : World) (br : Nat) (B : Src) (at_ : Nat) (bad : Int) : Prop :=
  w.heap[br]? = some (.cells #[.slice B.A B.l.length B.c, .int .i64 at_, .int .i64 bad] 145 (0, 0)) ∧ B.l.length ≤ B.c ∧
    (B.l = [] ∨ ∃ b o, B.A = some ⟨b, o, none⟩ ∧ b < br ∧ ∀ i (h : i < B.l.length), w.cell? ⟨b, o + i, none⟩ = some (.int .u8 (B.l[i].toNat : Int)))
theorem blk3 {w : World} {b : Nat} {c0 c1 c2 : Value} {t : TypeId} (h : w.heap[b]? = some (.cells #[c0, c1, c2] t (0, 0))) :
    w.cell? ⟨b, 0, none⟩ = some c0 ∧ w.cell? ⟨b, 1, none⟩ = some c1 ∧ w.cell? ⟨b, 2, none⟩ = some c2 ∧ (∀ j, w.frozen? ⟨b, j, none⟩ = false) := by
  simp [World.cell?, World.frozen?, h]
theorem RdAt.lt {w : World} {br : Nat} {B : Src} {at_ : Nat} {bad : Int} (h : RdAt w br B at_ bad) : br < w.heap.size := by
  obtain ⟨h, _⟩ := h
  exact (Array.getElem?_eq_some_iff.1 h).1
theorem RdAt.later {w w' : World} {br : Nat} {B : Src} {at_ : Nat} {bad : Int} (h : RdAt w br B at_ bad) (hb : Below w.heap.size w w') : RdAt w' br B at_ bad := by
  obtain ⟨h0, h1, h2⟩ := h
  refine ⟨(hb.block _ (Array.getElem?_eq_some_iff.1 h0).1).trans h0, h1, ?_⟩
  rcases h2 with h2 | ⟨b, o, hA, hlt, h2⟩
  · exact .inl h2
  · exact .inr ⟨b, o, hA, hlt, fun i hi => cell_keep hb (h2 i hi)⟩
theorem RdAt.drew {w : World} {br : Nat} {B : Src} {at_ : Nat} {bad : Int} (h : RdAt w br B at_ bad) : RdAt w.drew br B at_ bad := h.later (Below.refl _ _).drew

/-- What a call of a reader's own step hands back. -/
def RdPost {α : Type} (w : World) (br : Nat) (B : Src) (good : α → Value → World → Prop) (res : PR α) (e : Ending) (w' : World) : Prop :=
  match res with
  | .ok v n => ∃ x, e = .returned x ∧ good v x w' ∧ RdAt w' br B n (-1) ∧ w.grownBy w' (some br)
  | .fail f => e = .panicked [{ v := .iface 161 (.agg #[.int .i64 (f : Int)]), recovered := false }] ∧ (∃ n, RdAt w' br B n (-1)) ∧ w.grownBy w' (some br)

def takeP (B : List UInt8) (at_ n : Nat) : PR (List UInt8) := if at_ + n ≤ B.length then .ok ((B.drop at_).take n) (at_ + n) else .fail B.length
def goodBytes (v : List UInt8) (x : Value) (w' : World) : Prop := ∃ A c, x = .slice A v.length c ∧ v.length ≤ c ∧ BytesAt w' A v

set_option maxRecDepth 100000 in
set_option maxHeartbeats 2000000 in
theorem take_calls (br : Nat) (B : Src) (at_ n : Nat) (w : World) (h : RdAt w br B at_ (-1)) (hat : at_ ≤ B.l.length) (hB : B.l.length ≤ 1099511627776) (hn : n ≤ 1099511627776) :
    Calls Try.prog 128 #[.pointer (some ⟨br, 0, none⟩), .int .i64 n] w (RdPost w br B goodBytes (takeP B.l at_ n)) := by
  have h' := h
  obtain ⟨h0, h1, h2⟩ := h
  obtain ⟨f0, f1, f2, fz⟩ := blk3 h0
  by_cases hin : at_ + n ≤ B.l.length
  · have HP : Hid (takeP B.l at_ n = .ok ((B.l.drop at_).take n) (at_ + n)) := Lib.hid (by rw [takeP, if_pos hin])
    go_enter Try.func128, Try.ntmps128
    go_wp2
    go_quiet (fail)
    go_wp2
    have hE := setCell_blk ((below_drewN (Below.refl w.heap.size w) nq).block br h'.lt |>.trans h0) 1 (.int .i64 ((at_ : Int) + n))
    simp only [List.setIfInBounds_toArray, List.set] at hE
    have hK : w.grownBy ((w.drewN nq).setCell ⟨br, 1, none⟩ (.int .i64 ((at_ : Int) + n))) (some br) := ⟨rfl, rfl, rfl, by simp [World.setCell], fun k hk hne => (Below.heap_setCell _ _ _ _ (fun he => hne (by rw [he]))).trans ((below_drewN (Below.refl w.heap.size w) nq).block k hk)⟩
    have hB1 : Below br w ((w.drewN nq).setCell ⟨br, 1, none⟩ (.int .i64 ((at_ : Int) + n))) := (below_drewN (Below.refl br w) nq).setCell (Nat.le_refl _) _
    generalize (w.drewN nq).setCell ⟨br, 1, none⟩ (.int .i64 ((at_ : Int) + n)) = W1 at hE hK hB1 ⊢
    clear f0 f1 f2 fz
    obtain ⟨f0, f1, f2, fz⟩ := blk3 hE
    go_quiet (fail)
    have HR : Hid (RdAt (W1.drewN nq) br B (at_ + n) (-1) ∧ w.grownBy (W1.drewN nq) (some br)) := Lib.hid (by
      have hbd := below_drewN (Below.refl W1.heap.size W1) nq
      refine ⟨RdAt.later ⟨by simpa using hE, h1, ?_⟩ hbd, grown_step hK (grown_of_below hbd none) (.inr fun b hb => by simp at hb)⟩
      rcases h2 with h2 | ⟨b, o, hA, hlt, h2⟩
      · exact .inl h2
      · exact .inr ⟨b, o, hA, hlt, fun i hi => (hB1.cell (p := ⟨b, o + i, none⟩) hlt).trans (h2 i hi)⟩)
    have HQ : Hid (BytesAt (W1.drewN nq) (B.A.map (fun x => x.add at_)) ((B.l.drop at_).take n)) := Lib.hid (by
      rcases h2 with h2 | ⟨b, o, hA, hlt, h2⟩
      · exact .inl (by simp [h2])
      · refine .inr ⟨b, o + at_, by rw [hA]; simp [addr_add], fun i hi => ?_⟩
        simp only [List.length_take, List.length_drop] at hi
        have := (hB1.cell (p := ⟨b, o + (at_ + i), none⟩) hlt).trans (h2 (at_ + i) (by omega))
        rw [show o + at_ + i = o + (at_ + i) by omega]
        simpa using this)
    have hlen : ((B.l.drop at_).take n).length = n := by simp; omega
    have HL := Lib.hid hlen
    clear hlen
    go_wp2
    · go_ret
      have hn0 : n = 0 := by omega
      show RdPost w br B goodBytes (takeP B.l at_ n) _ _
      rw [HP.out]
      refine ⟨.slice B.A 0 0, rfl, ⟨B.A, 0, by rw [HL.out, hn0], by rw [HL.out]; omega, .inl (by rw [hn0]; simp)⟩, HR.out.1, HR.out.2⟩
    · go_ret
      show RdPost w br B goodBytes (takeP B.l at_ n) _ _
      rw [HP.out]
      refine ⟨.slice (B.A.map (fun x => x.add at_)) n n, rfl, ⟨_, n, by rw [HL.out], by rw [HL.out]; omega, HQ.out⟩, HR.out.1, HR.out.2⟩
  · have HP : Hid (takeP B.l at_ n = .fail B.l.length) := Lib.hid (by rw [takeP, if_neg hin])
    go_enter Try.func128, Try.ntmps128
    go_wp2
    go_quiet (fail)
    go_wp2
    refine ⟨rfl, ?_⟩
    show RdPost w br B goodBytes (takeP B.l at_ n) _ _
    rw [HP.out]
    have hbd := below_drewN (Below.refl w.heap.size w) nq
    exact ⟨rfl, ⟨at_, h'.later hbd⟩, grown_of_below hbd _⟩

/-- A number out of its bytes, the highest first. -/
def foldB (l : List UInt8) : Int := l.foldl (fun n x => n * 256 % 18446744073709551616 + (x.toNat : Int)) 0
def toI64 (n : Int) : Int := if n < 9223372036854775808 then n else n - 18446744073709551616
def numberP (B : List UInt8) (at_ : Nat) : PR Int := (takeP B at_ 8).bind fun l n => .ok (toI64 (foldB l)) n
def toI8 (n : Int) : Int := if n < 128 then n else n - 256
def smallP (B : List UInt8) (at_ : Nat) : PR Int := (takeP B at_ 1).bind fun l n => .ok (toI8 (foldB l)) n
def goodInt (v : Int) (x : Value) (_ : World) : Prop := x = .int .i64 v
def goodI8 (v : Int) (x : Value) (_ : World) : Prop := x = .int .i8 v

theorem foldB_snoc (l : List UInt8) (x : UInt8) : foldB (l ++ [x]) = foldB l * 256 % 18446744073709551616 + (x.toNat : Int) := by simp [foldB]
theorem foldB_range : ∀ (l : List UInt8), 0 ≤ foldB l ∧ foldB l < 18446744073709551616 := by
  intro l
  rcases List.eq_nil_or_concat l with rfl | ⟨m, x, rfl⟩
  · simp [foldB]
  · rw [List.concat_eq_append, foldB_snoc]
    have := x.toNat_lt
    omega

theorem or_low (n : Int) (x : UInt8) (h0 : 0 ≤ n) (h1 : n < 18446744073709551616) : bits .or .u64 (IntKind.u64.wrap (n * 256)) (x.toNat : Int) = n * 256 % 18446744073709551616 + (x.toNat : Int) := by
  have hx := x.toNat_lt
  rw [IntKind.wrap_u64, u64_or _ _ (by omega) (by omega) (by omega) (by omega)]
  have he : (n * 256 % 18446744073709551616).toNat = (n.toNat % 72057594037927936) <<< 8 := by rw [Nat.shiftLeft_eq]; omega
  have hy : ((x.toNat : Int)).toNat = x.toNat := by omega
  rw [hy, he, ← Nat.shiftLeft_add_eq_or_of_lt (by omega : x.toNat < 2 ^ 8), Nat.shiftLeft_eq]
  omega
theorem wrap64_toI64 (n : Int) (h0 : 0 ≤ n) (h1 : n < 18446744073709551616) : wrap64 n = toI64 n := by
  rw [toI64]
  split
  · simp only [wrap64]; omega
  · simp only [wrap64]; omega

set_option maxRecDepth 100000 in
set_option maxHeartbeats 2000000 in
theorem rnumber_calls (br : Nat) (B : Src) (at_ : Nat) (w : World) (h : RdAt w br B at_ (-1)) (hat : at_ ≤ B.l.length) (hB : B.l.length ≤ 1099511627776) :
    Calls Try.prog 100 #[.pointer (some ⟨br, 0, none⟩)] w (RdPost w br B goodInt (numberP B.l at_)) := by
  have HC := Lib.hid (take_calls br B at_ 8 w h hat hB (by omega))
  go_enter Try.func100, Try.ntmps100
  go_wp2_with fail
  refine HC.out.mono ?_
  clear HC
  rintro e w1 hp
  cases ht : takeP B.l at_ 8 with
  | fail f =>
    have HN : Hid (numberP B.l at_ = .fail f) := Lib.hid (by rw [numberP, ht]; rfl)
    rw [ht] at hp
    clear ht
    obtain ⟨rfl, hr, hg⟩ := hp
    refine ⟨rfl, ?_⟩
    show RdPost w br B goodInt (numberP B.l at_) _ _
    rw [HN.out]
    exact ⟨rfl, hr, hg⟩
  | ok l n =>
    have HN : Hid (numberP B.l at_ = .ok (toI64 (foldB l)) n) := Lib.hid (by rw [numberP, ht]; rfl)
    have hl8 : l.length = 8 := by
      rw [takeP] at ht
      split at ht
      · injection ht with h1 h2
        rw [← h1]; simp; omega
      · cases ht
    rw [ht] at hp
    clear ht
    obtain ⟨x, rfl, ⟨A, c, rfl, hlc, hby⟩, hr, hg⟩ := hp
    have HL := Lib.hid hl8
    have hla : l.length ≤ 8 := by omega
    have hlb : 8 ≤ l.length := by omega
    clear hl8
    obtain ⟨bb, ob, rfl, hcell⟩ : ∃ b o, A = some ⟨b, o, none⟩ ∧ ∀ i (h : i < l.length), w1.cell? ⟨b, o + i, none⟩ = some (.int .u8 (l[i].toNat : Int)) := by
      rcases hby with h | h
      · rw [h] at hlb; simp at hlb
      · exact h
    have HB := Lib.hid hcell
    clear hcell hby
    go_wp2
    go_loopw [3, 9] (fun v3 v9 wr => ∃ k : Nat, v9 = .int .i64 k ∧ k ≤ l.length ∧ v3 = .int .u64 (foldB (l.take k)) ∧ wr = w1) (fun _ v9 _ => l.length - (intOf v9).toNat)
    case atStart => exact ⟨0, rfl, Nat.zero_le _, rfl, rfl⟩
    case round =>
      obtain ⟨k, rfl, hk, rfl, rfl⟩ := hrel
      by_cases hlt : k < l.length
      · have hc := HB.out k hlt
        have i1 : (0 : Int) ≤ (k : Int) := Int.natCast_nonneg _
        have i2 : (k : Int) < (l.length : Int) := by omega
        have hfr := foldB_range (l.take k)
        have hxr := l[k].toNat_lt
        go_wp2
        refine ⟨⟨k + 1, by simp, hlt, ?_, trivial⟩, ?_⟩
        · rw [or_low _ _ hfr.1 hfr.2, ← foldB_snoc, List.take_succ_eq_append_getElem hlt]
        · simp [intOf]; omega
      · have g5 : decide (k < l.length) = false := by simpa using hlt
        go_wp2
        have hk2 : l.take k = l := List.take_of_length_le (by omega)
        have hw := wrap64_toI64 (foldB l) (foldB_range l).1 (foldB_range l).2
        go_ret
        show RdPost w br B goodInt (numberP B.l at_) _ _
        rw [HN.out]
        refine ⟨_, rfl, ?_, hr, hg⟩
        rw [hk2, hw]
        rfl
end Go.Proofs.Ytimjpkmdphccmaa

/- code's reader: small, count, text: walks. -/
namespace Go.Proofs.Ytimjpkmdphccmaa
open Go.RowKit
attribute [local go_sem ↓] Go.wp_at_zero Go.wp_at_succ
set_option linter.unusedVariables false
set_option linter.unusedSimpArgs false

theorem conv_bytes (w : World) (A : Option Addr) (l : List UInt8) (c : Nat) (h : BytesAt w A l) :
    (convert 46 9 (.slice A l.length c)).run Try.prog w = .ok (.string ⟨l.toArray⟩) w := by
  cases A with
  | none =>
    rcases h with rfl | ⟨b, o, hA, _⟩
    · rw [run_convert_bytes_nil w _ _ Try.underlying46 Try.underlying5 _ _ _ Try.underlying9]
      rfl
    · cases hA
  | some a =>
    rcases h with rfl | ⟨b, o, hA, h⟩
    · rw [run_convert_bytes_string w _ _ _ _ _ _ Try.underlying46 Try.underlying5 Try.underlying9, run_bytesToString w a _ c [] (by rfl)]
      rfl
    · cases hA
      rw [run_convert_bytes_arg w _ _ Try.underlying46 Try.underlying5 b o l.length c (l.map fun x => (x.toNat : Int)) (by simp) (fun i hi => by rw [h i hi]; simp [List.getD, hi]) _ Try.underlying9]
      congr 2
      simp [strOfNums, Function.comp_def]

set_option maxRecDepth 100000 in
theorem i8_byte (y : UInt8) : IntKind.i8.wrap (y.toNat : Int) = toI8 (foldB [y]) := by
  have hy := y.toNat_lt
  have e : foldB [y] = (y.toNat : Int) := by simp [foldB]
  rw [e, toI8]
  have h : ∀ n : Fin 256, IntKind.i8.wrap (n.val : Int) = if (n.val : Int) < 128 then (n.val : Int) else (n.val : Int) - 256 := by decide
  exact h ⟨y.toNat, hy⟩
theorem PR.bind_ok {α β : Type} (v : α) (n : Nat) (f : α → Nat → PR β) : (PR.ok v n).bind f = f v n := rfl
theorem PR.bind_fail {α β : Type} (n : Nat) (f : α → Nat → PR β) : (PR.fail n : PR α).bind f = .fail n := rfl
theorem takeP_ok {B : List UInt8} {at_ n m : Nat} {l : List UInt8} (h : takeP B at_ n = .ok l m) : l.length = n ∧ m = at_ + n ∧ m ≤ B.length ∧ l = (B.drop at_).take n := by
  rw [takeP] at h
  split at h
  · injection h with h1 h2
    subst h1; subst h2
    simp; omega
  · cases h
theorem numberP_ok {B : List UInt8} {at_ m : Nat} {v : Int} (h : numberP B at_ = .ok v m) : m = at_ + 8 ∧ m ≤ B.length := by
  rw [numberP] at h
  cases ht : takeP B at_ 8 with
  | fail f => rw [ht] at h; cases h
  | ok l n =>
    rw [ht] at h
    have := takeP_ok ht
    injection h with h1 h2
    omega

set_option maxRecDepth 100000 in
set_option maxHeartbeats 2000000 in
theorem rsmall_calls (br : Nat) (B : Src) (at_ : Nat) (w : World) (h : RdAt w br B at_ (-1)) (hat : at_ ≤ B.l.length) (hB : B.l.length ≤ 1099511627776) :
    Calls Try.prog 98 #[.pointer (some ⟨br, 0, none⟩)] w (RdPost w br B goodI8 (smallP B.l at_)) := by
  have HC := Lib.hid (take_calls br B at_ 1 w h hat hB (by omega))
  go_enter Try.func98, Try.ntmps98
  go_wp2_with fail
  refine HC.out.mono ?_
  clear HC
  rintro e w1 hp
  cases ht : takeP B.l at_ 1 with
  | fail f =>
    have HN : Hid (smallP B.l at_ = .fail f) := Lib.hid (by rw [smallP, ht]; rfl)
    rw [ht] at hp
    clear ht
    obtain ⟨rfl, hr, hg⟩ := hp
    refine ⟨rfl, ?_⟩; show RdPost w br B goodI8 (smallP B.l at_) _ _; rw [HN.out]; exact ⟨rfl, hr, hg⟩
  | ok l n =>
    have HN : Hid (smallP B.l at_ = .ok (toI8 (foldB l)) n) := Lib.hid (by rw [smallP, ht]; rfl)
    have hl1 := (takeP_ok ht).1
    rw [ht] at hp
    clear ht
    obtain ⟨x, rfl, ⟨A, c, rfl, hlc, hby⟩, hr, hg⟩ := hp
    obtain ⟨y, rfl⟩ : ∃ y, l = [y] := by
      match l, hl1 with
      | [y], _ => exact ⟨y, rfl⟩
    obtain ⟨bb, ob, rfl, hcell⟩ : ∃ b o, A = some ⟨b, o, none⟩ ∧ w1.cell? ⟨b, o, none⟩ = some (.int .u8 (y.toNat : Int)) := by
      rcases hby with h | ⟨b, o, hA, h⟩
      · cases h
      · exact ⟨b, o, hA, by simpa using h 0 (by simp)⟩
    clear hl1 hby
    simp only [List.length_singleton] at hlc ⊢
    go_wp2
    go_ret
    show RdPost w br B goodI8 (smallP B.l at_) _ _
    rw [HN.out]
    refine ⟨_, rfl, ?_, hr, hg⟩
    show _ = Value.int .i8 (toI8 (foldB [y]))
    rw [← i8_byte]
    rfl

def countP (B : List UInt8) (at_ size most : Nat) : PR Nat := (numberP B at_).bind fun n at1 => if n < 0 ∨ n > most ∨ n > ((B.length - at1 : Nat) : Int) / size then .fail at_ else .ok n.toNat at1
def goodNat (v : Nat) (x : Value) (_ : World) : Prop := x = .int .i64 (v : Int)

set_option maxRecDepth 100000 in
set_option maxHeartbeats 2000000 in
theorem count_calls (br : Nat) (B : Src) (at_ size most : Nat) (w : World) (h : RdAt w br B at_ (-1)) (hat : at_ ≤ B.l.length) (hB : B.l.length ≤ 1099511627776) (hs : 1 ≤ size) (hs' : size ≤ 1000) (hm : most ≤ 1099511627776) :
    Calls Try.prog 157 #[.pointer (some ⟨br, 0, none⟩), .int .i64 size, .int .i64 most] w (RdPost w br B goodNat (countP B.l at_ size most)) := by
  have HC := Lib.hid (rnumber_calls br B at_ w h hat hB)
  have h' := h
  obtain ⟨h0, h1, h2⟩ := h
  obtain ⟨f0, f1, f2, fz⟩ := blk3 h0
  go_enter Try.func157, Try.ntmps157
  go_wp2_with fail
  refine HC.out.mono ?_
  clear HC f0 f1 f2 fz
  rintro e w1 hp
  cases ht : numberP B.l at_ with
  | fail f =>
    have HN : Hid (countP B.l at_ size most = .fail f) := Lib.hid (by rw [countP, ht]; rfl)
    rw [ht] at hp
    clear ht
    obtain ⟨rfl, hr, hg⟩ := hp
    refine ⟨rfl, ?_⟩; show RdPost w br B goodNat (countP B.l at_ size most) _ _; rw [HN.out]; exact ⟨rfl, hr, hg⟩
  | ok n at1 =>
    have HN : Hid (countP B.l at_ size most = if n < 0 ∨ n > most ∨ n > ((B.l.length - at1 : Nat) : Int) / size then .fail at_ else .ok n.toNat at1) := Lib.hid (by rw [countP, ht]; rfl)
    obtain ⟨ha1, ha2⟩ := numberP_ok ht
    rw [ht] at hp
    clear ht
    obtain ⟨x, rfl, rfl, hr, hg⟩ := hp
    clear ha1
    obtain ⟨k0, k1, k2⟩ := hr
    obtain ⟨f0, f1, f2, fz⟩ := blk3 k0
    go_wp2
    by_cases c1 : n < 0
    · have d1 : decide (n < 0) = true := by simpa using c1
      go_quiet (fail)
      have HR : Hid ((∃ n, RdAt (w1.drewN nq) br B n (-1)) ∧ w.grownBy (w1.drewN nq) (some br)) := Lib.hid ⟨⟨_, RdAt.later ⟨k0, k1, k2⟩ (below_drewN (Below.refl _ _) nq)⟩, grown_step hg (grown_of_below (below_drewN (Below.refl w1.heap.size w1) nq) none) (.inr fun b hb => by simp at hb)⟩
      rw [if_pos (.inl c1)] at HN
      go_wp2
      refine ⟨rfl, ?_⟩
      show RdPost w br B goodNat (countP B.l at_ size most) _ _
      rw [HN.out]
      exact ⟨rfl, HR.out⟩
    · have d1 : decide (n < 0) = false := by simpa using c1
      by_cases c2 : n > most
      · have d2 : decide (n > (most : Int)) = true := by simpa using c2
        have d2' : decide ((most : Int) < n) = true := by simpa using c2
        go_quiet (fail)
        have HR : Hid ((∃ n, RdAt (w1.drewN nq) br B n (-1)) ∧ w.grownBy (w1.drewN nq) (some br)) := Lib.hid ⟨⟨_, RdAt.later ⟨k0, k1, k2⟩ (below_drewN (Below.refl _ _) nq)⟩, grown_step hg (grown_of_below (below_drewN (Below.refl w1.heap.size w1) nq) none) (.inr fun b hb => by simp at hb)⟩
        rw [if_pos (.inr (.inl c2))] at HN
        go_wp2
        refine ⟨rfl, ?_⟩
        show RdPost w br B goodNat (countP B.l at_ size most) _ _
        rw [HN.out]
        exact ⟨rfl, HR.out⟩
      · have d2 : decide (n > (most : Int)) = false := by simpa using c2
        have d2' : decide ((most : Int) < n) = false := by simpa using c2
        have e1 : max (size : Int) 1 = size := by omega
        have e2 : ((B.l.length - at1 : Nat) : Int) = (B.l.length : Int) - at1 := by omega
        have e3 : ((B.l.length : Int) - at1).tdiv size = ((B.l.length : Int) - at1) / size := Int.tdiv_eq_ediv_of_nonneg (by omega)
        rw [e2] at HN
        have e4 : 0 ≤ ((B.l.length : Int) - at1) / size := Int.ediv_nonneg (by omega) (by omega)
        have e5 : ((B.l.length : Int) - at1) / size ≤ (B.l.length : Int) - at1 := Int.ediv_le_self _ (by omega)
        by_cases c3 : n > ((B.l.length : Int) - at1) / size
        · have d3 : decide (n > ((B.l.length : Int) - at1) / size) = true := by simpa using c3
          go_quiet (fail)
          have HR : Hid ((∃ n, RdAt (w1.drewN nq) br B n (-1)) ∧ w.grownBy (w1.drewN nq) (some br)) := Lib.hid ⟨⟨_, RdAt.later ⟨k0, k1, k2⟩ (below_drewN (Below.refl _ _) nq)⟩, grown_step hg (grown_of_below (below_drewN (Below.refl w1.heap.size w1) nq) none) (.inr fun b hb => by simp at hb)⟩
          rw [if_pos (.inr (.inr c3))] at HN
          go_wp2
          refine ⟨rfl, ?_⟩
          show RdPost w br B goodNat (countP B.l at_ size most) _ _
          rw [HN.out]
          exact ⟨rfl, HR.out⟩
        · have d3 : decide (n > ((B.l.length : Int) - at1) / size) = false := by simpa using c3
          go_quiet (fail)
          have HR : Hid ((RdAt (w1.drewN nq) br B at1 (-1)) ∧ w.grownBy (w1.drewN nq) (some br)) := Lib.hid ⟨RdAt.later ⟨k0, k1, k2⟩ (below_drewN (Below.refl _ _) nq), grown_step hg (grown_of_below (below_drewN (Below.refl w1.heap.size w1) nq) none) (.inr fun b hb => by simp at hb)⟩
          rw [if_neg (by omega)] at HN
          go_wp2
          go_ret
          show RdPost w br B goodNat (countP B.l at_ size most) _ _
          rw [HN.out]
          refine ⟨_, rfl, ?_, HR.out⟩
          show _ = Value.int .i64 (n.toNat : Int)
          rw [show (n.toNat : Int) = n by omega]
          rfl
theorem countP_ok {B : List UInt8} {at_ size most m n : Nat} (h : countP B at_ size most = .ok n m) : m = at_ + 8 ∧ m ≤ B.length ∧ n ≤ most ∧ n * size ≤ B.length - m := by
  rw [countP] at h
  cases ht : numberP B at_ with
  | fail f => rw [ht] at h; cases h
  | ok l k =>
    rw [ht, PR.bind_ok] at h
    have := numberP_ok ht
    split at h
    · cases h
    · rename_i hn
      injection h with h1 h2
      subst h1; subst h2
      have h3 : l ≤ ((B.length - k : Nat) : Int) / size := by omega
      refine ⟨this.1, this.2, by omega, ?_⟩
      have h4 : l * size ≤ ((B.length - k : Nat) : Int) := by
        rcases Nat.eq_zero_or_pos size with rfl | hp
        · simp
        · exact Int.le_trans (Int.mul_le_mul_of_nonneg_right h3 (by omega)) (Int.ediv_mul_le _ (by omega))
      have h5 : ((l.toNat * size : Nat) : Int) = l * size := by rw [Int.natCast_mul]; congr 1; omega
      omega

def textP (B : List UInt8) (at_ : Nat) : PR ByteArray := (countP B at_ 1 B.length).bind fun n at1 => (takeP B at1 n).bind fun l at2 => .ok ⟨l.toArray⟩ at2
def goodStr (v : ByteArray) (x : Value) (_ : World) : Prop := x = .string v

theorem RdPost.trans {α : Type} {w w1 w' : World} {br : Nat} {B : Src} {good : α → Value → World → Prop} {res : PR α} {e : Ending} (hg : w.grownBy w1 (some br)) (hp : RdPost w1 br B good res e w') : RdPost w br B good res e w' := by
  cases res with
  | ok v n => obtain ⟨x, h1, h2, h3, h4⟩ := hp; exact ⟨x, h1, h2, h3, grown_step hg h4 (.inl rfl)⟩
  | fail f => obtain ⟨h1, h2, h3⟩ := hp; exact ⟨h1, h2, grown_step hg h3 (.inl rfl)⟩

set_option maxRecDepth 100000 in
set_option maxHeartbeats 2000000 in
theorem rtext_calls (br : Nat) (B : Src) (at_ : Nat) (w : World) (h : RdAt w br B at_ (-1)) (hat : at_ ≤ B.l.length) (hB : B.l.length ≤ 1099511627776) :
    Calls Try.prog 167 #[.pointer (some ⟨br, 0, none⟩)] w (RdPost w br B goodStr (textP B.l at_)) := by
  have HC := Lib.hid (count_calls br B at_ 1 B.l.length w h hat hB (by omega) (by omega) hB)
  obtain ⟨h0, h1, h2⟩ := h
  obtain ⟨f0, f1, f2, fz⟩ := blk3 h0
  go_enter Try.func167, Try.ntmps167
  go_wp2_with fail
  refine HC.out.mono ?_
  clear HC f0 f1 f2 fz
  rintro e w1 hp
  cases ht : countP B.l at_ 1 B.l.length with
  | fail f =>
    have HN : Hid (textP B.l at_ = .fail f) := Lib.hid (by rw [textP, ht]; rfl)
    rw [ht] at hp
    clear ht
    obtain ⟨rfl, hr, hg⟩ := hp
    refine ⟨rfl, ?_⟩; show RdPost w br B goodStr (textP B.l at_) _ _; rw [HN.out]; exact ⟨rfl, hr, hg⟩
  | ok n at1 =>
    have HN : Hid (textP B.l at_ = (takeP B.l at1 n).bind fun l at2 => .ok ⟨l.toArray⟩ at2) := Lib.hid (by rw [textP, ht]; rfl)
    obtain ⟨ha1, ha2, ha3, ha4⟩ := countP_ok ht
    rw [ht] at hp
    clear ht
    obtain ⟨x, rfl, rfl, hr, hg⟩ := hp
    clear ha1 ha4
    go_wp2_with fail
    refine (take_calls br B at1 n w1 hr ha2 hB (by omega)).mono ?_
    rintro e w2 hp
    have hp := RdPost.trans hg hp
    clear hg
    cases ht : takeP B.l at1 n with
    | fail f =>
      rw [ht] at hp HN
      clear ht
      obtain ⟨rfl, hr, hg⟩ := hp
      refine ⟨rfl, ?_⟩; show RdPost w br B goodStr (textP B.l at_) _ _; rw [HN.out]; exact ⟨rfl, hr, hg⟩
    | ok l at2 =>
      rw [ht] at hp HN
      clear ht
      obtain ⟨x, rfl, ⟨A, c, rfl, hlc, hby⟩, hr, hg⟩ := hp
      have HCV := Lib.hid (conv_bytes w2 A l c hby)
      go_wp2_with (rw [HCV.out])
      go_ret
      show RdPost w br B goodStr (textP B.l at_) _ _
      rw [HN.out]
      exact ⟨_, rfl, rfl, hr, hg⟩
theorem textP_ok {B : List UInt8} {at_ m : Nat} {s : ByteArray} (h : textP B at_ = .ok s m) : m ≤ B.length ∧ m = at_ + 8 + s.size ∧ s.size ≤ B.length := by
  rw [textP] at h
  cases ht : countP B at_ 1 B.length with
  | fail f => rw [ht] at h; cases h
  | ok l k =>
    rw [ht, PR.bind_ok] at h
    have h1 := countP_ok ht
    cases ht2 : takeP B k l with
    | fail f => rw [ht2] at h; cases h
    | ok l2 k2 =>
      rw [ht2, PR.bind_ok] at h
      have h2 := takeP_ok ht2
      injection h with h3 h4
      subst h3; subst h4
      have : (⟨l2.toArray⟩ : ByteArray).size = l2.length := by simp [ByteArray.size]
      omega
end Go.Proofs.Ytimjpkmdphccmaa

/- code's reader: the node under its bounds: what it comes to; walks. -/
namespace Go.Proofs.Ytimjpkmdphccmaa
open Go.RowKit
attribute [local go_sem ↓] Go.wp_at_zero Go.wp_at_succ
set_option linter.unusedVariables false
set_option linter.unusedSimpArgs false

/-- A row read one by one, a state handed on. -/
def listP {α σ : Type} (one : Nat → σ → PR (α × σ)) : Nat → Nat → σ → PR (List α × σ)
  | 0, at_, s => .ok ([], s) at_
  | n + 1, at_, s => (listP one n at_ s).bind fun q a => (one a q.2).bind fun r a' => .ok (q.1 ++ [r.1], r.2) a'
theorem listP_fail {α σ : Type} {one : Nat → σ → PR (α × σ)} {k at_ f : Nat} {s : σ} (h : listP one k at_ s = .fail f) : ∀ n, k ≤ n → listP one n at_ s = .fail f := by
  intro n
  induction n with
  | zero => intro hk; rwa [Nat.le_zero.1 hk] at h
  | succ n ih =>
    intro hk
    rcases Nat.lt_or_ge k (n + 1) with hlt | hge
    · rw [listP, ih (by omega)]; rfl
    · rwa [show k = n + 1 by omega] at h
theorem listP_len {α σ : Type} {one : Nat → σ → PR (α × σ)} : ∀ {n at_ m : Nat} {s t : σ} {l : List α}, listP one n at_ s = .ok (l, t) m → l.length = n := by
  intro n
  induction n with
  | zero => intro at_ m s t l h; injection h with h1 h2; injection h1 with h3 h4; rw [← h3]; rfl
  | succ n ih =>
    intro at_ m s t l h
    rw [listP] at h
    cases h1 : listP one n at_ s with
    | fail f => rw [h1] at h; cases h
    | ok q a =>
      rw [h1, PR.bind_ok] at h
      cases h2 : one a q.2 with
      | fail f => rw [h2] at h; cases h
      | ok r a' =>
        rw [h2, PR.bind_ok] at h
        injection h with h3 h4
        injection h3 with h5 h6
        rw [← h5, List.length_append, ih (l := q.1) (t := q.2) h1]; rfl

/-- A node: fuel is 41 less the depth; nodes is how many stood before. -/
def nodeP (B : List UInt8) : Nat → Nat → Nat → PR (Nd × Nat)
  | 0, at_, _ => .fail at_
  | fuel + 1, at_, nodes =>
    if nodes + 1 > 200 then .fail at_ else
    (numberP B at_).bind fun i a1 => (numberP B a1).bind fun k a2 => (textP B a2).bind fun t a3 => (countP B a3 32 B.length).bind fun n a4 =>
      (listP (fun a s => nodeP B fuel a s) n a4 (nodes + 1)).bind fun q a5 => .ok (.mk i k t q.1, q.2) a5

/-- What two blocks besides lets everything stand. -/
structure Keep2 (br bN : Nat) (w w' : World) : Prop where
  os : w'.os = w.os
  tape : w'.tape = w.tape
  output : w'.output = w.output
  size : w.heap.size ≤ w'.heap.size
  block : ∀ b, b < w.heap.size → b ≠ br → b ≠ bN → w'.heap[b]? = w.heap[b]?
theorem Keep2.refl (br bN : Nat) (w : World) : Keep2 br bN w w := ⟨rfl, rfl, rfl, Nat.le_refl _, fun _ _ _ _ => rfl⟩
theorem Keep2.trans {br bN : Nat} {w w1 w2 : World} (h : Keep2 br bN w w1) (k : Keep2 br bN w1 w2) : Keep2 br bN w w2 :=
  ⟨k.os.trans h.os, k.tape.trans h.tape, k.output.trans h.output, Nat.le_trans h.size k.size, fun b hb h1 h2 => (k.block b (Nat.lt_of_lt_of_le hb h.size) h1 h2).trans (h.block b hb h1 h2)⟩
theorem Keep2.below {br bN : Nat} {w w1 : World} (h : Below w.heap.size w w1) : Keep2 br bN w w1 := ⟨h.os, h.tape, h.output, h.size, fun b hb _ _ => h.block b hb⟩
theorem Keep2.grown {br bN : Nat} {w w1 : World} (h : w.grownBy w1 (some br)) : Keep2 br bN w w1 := ⟨h.os, h.tape, h.output, h.size, fun b hb h1 _ => h.block b hb (by simpa using h1)⟩
theorem Keep2.row {br bN : Nat} {w w1 w2 : World} {row : Option Nat} (h : Keep2 br bN w w1) (k : w1.grownBy w2 row) (hr : ∀ b, row = some b → w.heap.size ≤ b) : Keep2 br bN w w2 :=
  ⟨k.os.trans h.os, k.tape.trans h.tape, k.output.trans h.output, Nat.le_trans h.size k.size, fun b hb h1 h2 => (k.block b (Nat.lt_of_lt_of_le hb h.size) (fun he => by have := hr b he.symm; omega)).trans (h.block b hb h1 h2)⟩
theorem Keep2.cell {br bN : Nat} {w w1 : World} {a : Addr} {v : Value} (h : Keep2 br bN w w1) (hc : w.cell? a = some v) (h1 : a.block ≠ br) (h2 : a.block ≠ bN) : w1.cell? a = some v :=
  (World.cell?_of_block (h.block a.block (World.block_lt_of_cell? w a hc) h1 h2)).trans hc

/-- The reader of nodes: its three cells. -/
structure RN (w : World) (br bR bN bF : Nat) (nodes : Nat) : Prop where
  r : w.heap[bR]? = some (.cells #[.pointer (some ⟨br, 0, none⟩)] 103 (0, 0))
  n : w.heap[bN]? = some (.cells #[.int .i64 nodes] 3 (0, 0))
  f : w.heap[bF]? = some (.cells #[.func (.func 166) #[] #[.pointer (some ⟨bR, 0, none⟩), .pointer (some ⟨bN, 0, none⟩), .pointer (some ⟨bF, 0, none⟩)]] 200 (0, 0))
  rn : br < bR
  nn : bR < bN
  fn : bN < bF
theorem RN.keep {w w1 : World} {br bR bN bF nodes nodes' : Nat} (h : RN w br bR bN bF nodes) (k : Keep2 br bN w w1) (hn : w1.heap[bN]? = some (.cells #[.int .i64 nodes'] 3 (0, 0))) : RN w1 br bR bN bF nodes' := by
  have h1 := h.rn; have h2 := h.nn; have h3 := h.fn
  exact ⟨(k.block bR (Array.getElem?_eq_some_iff.1 h.r).1 (by omega) (by omega)).trans h.r, hn, (k.block bF (Array.getElem?_eq_some_iff.1 h.f).1 (by omega) (by omega)).trans h.f, h1, h2, h3⟩
theorem RN.grown {w w1 : World} {br bR bN bF nodes : Nat} (h : RN w br bR bN bF nodes) (k : w.grownBy w1 (some br)) : RN w1 br bR bN bF nodes :=
  h.keep (.grown k) ((k.block bN (Array.getElem?_eq_some_iff.1 h.n).1 (by have := h.rn; have := h.nn; simp; omega)).trans h.n)
theorem RN.later {w w1 : World} {br bR bN bF nodes : Nat} (h : RN w br bR bN bF nodes) (k : Below w.heap.size w w1) : RN w1 br bR bN bF nodes := h.grown (grown_of_below k _)

theorem RdAt.grown {w w1 : World} {br n : Nat} {row : Option Nat} {B : Src} {bad : Int} (h : RdAt w br B n bad) (k : w.grownBy w1 row) (hb : ∀ b, row = some b → br < b) : RdAt w1 br B n bad := by
  have hl := h.lt
  have hbl : ∀ b, b ≤ br → w1.heap[b]? = w.heap[b]? := fun b hle => k.block b (by omega) fun he => by have := hb _ he.symm; omega
  obtain ⟨h0, h1, h2⟩ := h
  refine ⟨(hbl br (Nat.le_refl _)).trans h0, h1, ?_⟩
  rcases h2 with h2 | ⟨b', o, hA, hlt, h2⟩
  · exact .inl h2
  · exact .inr ⟨b', o, hA, hlt, fun i hi => (World.cell?_of_block (a := ⟨b', o + i, none⟩) (hbl b' (by omega))).trans (h2 i hi)⟩
theorem RN.row {w w1 : World} {br bR bN bF nodes : Nat} {row : Option Nat} (h : RN w br bR bN bF nodes) (k : w.grownBy w1 row) (hr : ∀ b, row = some b → bF < b) : RN w1 br bR bN bF nodes := by
  have h1 := h.rn; have h2 := h.nn; have h3 := h.fn
  refine ⟨(k.block bR (Array.getElem?_eq_some_iff.1 h.r).1 ?_).trans h.r, (k.block bN (Array.getElem?_eq_some_iff.1 h.n).1 ?_).trans h.n, (k.block bF (Array.getElem?_eq_some_iff.1 h.f).1 ?_).trans h.f, h1, h2, h3⟩ <;>
    exact fun he => by have := hr _ he.symm; omega

/-- What a call that reads a node hands back. -/
def NPost (w : World) (br bR bN bF : Nat) (B : Src) (res : PR (Nd × Nat)) (e : Ending) (w' : World) : Prop :=
  match res with
  | .ok (x, nodes) n => (∃ A c, e = .returned (.agg #[.int .i64 x.id, .int .i64 x.kind, .string x.text, .slice A x.kids.length c]) ∧ x.kids.length ≤ c ∧ KidsIn (fun b => w.heap.size ≤ b) w' A x.kids) ∧ RdAt w' br B n (-1) ∧ RN w' br bR bN bF nodes ∧ Keep2 br bN w w' ∧ n ≤ B.l.length
  | .fail f => e = .panicked [{ v := .iface 161 (.agg #[.int .i64 (f : Int)]), recovered := false }] ∧ (∃ n, RdAt w' br B n (-1)) ∧ Keep2 br bN w w'
def LPost (w : World) (br bR bN bF : Nat) (B : Src) (res : PR (List Nd × Nat)) (e : Ending) (w' : World) : Prop :=
  match res with
  | .ok (l, nodes) n => (∃ A c, e = .returned (.slice A l.length c) ∧ l.length ≤ c ∧ KidsIn (fun b => w.heap.size ≤ b) w' A l) ∧ RdAt w' br B n (-1) ∧ RN w' br bR bN bF nodes ∧ Keep2 br bN w w' ∧ n ≤ B.l.length
  | .fail f => e = .panicked [{ v := .iface 161 (.agg #[.int .i64 (f : Int)]), recovered := false }] ∧ (∃ n, RdAt w' br B n (-1)) ∧ Keep2 br bN w w'

/-- The closure's contract at one fuel. -/
def NodeC (fuel br bR bN bF : Nat) (B : Src) : Prop := ∀ (d at_ nodes : Nat) (w : World), d + fuel = 41 → nodes ≤ 200 → at_ ≤ B.l.length → RdAt w br B at_ (-1) → RN w br bR bN bF nodes →
  Calls Try.prog 166 #[.int .i64 d, .pointer (some ⟨bR, 0, none⟩), .pointer (some ⟨bN, 0, none⟩), .pointer (some ⟨bF, 0, none⟩)] w (NPost w br bR bN bF B (nodeP B.l fuel at_ nodes))

theorem NPost.trans {w w1 w' : World} {br bR bN bF : Nat} {B : Src} {res : PR (Nd × Nat)} {e : Ending} (k : Keep2 br bN w w1) (h : NPost w1 br bR bN bF B res e w') : NPost w br bR bN bF B res e w' := by
  cases res with
  | ok q n =>
    obtain ⟨x, s⟩ := q
    obtain ⟨⟨A, c, h1, h2, h3⟩, h4, h5, h6, h7⟩ := h
    exact ⟨⟨A, c, h1, h2, h3.mono fun b hb => Nat.le_trans k.size hb⟩, h4, h5, k.trans h6, h7⟩
  | fail f => exact ⟨h.1, h.2.1, k.trans h.2.2⟩

theorem blk1 {w : World} {b : Nat} {c0 : Value} {t : TypeId} (h : w.heap[b]? = some (.cells #[c0] t (0, 0))) : w.cell? ⟨b, 0, none⟩ = some c0 ∧ (∀ j, w.frozen? ⟨b, j, none⟩ = false) := by
  simp [World.cell?, World.frozen?, h]

theorem grown_set {w w0 : World} {b : Nat} (h : w0.grownBy w (some b)) (i : Nat) (v : Value) : w0.grownBy (w.setCell ⟨b, i, none⟩ v) (some b) :=
  ⟨h.os, h.tape, h.output, by simpa [World.setCell] using h.size, fun k hk hne => (Below.heap_setCell _ _ _ _ (fun he => hne (by rw [he]))).trans (h.block k hk hne)⟩
theorem grown_refl (w : World) (row : Option Nat) : w.grownBy w row := ⟨rfl, rfl, rfl, Nat.le_refl _, fun _ _ _ => rfl⟩
theorem put4 {w : World} {b : Nat} {c0 c1 c2 c3 : Value} {t : TypeId} (h : w.heap[b]? = some (.cells #[c0, c1, c2, c3] t (0, 0))) (v0 v1 v2 v3 : Value) :
    ((((w.setCell ⟨b, 0, none⟩ v0).setCell ⟨b, 1, none⟩ v1).setCell ⟨b, 2, none⟩ v2).setCell ⟨b, 3, none⟩ v3).heap[b]? = some (.cells #[v0, v1, v2, v3] t (0, 0)) ∧
    w.grownBy ((((w.setCell ⟨b, 0, none⟩ v0).setCell ⟨b, 1, none⟩ v1).setCell ⟨b, 2, none⟩ v2).setCell ⟨b, 3, none⟩ v3) (some b) := by
  refine ⟨?_, grown_set (grown_set (grown_set (grown_set (grown_refl w _) 0 v0) 1 v1) 2 v2) 3 v3⟩
  have E := setCell_blk (setCell_blk (setCell_blk (setCell_blk h 0 v0) 1 v1) 2 v2) 3 v3
  simpa only [List.setIfInBounds_toArray, List.set] using E

set_option maxRecDepth 100000 in
set_option maxHeartbeats 2000000 in
theorem one_calls (fuel br bR bN bF bD : Nat) (B : Src) (hC : NodeC fuel br bR bN bF B) (d at_ nodes : Nat) (w : World) (hd : d + 1 + fuel = 41) (hn : nodes ≤ 200) (hat : at_ ≤ B.l.length) (hr : RdAt w br B at_ (-1)) (hx : RN w br bR bN bF nodes)
    (hD : w.cell? ⟨bD, 0, none⟩ = some (.int .i64 d)) :
    Calls Try.prog 169 #[.pointer (some ⟨bF, 0, none⟩), .pointer (some ⟨bD, 0, none⟩)] w (NPost w br bR bN bF B (nodeP B.l fuel at_ nodes)) := by
  obtain ⟨f0, fz⟩ := blk1 hx.f
  have e1 : ((d + 1 : Nat) : Int) = (d : Int) + 1 := by omega
  have hb1 : Below w.heap.size w (w.alloc (.cells #[.int .i64 0, .int .i64 0, .string ⟨#[]⟩, .slice none 0 0] 24)) := by go_grown
  have hN := Lib.hid (hC (d + 1) at_ nodes _ hd hn hat (hr.later hb1) (hx.later hb1))
  rw [e1] at hN
  have f0' := cell_keep hb1 f0
  have fD' := cell_keep hb1 hD
  have hnb := alloc_new w (.cells #[.int .i64 0, .int .i64 0, .string ⟨#[]⟩, .slice none 0 0] 24)
  go_enter Try.func169, Try.ntmps169
  go_wp2_with fail
  refine hN.out.mono ?_
  clear hN
  rintro e w1 hp
  have lr := hr.lt
  have lN := (Array.getElem?_eq_some_iff.1 hx.n).1
  cases ht : nodeP B.l fuel at_ nodes with
  | fail f =>
    rw [ht] at hp
    obtain ⟨rfl, h2, h3⟩ := hp
    refine ⟨rfl, ?_⟩
    exact ⟨rfl, h2, (Keep2.below hb1).trans h3⟩
  | ok q n =>
    obtain ⟨x, m⟩ := q
    have HN := Lib.hid ht
    rw [ht] at hp
    clear ht
    obtain ⟨⟨A, c, rfl, hc, hk⟩, h4, h5, h6, h7⟩ := hp
    have hbx := (h6.block w.heap.size (by simp) (by omega) (by omega)).trans hnb
    obtain ⟨g0, g1, g2, g3, gz⟩ := blk4 hbx
    go_wp2
    obtain ⟨E, G⟩ := put4 hbx (.int .i64 x.id) (.int .i64 x.kind) (.string x.text) (.slice A x.kids.length c)
    generalize (((w1.setCell ⟨w.heap.size, 0, none⟩ (.int .i64 x.id)).setCell ⟨w.heap.size, 1, none⟩ (.int .i64 x.kind)).setCell ⟨w.heap.size, 2, none⟩ (.string x.text)).setCell ⟨w.heap.size, 3, none⟩ (.slice A x.kids.length c) = Wf at E G ⊢
    obtain ⟨e0, e1, e2, e3, _⟩ := blk4 E
    refine bodyPost_ret (v := .agg #[.int .i64 x.id, .int .i64 x.kind, .string x.text, .slice A x.kids.length c]) (by simp [results, Try.results169, go_sem, e0, e1, e2, e3]) rfl ?_
    show NPost w br bR bN bF B (nodeP B.l fuel at_ nodes) _ _
    rw [HN.out]
    have K1 := (Keep2.below (br := br) (bN := bN) hb1).trans h6
    have K2 : Keep2 br bN w Wf := K1.row G (fun b hb => by simp at hb; omega)
    refine ⟨⟨A, c, rfl, hc, hk.move fun b hb hlt => ⟨by simp at hb; omega, G.block b hlt (by simp at hb ⊢; omega)⟩⟩, ?_, ?_, K2, h7⟩
    · exact h4.grown G (fun b hb => by simp at hb; omega)
    · exact h5.row G (fun b hb => by have := h5.fn; have := h5.nn; have := h5.rn; have := (Array.getElem?_eq_some_iff.1 hx.f).1; simp at hb; omega)

theorem own_keep {w w' : World} {base : Nat} {e : TypeId} {size n : Nat} {v : Value} {xs : List Value} (h : w.ownsRow base e size v n xs) (hbl : ∀ g, base ≤ g → g < w.heap.size → w'.heap[g]? = w.heap[g]?) : w'.ownsRow base e size v n xs := by
  refine ⟨h.1, ?_⟩
  rcases h.2 with hn | ⟨g, cap, cur, hv, hb, hgg, rest⟩
  · exact .inl hn
  · exact .inr ⟨g, cap, cur, hv, hb, (hbl g hb (Array.getElem?_eq_some_iff.1 hgg).1).trans hgg, rest⟩
/-- One more node behind a row of nodes: two blocks besides let it stand. -/
theorem nd_append2 {wr w2 w3 : World} {base k g cap n : Nat} {e : TypeId} {u : Value} {cells : List Value} {l : List Nd} {x : Nd} {A : Option Addr} {c : Nat} {o : Obj} (hown : wr.ownsRow base e 4 u k cells) (hbase : base ≤ wr.heap.size)
    (hcells : NdCells (fun b => base ≤ b ∧ some b ≠ u.ownBlock) wr l cells) (hs : wr.heap.size ≤ w2.heap.size) (hbr : ∀ b, base ≤ b → b < wr.heap.size → w2.heap[b]? = wr.heap[b]?) (hc : x.kids.length ≤ c) (hk : KidsIn (fun b => wr.heap.size ≤ b) w2 A x.kids)
    (hgrow : (w2.alloc o).grownBy w3 u.ownBlock) (hat : u.ownBlock = some g ∨ g = w2.heap.size + 1) :
    NdCells (fun b => base ≤ b ∧ some b ≠ (Value.slice (some ⟨g, 0, none⟩) n cap).ownBlock) w3 (l ++ [x]) (cells ++ [.int .i64 x.id, .int .i64 x.kind, .string x.text, .slice A x.kids.length c]) := by
  have h23 : ∀ b, b < w2.heap.size → some b ≠ u.ownBlock → w3.heap[b]? = w2.heap[b]? := fun b hb hne => (hgrow.block b (by simp; omega) hne).trans (Below.heap_alloc w2 o b hb)
  refine NdCells.append (hcells.move fun b hS hlt => ⟨⟨hS.1, ?_⟩, (h23 b (by omega) hS.2).trans (hbr b hS.1 hlt)⟩) (.one hc (hk.move fun b hS hlt => ⟨⟨by omega, ?_⟩, h23 b hlt (own_block_lt hown hS)⟩))
  · simp only [Value.ownBlock]
    rcases hat with h | h
    · rw [← h]; exact hS.2
    · simp; omega
  · simp only [Value.ownBlock]
    rcases hat with h | h
    · rw [← h]; exact own_block_lt hown hS
    · simp; omega

theorem LPost_trans {w w1 w' : World} {br bR bN bF : Nat} {B : Src} {res : PR (List Nd × Nat)} {e : Ending} (k : Keep2 br bN w w1) (h : LPost w1 br bR bN bF B res e w') : LPost w br bR bN bF B res e w' := by
  cases res with
  | ok q n =>
    obtain ⟨x, s⟩ := q
    obtain ⟨⟨A, c, h1, h2, h3⟩, h4, h5, h6, h7⟩ := h
    exact ⟨⟨A, c, h1, h2, h3.mono fun b hb => Nat.le_trans k.size hb⟩, h4, h5, k.trans h6, h7⟩
  | fail f => exact ⟨h.1, h.2.1, k.trans h.2.2⟩

set_option maxRecDepth 100000 in
set_option maxHeartbeats 2000000 in
theorem list_calls (fuel br bR bN bF bD : Nat) (B : Src) (hC : NodeC fuel br bR bN bF B) (hNb : ∀ a s x s' m, nodeP B.l fuel a s = .ok (x, s') m → s' ≤ 200) (d n at_ nodes : Nat) (w : World) (hd : d + 1 + fuel = 41) (hn : nodes ≤ 200) (hat : at_ ≤ B.l.length) (hr : RdAt w br B at_ (-1)) (hx : RN w br bR bN bF nodes)
    (hD : w.cell? ⟨bD, 0, none⟩ = some (.int .i64 d)) (hDr : bF < bD) (hnn : n ≤ 1099511627776) :
    Calls Try.prog 168 #[.int .i64 n, .func (.func 169) #[] #[.pointer (some ⟨bF, 0, none⟩), .pointer (some ⟨bD, 0, none⟩)]] w (LPost w br bR bN bF B (listP (fun a s => nodeP B.l fuel a s) n at_ nodes)) := by
  obtain ⟨iN, jN, jN0, jN1, jN2⟩ := info_parts info_Node
  have HC := Lib.hid hC
  have HNb := Lib.hid hNb
  clear hC hNb
  go_enter Try.func168, Try.ntmps168
  go_wp2
  go_loopw [4, 6] (fun v4 v6 wr => ∃ (k : Nat) (cells : List Value) (l : List Nd) (s m : Nat), v6 = .int .i64 k ∧ k ≤ n ∧ wr.ownsRow w.heap.size 24 4 v4 k cells ∧
      NdCells (fun b => w.heap.size ≤ b ∧ some b ≠ v4.ownBlock) wr l cells ∧ Keep2 br bN w wr ∧ RdAt wr br B m (-1) ∧ RN wr br bR bN bF s ∧ listP (fun a s => nodeP B.l fuel a s) k at_ nodes = .ok (l, s) m ∧ m ≤ B.l.length ∧ s ≤ 200) (fun _ v6 _ => n - (intOf v6).toNat)
  case atStart => exact ⟨0, [], [], nodes, at_, rfl, Nat.zero_le _, World.ownsRow_nil _ _ _ _, .nil, Keep2.refl _ _ _, hr, hx, rfl, hat, hn⟩
  case round =>
    obtain ⟨k, cells, l, s, m, rfl, hk, hown, hcells, hK, hrk, hxk, hl, hm, hs⟩ := hrel
    have HL := Lib.hid hl
    clear hl
    by_cases hlt : k < n
    · have g5 : decide (k < n) = true := by simpa using hlt
      have i2 : (k : Int) < (n : Int) := by omega
      have hO := one_calls fuel br bR bN bF bD B HC.out d m s wr hd hs hm hrk hxk (hK.cell hD (by have := hxk.fn; have := hxk.nn; have := hxk.rn; simp only; omega) (by have := hxk.fn; simp only; omega))
      have HO := Lib.hid hO
      clear hO
      go_wp2_with fail
      refine HO.out.mono ?_
      clear HO
      rintro e w2 hp
      cases ht : nodeP B.l fuel m s with
      | fail f =>
        rw [ht] at hp
        obtain ⟨rfl, h2, h3⟩ := hp
        have hF : listP (fun a s => nodeP B.l fuel a s) n at_ nodes = .fail f := listP_fail (k := k + 1) (by rw [listP, HL.out, PR.bind_ok]; simp only; rw [ht]; rfl) n (by omega)
        refine ⟨rfl, ?_⟩
        rw [hF]
        exact ⟨rfl, h2, hK.trans h3⟩
      | ok q m' =>
        obtain ⟨x, s'⟩ := q
        rw [ht] at hp
        obtain ⟨⟨A', c', rfl, hc', hk'⟩, h4, h5, h6, h7⟩ := hp
        have HP : Hid (listP (fun a s => nodeP B.l fuel a s) (k + 1) at_ nodes = .ok (l ++ [x], s') m') := Lib.hid (by rw [listP, HL.out, PR.bind_ok]; simp only; rw [ht]; rfl)
        have hs' := HNb.out _ _ _ _ _ ht
        clear ht
        have lr := hr.lt
        have lN := (Array.getElem?_eq_some_iff.1 hx.n).1
        have lF := (Array.getElem?_eq_some_iff.1 hx.f).1
        have hz3 : w.heap.size ≤ wr.heap.size := hK.size
        have hz4 : wr.heap.size ≤ w2.heap.size := h6.size
        have hbl : ∀ b, w.heap.size ≤ b → b < wr.heap.size → w2.heap[b]? = wr.heap[b]? := fun b hb hlt => h6.block b hlt (by omega) (by omega)
        have hown2 : w2.ownsRow w.heap.size 24 4 u4 k cells := own_keep hown hbl
        have HB := Lib.hid hbl
        clear hbl
        go_wp2_with (at_builtin; go_loud (refine wpList_append_lies _ rfl _ _ _ rfl w.heap.size 24 iN _ 4 56 Try.underlying22 jN jN0 jN1 jN2 rfl (by omega) u4 k cells rfl (hown2.alloc _) ⟨w2.heap.size, 0, none⟩ 1 1 [.int .i64 x.id, .int .i64 x.kind, .string x.text, .slice A' x.kids.length c'] rfl rfl (World.news_of_block (heap_alloc_new w2 _)) (by simp [Value.oneCell']) (by omega) (by unfold maxLen; omega) (by omega) (by simp; omega) (w2.heap.size + 1) (by simp) ?_); intro g cap w3 hown3 hgrow hat hlt3)
        have hro : ∀ b, u4.ownBlock = some b → w.heap.size ≤ b := fun b hb => (hown.lt b hb).1
        go_roundw
        case rel =>
          refine ⟨k + 1, _, l ++ [x], s', m', by go_num, by omega, hown3, ?_, ?_, ?_, ?_, HP.out, h7, hs'⟩
          · exact nd_append2 hown hz3 hcells hz4 HB.out hc' hk' hgrow hat
          · exact (hK.trans (h6.trans (Keep2.below (by go_grown)))).row hgrow hro
          · exact (h4.later (by go_grown)).grown hgrow (fun b hb => by have := hro b hb; omega)
          · exact (h5.later (by go_grown)).row hgrow (fun b hb => by have := hro b hb; omega)
        case measure => simp [intOf]; omega
    · have g5 : decide (k < n) = false := by simpa using hlt
      have hkn : k = n := by omega
      obtain ⟨A9, c9, rfl, hc9, hk9⟩ := KidsIn.of_row hown (hcells.mono (S' := fun b => w.heap.size ≤ b) fun b hb => hb.1) (fun g hg => (hown.lt g hg).1)
      go_wp2
      go_ret
      show LPost w br bR bN bF B _ _ _
      rw [← hkn, HL.out]
      exact ⟨⟨A9, c9, rfl, hc9, hk9⟩, hrk, hxk, hK, hm⟩
end Go.Proofs.Ytimjpkmdphccmaa
