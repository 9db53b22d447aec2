/- code's reader: the asking; its recovery: walks. Printed by gen_ask.py. -/
import Derived.Test.YtimjpkmdphccmaaWS4
import Derived.Test.YtimjpkmdphccmaaProg
import Derived.Test.YtimjpkmdphccmaaWS1
import Derived.Laws.EntriesVeiled
import Derived.Laws.Pointers
import Derived.Defers
import Derived.Recover
import Derived.WalkLawsBesides
import Derived.WalkSpells
import Derived.Tactics
import Derived.Tactics2
import Derived.WalkKit
import Derived.Handy
import Derived.Deep.RegionHeld3
import Derived.Deep.DrawnRows
import Derived.Deep.DeepCutAuto
import Derived.KernelRfl
import Derived.BigRegion
import Derived.BigQuiet
import Derived.Deep.QuietTactic
import Derived.Outline
import Derived.Lib.Hide

namespace Go.Proofs.Ytimjpkmdphccmaa
open Go.RowKit
attribute [local go_sem ↓] Go.wp_at_zero Go.wp_at_succ
set_option linter.unusedVariables false
set_option linter.unusedSimpArgs false

/-- The reader's state: at a place, or stopped. -/
inductive Rst where
  | at (n : Nat)
  | bad (f : Nat)
def RdS (w : World) (br : Nat) (B : Src) : Rst → Prop
  | .at n => RdAt w br B n (-1) ∧ n ≤ B.l.length
  | .bad f => ∃ n, RdAt w br B n f
theorem RdAt.stop {w : World} {br n f : Nat} {B : Src} {b : Int} (h : RdAt w br B n b) : RdAt (w.setCell ⟨br, 2, none⟩ (.int .i64 f)) br B n f := by
  have hG := grown_set (grown_refl w (some br)) 2 (.int .i64 f)
  obtain ⟨h0, h1, h2⟩ := h
  refine ⟨by have := setCell_blk h0 2 (.int .i64 f); simpa only [List.setIfInBounds_toArray, List.set] using this, h1, ?_⟩
  rcases h2 with h2 | ⟨b', o, hA, hlt, h2⟩
  · exact .inl h2
  · exact .inr ⟨b', o, hA, hlt, fun i hi => (World.cell?_of_block (a := ⟨b', o + i, none⟩) (hG.block b' (by have := (Array.getElem?_eq_some_iff.1 h0).1; omega) (by simp; omega))).trans (h2 i hi)⟩
theorem RdS.grown {w w1 : World} {br : Nat} {B : Src} {row : Option Nat} {st : Rst} (h : RdS w br B st) (k : w.grownBy w1 row) (hb : ∀ b, row = some b → br < b) : RdS w1 br B st := by
  cases st with
  | «at» n => exact ⟨h.1.grown k hb, h.2⟩
  | bad f => obtain ⟨n, h⟩ := h; exact ⟨n, h.grown k hb⟩
theorem RdS.later {w w1 : World} {br : Nat} {B : Src} {st : Rst} (h : RdS w br B st) (k : Below w.heap.size w w1) : RdS w1 br B st := h.grown (grown_of_below k none) (fun b hb => by simp at hb)
theorem RdS.lt {w : World} {br : Nat} {B : Src} {st : Rst} (h : RdS w br B st) : br < w.heap.size := by
  cases st with
  | «at» n => exact h.1.lt
  | bad f => obtain ⟨n, h⟩ := h; exact h.lt
def askP {α : Type} (P : Nat → PR α) (z : α) : Rst → α × Rst
  | .at n => match P n with
    | .ok v m => (v, .at m)
    | .fail f => (z, .bad f)
  | .bad f => (z, .bad f)
def AskPost {α : Type} (w : World) (br : Nat) (B : Src) (good : α → Value → World → Prop) (r : α × Rst) (e : Ending) (w' : World) : Prop :=
  ∃ x, e = .returned x ∧ good r.1 x w' ∧ RdS w' br B r.2 ∧ w.grownBy w' (some br)
@[go_sem] theorem assert_fail (v : Value) (w : World) : (Instr.typeAssert (.iface 161 v) 20 161 true).run Try.prog w = .ok (.tuple #[v, .bool true]) w := by kernel_rfl

set_option maxRecDepth 100000 in
set_option maxHeartbeats 2000000 in
theorem ask8_idle (a b : Addr) (w : World) :
    CallsD Try.prog 127 #[.pointer (some a), .pointer (some b)] .returning w fun e u' w' => e = .returned (.tuple #[]) ∧ u' = .returning ∧ w' = w := by
  refine callsD_of_wpS Try.func127 rfl fun c₀ cs hu => ?_
  simp only [Try.ntmps127, List.size_toArray, List.length_cons, List.length_nil, Nat.reduceAdd, Nat.reduceSub, Array.replicate_succ, Array.replicate_zero, List.push_toArray, List.append_toArray, List.nil_append, List.cons_append]
  apply wpS_seq
  apply wpS_region
  simp [wpOpsS, go_sem, recoverD, hu, Exit.thenS]
  apply wpS_seq
  apply wpS_region
  simp [wpOpsS, go_sem, Exit.thenS]
  refine wpS_cond (t := false) (by simp [Act.eval, Array.replicate]) ?_
  simp only [Bool.false_eq_true, if_false]
  refine wpS_of_wp (wp_skip ?_)
  cases c₀
  simp_all [bodyPostS, results, Try.results127]

set_option maxRecDepth 100000 in
set_option maxHeartbeats 2000000 in
theorem ask8_panics (f : Int) (bR br bX : Nat) (tR tX : TypeId) (c0 c1 c2 x : Value) (w : World) (hR : w.heap[bR]? = some (.cells #[.pointer (some ⟨br, 0, none⟩)] tR (0, 0))) (hb : w.heap[br]? = some (.cells #[c0, c1, c2] 145 (0, 0)))
    (hx : w.heap[bX]? = some (.cells #[x] tX (0, 0))) (hne : br < bX) :
    CallsD Try.prog 127 #[.pointer (some ⟨bR, 0, none⟩), .pointer (some ⟨bX, 0, none⟩)] (.panicking [{ v := .iface 161 (.agg #[.int .i64 f]), recovered := false }]) w fun e u' w' =>
      e = .returned (.tuple #[]) ∧ u' = .panicking [{ v := .iface 161 (.agg #[.int .i64 f]), recovered := true }] ∧ w' = (((w.alloc (.cells #[.int .i64 f] 161)).setCell ⟨br, 2, none⟩ (.int .i64 f)).setCell ⟨bX, 0, none⟩ (.int .i8 0)) := by
  obtain ⟨q0, qz⟩ := blk1 (alloc_old hR (.cells #[.int .i64 f] 161))
  obtain ⟨r0, r1, r2, rz⟩ := blk3 (alloc_old hb (.cells #[.int .i64 f] 161))
  obtain ⟨x0, xz⟩ := blk1 (setCell_ne (alloc_old hx (.cells #[.int .i64 f] 161)) (by omega : bX ≠ br) 2 (.int .i64 f))
  refine callsD_of_wpS Try.func127 rfl fun c₀ cs hu => ?_
  simp only [Try.ntmps127, List.size_toArray, List.length_cons, List.length_nil, Nat.reduceAdd, Nat.reduceSub, Array.replicate_succ, Array.replicate_zero, List.push_toArray, List.append_toArray, List.nil_append, List.cons_append]
  apply wpS_seq
  apply wpS_region
  simp [wpOpsS, go_sem, recoverD, hu, Exit.thenS]
  apply wpS_seq
  apply wpS_region
  simp [wpOpsS, go_sem, Exit.thenS]
  refine wpS_cond (t := true) (by simp [Act.eval, Array.replicate]) ?_
  simp only [if_true]
  refine wpS_of_wp ?_
  go_wp2
  cases c₀
  simp_all [bodyPostS, results, Try.results127]

set_option maxRecDepth 100000 in
set_option maxHeartbeats 2000000 in
theorem ask8_calls (br : Nat) (B : Src) (st : Rst) (w : World) (h : RdS w br B st) (hB : B.l.length ≤ 1099511627776) :
    Calls Try.prog 97 #[.pointer (some ⟨br, 0, none⟩), .func (.func 98) #[.pointer (some ⟨br, 0, none⟩)] #[]] w (AskPost w br B (goodI8) (askP (smallP B.l) 0 st)) := by
  have hmf : ∀ (fn : Fn) (first cap : Array Value) (w : World), (Instr.makeFunc fn first cap).run Try.prog w = .ok (.func fn first cap) w := fun _ _ _ _ => rfl
  cases st with
  | bad f =>
    obtain ⟨n, hr⟩ := h
    have hb1 : Below w.heap.size w ((w.alloc (.cells #[.pointer (some ⟨br, 0, none⟩)] 103)).alloc (.cells #[.int .i8 0] 30)) := by go_grown
    obtain ⟨r0, r1, r2, rz⟩ := blk3 (hr.later hb1).1
    have d1 : decide ((0 : Int) ≤ (f : Int)) = true := by simp
    have d2 : decide ((f : Int) ≥ 0) = true := by simp
    go_enter_defers Try.func97, Try.ntmps97
    go_wp2
    have HP : Hid (AskPost w br B (goodI8) (askP (smallP B.l) 0 (Rst.bad f)) (.returned (.int .i8 0)) ((w.alloc (.cells #[.pointer (some ⟨br, 0, none⟩)] 103)).alloc (.cells #[.int .i8 0] 30))) := Lib.hid ⟨_, rfl, rfl, ⟨n, hr.later hb1⟩, grown_of_below hb1 _⟩
    simp only [bodyPostD, Leaves, settle, results, Try.results97]
    simp [go_sem]
    exact HP.out
  | «at» n =>
    obtain ⟨hr, hn⟩ := h
    have lr := hr.lt
    have hb1 : Below w.heap.size w ((w.alloc (.cells #[.pointer (some ⟨br, 0, none⟩)] 103)).alloc (.cells #[.int .i8 0] 30)) := by go_grown
    have hr1 := hr.later hb1
    obtain ⟨r0, r1, r2, rz⟩ := blk3 hr1.1
    have hR := alloc_old (alloc_new w (.cells #[.pointer (some ⟨br, 0, none⟩)] 103)) (.cells #[.int .i8 0] 30)
    have hX := alloc_new1 w (.cells #[.pointer (some ⟨br, 0, none⟩)] 103) (.cells #[.int .i8 0] 30)
    have lX := (Array.getElem?_eq_some_iff.1 hX).1
    have HC := Lib.hid (rsmall_calls br B n _ hr1 hn hB)
    go_enter_defers Try.func97, Try.ntmps97
    go_wp2_with fail
    generalize ((w.alloc (.cells #[.pointer (some ⟨br, 0, none⟩)] 103)).alloc (.cells #[.int .i8 0] 30)) = W1 at hb1 hr1 r0 r1 r2 rz hR hX lX HC ⊢
    refine HC.out.mono ?_
    clear HC r0 r1 r2 rz
    rintro e w2 hp
    rcases hp.split with ⟨f, hf, rfl, ⟨n', hr2⟩, hg⟩ | ⟨v, m, x, hf, rfl, rfl, hr2, hg⟩
    · have hR2 := (hg.block _ (Array.getElem?_eq_some_iff.1 hR).1 (by simp; omega)).trans hR
      have hX2 := (hg.block _ (Array.getElem?_eq_some_iff.1 hX).1 (by simp; omega)).trans hX
      go_wp2
      have hR3 : RdAt (((w2.alloc (.cells #[.int .i64 (f : Int)] 161)).setCell ⟨br, 2, none⟩ (.int .i64 (f : Int))).setCell ⟨w.heap.size + 1, 0, none⟩ (.int .i8 0)) br B n' f := (RdAt.stop (hr2.later (by go_grown))).grown (grown_set (grown_refl _ (some (w.heap.size + 1))) 0 (.int .i8 0)) (fun b hb => by simp at hb; omega)
      have hG3 : w.grownBy (((w2.alloc (.cells #[.int .i64 (f : Int)] 161)).setCell ⟨br, 2, none⟩ (.int .i64 (f : Int))).setCell ⟨w.heap.size + 1, 0, none⟩ (.int .i8 0)) (some br) :=
        grown_step (grown_set (grown_step (grown_step (grown_of_below hb1 (some br)) hg (.inl rfl)) (grown_of_below (by go_grown) (some br)) (.inl rfl)) 2 _) (grown_set (grown_refl _ (some (w.heap.size + 1))) 0 (.int .i8 0)) (.inr fun b hb => by simp at hb; omega)
      obtain ⟨e0, _⟩ := blk1 (setCell_blk (setCell_ne (alloc_old hX2 (.cells #[.int .i64 (f : Int)] 161)) (by omega : w.heap.size + 1 ≠ br) 2 (.int .i64 (f : Int))) 0 (.int .i8 0))
      refine leaves_cons (f := 127) (args := #[.pointer (some ⟨w.heap.size, 0, none⟩), .pointer (some ⟨w.heap.size + 1, 0, none⟩)]) (by simp) (by simp [go_sem]) ?_
      refine (ask8_panics f w.heap.size br (w.heap.size + 1) _ _ _ _ _ _ w2 hR2 hr2.1 hX2 (by omega)).mono ?_
      rintro e u' w'' ⟨rfl, rfl, rfl⟩
      have HP : Hid (AskPost w br B (goodI8) (askP (smallP B.l) 0 (Rst.at n)) (.returned (.int .i8 0)) _) := Lib.hid ⟨_, rfl, by rw [askP, hf]; exact rfl, by rw [askP, hf]; exact ⟨n', hR3⟩, hG3⟩
      simp [Leaves, settle, results, Try.results97, go_sem, e0]
      exact HP.out
    · have hX2 := (hg.block _ (Array.getElem?_eq_some_iff.1 hX).1 (by simp; omega)).trans hX
      obtain ⟨x0, xz⟩ := blk1 hX2
      go_wp2
      refine leaves_cons (f := 127) (args := #[.pointer (some ⟨w.heap.size, 0, none⟩), .pointer (some ⟨w.heap.size + 1, 0, none⟩)]) (by simp) (by simp [go_sem]) ?_
      refine (ask8_idle _ _ _).mono ?_
      rintro e u' w'' ⟨rfl, rfl, rfl⟩
      have hR3 : RdAt (w2.setCell ⟨w.heap.size + 1, 0, none⟩ (.int .i8 v)) br B m (-1) := hr2.grown (grown_set (grown_refl _ (some (w.heap.size + 1))) 0 (.int .i8 v)) (fun b hb => by simp at hb; omega)
      have hG3 : w.grownBy (w2.setCell ⟨w.heap.size + 1, 0, none⟩ (.int .i8 v)) (some br) :=
        grown_step (grown_step (grown_of_below hb1 (some br)) hg (.inl rfl)) (grown_set (grown_refl _ (some (w.heap.size + 1))) 0 (.int .i8 v)) (.inr fun b hb => by simp at hb; omega)
      have hbl : ∀ b, b < w2.heap.size → b ≠ w.heap.size + 1 → (w2.setCell ⟨w.heap.size + 1, 0, none⟩ (.int .i8 v)).heap[b]? = w2.heap[b]? := fun b hb hne => (grown_set (grown_refl w2 (some (w.heap.size + 1))) 0 (.int .i8 v)).block b hb (by simpa using hne)
      obtain ⟨e0, _⟩ := blk1 (setCell_blk hX2 0 (.int .i8 v))
      have HP : Hid (AskPost w br B (goodI8) (askP (smallP B.l) 0 (Rst.at n)) (.returned (.int .i8 v)) _) := Lib.hid ⟨_, rfl, by rw [askP, hf]; exact rfl, by rw [askP, hf]; exact ⟨hR3, smallP_ok hf⟩, hG3⟩
      simp only [Leaves, settle, results, Try.results97]
      simp [go_sem, e0]
      exact HP.out

set_option maxRecDepth 100000 in
set_option maxHeartbeats 2000000 in
theorem Small_calls (br : Nat) (B : Src) (st : Rst) (w : World) (h : RdS w br B st) (hB : B.l.length ≤ 1099511627776) :
    Calls Try.prog 62 #[.pointer (some ⟨br, 0, none⟩)] w (AskPost w br B (goodI8) (askP (smallP B.l) 0 st)) := by
  go_enter Try.func62, Try.ntmps62
  go_wp2_with fail
  refine (ask8_calls br B st w h hB).mono ?_
  rintro e w1 ⟨x, rfl, hx, hr, hg⟩
  go_wp2
  go_ret
  exact ⟨x, rfl, hx, hr, hg⟩

end Go.Proofs.Ytimjpkmdphccmaa

/- code's reader: the asking; its recovery: walks. Printed by gen_ask.py. -/
namespace Go.Proofs.Ytimjpkmdphccmaa
open Go.RowKit
attribute [local go_sem ↓] Go.wp_at_zero Go.wp_at_succ
set_option linter.unusedVariables false
set_option linter.unusedSimpArgs false

set_option maxRecDepth 100000 in
set_option maxHeartbeats 2000000 in
theorem askS_idle (a b : Addr) (w : World) :
    CallsD Try.prog 170 #[.pointer (some a), .pointer (some b)] .returning w fun e u' w' => e = .returned (.tuple #[]) ∧ u' = .returning ∧ w' = w := by
  refine callsD_of_wpS Try.func170 rfl fun c₀ cs hu => ?_
  simp only [Try.ntmps170, List.size_toArray, List.length_cons, List.length_nil, Nat.reduceAdd, Nat.reduceSub, Array.replicate_succ, Array.replicate_zero, List.push_toArray, List.append_toArray, List.nil_append, List.cons_append]
  apply wpS_seq
  apply wpS_region
  simp [wpOpsS, go_sem, recoverD, hu, Exit.thenS]
  apply wpS_seq
  apply wpS_region
  simp [wpOpsS, go_sem, Exit.thenS]
  refine wpS_cond (t := false) (by simp [Act.eval, Array.replicate]) ?_
  simp only [Bool.false_eq_true, if_false]
  refine wpS_of_wp (wp_skip ?_)
  cases c₀
  simp_all [bodyPostS, results, Try.results170]

set_option maxRecDepth 100000 in
set_option maxHeartbeats 2000000 in
theorem askS_panics (f : Int) (bR br bX : Nat) (tR tX : TypeId) (c0 c1 c2 x : Value) (w : World) (hR : w.heap[bR]? = some (.cells #[.pointer (some ⟨br, 0, none⟩)] tR (0, 0))) (hb : w.heap[br]? = some (.cells #[c0, c1, c2] 145 (0, 0)))
    (hx : w.heap[bX]? = some (.cells #[x] tX (0, 0))) (hne : br < bX) :
    CallsD Try.prog 170 #[.pointer (some ⟨bR, 0, none⟩), .pointer (some ⟨bX, 0, none⟩)] (.panicking [{ v := .iface 161 (.agg #[.int .i64 f]), recovered := false }]) w fun e u' w' =>
      e = .returned (.tuple #[]) ∧ u' = .panicking [{ v := .iface 161 (.agg #[.int .i64 f]), recovered := true }] ∧ w' = (((w.alloc (.cells #[.int .i64 f] 161)).setCell ⟨br, 2, none⟩ (.int .i64 f)).setCell ⟨bX, 0, none⟩ (.slice none 0 0)) := by
  obtain ⟨q0, qz⟩ := blk1 (alloc_old hR (.cells #[.int .i64 f] 161))
  obtain ⟨r0, r1, r2, rz⟩ := blk3 (alloc_old hb (.cells #[.int .i64 f] 161))
  obtain ⟨x0, xz⟩ := blk1 (setCell_ne (alloc_old hx (.cells #[.int .i64 f] 161)) (by omega : bX ≠ br) 2 (.int .i64 f))
  refine callsD_of_wpS Try.func170 rfl fun c₀ cs hu => ?_
  simp only [Try.ntmps170, List.size_toArray, List.length_cons, List.length_nil, Nat.reduceAdd, Nat.reduceSub, Array.replicate_succ, Array.replicate_zero, List.push_toArray, List.append_toArray, List.nil_append, List.cons_append]
  apply wpS_seq
  apply wpS_region
  simp [wpOpsS, go_sem, recoverD, hu, Exit.thenS]
  apply wpS_seq
  apply wpS_region
  simp [wpOpsS, go_sem, Exit.thenS]
  refine wpS_cond (t := true) (by simp [Act.eval, Array.replicate]) ?_
  simp only [if_true]
  refine wpS_of_wp ?_
  go_wp2
  cases c₀
  simp_all [bodyPostS, results, Try.results170]

def goodRow (w : World) (l : List Stp) (v : Value) (w' : World) : Prop := ∃ A c, v = .slice A l.length c ∧ l.length ≤ c ∧ StepsIn (fun b => w.heap.size ≤ b) w' A l
def stepsQ (B : List UInt8) (n : Nat) : PR (List Stp × Unit) := stepsP B n
theorem stepsP_ok {B : List UInt8} {at_ m : Nat} {q : List Stp × Unit} (h : stepsP B at_ = .ok q m) : m ≤ B.length := by
  rw [stepsP] at h
  cases h1 : countP B at_ 57 60 with
  | fail f => rw [h1] at h; cases h
  | ok n a1 =>
    rw [h1, PR.bind_ok] at h
    have hc := (countP_ok h1).2.1
    clear h1
    revert h
    have : ∀ k a q m, a ≤ B.length → listP (oneStep B) k a () = .ok q m → m ≤ B.length := by
      intro k
      induction k with
      | zero => intro a q m ha h; injection h with h1 h2; rw [← h2]; exact ha
      | succ k ih =>
        intro a q m ha h
        rw [listP] at h
        cases h5 : listP (oneStep B) k a () with
        | fail f => rw [h5] at h; cases h
        | ok r b =>
          rw [h5, PR.bind_ok] at h
          simp only [oneStep] at h
          cases h6 : stepP B b with
          | fail f => rw [h6] at h; cases h
          | ok s b' =>
            rw [h6] at h
            injection h with h7 h8
            rw [← h8]
            exact stepP_ok h6
    exact this _ _ _ _ hc

set_option maxRecDepth 100000 in
set_option maxHeartbeats 2000000 in
theorem askS_calls (br : Nat) (B : Src) (st : Rst) (bQ : Nat) (w : World) (h : RdS w br B st) (hB : B.l.length ≤ 1099511627776) (hQ : w.cell? ⟨bQ, 0, none⟩ = some (.pointer (some ⟨br, 0, none⟩))) (hbQ : br < bQ) :
    Calls Try.prog 154 #[.pointer (some ⟨br, 0, none⟩), .func (.func 155) #[] #[.pointer (some ⟨bQ, 0, none⟩)]] w (AskPost w br B (goodSts w) (askP (stepsP B.l) ([], ()) st)) := by
  have hmf : ∀ (fn : Fn) (first cap : Array Value) (w : World), (Instr.makeFunc fn first cap).run Try.prog w = .ok (.func fn first cap) w := fun _ _ _ _ => rfl
  cases st with
  | bad f =>
    obtain ⟨n, hr⟩ := h
    have hb1 : Below w.heap.size w ((w.alloc (.cells #[.pointer (some ⟨br, 0, none⟩)] 103)).alloc (.cells #[.slice none 0 0] 25)) := by go_grown
    obtain ⟨r0, r1, r2, rz⟩ := blk3 (hr.later hb1).1
    have d1 : decide ((0 : Int) ≤ (f : Int)) = true := by simp
    have d2 : decide ((f : Int) ≥ 0) = true := by simp
    go_enter_defers Try.func154, Try.ntmps154
    go_wp2
    have HP : Hid (AskPost w br B (goodSts w) (askP (stepsP B.l) ([], ()) (Rst.bad f)) (.returned (.slice none 0 0)) ((w.alloc (.cells #[.pointer (some ⟨br, 0, none⟩)] 103)).alloc (.cells #[.slice none 0 0] 25))) := Lib.hid ⟨_, rfl, (⟨none, 0, rfl, Nat.le_refl _, .inl rfl⟩ : goodSts w ([], ()) (.slice none 0 0) _), ⟨n, hr.later hb1⟩, grown_of_below hb1 _⟩
    simp only [bodyPostD, Leaves, settle, results, Try.results154]
    simp [go_sem]
    exact HP.out
  | «at» n =>
    obtain ⟨hr, hn⟩ := h
    have lr := hr.lt
    have hb1 : Below w.heap.size w ((w.alloc (.cells #[.pointer (some ⟨br, 0, none⟩)] 103)).alloc (.cells #[.slice none 0 0] 25)) := by go_grown
    have hr1 := hr.later hb1
    obtain ⟨r0, r1, r2, rz⟩ := blk3 hr1.1
    have hR := alloc_old (alloc_new w (.cells #[.pointer (some ⟨br, 0, none⟩)] 103)) (.cells #[.slice none 0 0] 25)
    have hX := alloc_new1 w (.cells #[.pointer (some ⟨br, 0, none⟩)] 103) (.cells #[.slice none 0 0] 25)
    have lX := (Array.getElem?_eq_some_iff.1 hX).1
    have HC := Lib.hid (steps1_calls br bQ B n _ hr1 hn hB (cell_keep hb1 hQ) hbQ)
    go_enter_defers Try.func154, Try.ntmps154
    go_wp2_with fail
    generalize ((w.alloc (.cells #[.pointer (some ⟨br, 0, none⟩)] 103)).alloc (.cells #[.slice none 0 0] 25)) = W1 at hb1 hr1 r0 r1 r2 rz hR hX lX HC ⊢
    refine HC.out.mono ?_
    clear HC r0 r1 r2 rz
    rintro e w2 hp
    rcases hp.split with ⟨f, hf, rfl, ⟨n', hr2⟩, hg⟩ | ⟨v, m, x, hf, rfl, ⟨A, c, rfl, hc, hk⟩, hr2, hg⟩
    · have hR2 := (hg.block _ (Array.getElem?_eq_some_iff.1 hR).1 (by simp; omega)).trans hR
      have hX2 := (hg.block _ (Array.getElem?_eq_some_iff.1 hX).1 (by simp; omega)).trans hX
      go_wp2
      have hR3 : RdAt (((w2.alloc (.cells #[.int .i64 (f : Int)] 161)).setCell ⟨br, 2, none⟩ (.int .i64 (f : Int))).setCell ⟨w.heap.size + 1, 0, none⟩ (.slice none 0 0)) br B n' f := (RdAt.stop (hr2.later (by go_grown))).grown (grown_set (grown_refl _ (some (w.heap.size + 1))) 0 (.slice none 0 0)) (fun b hb => by simp at hb; omega)
      have hG3 : w.grownBy (((w2.alloc (.cells #[.int .i64 (f : Int)] 161)).setCell ⟨br, 2, none⟩ (.int .i64 (f : Int))).setCell ⟨w.heap.size + 1, 0, none⟩ (.slice none 0 0)) (some br) :=
        grown_step (grown_set (grown_step (grown_step (grown_of_below hb1 (some br)) hg (.inl rfl)) (grown_of_below (by go_grown) (some br)) (.inl rfl)) 2 _) (grown_set (grown_refl _ (some (w.heap.size + 1))) 0 (.slice none 0 0)) (.inr fun b hb => by simp at hb; omega)
      obtain ⟨e0, _⟩ := blk1 (setCell_blk (setCell_ne (alloc_old hX2 (.cells #[.int .i64 (f : Int)] 161)) (by omega : w.heap.size + 1 ≠ br) 2 (.int .i64 (f : Int))) 0 (.slice none 0 0))
      refine leaves_cons (f := 170) (args := #[.pointer (some ⟨w.heap.size, 0, none⟩), .pointer (some ⟨w.heap.size + 1, 0, none⟩)]) (by simp) (by simp [go_sem]) ?_
      refine (askS_panics f w.heap.size br (w.heap.size + 1) _ _ _ _ _ _ w2 hR2 hr2.1 hX2 (by omega)).mono ?_
      rintro e u' w'' ⟨rfl, rfl, rfl⟩
      have HP : Hid (AskPost w br B (goodSts w) (askP (stepsP B.l) ([], ()) (Rst.at n)) (.returned (.slice none 0 0)) _) := Lib.hid ⟨_, rfl, by rw [askP, hf]; exact (⟨none, 0, rfl, Nat.le_refl _, .inl rfl⟩ : goodSts w ([], ()) (.slice none 0 0) _), by rw [askP, hf]; exact ⟨n', hR3⟩, hG3⟩
      simp [Leaves, settle, results, Try.results154, go_sem, e0]
      exact HP.out
    · have hX2 := (hg.block _ (Array.getElem?_eq_some_iff.1 hX).1 (by simp; omega)).trans hX
      obtain ⟨x0, xz⟩ := blk1 hX2
      go_wp2
      refine leaves_cons (f := 170) (args := #[.pointer (some ⟨w.heap.size, 0, none⟩), .pointer (some ⟨w.heap.size + 1, 0, none⟩)]) (by simp) (by simp [go_sem]) ?_
      refine (askS_idle _ _ _).mono ?_
      rintro e u' w'' ⟨rfl, rfl, rfl⟩
      have hR3 : RdAt (w2.setCell ⟨w.heap.size + 1, 0, none⟩ (.slice A v.1.length c)) br B m (-1) := hr2.grown (grown_set (grown_refl _ (some (w.heap.size + 1))) 0 (.slice A v.1.length c)) (fun b hb => by simp at hb; omega)
      have hG3 : w.grownBy (w2.setCell ⟨w.heap.size + 1, 0, none⟩ (.slice A v.1.length c)) (some br) :=
        grown_step (grown_step (grown_of_below hb1 (some br)) hg (.inl rfl)) (grown_set (grown_refl _ (some (w.heap.size + 1))) 0 (.slice A v.1.length c)) (.inr fun b hb => by simp at hb; omega)
      have hbl : ∀ b, b < w2.heap.size → b ≠ w.heap.size + 1 → (w2.setCell ⟨w.heap.size + 1, 0, none⟩ (.slice A v.1.length c)).heap[b]? = w2.heap[b]? := fun b hb hne => (grown_set (grown_refl w2 (some (w.heap.size + 1))) 0 (.slice A v.1.length c)).block b hb (by simpa using hne)
      obtain ⟨e0, _⟩ := blk1 (setCell_blk hX2 0 (.slice A v.1.length c))
      have HP : Hid (AskPost w br B (goodSts w) (askP (stepsP B.l) ([], ()) (Rst.at n)) (.returned (.slice A v.1.length c)) _) := Lib.hid ⟨_, rfl, by rw [askP, hf]; exact ⟨A, c, rfl, hc, hk.move fun b hb hlt => ⟨by omega, hbl b hlt (by omega)⟩⟩, by rw [askP, hf]; exact ⟨hR3, stepsP_ok hf⟩, hG3⟩
      simp only [Leaves, settle, results, Try.results154]
      simp [go_sem, e0]
      exact HP.out

set_option maxRecDepth 100000 in
set_option maxHeartbeats 2000000 in
theorem RSteps_calls (br : Nat) (B : Src) (st : Rst) (w : World) (h : RdS w br B st) (hB : B.l.length ≤ 1099511627776) :
    Calls Try.prog 133 #[.pointer (some ⟨br, 0, none⟩)] w (AskPost w br B (goodSts w) (askP (stepsP B.l) ([], ()) st)) := by
  have hb1 : Below w.heap.size w (w.alloc (.cells #[.pointer (some ⟨br, 0, none⟩)] 103)) := by go_grown
  have hq := (blk1 (alloc_new w (.cells #[.pointer (some ⟨br, 0, none⟩)] 103))).1
  have HC := Lib.hid (askS_calls br B st w.heap.size _ (h.later hb1) hB hq h.lt)
  have hmf : ∀ (fn : Fn) (first cap : Array Value) (w : World), (Instr.makeFunc fn first cap).run Try.prog w = .ok (.func fn first cap) w := fun _ _ _ _ => rfl
  go_enter Try.func133, Try.ntmps133
  go_wp2_with fail
  refine HC.out.mono ?_
  rintro e w1 ⟨x, rfl, hx, hr, hg⟩
  go_wp2
  go_ret
  obtain ⟨A, c, rfl, hc, hk⟩ := hx
  exact ⟨_, rfl, ⟨A, c, rfl, hc, hk.mono fun b hb => by simp at hb; omega⟩, hr, grown_step (grown_of_below hb1 _) hg (.inl rfl)⟩

end Go.Proofs.Ytimjpkmdphccmaa

/- What is read is the bytes that stood there, and what was written is read as it was: plain laws of the reader. -/
namespace Go.Proofs.Ytimjpkmdphccmaa
open Go.RowKit

/-- The bytes from a to b. -/
def seg (B : List UInt8) (a b : Nat) : List UInt8 := (B.drop a).take (b - a)
theorem seg_self (B : List UInt8) (a : Nat) : seg B a a = [] := by simp [seg]
theorem seg_app {B : List UInt8} {a b c : Nat} (h : a ≤ b) (h' : b ≤ c) : seg B a b ++ seg B b c = seg B a c := by
  unfold seg
  have e : B.drop b = (B.drop a).drop (b - a) := by rw [List.drop_drop]; congr 1; omega
  rw [e, show c - a = (b - a) + (c - b) by omega, List.take_add]
theorem seg_len {B : List UInt8} {a b : Nat} (h : b ≤ B.length) : (seg B a b).length = b - a := by simp [seg]; omega

theorem i64_parts (f : Int) (h0 : 0 ≤ f) (h1 : f < 18446744073709551616) : -9223372036854775808 ≤ toI64 f ∧ toI64 f ≤ 9223372036854775807 ∧ toI64 f % 18446744073709551616 = f := by
  rw [toI64]
  split <;> omega

theorem fold8 (x0 x1 x2 x3 x4 x5 x6 x7 : UInt8) : foldB [x0, x1, x2, x3, x4, x5, x6, x7] = (x0.toNat : Int) * 72057594037927936 + (x1.toNat : Int) * 281474976710656 + (x2.toNat : Int) * 1099511627776 + (x3.toNat : Int) * 4294967296 + (x4.toNat : Int) * 16777216 + (x5.toNat : Int) * 65536 + (x6.toNat : Int) * 256 + (x7.toNat : Int) := by
  have h0 := x0.toNat_lt; have h1 := x1.toNat_lt; have h2 := x2.toNat_lt; have h3 := x3.toNat_lt; have h4 := x4.toNat_lt; have h5 := x5.toNat_lt; have h6 := x6.toNat_lt; have h7 := x7.toNat_lt
  simp only [foldB, List.foldl]
  generalize x0.toNat = a0 at *
  generalize x1.toNat = a1 at *
  generalize x2.toNat = a2 at *
  generalize x3.toNat = a3 at *
  generalize x4.toNat = a4 at *
  generalize x5.toNat = a5 at *
  generalize x6.toNat = a6 at *
  generalize x7.toNat = a7 at *
  have e0 : ((0 : Int) * 256 % 18446744073709551616 + (a0 : Int)) = a0 := by omega
  rw [e0]
  have e1 : ((a0 : Int) * 256 % 18446744073709551616 + (a1 : Int)) = a0 * 256 + a1 := by omega
  rw [e1]
  have e2 : (((a0 : Int) * 256 + a1) * 256 % 18446744073709551616 + (a2 : Int)) = a0 * 65536 + a1 * 256 + a2 := by omega
  rw [e2]
  have e3 : (((a0 : Int) * 65536 + a1 * 256 + a2) * 256 % 18446744073709551616 + (a3 : Int)) = a0 * 16777216 + a1 * 65536 + a2 * 256 + a3 := by omega
  rw [e3]
  have e4 : (((a0 : Int) * 16777216 + a1 * 65536 + a2 * 256 + a3) * 256 % 18446744073709551616 + (a4 : Int)) = a0 * 4294967296 + a1 * 16777216 + a2 * 65536 + a3 * 256 + a4 := by omega
  rw [e4]
  have e5 : (((a0 : Int) * 4294967296 + a1 * 16777216 + a2 * 65536 + a3 * 256 + a4) * 256 % 18446744073709551616 + (a5 : Int)) = a0 * 1099511627776 + a1 * 4294967296 + a2 * 16777216 + a3 * 65536 + a4 * 256 + a5 := by omega
  rw [e5]
  have e6 : (((a0 : Int) * 1099511627776 + a1 * 4294967296 + a2 * 16777216 + a3 * 65536 + a4 * 256 + a5) * 256 % 18446744073709551616 + (a6 : Int)) = a0 * 281474976710656 + a1 * 1099511627776 + a2 * 4294967296 + a3 * 16777216 + a4 * 65536 + a5 * 256 + a6 := by omega
  rw [e6]
  omega

theorem list8 {l : List UInt8} (h : l.length = 8) : ∃ x0 x1 x2 x3 x4 x5 x6 x7, l = [x0, x1, x2, x3, x4, x5, x6, x7] := by
  match l, h with
  | [x0, x1, x2, x3, x4, x5, x6, x7], _ => exact ⟨_, _, _, _, _, _, _, _, rfl⟩

theorem numBit_of (n : Int) (i : Nat) (x : UInt8) (h : (n % 18446744073709551616).toNat / 2 ^ (56 - 8 * i) % 256 = x.toNat) : numBit n i = x := by
  apply UInt8.toNat_inj.1
  rw [numBit, UInt8.toNat_ofNat', ← h]
theorem digits8 (q a0 a1 a2 a3 a4 a5 a6 a7 : Nat) (h0 : a0 < 256) (h1 : a1 < 256) (h2 : a2 < 256) (h3 : a3 < 256) (h4 : a4 < 256) (h5 : a5 < 256) (h6 : a6 < 256) (h7 : a7 < 256)
    (hq : q = a0 * 72057594037927936 + a1 * 281474976710656 + a2 * 1099511627776 + a3 * 4294967296 + a4 * 16777216 + a5 * 65536 + a6 * 256 + a7) :
    q / 72057594037927936 % 256 = a0 ∧ q / 281474976710656 % 256 = a1 ∧ q / 1099511627776 % 256 = a2 ∧ q / 4294967296 % 256 = a3 ∧ q / 16777216 % 256 = a4 ∧ q / 65536 % 256 = a5 ∧ q / 256 % 256 = a6 ∧ q % 256 = a7 := by
  refine ⟨?_, ?_, ?_, ?_, ?_, ?_, ?_, ?_⟩ <;> omega
/-- Eight bytes, read as a number and written again. -/
theorem numB_fold {l : List UInt8} (h : l.length = 8) : numB (toI64 (foldB l)) = l := by
  have hr := foldB_range l
  obtain ⟨_, _, hm⟩ := i64_parts _ hr.1 hr.2
  obtain ⟨x0, x1, x2, x3, x4, x5, x6, x7, rfl⟩ := list8 h
  have hf := fold8 x0 x1 x2 x3 x4 x5 x6 x7
  generalize foldB [x0, x1, x2, x3, x4, x5, x6, x7] = f at hr hm hf ⊢
  obtain ⟨q, rfl⟩ := Int.eq_ofNat_of_zero_le hr.1
  obtain ⟨d0, d1, d2, d3, d4, d5, d6, d7⟩ := digits8 q _ _ _ _ _ _ _ _ x0.toNat_lt x1.toNat_lt x2.toNat_lt x3.toNat_lt x4.toNat_lt x5.toNat_lt x6.toNat_lt x7.toNat_lt (by omega)
  have hq : (toI64 (q : Int) % 18446744073709551616).toNat = q := by rw [hm]; rfl
  have e : numB (toI64 (q : Int)) = [numBit (toI64 (q : Int)) 0, numBit (toI64 (q : Int)) 1, numBit (toI64 (q : Int)) 2, numBit (toI64 (q : Int)) 3, numBit (toI64 (q : Int)) 4, numBit (toI64 (q : Int)) 5, numBit (toI64 (q : Int)) 6, numBit (toI64 (q : Int)) 7] := rfl
  rw [e]
  generalize toI64 (q : Int) = n at hq ⊢
  rw [numBit_of n 0 x0 (by rw [hq]; simpa using d0), numBit_of n 1 x1 (by rw [hq]; simpa using d1), numBit_of n 2 x2 (by rw [hq]; simpa using d2), numBit_of n 3 x3 (by rw [hq]; simpa using d3), numBit_of n 4 x4 (by rw [hq]; simpa using d4),
    numBit_of n 5 x5 (by rw [hq]; simpa using d5), numBit_of n 6 x6 (by rw [hq]; simpa using d6), numBit_of n 7 x7 (by rw [hq]; simpa using d7)]
theorem fold_numB (n : Int) (h0 : -9223372036854775808 ≤ n) (h1 : n ≤ 9223372036854775807) : toI64 (foldB (numB n)) = n := by
  have e : numB n = [numBit n 0, numBit n 1, numBit n 2, numBit n 3, numBit n 4, numBit n 5, numBit n 6, numBit n 7] := rfl
  rw [e, fold8]
  simp only [numBit, UInt8.toNat_ofNat', Nat.reduceMul, Nat.reduceSub, Nat.reducePow]
  have hm0 : 0 ≤ n % 18446744073709551616 := Int.emod_nonneg _ (by decide)
  have hm1 : n % 18446744073709551616 < 18446744073709551616 := Int.emod_lt_of_pos _ (by decide)
  have hm : n % 18446744073709551616 = if n < 0 then n + 18446744073709551616 else n := by split <;> omega
  obtain ⟨m, hmm⟩ : ∃ m : Nat, n % 18446744073709551616 = (m : Int) := ⟨_, (Int.toNat_of_nonneg hm0).symm⟩
  rw [hmm] at hm hm1 ⊢
  rw [Int.toNat_natCast]
  have k1 : m / 281474976710656 = m / 72057594037927936 * 256 + m / 281474976710656 % 256 := by omega
  have k2 : m / 1099511627776 = m / 281474976710656 * 256 + m / 1099511627776 % 256 := by omega
  have k3 : m / 4294967296 = m / 1099511627776 * 256 + m / 4294967296 % 256 := by omega
  have k4 : m / 16777216 = m / 4294967296 * 256 + m / 16777216 % 256 := by omega
  have k5 : m / 65536 = m / 16777216 * 256 + m / 65536 % 256 := by omega
  have k6 : m / 256 = m / 65536 * 256 + m / 256 % 256 := by omega
  have k7 : m = m / 256 * 256 + m % 256 := by omega
  have k0 : m / 72057594037927936 % 256 = m / 72057594037927936 := by omega
  have hs : (((m / 72057594037927936 % 256 : Nat) : Int) * 72057594037927936 + ((m / 281474976710656 % 256 : Nat) : Int) * 281474976710656 + ((m / 1099511627776 % 256 : Nat) : Int) * 1099511627776 + ((m / 4294967296 % 256 : Nat) : Int) * 4294967296 + ((m / 16777216 % 256 : Nat) : Int) * 16777216 + ((m / 65536 % 256 : Nat) : Int) * 65536 + ((m / 256 % 256 : Nat) : Int) * 256 + ((m / 1 % 256 : Nat) : Int)) = (m : Int) := by
    rw [Nat.div_one]
    generalize m / 72057594037927936 = q0 at *
    generalize m / 281474976710656 = q1 at *
    generalize m / 1099511627776 = q2 at *
    generalize m / 4294967296 = q3 at *
    generalize m / 16777216 = q4 at *
    generalize m / 65536 = q5 at *
    generalize m / 256 = q6 at *
    omega
  rw [hs, toI64]
  split at hm <;> split <;> omega

/- What is read is what stood there. -/
theorem takeP_seg {B l : List UInt8} {a n m : Nat} (h : takeP B a n = .ok l m) : m = a + n ∧ m ≤ B.length ∧ l = seg B a m ∧ l.length = n := by
  obtain ⟨h1, h2, h3, h4⟩ := takeP_ok h
  exact ⟨h2, h3, by rw [h4, seg, h2, Nat.add_sub_cancel_left], h1⟩
theorem numberP_seg {B : List UInt8} {a m : Nat} {v : Int} (h : numberP B a = .ok v m) : m = a + 8 ∧ m ≤ B.length ∧ seg B a m = numB v ∧ -9223372036854775808 ≤ v ∧ v ≤ 9223372036854775807 := by
  rw [numberP] at h
  cases ht : takeP B a 8 with
  | fail f => rw [ht] at h; cases h
  | ok l n =>
    rw [ht, PR.bind_ok] at h
    obtain ⟨h1, h2, h3, h4⟩ := takeP_seg ht
    injection h with h5 h6
    subst h5; subst h6
    have hr := foldB_range l
    obtain ⟨p1, p2, _⟩ := i64_parts _ hr.1 hr.2
    exact ⟨h1, h2, by rw [numB_fold h4, h3], p1, p2⟩
theorem countP_seg {B : List UInt8} {a size most n m : Nat} (h : countP B a size most = .ok n m) : m = a + 8 ∧ m ≤ B.length ∧ seg B a m = numB n ∧ n ≤ most ∧ n * size ≤ B.length - m := by
  have hc := countP_ok h
  rw [countP] at h
  cases ht : numberP B a with
  | fail f => rw [ht] at h; cases h
  | ok v k =>
    rw [ht, PR.bind_ok] at h
    have hs := numberP_seg ht
    split at h
    · cases h
    · rename_i hn
      injection h with h1 h2
      subst h2
      refine ⟨hs.1, hs.2.1, ?_, hc.2.2⟩
      rw [hs.2.2.1, ← h1]
      congr 1
      omega
theorem textP_seg {B : List UInt8} {a m : Nat} {s : ByteArray} (h : textP B a = .ok s m) : m = a + 8 + s.size ∧ m ≤ B.length ∧ seg B a m = textB s := by
  have ht := textP_ok h
  refine ⟨ht.2.1, ht.1, ?_⟩
  rw [textP] at h
  cases hc : countP B a 1 B.length with
  | fail f => rw [hc] at h; cases h
  | ok n k =>
    rw [hc, PR.bind_ok] at h
    cases hk : takeP B k n with
    | fail f => rw [hk] at h; cases h
    | ok l j =>
      rw [hk, PR.bind_ok] at h
      injection h with h1 h2
      subst h1; subst h2
      obtain ⟨c1, c2, c3, c4, c5⟩ := countP_seg hc
      obtain ⟨t1, t2, t3, t4⟩ := takeP_seg hk
      rw [← seg_app (b := k) (by omega) (by omega), c3, ← t3, textB]
      show numB (n : Int) ++ l = numB ((l.toArray.size : Nat) : Int) ++ l.toArray.toList
      simp [t4]

mutual
/-- How many nodes. -/
def Nd.cnt : Nd → Nat
  | .mk _ _ _ ks => 1 + Nd.cnts ks
def Nd.cnts : List Nd → Nat
  | [] => 0
  | x :: xs => Nd.cnt x + Nd.cnts xs
end
theorem Nd.cnt_eq (x : Nd) : x.cnt = 1 + Nd.cnts x.kids := by cases x; rw [Nd.cnt]; rfl
theorem Nd.cnts_append : ∀ l m : List Nd, Nd.cnts (l ++ m) = Nd.cnts l + Nd.cnts m
  | [], m => by simp [Nd.cnts]
  | x :: xs, m => by rw [List.cons_append, Nd.cnts, Nd.cnts, Nd.cnts_append xs m]; omega
/-- Not deeper than this. -/
def Nd.deep : Nat → Nd → Prop
  | 0, _ => False
  | f + 1, x => ∀ k ∈ x.kids, Nd.deep f k
theorem Nd.deep_mono : ∀ {f g : Nat} {x : Nd}, f ≤ g → Nd.deep f x → Nd.deep g x
  | 0, _, _, _, h => h.elim
  | f + 1, 0, _, h, _ => by omega
  | f + 1, g + 1, x, h, hx => by
    rw [Nd.deep] at hx ⊢
    exact fun k hk => Nd.deep_mono (by omega) (hx k hk)

theorem listP_seg {α : Type} {B : List UInt8} {one : Nat → Nat → PR (α × Nat)} (by_ : List α → List UInt8) (cnt : List α → Nat) (good : α → Prop) (h0 : by_ [] = []) (h00 : cnt [] = 0)
    (hone : ∀ {a s : Nat} {x : α} {s' m : Nat}, a ≤ B.length → one a s = .ok (x, s') m → a ≤ m ∧ m ≤ B.length ∧ good x ∧ ∀ l, by_ (l ++ [x]) = by_ l ++ seg B a m ∧ cnt (l ++ [x]) + s = cnt l + s') :
    ∀ {n a s : Nat} {l : List α} {s' m : Nat}, a ≤ B.length → listP one n a s = .ok (l, s') m → a ≤ m ∧ m ≤ B.length ∧ by_ l = seg B a m ∧ s' = s + cnt l ∧ ∀ x ∈ l, good x := by
  intro n
  induction n with
  | zero =>
    intro a s l s' m ha h
    injection h with h1 h2
    injection h1 with h3 h4
    subst h2; subst h3; subst h4
    exact ⟨Nat.le_refl _, ha, by rw [h0, seg_self], by omega, by simp⟩
  | succ n ih =>
    intro a s l s' m ha h
    rw [listP] at h
    cases h1 : listP one n a s with
    | fail f => rw [h1] at h; cases h
    | ok q k =>
      obtain ⟨l0, s0⟩ := q
      rw [h1, PR.bind_ok] at h
      obtain ⟨e1, e2, e3, e4, e5⟩ := ih ha h1
      cases h2 : one k s0 with
      | fail f => simp only [h2] at h; cases h
      | ok r j =>
        obtain ⟨x, s1⟩ := r
        simp only [h2, PR.bind_ok] at h
        injection h with h3 h4
        injection h3 with h5 h6
        subst h4; subst h5; subst h6
        obtain ⟨f1, f2, f3, f4⟩ := hone e2 h2
        obtain ⟨f5, f6⟩ := f4 l0
        refine ⟨by omega, f2, ?_, by omega, ?_⟩
        · rw [f5, e3, seg_app e1 f1]
        · intro y hy
          rcases List.mem_append.1 hy with hy | hy
          · exact e5 y hy
          · rw [List.mem_singleton.1 hy]; exact f3

theorem Nd.bytess_snoc (l : List Nd) (x : Nd) : Nd.bytess (l ++ [x]) = Nd.bytess l ++ x.bytes := by rw [Nd.bytess_append]; simp [Nd.bytess]
theorem nodeP_seg {B : List UInt8} : ∀ {fuel a s : Nat} {x : Nd} {s' m : Nat}, a ≤ B.length → nodeP B fuel a s = .ok (x, s') m → a ≤ m ∧ m ≤ B.length ∧ seg B a m = x.bytes ∧ x.wf ∧ s' = s + x.cnt ∧ s' ≤ 200 ∧ Nd.deep fuel x := by
  intro fuel
  induction fuel with
  | zero => intro a s x s' m ha h; rw [nodeP] at h; cases h
  | succ fuel ih =>
    intro a s x s' m ha h
    have h200 := nodeP_ok h
    rw [nodeP] at h
    split at h
    · cases h
    cases h1 : numberP B a with
    | fail f => rw [h1] at h; cases h
    | ok i a1 =>
      rw [h1, PR.bind_ok] at h
      cases h2 : numberP B a1 with
      | fail f => rw [h2] at h; cases h
      | ok k a2 =>
        rw [h2, PR.bind_ok] at h
        cases h3 : textP B a2 with
        | fail f => rw [h3] at h; cases h
        | ok t a3 =>
          rw [h3, PR.bind_ok] at h
          cases h4 : countP B a3 32 B.length with
          | fail f => rw [h4] at h; cases h
          | ok n a4 =>
            rw [h4, PR.bind_ok] at h
            cases h5 : listP (fun a s => nodeP B fuel a s) n a4 (s + 1) with
            | fail f => rw [h5] at h; cases h
            | ok q a5 =>
              obtain ⟨ks, s5⟩ := q
              rw [h5, PR.bind_ok] at h
              injection h with h6 h7
              injection h6 with h8 h9
              subst h7
              have hlen := listP_len h5
              obtain ⟨b1, b2, b3, b4, b5⟩ := numberP_seg h1
              obtain ⟨c1, c2, c3, c4, c5⟩ := numberP_seg h2
              obtain ⟨d1, d2, d3⟩ := textP_seg h3
              obtain ⟨e1, e2, e3, e4, e5⟩ := countP_seg h4
              obtain ⟨g1, g2, g3, g4, g5⟩ := listP_seg (B := B) (one := fun a s => nodeP B fuel a s) Nd.bytess Nd.cnts (fun x => x.wf ∧ Nd.deep fuel x) (by simp [Nd.bytess]) (by simp [Nd.cnts])
                (fun {a s x s' m} ha h => by
                  obtain ⟨j1, j2, j3, j4, j5, j6, j7⟩ := ih ha h
                  refine ⟨j1, j2, ⟨j4, j7⟩, fun l => ⟨by rw [Nd.bytess_snoc, j3], ?_⟩⟩
                  rw [Nd.cnts_append, Nd.cnts, Nd.cnts]; omega) e2 h5
              subst h9
              subst h8
              refine ⟨by omega, g2, ?_, ?_, ?_, h200, ?_⟩
              · rw [Nd.bytes_eq]
                simp only [Nd.id, Nd.kind, Nd.text, Nd.kids]
                rw [← seg_app (b := a1) (by omega) (by omega), ← seg_app (a := a1) (b := a2) (by omega) (by omega), ← seg_app (a := a2) (b := a3) (by omega) (by omega), ← seg_app (a := a3) (b := a4) (by omega) (by omega), b3, c3, d3, e3, ← g3, hlen]
                simp only [List.append_assoc]
              · rw [Nd.wf_eq]
                exact ⟨b4, b5, c4, c5, (Nd.wfs_iff _).2 fun y hy => (g5 y hy).1⟩
              · rw [Nd.cnt_eq]; simp only [Nd.kids]; omega
              · rw [Nd.deep]
                exact fun y hy => (g5 y hy).2
theorem treeP_seg {B : List UInt8} {a m : Nat} {x : Nd} (ha : a ≤ B.length) (h : treeP B a = .ok x m) : a ≤ m ∧ m ≤ B.length ∧ seg B a m = x.bytes ∧ x.wf ∧ x.cnt ≤ 200 ∧ Nd.deep 40 x := by
  rw [treeP] at h
  cases h1 : nodeP B 40 a 0 with
  | fail f => rw [h1] at h; cases h
  | ok q k =>
    obtain ⟨y, s⟩ := q
    rw [h1, PR.bind_ok] at h
    injection h with h2 h3
    subst h3; subst h2
    obtain ⟨j1, j2, j3, j4, j5, j6, j7⟩ := nodeP_seg ha h1
    exact ⟨j1, j2, j3, j4, by simp only; omega, j7⟩
theorem opB_toI8 (x : UInt8) : opB (toI8 (foldB [x])) = x := by
  have hx := x.toNat_lt
  have e : foldB [x] = (x.toNat : Int) := by simp [foldB]
  rw [e, toI8, opB]
  apply UInt8.toNat_inj.1
  rw [UInt8.toNat_ofNat']
  split <;> omega
theorem smallP_seg {B : List UInt8} {a m : Nat} {v : Int} (h : smallP B a = .ok v m) : m = a + 1 ∧ m ≤ B.length ∧ seg B a m = [opB v] ∧ -128 ≤ v ∧ v ≤ 127 := by
  rw [smallP] at h
  cases ht : takeP B a 1 with
  | fail f => rw [ht] at h; cases h
  | ok l n =>
    rw [ht, PR.bind_ok] at h
    obtain ⟨h1, h2, h3, h4⟩ := takeP_seg ht
    obtain ⟨x, rfl⟩ : ∃ x, l = [x] := List.length_eq_one_iff.1 h4
    injection h with h5 h6
    subst h5; subst h6
    have hx := x.toNat_lt
    have e : foldB [x] = (x.toNat : Int) := by simp [foldB]
    refine ⟨h1, h2, by rw [opB_toI8, ← h3], ?_, ?_⟩ <;> rw [e, toI8] <;> split <;> omega
set_option linter.unusedVariables false in
theorem stepP_seg {B : List UInt8} {a m : Nat} {s : Stp} (ha : a ≤ B.length) (h : stepP B a = .ok s m) : a ≤ m ∧ m ≤ B.length ∧ seg B a m = s.bytes ∧ s.wf ∧ s.sub.cnt ≤ 200 := by
  rw [stepP] at h
  cases h1 : smallP B a with
  | fail f => rw [h1] at h; cases h
  | ok op a1 =>
    rw [h1, PR.bind_ok] at h
    cases h2 : numberP B a1 with
    | fail f => rw [h2] at h; cases h
    | ok i a2 =>
      rw [h2, PR.bind_ok] at h
      cases h3 : numberP B a2 with
      | fail f => rw [h3] at h; cases h
      | ok p a3 =>
        rw [h3, PR.bind_ok] at h
        cases h4 : numberP B a3 with
        | fail f => rw [h4] at h; cases h
        | ok q a4 =>
          rw [h4, PR.bind_ok] at h
          cases h5 : textP B a4 with
          | fail f => rw [h5] at h; cases h
          | ok t a5 =>
            rw [h5, PR.bind_ok] at h
            cases h6 : treeP B a5 with
            | fail f => rw [h6] at h; cases h
            | ok x a6 =>
              rw [h6, PR.bind_ok] at h
              injection h with h7 h8
              subst h7; subst h8
              obtain ⟨b1, b2, b3, b4, b5⟩ := smallP_seg h1
              obtain ⟨c1, c2, c3, c4, c5⟩ := numberP_seg h2
              obtain ⟨d1, d2, d3, d4, d5⟩ := numberP_seg h3
              obtain ⟨e1, e2, e3, e4, e5⟩ := numberP_seg h4
              obtain ⟨f1, f2, f3⟩ := textP_seg h5
              obtain ⟨g1, g2, g3, g4, g5, g6⟩ := treeP_seg f2 h6
              refine ⟨by omega, g2, ?_, ⟨b4, b5, c4, c5, d4, d5, e4, e5, g4⟩, g5⟩
              rw [Stp.bytes]
              simp only
              rw [← seg_app (b := a1) (by omega) (by omega), ← seg_app (a := a1) (b := a2) (by omega) (by omega), ← seg_app (a := a2) (b := a3) (by omega) (by omega), ← seg_app (a := a3) (b := a4) (by omega) (by omega), ← seg_app (a := a4) (b := a5) (by omega) (by omega), b3, c3, d3, e3, f3, g3]
              simp only [List.append_assoc]
theorem listSteps_seg {B : List UInt8} : ∀ {n a : Nat} {l : List Stp} {u : Unit} {m : Nat}, a ≤ B.length → listP (oneStep B) n a () = .ok (l, u) m → a ≤ m ∧ m ≤ B.length ∧ seg B a m = stepsBs l ∧ l.length = n ∧ ∀ s ∈ l, s.wf ∧ s.sub.cnt ≤ 200 := by
  intro n
  induction n with
  | zero =>
    intro a l u m ha h
    injection h with h1 h2
    injection h1 with h3 h4
    subst h2; subst h3
    exact ⟨Nat.le_refl _, ha, by rw [seg_self]; rfl, rfl, by simp⟩
  | succ n ih =>
    intro a l u m ha h
    rw [listP] at h
    cases h1 : listP (oneStep B) n a () with
    | fail f => rw [h1] at h; cases h
    | ok q k =>
      obtain ⟨l0, u0⟩ := q
      rw [h1, PR.bind_ok] at h
      obtain ⟨e1, e2, e3, e4, e5⟩ := ih ha h1
      cases h2 : stepP B k with
      | fail f => simp only [oneStep, h2] at h; cases h
      | ok x j =>
        simp only [oneStep, h2, PR.bind_ok] at h
        injection h with h3 h4
        injection h3 with h5 h6
        subst h4; subst h5
        obtain ⟨f1, f2, f3, f4, f5⟩ := stepP_seg e2 h2
        refine ⟨by omega, f2, ?_, by simp [e4], ?_⟩
        · rw [stepsBs_append, ← seg_app e1 f1, e3, f3]; simp [stepsBs]
        · intro y hy
          rcases List.mem_append.1 hy with hy | hy
          · exact e5 y hy
          · rw [List.mem_singleton.1 hy]; exact ⟨f4, f5⟩
theorem stepsP_seg {B : List UInt8} {a m : Nat} {l : List Stp} {u : Unit} (h : stepsP B a = .ok (l, u) m) : a ≤ m ∧ m ≤ B.length ∧ seg B a m = stepsB l ∧ l.length ≤ 60 ∧ ∀ s ∈ l, s.wf ∧ s.sub.cnt ≤ 200 := by
  rw [stepsP] at h
  cases h1 : countP B a 57 60 with
  | fail f => rw [h1] at h; cases h
  | ok n k =>
    rw [h1, PR.bind_ok] at h
    obtain ⟨e1, e2, e3, e4, e5⟩ := countP_seg h1
    obtain ⟨f1, f2, f3, f4, f5⟩ := listSteps_seg e2 h
    refine ⟨by omega, f2, ?_, by omega, f5⟩
    rw [stepsB, f4, ← seg_app (b := k) (by omega) (by omega), e3, f3]
end Go.Proofs.Ytimjpkmdphccmaa

/- tree.Copy: a walk. -/
namespace Go.Proofs.Ytimjpkmdphccmaa
open Go.RowKit
attribute [local go_sem ↓] Go.wp_at_zero Go.wp_at_succ
set_option linter.unusedVariables false
set_option linter.unusedSimpArgs false

set_option maxRecDepth 100000 in
set_option maxHeartbeats 1000000 in
theorem treeCopy_calls (x : Nd) : ∀ (A : Option Addr) (c : Nat) (w : World), KidsAt w A x.kids → x.kids.length ≤ c → x.bulk ≤ 1099511627776 →
    Calls Try.prog 91 #[.agg #[.int .i64 x.id, .int .i64 x.kind, .string x.text, .slice A x.kids.length c]] w (MadeNd x w) := by
  induction x using Nd.induct with
  | h x ih =>
  intro A c w ha hc hN
  have hlen := x.kids_le
  obtain ⟨iN, jN, jN0, jN1, jN2⟩ := info_parts info_Node
  go_enter Try.func91, Try.ntmps91
  go_wp2
  generalize hW0 : (w.alloc _).alloc _ = W0
  have hB : Below w.heap.size w W0 := by rw [← hW0]; go_grown
  have hz : W0.heap.size = w.heap.size + 2 := by rw [← hW0]; simp
  have hb0 : W0.heap[w.heap.size]? = some (.cells #[.int .i64 x.id, .int .i64 x.kind, .string x.text, .slice A x.kids.length c] 24 (0, 0)) := by rw [← hW0]; exact alloc_old (alloc_new _ _) _
  have hb1 : W0.heap[w.heap.size + 1]? = some (.cells #[.int .i64 0, .int .i64 0, .string ⟨#[]⟩, .slice none 0 0] 24 (0, 0)) := by rw [← hW0]; exact alloc_new1 _ _ _
  clear hW0
  go_loopw [3, 9] (fun v3 v9 wr => ∃ (k : Nat) (cells : List Value), v9 = .int .i64 k ∧ k ≤ x.kids.length ∧ wr.ownsRow W0.heap.size 24 4 v3 k cells ∧
      NdCells (fun b => W0.heap.size ≤ b ∧ some b ≠ v3.ownBlock) wr (x.kids.take k) cells ∧ Below W0.heap.size W0 wr) (fun _ v9 _ => x.kids.length - (intOf v9).toNat)
  case atStart => exact ⟨0, [], rfl, Nat.zero_le _, World.ownsRow_nil _ _ _ _, .nil, Below.refl _ _⟩
  case round =>
    obtain ⟨k, cells, rfl, hk, hown, hcells, hbw⟩ := hrel
    by_cases hlt : k < x.kids.length
    · obtain ⟨ba, oa, rfl, _, na⟩ := ha.get k hlt
      have na' := na.below (below_then hB hbw)
      obtain ⟨x0, x1, x2, A1, q1, x3, hq1, ka⟩ := ndIn_open na'
      have hkb := Nd.kid_bulk (List.getElem_mem hlt)
      have i1 : (0 : Int) ≤ (k : Int) := Int.natCast_nonneg _
      have i2 : (k : Int) < (x.kids.length : Int) := by omega
      go_wp2_with fail
      refine (ih _ (List.getElem_mem hlt) _ _ _ (ka.alloc _) hq1 (by omega)).mono ?_
      rintro e w2 ⟨A', c', rfl, hc', hk', hb'⟩
      have hz2 : wr.heap.size < w2.heap.size := by have := hb'.size; simp at this; omega
      have hz3 : W0.heap.size ≤ wr.heap.size := hbw.size
      have hbr : Below wr.heap.size wr w2 := (below_alloc (Below.refl _ _) (Nat.le_refl _) _).trans (hb'.mono (by simp))
      have hown2 : w2.ownsRow W0.heap.size 24 4 u3 k cells := own_below hown hbr
      go_wp2_with (at_builtin; go_loud (refine wpList_append_lies _ rfl _ _ _ rfl W0.heap.size 24 iN _ 4 56 Try.underlying22 jN jN0 jN1 jN2 rfl (by omega) u3 k cells rfl (hown2.alloc _) ⟨w2.heap.size, 0, none⟩ 1 1 [.int .i64 x.kids[k].id, .int .i64 x.kids[k].kind, .string x.kids[k].text, .slice A' x.kids[k].kids.length c'] rfl rfl (World.news_of_block (heap_alloc_new w2 _)) (by simp [Value.oneCell']) (by omega) (by unfold maxLen; omega) (by omega) (by simp; omega) (w2.heap.size + 1) (by simp) ?_); intro g cap w3 hown3 hgrow hat hlt3)
      go_roundw
      case rel =>
        refine ⟨k + 1, _, by go_num, by omega, hown3, ?_, ?_⟩
        · rw [take_snoc hlt]
          exact nd_append hown hz3 hcells hbr hc' (hk'.mono fun b hb => by simp at hb; omega) hgrow hat
        · exact below_of_grown (below_alloc (below_from hbw hz3 hbr) (by omega) _) hgrow (hown2.alloc _) (Nat.le_refl _) (by simp; omega)
      case measure => simp [intOf]; omega
    · have g5 : decide (k < x.kids.length) = false := by simpa using hlt
      have hkx : x.kids.take k = x.kids := List.take_of_length_le (by omega)
      obtain ⟨A9, c9, rfl, hc9, hk9⟩ := KidsIn.of_row hown (hcells.mono (S' := fun b => W0.heap.size ≤ b) fun b hb => hb.1) (fun g hg => (hown.lt g hg).1)
      rw [hkx] at hc9 hk9
      have hbk0 := (hbw.block w.heap.size (by omega)).trans hb0
      have hbk1 := (hbw.block (w.heap.size + 1) (by omega)).trans hb1
      obtain ⟨f0, f1, f2, f3, fz⟩ := blk4 hbk0
      obtain ⟨g0, g1, g2, g3, gz⟩ := blk4 hbk1
      have HX := Lib.hid hkx
      clear hkx
      go_wp2
      have hne : w.heap.size + 1 ≠ w.heap.size := by omega
      have E := setCell_blk (setCell_blk (setCell_blk (setCell_blk (setCell_ne hbk1 hne 3 (.slice A9 k c9)) 0 (.int .i64 x.id)) 1 (.int .i64 x.kind)) 2 (.string x.text)) 3 (.slice A9 k c9)
      have HK : ∀ b, W0.heap.size ≤ b → (((((wr.setCell ⟨w.heap.size, 3, none⟩ (.slice A9 k c9)).setCell ⟨w.heap.size + 1, 0, none⟩ (.int .i64 x.id)).setCell ⟨w.heap.size + 1, 1, none⟩ (.int .i64 x.kind)).setCell ⟨w.heap.size + 1, 2, none⟩ (.string x.text)).setCell ⟨w.heap.size + 1, 3, none⟩ (.slice A9 k c9)).heap[b]? = wr.heap[b]? := fun b hb => by
        rw [Below.heap_setCell _ _ _ _ (by simp only; omega), Below.heap_setCell _ _ _ _ (by simp only; omega), Below.heap_setCell _ _ _ _ (by simp only; omega), Below.heap_setCell _ _ _ _ (by simp only; omega), Below.heap_setCell _ _ _ _ (by simp only; omega)]
      have HB : Below w.heap.size w (((((wr.setCell ⟨w.heap.size, 3, none⟩ (.slice A9 k c9)).setCell ⟨w.heap.size + 1, 0, none⟩ (.int .i64 x.id)).setCell ⟨w.heap.size + 1, 1, none⟩ (.int .i64 x.kind)).setCell ⟨w.heap.size + 1, 2, none⟩ (.string x.text)).setCell ⟨w.heap.size + 1, 3, none⟩ (.slice A9 k c9)) := (((((hB.trans (hbw.mono hB.size)).setCell (by simp) _).setCell (by simp) _).setCell (by simp) _).setCell (by simp) _).setCell (by simp) _
      generalize (((((wr.setCell ⟨w.heap.size, 3, none⟩ (.slice A9 k c9)).setCell ⟨w.heap.size + 1, 0, none⟩ (.int .i64 x.id)).setCell ⟨w.heap.size + 1, 1, none⟩ (.int .i64 x.kind)).setCell ⟨w.heap.size + 1, 2, none⟩ (.string x.text)).setCell ⟨w.heap.size + 1, 3, none⟩ (.slice A9 k c9)) = Wf at E HB HK ⊢
      simp only [List.setIfInBounds_toArray, List.set] at E
      obtain ⟨e0, e1, e2, e3, _⟩ := blk4 E
      refine bodyPost_ret (v := .agg #[.int .i64 x.id, .int .i64 x.kind, .string x.text, .slice A9 k c9]) (by simp [results, Try.results91, go_sem, e0, e1, e2, e3]) rfl ?_
      refine ⟨A9, c9, ?_, hc9, ?_, ?_⟩
      · have hkk : k = x.kids.length := by omega
        rw [hkk]
      · exact hk9.move fun b hb _ => ⟨by omega, HK b hb⟩
      · exact HB
end Go.Proofs.Ytimjpkmdphccmaa
