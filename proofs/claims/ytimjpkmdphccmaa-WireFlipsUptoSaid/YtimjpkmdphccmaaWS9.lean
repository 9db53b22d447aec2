/- tree.Same, sameStep, their rows: walks. -/
import Derived.Test.YtimjpkmdphccmaaWS8
import Derived.Test.YtimjpkmdphccmaaWS4
import Derived.Test.YtimjpkmdphccmaaProg
import Derived.Test.YtimjpkmdphccmaaWS5
import Derived.Test.YtimjpkmdphccmaaWS1
import Derived.WalkSpells
import Derived.Tactics
import Derived.Tactics2
import Derived.WalkKit
import Derived.Handy
import Derived.Deep.RegionHeld3
import Derived.Deep.DrawnRows
import Derived.Deep.DeepCutAuto
import Derived.KernelRfl
import Derived.BigRegion
import Derived.BigQuiet
import Derived.Deep.QuietTactic
import Derived.Outline
import Derived.Lib.Hide
import Derived.Deep.RegionHeld2

namespace Go.Proofs.Ytimjpkmdphccmaa
open Go.RowKit
attribute [local go_sem ↓] Go.wp_at_zero Go.wp_at_succ
set_option linter.unusedVariables false
set_option linter.unusedSimpArgs false

theorem sames_ne {l m : List Nd} (h : l.length ≠ m.length) : Nd.sames l m = false := by
  rw [Bool.eq_false_iff]
  exact fun he => h ((Nd.sames_iff _ _).1 he).1

set_option maxRecDepth 100000 in
set_option maxHeartbeats 2000000 in
theorem eqNodes_calls (l m : List Nd) (hC : ∀ x ∈ l, ∀ (y : Nd) (Aa Ab : Option Addr) (ca cb : Nat) (w : World), KidsAt w Aa x.kids → KidsAt w Ab y.kids → x.kids.length ≤ ca → y.kids.length ≤ cb →
      Calls Try.prog 51 #[.agg #[.int .i64 x.id, .int .i64 x.kind, .string x.text, .slice Aa x.kids.length ca], .agg #[.int .i64 y.id, .int .i64 y.kind, .string y.text, .slice Ab y.kids.length cb]] w fun e w' => e = .returned (.bool (Nd.same x y)) ∧ Below w.heap.size w w')
    (Aa Ab : Option Addr) (ca cb : Nat) (w : World) (ha : KidsAt w Aa l) (hb : KidsAt w Ab m) (hca : l.length ≤ ca) (hcb : m.length ≤ cb) (hN : l.length ≤ 1099511627776) :
    Calls Try.prog 125 #[.slice Aa l.length ca, .slice Ab m.length cb, .func (.func 51) #[] #[]] w
      fun e w' => e = .returned (.bool (Nd.sames l m)) ∧ Below w.heap.size w w' := by
  by_cases hlab : l.length = m.length
  case neg =>
    have g4 : ((l.length : Int) != (m.length : Int)) = true := by rw [bne_iff_ne]; omega
    have HE := Lib.hid (sames_ne hlab)
    clear hlab
    go_enter Try.func125, Try.ntmps125
    go_wp2
    go_ret
    exact ⟨ret_bool HE.out.symm, Below.refl _ _⟩
  case pos =>
  have g4 : ((l.length : Int) != (m.length : Int)) = false := by rw [bne_eq_false_iff_eq]; omega
  have HL := Lib.hid hlab
  have HC := Lib.hid hC
  clear hlab hC
  go_enter Try.func125, Try.ntmps125
  go_wp2
  go_loopw [17] (fun v17 wr => ∃ k : Nat, v17 = .int .i64 k ∧ k ≤ l.length ∧ (∀ i (h : i < k) (h1 : i < l.length) (h2 : i < m.length), Nd.same l[i] m[i] = true) ∧ Below w.heap.size w wr) (fun v17 _ => l.length - (intOf v17).toNat)
  case atStart => exact ⟨0, rfl, Nat.zero_le _, fun i h => absurd h (by omega), Below.refl _ _⟩
  case round =>
    obtain ⟨k, rfl, hk, hs, hbw⟩ := hrel
    have HS := Lib.hid hs
    clear hs
    by_cases hlt : k < l.length
    · have hltb : k < m.length := by have := HL.out; omega
      obtain ⟨ba, oa, rfl, _, na⟩ := ha.get k hlt
      obtain ⟨bb, ob, rfl, _, nb⟩ := hb.get k hltb
      have na' := na.below hbw
      have nb' := nb.below hbw
      obtain ⟨x0, x1, x2, A1, q1, x3, hq1, ka⟩ := ndIn_open na'
      have hb1 : Below wr.heap.size wr (wr.alloc (.cells #[.int .i64 l[k].id, .int .i64 l[k].kind, .string l[k].text, .slice A1 l[k].kids.length q1] 24)) := by go_grown
      obtain ⟨y0, y1, y2, A2, q2, y3, hq2, kb⟩ := ndIn_open (nb'.below hb1)
      have i1 : (0 : Int) ≤ (k : Int) := Int.natCast_nonneg _
      have i2 : (k : Int) < (l.length : Int) := by omega
      have i3 : (k : Int) < (m.length : Int) := by omega
      go_wp2_with fail
      refine (HC.out _ (List.getElem_mem hlt) m[k] _ _ _ _ _ ((ka.alloc _).alloc _) (kb.alloc _) hq1 hq2).mono ?_
      rintro e w2 ⟨rfl, hb2⟩
      have hbw2 : Below w.heap.size w w2 := hbw.trans ((((Below.refl wr.heap.size wr).alloc (Nat.le_refl _) _).alloc (by simp) _ |>.trans (hb2.mono (by simp; omega))).mono hbw.size)
      by_cases hsm : Nd.same l[k] m[k] = true
      · have hd : (!Nd.same l[k] m[k]) = false := by simpa using hsm
        have HSM := Lib.hid hsm
        clear hsm
        go_wp2
        go_roundw
        case rel =>
          refine ⟨k + 1, by go_num, by omega, fun i h h1 h2 => ?_, hbw2⟩
          by_cases hik : i = k
          · subst hik; exact HSM.out
          · exact HS.out i (by omega) h1 h2
        case measure => simp [intOf]; omega
      · have hd : (!Nd.same l[k] m[k]) = true := by simpa using hsm
        have HSM := Lib.hid hsm
        clear hsm
        go_wp2
        go_ret
        refine ⟨ret_bool ?_, hbw2⟩
        symm
        rw [Bool.eq_false_iff]
        exact fun h => HSM.out (((Nd.sames_iff _ _).1 h).2 k hlt hltb)
    · have g5 : decide (k < l.length) = false := by simpa using hlt
      go_wp2
      go_ret
      exact ⟨ret_bool ((Nd.sames_iff _ _).2 ⟨HL.out, fun i h h' => HS.out i (by omega) h h'⟩).symm, hbw⟩

set_option maxRecDepth 100000 in
theorem alike_calls (l m : List Nd) (hC : ∀ x ∈ l, ∀ (y : Nd) (Aa Ab : Option Addr) (ca cb : Nat) (w : World), KidsAt w Aa x.kids → KidsAt w Ab y.kids → x.kids.length ≤ ca → y.kids.length ≤ cb →
      Calls Try.prog 51 #[.agg #[.int .i64 x.id, .int .i64 x.kind, .string x.text, .slice Aa x.kids.length ca], .agg #[.int .i64 y.id, .int .i64 y.kind, .string y.text, .slice Ab y.kids.length cb]] w fun e w' => e = .returned (.bool (Nd.same x y)) ∧ Below w.heap.size w w')
    (Aa Ab : Option Addr) (ca cb : Nat) (w : World) (ha : KidsAt w Aa l) (hb : KidsAt w Ab m) (hca : l.length ≤ ca) (hcb : m.length ≤ cb) (hN : l.length ≤ 1099511627776) :
    Calls Try.prog 90 #[.slice Aa l.length ca, .slice Ab m.length cb, .func (.func 51) #[] #[]] w
      fun e w' => e = .returned (.bool (Nd.sames l m)) ∧ Below w.heap.size w w' := by
  have HI := Lib.hid (eqNodes_calls l m hC Aa Ab ca cb w ha hb hca hcb hN)
  clear hC
  go_enter Try.func90, Try.ntmps90
  go_wp2_with fail
  refine HI.out.mono ?_
  rintro e w1 ⟨rfl, hb⟩
  go_wp2
  go_ret
  exact ⟨rfl, hb⟩

set_option maxRecDepth 100000 in
set_option maxHeartbeats 2000000 in
theorem TSame_calls (a : Nd) : ∀ (b : Nd) (Aa Ab : Option Addr) (ca cb : Nat) (w : World), KidsAt w Aa a.kids → KidsAt w Ab b.kids → a.kids.length ≤ ca → b.kids.length ≤ cb → a.bulk ≤ 1099511627776 →
    Calls Try.prog 51 #[.agg #[.int .i64 a.id, .int .i64 a.kind, .string a.text, .slice Aa a.kids.length ca], .agg #[.int .i64 b.id, .int .i64 b.kind, .string b.text, .slice Ab b.kids.length cb]] w fun e w' => e = .returned (.bool (Nd.same a b)) ∧ Below w.heap.size w w' := by
  induction a using Nd.induct with
  | h a ih =>
  intro b Aa Ab ca cb w ha hb hca hcb hN
  have hlen := a.kids_le
  have HI := Lib.hid fun W h1 h2 => alike_calls a.kids b.kids (fun x hx y Aa Ab ca cb w h1 h2 h3 h4 => ih x hx y Aa Ab ca cb w h1 h2 h3 h4 (by have := Nd.kid_bulk hx; omega)) Aa Ab ca cb W h1 h2 hca hcb (by omega)
  clear ih
  go_enter Try.func51, Try.ntmps51
  go_wp2_with fail
  · rename_i e1 e2 e3 KK hKK
    have hb1 : Below w.heap.size w ((w.alloc (.cells #[.int .i64 b.id, .int .i64 b.kind, .string a.text, .slice Aa a.kids.length ca] 24)).alloc (.cells #[.int .i64 b.id, .int .i64 b.kind, .string b.text, .slice Ab b.kids.length cb] 24)) := by go_grown
    refine (HI.out _ (ha.below hb1) (hb.below hb1)).mono ?_
    rintro e w1 ⟨rfl, hb2⟩
    have HE := Lib.hid (⟨e1, e2, bytes_toList_inj e3⟩ : _ ∧ _ ∧ _)
    clear e1 e2 e3
    go_wp2
    go_ret
    refine ⟨ret_bool ?_, below_then hb1 hb2⟩
    obtain ⟨h1, h2, h3⟩ := HE.out
    rw [Nd.same_eq, h1, h2, h3]; simp
  · rename_i e1
    go_ret
    refine ⟨ret_bool ?_, by go_grown⟩
    have hne : ¬ a.text = b.text := fun h => e1 (by rw [h])
    rw [Nd.same_eq]; simp [hne]
  · rename_i e1
    go_ret
    refine ⟨ret_bool ?_, by go_grown⟩
    rw [Nd.same_eq]; simp [e1]
  · rename_i e1
    go_ret
    refine ⟨ret_bool ?_, by go_grown⟩
    rw [Nd.same_eq]; simp [e1]
end Go.Proofs.Ytimjpkmdphccmaa

/- sameStep, rows of steps: walks. -/
namespace Go.Proofs.Ytimjpkmdphccmaa
open Go.RowKit
attribute [local go_sem ↓] Go.wp_at_zero Go.wp_at_succ
set_option linter.unusedVariables false
set_option linter.unusedSimpArgs false

def Stp.same (a b : Stp) : Bool := decide (a.op = b.op) && decide (a.id = b.id) && decide (a.parent = b.parent) && decide (a.place = b.place) && decide (a.text = b.text) && Nd.same a.sub b.sub
def stpsSame : List Stp → List Stp → Bool
  | [], [] => true
  | x :: xs, y :: ys => Stp.same x y && stpsSame xs ys
  | _, _ => false
theorem stpsSame_iff : ∀ (l m : List Stp), stpsSame l m = true ↔ l.length = m.length ∧ ∀ i (h : i < l.length) (h' : i < m.length), Stp.same l[i] m[i] = true
  | [], [] => by simp [stpsSame]
  | [], y :: ys => by simp [stpsSame]
  | x :: xs, [] => by simp [stpsSame]
  | x :: xs, y :: ys => by
    rw [stpsSame, Bool.and_eq_true, stpsSame_iff xs ys]
    constructor
    · rintro ⟨h0, h1, h2⟩
      refine ⟨by simp [h1], fun i h h' => ?_⟩
      cases i with
      | zero => simpa using h0
      | succ i => simpa using h2 i (by simpa using h) (by simpa using h')
    · rintro ⟨h1, h2⟩
      exact ⟨h2 0 (by simp) (by simp), by simpa using h1, fun i h h' => h2 (i + 1) (by simpa using h) (by simpa using h')⟩

set_option maxRecDepth 100000 in
set_option maxHeartbeats 4000000 in
theorem sameStep_calls (a b : Stp) (Aa Ab : Option Addr) (ca cb : Nat) (w : World) (ha : KidsAt w Aa a.sub.kids) (hb : KidsAt w Ab b.sub.kids) (hca : a.sub.kids.length ≤ ca) (hcb : b.sub.kids.length ≤ cb) (hN : a.sub.bulk ≤ 1099511627776) :
    Calls Try.prog 50 #[.agg #[.int .i8 a.op, .int .i64 a.id, .int .i64 a.parent, .int .i64 a.place, .string a.text, .int .i64 a.sub.id, .int .i64 a.sub.kind, .string a.sub.text, .slice Aa a.sub.kids.length ca], .agg #[.int .i8 b.op, .int .i64 b.id, .int .i64 b.parent, .int .i64 b.place, .string b.text, .int .i64 b.sub.id, .int .i64 b.sub.kind, .string b.sub.text, .slice Ab b.sub.kids.length cb]] w fun e w' => e = .returned (.bool (Stp.same a b)) ∧ Below w.heap.size w w' := by
  go_enter Try.func50, Try.ntmps50
  go_wp2_with fail
  · rename_i e1 e2 e3 e4 e5 KK hKK
    have HE := Lib.hid (⟨e1, e2, e3, e4, bytes_toList_inj e5⟩ : _ ∧ _ ∧ _ ∧ _ ∧ _)
    clear e1 e2 e3 e4 e5
    refine (TSame_calls a.sub b.sub Aa Ab ca cb _ ((ha.alloc _).alloc _) ((hb.alloc _).alloc _) hca hcb hN).mono ?_
    rintro e w1 ⟨rfl, hb2⟩
    have hb1 := below_then (((Below.refl w.heap.size w).alloc (Nat.le_refl _) _).alloc (by simp) _) hb2
    clear hb2
    go_wp2
    go_ret
    refine ⟨ret_bool ?_, hb1⟩
    obtain ⟨h1, h2, h3, h4, h5⟩ := HE.out
    rw [Stp.same, h1, h2, h3, h4, h5]; simp
  · rename_i e1
    go_ret
    refine ⟨ret_bool ?_, by go_grown⟩
    have hne : ¬ a.text = b.text := fun h => e1 (by rw [h])
    rw [Stp.same]; simp [hne]
  all_goals
    rename_i e1
    go_ret
    refine ⟨ret_bool ?_, by go_grown⟩
    rw [Stp.same]; simp [e1]

set_option maxRecDepth 100000 in
set_option maxHeartbeats 4000000 in
theorem eqSteps_calls (l m : List Stp) (Aa Ab : Option Addr) (ca cb : Nat) (w : World) (ha : StepsAt w Aa l) (hb : StepsAt w Ab m) (hca : l.length ≤ ca) (hcb : m.length ≤ cb) (hN : stepsBulk l ≤ 1099511627776) :
    Calls Try.prog 49 #[.slice Aa l.length ca, .slice Ab m.length cb, .func (.func 50) #[] #[]] w
      fun e w' => e = .returned (.bool (stpsSame l m)) ∧ Below w.heap.size w w' := by
  have hNl := stepsBulk_len l
  by_cases hlab : l.length = m.length
  case neg =>
    have g4 : ((l.length : Int) != (m.length : Int)) = true := by rw [bne_iff_ne]; omega
    have hne : stpsSame l m = false := by
      rw [Bool.eq_false_iff]
      exact fun he => hlab ((stpsSame_iff _ _).1 he).1
    have HE := Lib.hid hne
    clear hlab hne
    go_enter Try.func49, Try.ntmps49
    go_wp2
    go_ret
    exact ⟨ret_bool HE.out.symm, Below.refl _ _⟩
  case pos =>
  have g4 : ((l.length : Int) != (m.length : Int)) = false := by rw [bne_eq_false_iff_eq]; omega
  have HL := Lib.hid hlab
  clear hlab
  go_enter Try.func49, Try.ntmps49
  go_wp2
  go_loopw [17] (fun v17 wr => ∃ k : Nat, v17 = .int .i64 k ∧ k ≤ l.length ∧ (∀ i (h : i < k) (h1 : i < l.length) (h2 : i < m.length), Stp.same l[i] m[i] = true) ∧ Below w.heap.size w wr) (fun v17 _ => l.length - (intOf v17).toNat)
  case atStart => exact ⟨0, rfl, Nat.zero_le _, fun i h => absurd h (by omega), Below.refl _ _⟩
  case round =>
    obtain ⟨k, rfl, hk, hs, hbw⟩ := hrel
    have HS := Lib.hid hs
    clear hs
    by_cases hlt : k < l.length
    · have hltb : k < m.length := by have := HL.out; omega
      obtain ⟨ba, oa, rfl, _, na⟩ := ha.get k hlt
      obtain ⟨bb, ob, rfl, _, nb⟩ := hb.get k hltb
      have na' : stIn (fun _ => True) wr ba (oa + k * 9) l[k] := na.move (fun b hS hlt => ⟨hS, hbw.block b hlt⟩) (hbw.block _ na.lt)
      have nb' : stIn (fun _ => True) wr bb (ob + k * 9) m[k] := nb.move (fun b hS hlt => ⟨hS, hbw.block b hlt⟩) (hbw.block _ nb.lt)
      obtain ⟨A1, q1, ⟨x0, x1, x2, x3, x4, x5, x6, x7, x8⟩, hq1, ka⟩ := stIn_open na'
      have hb1 : Below wr.heap.size wr (wr.alloc (.cells #[.int .i8 l[k].op, .int .i64 l[k].id, .int .i64 l[k].parent, .int .i64 l[k].place, .string l[k].text, .int .i64 l[k].sub.id, .int .i64 l[k].sub.kind, .string l[k].sub.text, .slice A1 l[k].sub.kids.length q1] 32)) := by go_grown
      have nb2 : stIn (fun _ => True) (wr.alloc (.cells #[.int .i8 l[k].op, .int .i64 l[k].id, .int .i64 l[k].parent, .int .i64 l[k].place, .string l[k].text, .int .i64 l[k].sub.id, .int .i64 l[k].sub.kind, .string l[k].sub.text, .slice A1 l[k].sub.kids.length q1] 32)) bb (ob + k * 9) m[k] := nb'.move (fun b hS hlt => ⟨hS, hb1.block b hlt⟩) (hb1.block _ nb'.lt)
      obtain ⟨A2, q2, ⟨y0, y1, y2, y3, y4, y5, y6, y7, y8⟩, hq2, kb⟩ := stIn_open nb2
      have i1 : (0 : Int) ≤ (k : Int) := Int.natCast_nonneg _
      have i2 : (k : Int) < (l.length : Int) := by omega
      have i3 : (k : Int) < (m.length : Int) := by omega
      have hsb : l[k].sub.bulk ≤ 1099511627776 := by have := stepsBulk_mem (List.getElem_mem hlt); rw [Stp.bulk] at this; omega
      go_wp2_with fail
      refine (sameStep_calls l[k] m[k] _ _ _ _ _ ((ka.alloc _).alloc _) (kb.alloc _) hq1 hq2 hsb).mono ?_
      rintro e w2 ⟨rfl, hb2⟩
      have hbw2 : Below w.heap.size w w2 := hbw.trans ((((Below.refl wr.heap.size wr).alloc (Nat.le_refl _) _).alloc (by simp) _ |>.trans (hb2.mono (by simp; omega))).mono hbw.size)
      by_cases hsm : Stp.same l[k] m[k] = true
      · have hd : (!Stp.same l[k] m[k]) = false := by simpa using hsm
        have HSM := Lib.hid hsm
        clear hsm
        go_wp2
        go_roundw
        case rel =>
          refine ⟨k + 1, by go_num, by omega, fun i h h1 h2 => ?_, hbw2⟩
          by_cases hik : i = k
          · subst hik; exact HSM.out
          · exact HS.out i (by omega) h1 h2
        case measure => simp [intOf]; omega
      · have hd : (!Stp.same l[k] m[k]) = true := by simpa using hsm
        have HSM := Lib.hid hsm
        clear hsm
        go_wp2
        go_ret
        refine ⟨ret_bool ?_, hbw2⟩
        symm
        rw [Bool.eq_false_iff]
        exact fun h => HSM.out (((stpsSame_iff _ _).1 h).2 k hlt hltb)
    · have g5 : decide (k < l.length) = false := by simpa using hlt
      go_wp2
      go_ret
      exact ⟨ret_bool ((stpsSame_iff _ _).2 ⟨HL.out, fun i h h' => HS.out i (by omega) h h'⟩).symm, hbw⟩
end Go.Proofs.Ytimjpkmdphccmaa

/- undo.Plain: a walk. -/
namespace Go.Proofs.Ytimjpkmdphccmaa
open Go.RowKit
attribute [local go_sem ↓] Go.wp_at_zero Go.wp_at_succ
set_option linter.unusedVariables false
set_option linter.unusedSimpArgs false

def Nd.none_ : Nd := .mk 0 0 ⟨#[]⟩ []
/-- A step with the fields of its operation alone. -/
def stpPlain (s : Stp) : Stp :=
  if s.op = 1 then ⟨s.op, 0, s.parent, s.place, ⟨#[]⟩, s.sub⟩
  else if s.op = 3 then ⟨s.op, s.id, s.parent, s.place, ⟨#[]⟩, Nd.none_⟩
  else if s.op = 2 then ⟨s.op, s.id, 0, 0, ⟨#[]⟩, Nd.none_⟩
  else if s.op = 4 then ⟨s.op, s.id, 0, 0, s.text, Nd.none_⟩
  else ⟨s.op, 0, 0, 0, ⟨#[]⟩, Nd.none_⟩
def MadeSt (x : Stp) (w : World) (e : Ending) (w' : World) : Prop :=
  ∃ A c, e = .returned (.agg #[.int .i8 x.op, .int .i64 x.id, .int .i64 x.parent, .int .i64 x.place, .string x.text, .int .i64 x.sub.id, .int .i64 x.sub.kind, .string x.sub.text, .slice A x.sub.kids.length c]) ∧ x.sub.kids.length ≤ c ∧ KidsIn (fun b => w.heap.size ≤ b) w' A x.sub.kids ∧ Below w.heap.size w w'

theorem heap_drew {W : World} {b : Nat} {o : Option Obj} (h : W.heap[b]? = o) : W.drew.heap[b]? = o := h
theorem grown_drew {w W : World} {row : Option Nat} (h : w.grownBy W row) : w.grownBy W.drew row := ⟨h.os, h.tape, h.output, h.size, h.block⟩
theorem put9 {w : World} {b : Nat} {c0 c1 c2 c3 c4 c5 c6 c7 c8 : Value} {t : TypeId} (h : w.heap[b]? = some (.cells [c0, c1, c2, c3, c4, c5, c6, c7, c8].toArray t (0, 0))) (v0 v1 v2 v3 v4 v5 v6 v7 v8 : Value) :
    (((((((((w.setCell ⟨b, 0, none⟩ v0).setCell ⟨b, 1, none⟩ v1).setCell ⟨b, 2, none⟩ v2).setCell ⟨b, 3, none⟩ v3).setCell ⟨b, 4, none⟩ v4).setCell ⟨b, 5, none⟩ v5).setCell ⟨b, 6, none⟩ v6).setCell ⟨b, 7, none⟩ v7).setCell ⟨b, 8, none⟩ v8).heap[b]? = some (.cells [v0, v1, v2, v3, v4, v5, v6, v7, v8].toArray t (0, 0)) ∧ w.grownBy (((((((((w.setCell ⟨b, 0, none⟩ v0).setCell ⟨b, 1, none⟩ v1).setCell ⟨b, 2, none⟩ v2).setCell ⟨b, 3, none⟩ v3).setCell ⟨b, 4, none⟩ v4).setCell ⟨b, 5, none⟩ v5).setCell ⟨b, 6, none⟩ v6).setCell ⟨b, 7, none⟩ v7).setCell ⟨b, 8, none⟩ v8) (some b) := by
  refine ⟨?_, (grown_set (grown_set (grown_set (grown_set (grown_set (grown_set (grown_set (grown_set (grown_set (grown_refl w (some b)) 0 v0) 1 v1) 2 v2) 3 v3) 4 v4) 5 v5) 6 v6) 7 v7) 8 v8)⟩
  have E := (setCell_blk (setCell_blk (setCell_blk (setCell_blk (setCell_blk (setCell_blk (setCell_blk (setCell_blk (setCell_blk h 0 v0) 1 v1) 2 v2) 3 v3) 4 v4) 5 v5) 6 v6) 7 v7) 8 v8)
  simpa only [List.setIfInBounds_toArray, List.set] using E

set_option maxRecDepth 100000 in
set_option maxHeartbeats 1000000 in
theorem undoPlain_calls (s : Stp) (A : Option Addr) (c : Nat) (w : World) (ha : KidsAt w A s.sub.kids) (hc : s.sub.kids.length ≤ c) (hN : s.sub.bulk ≤ 1099511627776) :
    Calls Try.prog 53 #[.agg #[.int .i8 s.op, .int .i64 s.id, .int .i64 s.parent, .int .i64 s.place, .string s.text, .int .i64 s.sub.id, .int .i64 s.sub.kind, .string s.sub.text, .slice A s.sub.kids.length c]] w (MadeSt (stpPlain s) w) := by
  by_cases o1 : s.op = 1
  · have d1 : (s.op == 1) = true := by simpa using o1
    have HP : Hid (stpPlain s = ⟨s.op, 0, s.parent, s.place, ⟨#[]⟩, s.sub⟩) := Lib.hid (by simp [stpPlain, o1])
    clear o1
    go_enter Try.func53, Try.ntmps53
    go_wp2
    generalize hW0 : ((w.alloc _).alloc _).alloc _ = W0
    have hB : Below w.heap.size w W0 := by rw [← hW0]; go_grown
    have hx : W0.heap[w.heap.size]? = some (.cells [.int .i8 s.op, .int .i64 s.id, .int .i64 s.parent, .int .i64 s.place, .string s.text, .int .i64 s.sub.id, .int .i64 s.sub.kind, .string s.sub.text, .slice A s.sub.kids.length c].toArray 32 (0, 0)) := by rw [← hW0]; exact alloc_old (alloc_old (alloc_new _ _) _) _
    have hr : W0.heap[w.heap.size + 1]? = some (.cells [.int .i8 0, .int .i64 0, .int .i64 0, .int .i64 0, .string ⟨#[]⟩, .int .i64 0, .int .i64 0, .string ⟨#[]⟩, .slice none 0 0].toArray 32 (0, 0)) := by rw [← hW0]; exact alloc_old (alloc_new1 _ _ _) _
    have hy : W0.heap[w.heap.size + 1 + 1]? = some (.cells [.int .i8 s.op, .int .i64 0, .int .i64 0, .int .i64 0, .string ⟨#[]⟩, .int .i64 0, .int .i64 0, .string ⟨#[]⟩, .slice none 0 0].toArray 32 (0, 0)) := by rw [← hW0]; exact alloc_new2 _ _ _ _
    clear hW0
    obtain ⟨x0, x1, x2, x3, x4, x5, x6, x7, x8, xz⟩ := blk9 hx
    obtain ⟨y0, y1, y2, y3, y4, y5, y6, y7, y8, yz⟩ := blk9 hy
    have j1 : ¬ w.heap.size + 1 + 1 = w.heap.size := by omega
    have j2 : w.heap.size + 1 ≠ w.heap.size + 1 + 1 := by omega
    have ha0 := ha.below hB
    have lx := (Array.getElem?_eq_some_iff.1 hx).1
    have lr := (Array.getElem?_eq_some_iff.1 hr).1
    have ly := (Array.getElem?_eq_some_iff.1 hy).1
    go_region_held2 (fun w' => w'.cell? ⟨w.heap.size, 2, none⟩ = some (.int .i64 s.parent) ∧ w'.cell? ⟨w.heap.size, 3, none⟩ = some (.int .i64 s.place) ∧ w'.cell? ⟨w.heap.size, 5, none⟩ = some (.int .i64 s.sub.id) ∧ w'.cell? ⟨w.heap.size, 6, none⟩ = some (.int .i64 s.sub.kind) ∧ w'.cell? ⟨w.heap.size, 7, none⟩ = some (.string s.sub.text) ∧ w'.cell? ⟨w.heap.size, 8, none⟩ = some (.slice A s.sub.kids.length c))
      (first | go_keep | exact hkp)
      (first
        | (go_at_call 91; refine (treeCopy_calls s.sub A c _ ha0.drew hc hN).mono ?_
           rintro e w2 ⟨A2, c2, rfl, hc2, hk2, hb2⟩
           replace hb2 := below_undrew hb2
           have hy2 := (hb2.block _ ly).trans hy
           have hr2 := (hb2.block _ lr).trans hr
           have hx2 := (hb2.block _ lx).trans hx
           have HH := Lib.hid (⟨hy2, hr2, hc2, hk2, hb2⟩ : _ ∧ _ ∧ _ ∧ _ ∧ _)
           obtain ⟨y0', y1', y2', y3', y4', y5', y6', y7', y8', yz'⟩ := blk9 hy2
           obtain ⟨u0, u1, u2, u3, u4, u5, u6, u7, u8, uz⟩ := blk9 hx2
           have hkp := (⟨u2, u3, u5, u6, u7, u8⟩ : _ ∧ _ ∧ _ ∧ _ ∧ _ ∧ _)
           clear hy2 hr2 hx2 hc2 hk2 hb2))
    all_goals
      obtain ⟨hy2, hr2, hc2, hk2, hb2⟩ := HH.out
      have hyW' := (setCell_blk (setCell_blk (setCell_blk (setCell_blk (setCell_blk (setCell_blk hy2 2 (.int .i64 s.parent)) 3 (.int .i64 s.place)) 5 (.int .i64 s.sub.id)) 6 (.int .i64 s.sub.kind)) 7 (.string s.sub.text)) 8 (.slice A2 s.sub.kids.length c2))
      simp only [List.setIfInBounds_toArray, List.set] at hyW'
      have hyW := hyW'
      have hrW := ((setCell_ne (setCell_ne (setCell_ne (setCell_ne (setCell_ne (setCell_ne hr2 j2 2 (.int .i64 s.parent)) j2 3 (.int .i64 s.place)) j2 5 (.int .i64 s.sub.id)) j2 6 (.int .i64 s.sub.kind)) j2 7 (.string s.sub.text)) j2 8 (.slice A2 s.sub.kids.length c2)))
      have hGs := (grown_set (grown_set (grown_set (grown_set (grown_set (grown_set (grown_refl w2 (some (w.heap.size + 1 + 1))) 2 (.int .i64 s.parent)) 3 (.int .i64 s.place)) 5 (.int .i64 s.sub.id)) 6 (.int .i64 s.sub.kind)) 7 (.string s.sub.text)) 8 (.slice A2 s.sub.kids.length c2))
      have hsz2 : W0.heap.size ≤ w2.heap.size := hb2.size
      generalize ((((((w2.setCell ⟨w.heap.size + 1 + 1, 2, none⟩ (.int .i64 s.parent)).setCell ⟨w.heap.size + 1 + 1, 3, none⟩ (.int .i64 s.place)).setCell ⟨w.heap.size + 1 + 1, 5, none⟩ (.int .i64 s.sub.id)).setCell ⟨w.heap.size + 1 + 1, 6, none⟩ (.int .i64 s.sub.kind)).setCell ⟨w.heap.size + 1 + 1, 7, none⟩ (.string s.sub.text)).setCell ⟨w.heap.size + 1 + 1, 8, none⟩ (.slice A2 s.sub.kids.length c2)) = W2 at hyW hrW hGs ⊢
      clear y0 y1 y2 y3 y4 y5 y6 y7 y8 yz y0' y1' y2' y3' y4' y5' y6' y7' y8' yz' u0 u1 u2 u3 u4 u5 u6 u7 u8 uz hkp hyW' hy2 hr2
      clear x0 x1 x2 x3 x4 x5 x6 x7 x8 xz; obtain ⟨p0, p1, p2, p3, p4, p5, p6, p7, p8, pz⟩ := blk9 hyW; obtain ⟨r0, r1, r2, r3, r4, r5, r6, r7, r8, rz⟩ := blk9 hrW; go_wp2; generalize hWf : World.setCell _ ⟨w.heap.size + 1, 8, none⟩ _ = Wf; obtain ⟨E, G⟩ := put9 hrW (.int .i8 s.op) (.int .i64 0) (.int .i64 s.parent) (.int .i64 s.place) (.string ⟨#[]⟩) (.int .i64 s.sub.id) (.int .i64 s.sub.kind) (.string s.sub.text) (.slice A2 s.sub.kids.length c2); rw [hWf] at E G; clear hWf; obtain ⟨e0, e1, e2, e3, e4, e5, e6, e7, e8, _⟩ := blk9 E; refine bodyPost_ret (v := .agg #[.int .i8 s.op, .int .i64 0, .int .i64 s.parent, .int .i64 s.place, .string ⟨#[]⟩, .int .i64 s.sub.id, .int .i64 s.sub.kind, .string s.sub.text, .slice A2 s.sub.kids.length c2]) (by simp [results, Try.results53, go_sem, e0, e1, e2, e3, e4, e5, e6, e7, e8]) rfl ?_; rw [HP.out]
      have hBf := grown_step (grown_step (grown_of_below (below_then hB hb2) none) hGs (.inr fun b hb => by simp at hb; omega)) G (.inr fun b hb => by simp at hb; omega)
      refine ⟨A2, c2, rfl, hc2, hk2.move fun b hb hlt => ⟨by have := hB.size; simp at hb; omega, ?_⟩, ⟨hBf.os, hBf.tape, hBf.output, hBf.size, fun b hb => hBf.block b hb (by simp)⟩⟩
      exact (G.block b (by have := hGs.size; omega) (by simp at hb ⊢; omega)).trans (hGs.block b hlt (by simp at hb ⊢; omega))
  by_cases o3 : s.op = 3
  · have d1 : (s.op == 1) = false := by simpa using o1
    have d3 : (s.op == 3) = true := by simpa using o3
    have HP : Hid (stpPlain s = ⟨s.op, s.id, s.parent, s.place, ⟨#[]⟩, Nd.none_⟩) := Lib.hid (by simp [stpPlain, o3])
    clear o1 o3
    go_enter Try.func53, Try.ntmps53
    go_wp2
    generalize hW0 : ((w.alloc _).alloc _).alloc _ = W0
    have hB : Below w.heap.size w W0 := by rw [← hW0]; go_grown
    have hx : W0.heap[w.heap.size]? = some (.cells [.int .i8 s.op, .int .i64 s.id, .int .i64 s.parent, .int .i64 s.place, .string s.text, .int .i64 s.sub.id, .int .i64 s.sub.kind, .string s.sub.text, .slice A s.sub.kids.length c].toArray 32 (0, 0)) := by rw [← hW0]; exact alloc_old (alloc_old (alloc_new _ _) _) _
    have hr : W0.heap[w.heap.size + 1]? = some (.cells [.int .i8 0, .int .i64 0, .int .i64 0, .int .i64 0, .string ⟨#[]⟩, .int .i64 0, .int .i64 0, .string ⟨#[]⟩, .slice none 0 0].toArray 32 (0, 0)) := by rw [← hW0]; exact alloc_old (alloc_new1 _ _ _) _
    have hy : W0.heap[w.heap.size + 1 + 1]? = some (.cells [.int .i8 s.op, .int .i64 0, .int .i64 0, .int .i64 0, .string ⟨#[]⟩, .int .i64 0, .int .i64 0, .string ⟨#[]⟩, .slice none 0 0].toArray 32 (0, 0)) := by rw [← hW0]; exact alloc_new2 _ _ _ _
    clear hW0
    obtain ⟨x0, x1, x2, x3, x4, x5, x6, x7, x8, xz⟩ := blk9 hx
    obtain ⟨y0, y1, y2, y3, y4, y5, y6, y7, y8, yz⟩ := blk9 hy
    have j1 : ¬ w.heap.size + 1 + 1 = w.heap.size := by omega
    have j2 : w.heap.size + 1 ≠ w.heap.size + 1 + 1 := by omega
    have hy1 := setCell_blk hy 2 (.int .i64 s.parent)
    simp only [List.setIfInBounds_toArray, List.set] at hy1
    obtain ⟨z0, z1, z2, z3, z4, z5, z6, z7, z8, zz⟩ := blk9 hy1
    go_region_held2 (fun w' => w'.cell? ⟨w.heap.size, 2, none⟩ = some (.int .i64 s.parent) ∧ w'.cell? ⟨w.heap.size, 3, none⟩ = some (.int .i64 s.place))
      (go_keep) (fail)
    have hy2 := setCell_blk hy1 3 (.int .i64 s.place)
    simp only [List.setIfInBounds_toArray, List.set] at hy2
    have hr2 := setCell_ne (setCell_ne hr j2 2 (.int .i64 s.parent)) j2 3 (.int .i64 s.place)
    have hx2 := setCell_ne (setCell_ne hx (by omega : w.heap.size ≠ w.heap.size + 1 + 1) 2 (.int .i64 s.parent)) (by omega : w.heap.size ≠ w.heap.size + 1 + 1) 3 (.int .i64 s.place)
    have hG2 : w.grownBy ((W0.setCell ⟨w.heap.size + 1 + 1, 2, none⟩ (.int .i64 s.parent)).setCell ⟨w.heap.size + 1 + 1, 3, none⟩ (.int .i64 s.place)).drew none := by
      have := grown_step (grown_of_below hB none) (grown_set (grown_set (grown_refl W0 (some (w.heap.size + 1 + 1))) 2 (.int .i64 s.parent)) 3 (.int .i64 s.place)) (.inr fun b hb => by simp at hb; omega)
      exact ⟨this.os, this.tape, this.output, this.size, this.block⟩
    have hyV : ((W0.setCell ⟨w.heap.size + 1 + 1, 2, none⟩ (.int .i64 s.parent)).setCell ⟨w.heap.size + 1 + 1, 3, none⟩ (.int .i64 s.place)).drew.heap[w.heap.size + 1 + 1]? = _ := hy2
    have hrV : ((W0.setCell ⟨w.heap.size + 1 + 1, 2, none⟩ (.int .i64 s.parent)).setCell ⟨w.heap.size + 1 + 1, 3, none⟩ (.int .i64 s.place)).drew.heap[w.heap.size + 1]? = _ := hr2
    have hxV : ((W0.setCell ⟨w.heap.size + 1 + 1, 2, none⟩ (.int .i64 s.parent)).setCell ⟨w.heap.size + 1 + 1, 3, none⟩ (.int .i64 s.place)).drew.heap[w.heap.size]? = _ := hx2
    generalize ((W0.setCell ⟨w.heap.size + 1 + 1, 2, none⟩ (.int .i64 s.parent)).setCell ⟨w.heap.size + 1 + 1, 3, none⟩ (.int .i64 s.place)).drew = W2 at hyV hrV hxV hG2 ⊢
    clear y0 y1 y2 y3 y4 y5 y6 y7 y8 yz z0 z1 z2 z3 z4 z5 z6 z7 z8 zz x0 x1 x2 x3 x4 x5 x6 x7 x8 xz
    obtain ⟨x0, x1, x2, x3, x4, x5, x6, x7, x8, xz⟩ := blk9 hxV
    obtain ⟨y0, y1, y2, y3, y4, y5, y6, y7, y8, yz⟩ := blk9 hyV
    have hyW := setCell_blk hyV 1 (.int .i64 s.id)
    simp only [List.setIfInBounds_toArray, List.set] at hyW
    have hrW := setCell_ne hrV j2 1 (.int .i64 s.id)
    have hG3 : w.grownBy (W2.setCell ⟨w.heap.size + 1 + 1, 1, none⟩ (.int .i64 s.id)) none := grown_step hG2 (grown_set (grown_refl W2 (some (w.heap.size + 1 + 1))) 1 (.int .i64 s.id)) (.inr fun b hb => by simp at hb; omega)
    obtain ⟨r0, r1, r2, r3, r4, r5, r6, r7, r8, rz⟩ := blk9 hrV
    go_wp2; generalize hWf : World.setCell _ ⟨w.heap.size + 1, 8, none⟩ _ = Wf; obtain ⟨E, G⟩ := put9 hrW (.int .i8 s.op) (.int .i64 s.id) (.int .i64 s.parent) (.int .i64 s.place) (.string ⟨#[]⟩) (.int .i64 0) (.int .i64 0) (.string ⟨#[]⟩) (.slice none 0 0); rw [hWf] at E G; clear hWf; obtain ⟨e0, e1, e2, e3, e4, e5, e6, e7, e8, _⟩ := blk9 E; refine bodyPost_ret (v := .agg #[.int .i8 s.op, .int .i64 s.id, .int .i64 s.parent, .int .i64 s.place, .string ⟨#[]⟩, .int .i64 0, .int .i64 0, .string ⟨#[]⟩, .slice none 0 0]) (by simp [results, Try.results53, go_sem, e0, e1, e2, e3, e4, e5, e6, e7, e8]) rfl ?_; rw [HP.out]
    have hBf := grown_step hG3 G (.inr fun b hb => by simp at hb; omega)
    exact ⟨none, 0, rfl, Nat.le_refl _, .inl rfl, ⟨hBf.os, hBf.tape, hBf.output, hBf.size, fun b hb => hBf.block b hb (by simp)⟩⟩
  by_cases o2 : s.op = 2
  · have d1 : (s.op == 1) = false := by simpa using o1
    have d2 : (s.op == 2) = true := by simpa using o2
    have d3 : (s.op == 3) = false := by simpa using o3
    have HP : Hid (stpPlain s = ⟨s.op, s.id, 0, 0, ⟨#[]⟩, Nd.none_⟩) := Lib.hid (by simp [stpPlain, o2])
    clear o1 o2 o3
    go_enter Try.func53, Try.ntmps53
    go_wp2
    refine bodyPost_ret (v := .agg #[.int .i8 s.op, .int .i64 s.id, .int .i64 0, .int .i64 0, .string ⟨#[]⟩, .int .i64 0, .int .i64 0, .string ⟨#[]⟩, .slice none 0 0]) (by simp [results, Try.results53, go_sem]) rfl ?_
    rw [HP.out]
    exact ⟨none, 0, rfl, Nat.le_refl _, .inl rfl, by go_grown⟩
  by_cases o4 : s.op = 4
  · have d1 : (s.op == 1) = false := by simpa using o1
    have d2 : (s.op == 2) = false := by simpa using o2
    have d3 : (s.op == 3) = false := by simpa using o3
    have d4 : (s.op == 4) = true := by simpa using o4
    have HP : Hid (stpPlain s = ⟨s.op, s.id, 0, 0, s.text, Nd.none_⟩) := Lib.hid (by simp [stpPlain, o4])
    clear o1 o2 o3 o4
    go_enter Try.func53, Try.ntmps53
    go_wp2
    generalize hW0 : ((w.alloc _).alloc _).alloc _ = W0
    have hB : Below w.heap.size w W0 := by rw [← hW0]; go_grown
    have hx : W0.heap[w.heap.size]? = some (.cells [.int .i8 s.op, .int .i64 s.id, .int .i64 s.parent, .int .i64 s.place, .string s.text, .int .i64 s.sub.id, .int .i64 s.sub.kind, .string s.sub.text, .slice A s.sub.kids.length c].toArray 32 (0, 0)) := by rw [← hW0]; exact alloc_old (alloc_old (alloc_new _ _) _) _
    have hr : W0.heap[w.heap.size + 1]? = some (.cells [.int .i8 0, .int .i64 0, .int .i64 0, .int .i64 0, .string ⟨#[]⟩, .int .i64 0, .int .i64 0, .string ⟨#[]⟩, .slice none 0 0].toArray 32 (0, 0)) := by rw [← hW0]; exact alloc_old (alloc_new1 _ _ _) _
    have hy : W0.heap[w.heap.size + 1 + 1]? = some (.cells [.int .i8 s.op, .int .i64 0, .int .i64 0, .int .i64 0, .string ⟨#[]⟩, .int .i64 0, .int .i64 0, .string ⟨#[]⟩, .slice none 0 0].toArray 32 (0, 0)) := by rw [← hW0]; exact alloc_new2 _ _ _ _
    clear hW0
    obtain ⟨x0, x1, x2, x3, x4, x5, x6, x7, x8, xz⟩ := blk9 hx
    obtain ⟨y0, y1, y2, y3, y4, y5, y6, y7, y8, yz⟩ := blk9 hy
    have j1 : ¬ w.heap.size + 1 + 1 = w.heap.size := by omega
    have hy1 := setCell_blk hy 1 (.int .i64 s.id)
    simp only [List.setIfInBounds_toArray, List.set] at hy1
    obtain ⟨z0, z1, z2, z3, z4, z5, z6, z7, z8, zz⟩ := blk9 hy1
    go_region_held2 (fun w' => w'.cell? ⟨w.heap.size, 1, none⟩ = some (.int .i64 s.id) ∧ w'.cell? ⟨w.heap.size, 4, none⟩ = some (.string s.text))
      (go_keep) (fail)
    have hy2 := setCell_blk hy1 4 (.string s.text)
    simp only [List.setIfInBounds_toArray, List.set] at hy2
    have hr2 := setCell_ne (setCell_ne hr (by omega : w.heap.size + 1 ≠ w.heap.size + 1 + 1) 1 (.int .i64 s.id)) (by omega : w.heap.size + 1 ≠ w.heap.size + 1 + 1) 4 (.string s.text)
    have hG2 : w.grownBy ((W0.setCell ⟨w.heap.size + 1 + 1, 1, none⟩ (.int .i64 s.id)).setCell ⟨w.heap.size + 1 + 1, 4, none⟩ (.string s.text)).drew none := by
      have := grown_step (grown_of_below hB none) (grown_set (grown_set (grown_refl W0 (some (w.heap.size + 1 + 1))) 1 (.int .i64 s.id)) 4 (.string s.text)) (.inr fun b hb => by simp at hb; omega)
      exact ⟨this.os, this.tape, this.output, this.size, this.block⟩
    have hyW : ((W0.setCell ⟨w.heap.size + 1 + 1, 1, none⟩ (.int .i64 s.id)).setCell ⟨w.heap.size + 1 + 1, 4, none⟩ (.string s.text)).drew.heap[w.heap.size + 1 + 1]? = _ := hy2
    have hrW : ((W0.setCell ⟨w.heap.size + 1 + 1, 1, none⟩ (.int .i64 s.id)).setCell ⟨w.heap.size + 1 + 1, 4, none⟩ (.string s.text)).drew.heap[w.heap.size + 1]? = _ := hr2
    generalize ((W0.setCell ⟨w.heap.size + 1 + 1, 1, none⟩ (.int .i64 s.id)).setCell ⟨w.heap.size + 1 + 1, 4, none⟩ (.string s.text)).drew = W2 at hyW hrW hG2 ⊢
    clear y0 y1 y2 y3 y4 y5 y6 y7 y8 yz z0 z1 z2 z3 z4 z5 z6 z7 z8 zz
    clear x0 x1 x2 x3 x4 x5 x6 x7 x8 xz; obtain ⟨p0, p1, p2, p3, p4, p5, p6, p7, p8, pz⟩ := blk9 hyW; obtain ⟨r0, r1, r2, r3, r4, r5, r6, r7, r8, rz⟩ := blk9 hrW; go_wp2; generalize hWf : World.setCell _ ⟨w.heap.size + 1, 8, none⟩ _ = Wf; obtain ⟨E, G⟩ := put9 hrW (.int .i8 s.op) (.int .i64 s.id) (.int .i64 0) (.int .i64 0) (.string s.text) (.int .i64 0) (.int .i64 0) (.string ⟨#[]⟩) (.slice none 0 0); rw [hWf] at E G; clear hWf; obtain ⟨e0, e1, e2, e3, e4, e5, e6, e7, e8, _⟩ := blk9 E; refine bodyPost_ret (v := .agg #[.int .i8 s.op, .int .i64 s.id, .int .i64 0, .int .i64 0, .string s.text, .int .i64 0, .int .i64 0, .string ⟨#[]⟩, .slice none 0 0]) (by simp [results, Try.results53, go_sem, e0, e1, e2, e3, e4, e5, e6, e7, e8]) rfl ?_; rw [HP.out]
    have hBf := grown_step hG2 G (.inr fun b hb => by simp at hb; omega)
    exact ⟨none, 0, rfl, Nat.le_refl _, .inl rfl, ⟨hBf.os, hBf.tape, hBf.output, hBf.size, fun b hb => hBf.block b hb (by simp)⟩⟩
  · have d1 : (s.op == 1) = false := by simpa using o1
    have d2 : (s.op == 2) = false := by simpa using o2
    have d3 : (s.op == 3) = false := by simpa using o3
    have d4 : (s.op == 4) = false := by simpa using o4
    have HP : Hid (stpPlain s = ⟨s.op, 0, 0, 0, ⟨#[]⟩, Nd.none_⟩) := Lib.hid (by simp [stpPlain, o1, o2, o3, o4])
    clear o1 o2 o3 o4
    go_enter Try.func53, Try.ntmps53
    go_wp2
    refine bodyPost_ret (v := .agg #[.int .i8 s.op, .int .i64 0, .int .i64 0, .int .i64 0, .string ⟨#[]⟩, .int .i64 0, .int .i64 0, .string ⟨#[]⟩, .slice none 0 0]) (by simp [results, Try.results53, go_sem]) rfl ?_
    rw [HP.out]
    exact ⟨none, 0, rfl, Nat.le_refl _, .inl rfl, by go_grown⟩
end Go.Proofs.Ytimjpkmdphccmaa

/- ref01.Copy: a walk. -/
namespace Go.Proofs.Ytimjpkmdphccmaa
open Go.RowKit
attribute [local go_sem ↓] Go.wp_at_zero Go.wp_at_succ
set_option linter.unusedVariables false
set_option linter.unusedSimpArgs false

set_option maxRecDepth 100000 in
set_option maxHeartbeats 2000000 in
theorem refCopy_calls (x : Nd) : ∀ (A : Option Addr) (c : Nat) (w : World), KidsAt w A x.kids → x.kids.length ≤ c → x.bulk ≤ 1099511627776 →
    Calls Try.prog 92 #[.agg #[.int .i64 x.id, .int .i64 x.kind, .string x.text, .slice A x.kids.length c]] w (MadeNd x w) := by
  induction x using Nd.induct with
  | h x ih =>
  intro A c w ha hc hN
  have hlen := x.kids_le
  obtain ⟨iN, jN, jN0, jN1, jN2⟩ := info_parts info_Node
  go_enter Try.func92, Try.ntmps92
  go_wp2
  generalize hW0 : ((w.alloc _).alloc _).alloc _ = W0
  have hB : Below w.heap.size w W0 := by rw [← hW0]; go_grown
  have hz : W0.heap.size = w.heap.size + 3 := by rw [← hW0]; simp
  have hb0 : W0.heap[w.heap.size]? = some (.cells #[.int .i64 x.id, .int .i64 x.kind, .string x.text, .slice A x.kids.length c] 24 (0, 0)) := by rw [← hW0]; exact alloc_old (alloc_old (alloc_new _ _) _) _
  have hb1 : W0.heap[w.heap.size + 1]? = some (.cells #[.int .i64 0, .int .i64 0, .string ⟨#[]⟩, .slice none 0 0] 24 (0, 0)) := by rw [← hW0]; exact alloc_old (alloc_new1 _ _ _) _
  have hb2 : W0.heap[w.heap.size + 1 + 1]? = some (.cells #[.int .i64 x.id, .int .i64 x.kind, .string x.text, .slice none 0 0] 24 (0, 0)) := by rw [← hW0]; exact alloc_new2 _ _ _ _
  clear hW0
  have hz1 : w.heap.size + 1 + 1 < W0.heap.size := by omega
  have HZ := Lib.hid hz
  clear hz
  have j1 : w.heap.size ≠ w.heap.size + 1 + 1 := by omega
  go_loopw [4] (fun v4 wr => ∃ (k : Nat) (cells : List Value) (u : Value), v4 = .int .i64 k ∧ k ≤ x.kids.length ∧ wr.ownsRow W0.heap.size 24 4 u k cells ∧ wr.heap[w.heap.size + 1 + 1]? = some (.cells #[.int .i64 x.id, .int .i64 x.kind, .string x.text, u] 24 (0, 0)) ∧
      NdCells (fun b => W0.heap.size ≤ b ∧ some b ≠ u.ownBlock) wr (x.kids.take k) cells ∧ W0.grownBy wr (some (w.heap.size + 1 + 1))) (fun v4 _ => x.kids.length - (intOf v4).toNat)
  case atStart => exact ⟨0, [], .slice none 0 0, rfl, Nat.zero_le _, World.ownsRow_nil _ _ _ _, hb2, .nil, grown_refl _ _⟩
  case round =>
    obtain ⟨k, cells, u, rfl, hk, hown, ht, hcells, hbw⟩ := hrel
    have hx0 := (hbw.block w.heap.size (by omega) (by simpa using j1)).trans hb0
    obtain ⟨f0, f1, f2, f3, fz⟩ := blk4 hx0
    have hsz := hbw.size
    by_cases hlt : k < x.kids.length
    · obtain ⟨ba, oa, rfl, _, na⟩ := ha.get k hlt
      have hbk : ∀ b, b < w.heap.size → wr.heap[b]? = w.heap[b]? := fun b hb => (hbw.block b (by omega) (by simp; omega)).trans (hB.block b hb)
      have na' : ndIn (fun b => b < w.heap.size) wr ba (oa + k * 4) x.kids[k] := ndIn_move (fun b hS hlt => ⟨hlt, hbk b hlt⟩) _ (hbk _ (World.block_lt_of_cell? w _ (ndIn_open na).1)) na
      obtain ⟨x0, x1, x2, A1, q1, x3, hq1, ka⟩ := ndIn_open na'
      have hkb := Nd.kid_bulk (List.getElem_mem hlt)
      have i1 : (0 : Int) ≤ (k : Int) := Int.natCast_nonneg _
      have i2 : (k : Int) < (x.kids.length : Int) := by omega
      go_wp2_with fail
      refine (ih _ (List.getElem_mem hlt) _ _ _ ka.at_ hq1 (by omega)).mono ?_
      rintro e w2 ⟨A', c', rfl, hc', hk', hb'⟩
      have ht2 := (hb'.block _ (Array.getElem?_eq_some_iff.1 ht).1).trans ht
      have hB2 : Below w2.heap.size w2 (w2.alloc (.cells #[.int .i64 x.kids[k].id, .int .i64 x.kids[k].kind, .string x.kids[k].text, .slice A' x.kids[k].kids.length c'] 24)) := by go_grown
      have ht3 := (hB2.block _ (Array.getElem?_eq_some_iff.1 ht2).1).trans ht2
      obtain ⟨g0, g1, g2, g3, gz⟩ := blk4 ht3
      have hown2 : (w2.alloc (.cells #[.int .i64 x.kids[k].id, .int .i64 x.kids[k].kind, .string x.kids[k].text, .slice A' x.kids[k].kids.length c'] 24)).ownsRow W0.heap.size 24 4 u k cells := own_below (own_below hown hb') hB2
      have hz2 : wr.heap.size ≤ w2.heap.size := hb'.size
      have hzz : W0.heap.size ≤ w2.heap.size := by omega
      go_wp2_with (at_builtin; go_loud (refine wpList_append_lies _ rfl _ _ _ rfl W0.heap.size 24 iN _ 4 56 Try.underlying22 jN jN0 jN1 jN2 rfl (by omega) u k cells rfl (hown2.alloc _) ⟨w2.heap.size + 1, 0, none⟩ 1 1 [.int .i64 x.kids[k].id, .int .i64 x.kids[k].kind, .string x.kids[k].text, .slice A' x.kids[k].kids.length c'] rfl rfl (World.news_of_block (alloc_new1 w2 _ _)) (by simp [Value.oneCell']) (by omega) (by unfold maxLen; omega) (by omega) (by simp; omega) (w2.heap.size + 1 + 1) (by simp) ?_); intro g cap w3 hown3 hgrow hat hlt3; have hu : ∀ b, u.ownBlock = some b → W0.heap.size ≤ b := fun b hb => (hown.lt b hb).1; have ht4 := (hgrow.block (w.heap.size + 1 + 1) (by simp; omega) (fun he => by have := hu _ he.symm; omega)).trans (alloc_old ht3 _); obtain ⟨t0, t1, t2, t3, tz⟩ := blk4 ht4)
      have hG4 := grown_set (grown_refl w3 (some (w.heap.size + 1 + 1))) 3 (.slice (some ⟨g, 0, none⟩) (k + 1) cap)
      have hbl4 : ∀ b, W0.heap.size ≤ b → b < w3.heap.size → (w3.setCell ⟨w.heap.size + 1 + 1, 3, none⟩ (.slice (some ⟨g, 0, none⟩) (k + 1) cap)).heap[b]? = w3.heap[b]? := fun b hb hlt => hG4.block b hlt (by simp; omega)
      go_roundw
      case rel =>
        refine ⟨k + 1, _, .slice (some ⟨g, 0, none⟩) (k + 1) cap, by go_num, by omega, own_keep hown3 hbl4, by simpa using setCell_blk ht4 3 (.slice (some ⟨g, 0, none⟩) (k + 1) cap), ?_, ?_⟩
        · rw [take_snoc hlt]
          have hcells3 := nd_append2 (n := k + 1) (cap := cap) hown hsz hcells (w2 := w2.alloc (.cells #[.int .i64 x.kids[k].id, .int .i64 x.kids[k].kind, .string x.kids[k].text, .slice A' x.kids[k].kids.length c'] 24)) (by simp; omega) (fun b hb hlt => (hB2.block b (by omega)).trans (hb'.block b hlt)) hc' (hk'.alloc _) hgrow (by simpa using hat)
          exact hcells3.move fun b hS hlt => ⟨hS, hbl4 b hS.1 hlt⟩
        · exact grown_step (grown_step (grown_step (grown_step hbw (grown_of_below hb' none) (.inr fun b hb => by simp at hb)) (grown_of_below (by go_grown) none) (.inr fun b hb => by simp at hb)) hgrow (.inr hu)) hG4 (.inl rfl)
      case measure => simp [intOf]; omega
    · have g5 : decide (k < x.kids.length) = false := by simpa using hlt
      have hkx : x.kids.take k = x.kids := List.take_of_length_le (by omega)
      obtain ⟨A9, c9, rfl, hc9, hk9⟩ := KidsIn.of_row hown (hcells.mono (S' := fun b => W0.heap.size ≤ b) fun b hb => hb.1) (fun g hg => (hown.lt g hg).1)
      rw [hkx] at hc9 hk9
      have hr1 := (hbw.block (w.heap.size + 1) (by omega) (by simp)).trans hb1
      obtain ⟨r0, r1, r2, r3, rz⟩ := blk4 hr1
      obtain ⟨t0, t1, t2, t3, tz⟩ := blk4 ht
      have HX := Lib.hid hkx
      clear hkx
      go_wp2
      obtain ⟨E, G⟩ := put4 hr1 (.int .i64 x.id) (.int .i64 x.kind) (.string x.text) (.slice A9 k c9)
      generalize (((wr.setCell ⟨w.heap.size + 1, 0, none⟩ (.int .i64 x.id)).setCell ⟨w.heap.size + 1, 1, none⟩ (.int .i64 x.kind)).setCell ⟨w.heap.size + 1, 2, none⟩ (.string x.text)).setCell ⟨w.heap.size + 1, 3, none⟩ (.slice A9 k c9) = Wf at E G ⊢
      obtain ⟨e0, e1, e2, e3, _⟩ := blk4 E
      refine bodyPost_ret (v := .agg #[.int .i64 x.id, .int .i64 x.kind, .string x.text, .slice A9 k c9]) (by simp [results, Try.results92, go_sem, e0, e1, e2, e3]) rfl ?_
      have hkk : k = x.kids.length := by omega
      have hGf : w.grownBy Wf none := grown_step (grown_step (grown_of_below hB none) hbw (.inr fun b hb => by simp at hb; omega)) G (.inr fun b hb => by simp at hb; omega)
      refine ⟨A9, c9, by rw [hkk], hc9, hk9.move fun b hb hlt => ⟨by have := HZ.out; omega, G.block b hlt (by simp; omega)⟩, hGf.os, hGf.tape, hGf.output, hGf.size, fun b hb => hGf.block b hb (by simp)⟩
end Go.Proofs.Ytimjpkmdphccmaa
