/- wire.Step: a walk. -/
import Derived.Test.YtimjpkmdphccmaaWS9
import Derived.Test.YtimjpkmdphccmaaWS6
import Derived.Test.YtimjpkmdphccmaaProg
import Derived.Test.YtimjpkmdphccmaaWS10
import Derived.Test.YtimjpkmdphccmaaWS1
import Derived.Deep.RegionHeld2
import Derived.WalkSpells
import Derived.Tactics
import Derived.Tactics2
import Derived.WalkKit
import Derived.Handy
import Derived.Deep.RegionHeld3
import Derived.Deep.DrawnRows
import Derived.Deep.DeepCutAuto
import Derived.KernelRfl
import Derived.BigRegion
import Derived.BigQuiet
import Derived.Deep.QuietTactic
import Derived.Outline
import Derived.Lib.Hide
import Derived.Laws.StructEq
import Derived.WalkLawsBesides

namespace Go.Proofs.Ytimjpkmdphccmaa
open Go.RowKit
attribute [local go_sem ↓] Go.wp_at_zero Go.wp_at_succ
set_option linter.unusedVariables false
set_option linter.unusedSimpArgs false

/-- May a step be sent? -/
def okOp (s : Stp) : Bool :=
  if s.op = 1 then leastB s.parent 1 && okTree s.sub
  else if s.op = 3 then leastB s.id 1 && leastB s.parent 1
  else if s.op = 2 ∨ s.op = 4 then leastB s.id 1 else false
def okStep (s : Stp) : Bool := Stp.same s (stpPlain s) && decide (s.text.size ≤ 40) && leastB s.place 0 && okOp s
def stAll (w' : World) (b : Nat) (s : Stp) (A : Option Addr) (c : Nat) : Prop := w'.cell? ⟨b, 0, none⟩ = some (.int .i8 s.op) ∧ w'.cell? ⟨b, 0 + 1, none⟩ = some (.int .i64 s.id) ∧ w'.cell? ⟨b, 0 + 2, none⟩ = some (.int .i64 s.parent) ∧ w'.cell? ⟨b, 0 + 3, none⟩ = some (.int .i64 s.place) ∧ w'.cell? ⟨b, 0 + 4, none⟩ = some (.string s.text) ∧ w'.cell? ⟨b, 0 + 5, none⟩ = some (.int .i64 s.sub.id) ∧ w'.cell? ⟨b, 0 + 6, none⟩ = some (.int .i64 s.sub.kind) ∧ w'.cell? ⟨b, 0 + 7, none⟩ = some (.string s.sub.text) ∧ w'.cell? ⟨b, 0 + 8, none⟩ = some (.slice A s.sub.kids.length c)

set_option maxRecDepth 100000 in
set_option maxHeartbeats 2000000 in
theorem wireStep_calls (s : Stp) (A : Option Addr) (c : Nat) (w : World) (ha : KidsAt w A s.sub.kids) (hc : s.sub.kids.length ≤ c) (hN : s.sub.bulk ≤ 1099511627776) (ht : s.text.size ≤ 1099511627776) :
    Calls Try.prog 24 #[.agg #[.int .i8 s.op, .int .i64 s.id, .int .i64 s.parent, .int .i64 s.place, .string s.text, .int .i64 s.sub.id, .int .i64 s.sub.kind, .string s.sub.text, .slice A s.sub.kids.length c]] w fun e w' => e = .returned (.bool (okStep s)) ∧ Below w.heap.size w w' := by
  have hx := alloc_new w (.cells [.int .i8 s.op, .int .i64 s.id, .int .i64 s.parent, .int .i64 s.place, .string s.text, .int .i64 s.sub.id, .int .i64 s.sub.kind, .string s.sub.text, .slice A s.sub.kids.length c].toArray 32)
  have hB : Below w.heap.size w (w.alloc (.cells [.int .i8 s.op, .int .i64 s.id, .int .i64 s.parent, .int .i64 s.place, .string s.text, .int .i64 s.sub.id, .int .i64 s.sub.kind, .string s.sub.text, .slice A s.sub.kids.length c].toArray 32)) := by go_grown
  by_cases hq : Stp.same s (stpPlain s) = true
  · by_cases htx : s.text.size ≤ 40
    · by_cases hp : leastB s.place 0 = true
      · have HN : Hid (okStep s = okOp s) := Lib.hid (by rw [okStep, hq, hp]; simp [htx])
        have d1 : decide ((40 : Int) < (s.text.size : Int)) = false := by simp; omega
        have ha0 := ha.below hB
        clear htx
        go_enter Try.func24, Try.ntmps24
        go_wp2
        generalize w.alloc _ = W0 at hx hB ha0 ⊢
        obtain ⟨x0, x1, x2, x3, x4, x5, x6, x7, x8, xz⟩ := blk9 hx
        first
        | go_region_held3 (fun w' => w'.cell? ⟨w.heap.size, 0, none⟩ = some (.int .i8 s.op) ∧ w'.cell? ⟨w.heap.size, 1, none⟩ = some (.int .i64 s.id) ∧ w'.cell? ⟨w.heap.size, 2, none⟩ = some (.int .i64 s.parent) ∧ w'.cell? ⟨w.heap.size, 3, none⟩ = some (.int .i64 s.place) ∧ w'.cell? ⟨w.heap.size, 4, none⟩ = some (.string s.text) ∧ w'.cell? ⟨w.heap.size, 5, none⟩ = some (.int .i64 s.sub.id) ∧ w'.cell? ⟨w.heap.size, 6, none⟩ = some (.int .i64 s.sub.kind) ∧ w'.cell? ⟨w.heap.size, 7, none⟩ = some (.string s.sub.text) ∧ w'.cell? ⟨w.heap.size, 8, none⟩ = some (.slice A s.sub.kids.length c))
            (first | go_keep | (go_split_ands; (repeat' apply And.intro) <;> first | exact cell_keep hb3 (by assumption) | exact cell_keep hb2 (by assumption)))
            (first
              | (go_at_call 53; refine (undoPlain_calls s A c _ ha0.drew hc hN).mono ?_
                 rintro e w2 ⟨A2, c2, rfl, hc2, hk2, hb2⟩
                 replace hb2 := below_undrew hb2)
              | (go_at_call 50; refine (sameStep_calls s (stpPlain s) A A2 c c2 _ (ha0.below hb2) hk2.at_ hc hc2 hN).mono ?_
                 rintro e w3 ⟨rfl, hb3⟩)
              | (go_at_call 54; refine (least_calls _ _ _).mono ?_; rintro e w4 ⟨rfl, rfl⟩))
        | fail
        all_goals
          have hBB := below_then (below_then hB hb2) hb3
          go_split_ands
          clear x0 x1 x2 x3 x4 x5 x6 x7 x8 xz
          by_cases o1 : s.op = 1
          · have o1' : (s.op == 1) = true := by simpa using o1
            have HO : Hid (okOp s = (leastB s.parent 1 && okTree s.sub)) := Lib.hid (by rw [okOp, if_pos o1])
            clear o1
            cases hl : leastB s.parent 1
            · rw [hl] at HO
              go_wp2_with (first | (go_at_call 54; refine (least_calls _ _ _).mono ?_; rintro e w4 ⟨rfl, rfl⟩) | (go_at_call 26; refine (wireTree_calls s.sub (by omega) A c _ ((ha0.below hb2).below hb3) hc).mono ?_; rintro e w5 ⟨rfl, hb5⟩))
              go_ret
              exact ⟨ret_bool (by rw [HN.out, HO.out]; simp), hBB⟩
            · rw [hl] at HO
              go_wp2_with (first | (go_at_call 54; refine (least_calls _ _ _).mono ?_; rintro e w4 ⟨rfl, rfl⟩) | (go_at_call 26; refine (wireTree_calls s.sub (by omega) A c _ ((ha0.below hb2).below hb3) hc).mono ?_; rintro e w5 ⟨rfl, hb5⟩))
              go_ret
              exact ⟨ret_bool (by rw [HN.out, HO.out]; simp), below_then hBB hb5⟩
          · have o1' : (s.op == 1) = false := by simpa using o1
            by_cases o3 : s.op = 3
            · have o3' : (s.op == 3) = true := by simpa using o3
              have HO : Hid (okOp s = (leastB s.id 1 && leastB s.parent 1)) := Lib.hid (by rw [okOp, if_neg o1, if_pos o3])
              clear o1 o3
              cases hl : leastB s.id 1
              all_goals
                rw [hl] at HO
                go_wp2_with (first | (go_at_call 54; refine (least_calls _ _ _).mono ?_; rintro e w4 ⟨rfl, rfl⟩) | (go_at_call 26; refine (wireTree_calls s.sub (by omega) A c _ ((ha0.below hb2).below hb3) hc).mono ?_; rintro e w5 ⟨rfl, hb5⟩))
                go_ret
                exact ⟨ret_bool (by rw [HN.out, HO.out]; simp), hBB⟩
            · have o3' : (s.op == 3) = false := by simpa using o3
              by_cases o2 : s.op = 2
              · have o2' : (s.op == 2) = true := by simpa using o2
                have HO : Hid (okOp s = leastB s.id 1) := Lib.hid (by rw [okOp, if_neg o1, if_neg o3, if_pos (.inl o2)])
                clear o1 o3 o2
                go_wp2_with (first | (go_at_call 54; refine (least_calls _ _ _).mono ?_; rintro e w4 ⟨rfl, rfl⟩) | (go_at_call 26; refine (wireTree_calls s.sub (by omega) A c _ ((ha0.below hb2).below hb3) hc).mono ?_; rintro e w5 ⟨rfl, hb5⟩))
                go_ret
                exact ⟨ret_bool (by rw [HN.out, HO.out]), hBB⟩
              · have o2' : (s.op == 2) = false := by simpa using o2
                by_cases o4 : s.op = 4
                · have o4' : (s.op == 4) = true := by simpa using o4
                  have HO : Hid (okOp s = leastB s.id 1) := Lib.hid (by rw [okOp, if_neg o1, if_neg o3, if_pos (.inr o4)])
                  clear o1 o3 o2 o4
                  go_wp2_with (first | (go_at_call 54; refine (least_calls _ _ _).mono ?_; rintro e w4 ⟨rfl, rfl⟩) | (go_at_call 26; refine (wireTree_calls s.sub (by omega) A c _ ((ha0.below hb2).below hb3) hc).mono ?_; rintro e w5 ⟨rfl, hb5⟩))
                  go_ret
                  exact ⟨ret_bool (by rw [HN.out, HO.out]), hBB⟩
                · have o4' : (s.op == 4) = false := by simpa using o4
                  have HO : Hid (okOp s = false) := Lib.hid (by rw [okOp, if_neg o1, if_neg o3, if_neg (by simp [o2, o4])])
                  clear o1 o3 o2 o4
                  go_wp2_with (first | (go_at_call 54; refine (least_calls _ _ _).mono ?_; rintro e w4 ⟨rfl, rfl⟩) | (go_at_call 26; refine (wireTree_calls s.sub (by omega) A c _ ((ha0.below hb2).below hb3) hc).mono ?_; rintro e w5 ⟨rfl, hb5⟩))
                  go_ret
                  exact ⟨ret_bool (by rw [HN.out, HO.out]), hBB⟩
      · have hp' : leastB s.place 0 = false := by simpa using hp
        have HN : Hid (okStep s = false) := Lib.hid (by rw [okStep, hp']; simp)
        have d1 : decide ((40 : Int) < (s.text.size : Int)) = false := by simp; omega
        have ha0 := ha.below hB
        clear htx hp
        go_enter Try.func24, Try.ntmps24
        go_wp2
        generalize w.alloc _ = W0 at hx hB ha0 ⊢
        obtain ⟨x0, x1, x2, x3, x4, x5, x6, x7, x8, xz⟩ := blk9 hx
        first
        | go_region_held3 (fun w' => w'.cell? ⟨w.heap.size, 0, none⟩ = some (.int .i8 s.op) ∧ w'.cell? ⟨w.heap.size, 1, none⟩ = some (.int .i64 s.id) ∧ w'.cell? ⟨w.heap.size, 2, none⟩ = some (.int .i64 s.parent) ∧ w'.cell? ⟨w.heap.size, 3, none⟩ = some (.int .i64 s.place) ∧ w'.cell? ⟨w.heap.size, 4, none⟩ = some (.string s.text) ∧ w'.cell? ⟨w.heap.size, 5, none⟩ = some (.int .i64 s.sub.id) ∧ w'.cell? ⟨w.heap.size, 6, none⟩ = some (.int .i64 s.sub.kind) ∧ w'.cell? ⟨w.heap.size, 7, none⟩ = some (.string s.sub.text) ∧ w'.cell? ⟨w.heap.size, 8, none⟩ = some (.slice A s.sub.kids.length c))
            (first | go_keep | (go_split_ands; (repeat' apply And.intro) <;> first | exact cell_keep hb3 (by assumption) | exact cell_keep hb2 (by assumption)))
            (first
              | (go_at_call 53; refine (undoPlain_calls s A c _ ha0.drew hc hN).mono ?_
                 rintro e w2 ⟨A2, c2, rfl, hc2, hk2, hb2⟩
                 replace hb2 := below_undrew hb2)
              | (go_at_call 50; refine (sameStep_calls s (stpPlain s) A A2 c c2 _ (ha0.below hb2) hk2.at_ hc hc2 hN).mono ?_
                 rintro e w3 ⟨rfl, hb3⟩)
              | (go_at_call 54; refine (least_calls _ _ _).mono ?_; rintro e w4 ⟨rfl, rfl⟩))
        | fail
        all_goals
          go_wp2
          go_ret
          exact ⟨ret_bool HN.out.symm, below_then (below_then hB hb2) hb3⟩
    · have HN : Hid (okStep s = false) := Lib.hid (by rw [okStep]; simp [htx])
      have d1 : decide ((40 : Int) < (s.text.size : Int)) = true := by simp; omega
      have ha0 := ha.below hB
      clear htx
      go_enter Try.func24, Try.ntmps24
      go_wp2
      generalize w.alloc _ = W0 at hx hB ha0 ⊢
      obtain ⟨x0, x1, x2, x3, x4, x5, x6, x7, x8, xz⟩ := blk9 hx
      first
      | go_region_with (first
        | (go_at_call 53; refine (undoPlain_calls s A c _ (by first | exact ha0 | exact ha0.drew | exact ha0.drew.drew) hc hN).mono ?_
           rintro e w2 ⟨A2, c2, rfl, hc2, hk2, hb2⟩
           repeat (replace hb2 := below_undrew hb2)
           have hx2 := (hb2.block _ (Array.getElem?_eq_some_iff.1 hx).1).trans hx
           obtain ⟨y0, y1, y2, y3, y4, y5, y6, y7, y8, yz⟩ := blk9 hx2)
        | (go_at_call 50; refine (sameStep_calls s (stpPlain s) A A2 c c2 _ (by first | exact ha0.below hb2 | exact (ha0.below hb2).drew | exact (ha0.below hb2).drew.drew) (by first | exact hk2.at_ | exact hk2.at_.drew | exact hk2.at_.drew.drew) hc hc2 hN).mono ?_
           rintro e w3 ⟨rfl, hb3⟩
           repeat (replace hb3 := below_undrew hb3)
           have hx3 := (hb3.block _ (Array.getElem?_eq_some_iff.1 hx2).1).trans hx2
           obtain ⟨z0, z1, z2, z3, z4, z5, z6, z7, z8, zz⟩ := blk9 hx3))
      | fail
      all_goals
        go_wp2
        go_ret
        exact ⟨ret_bool HN.out.symm, below_then (below_then hB hb2) hb3⟩
  · have hq' : Stp.same s (stpPlain s) = false := by simpa using hq
    have HN : Hid (okStep s = false) := Lib.hid (by rw [okStep, hq']; simp)
    have ha0 := ha.below hB
    clear hq
    go_enter Try.func24, Try.ntmps24
    go_wp2
    generalize w.alloc _ = W0 at hx hB ha0 ⊢
    obtain ⟨x0, x1, x2, x3, x4, x5, x6, x7, x8, xz⟩ := blk9 hx
    first
    | go_region_with (first
      | (go_at_call 53; refine (undoPlain_calls s A c _ (by first | exact ha0 | exact ha0.drew | exact ha0.drew.drew) hc hN).mono ?_
         rintro e w2 ⟨A2, c2, rfl, hc2, hk2, hb2⟩
         repeat (replace hb2 := below_undrew hb2)
         have hx2 := (hb2.block _ (Array.getElem?_eq_some_iff.1 hx).1).trans hx
         obtain ⟨y0, y1, y2, y3, y4, y5, y6, y7, y8, yz⟩ := blk9 hx2)
      | (go_at_call 50; refine (sameStep_calls s (stpPlain s) A A2 c c2 _ (by first | exact ha0.below hb2 | exact (ha0.below hb2).drew | exact (ha0.below hb2).drew.drew) (by first | exact hk2.at_ | exact hk2.at_.drew | exact hk2.at_.drew.drew) hc hc2 hN).mono ?_
         rintro e w3 ⟨rfl, hb3⟩
         repeat (replace hb3 := below_undrew hb3)
         have hx3 := (hb3.block _ (Array.getElem?_eq_some_iff.1 hx2).1).trans hx2
         obtain ⟨z0, z1, z2, z3, z4, z5, z6, z7, z8, zz⟩ := blk9 hx3))
    | fail
    all_goals
      go_wp2
      go_ret
      exact ⟨ret_bool HN.out.symm, below_then (below_then hB hb2) hb3⟩
end Go.Proofs.Ytimjpkmdphccmaa

/- ref14.Step: a walk. -/
namespace Go.Proofs.Ytimjpkmdphccmaa
open Go.RowKit
attribute [local go_sem ↓] Go.wp_at_zero Go.wp_at_succ
set_option linter.unusedVariables false
set_option linter.unusedSimpArgs false

/-- What ref14 says of a step. -/
def okStep14 (s : Stp) : Bool :=
  let p := Stp.same s (stpPlain s)
  if s.op = 1 then p && leastB s.parent 1 && leastB s.place 0 && okTree s.sub
  else if s.op = 2 then p && leastB s.id 1
  else if s.op = 3 then p && leastB s.id 1 && leastB s.parent 1 && leastB s.place 0
  else if s.op = 4 then p && leastB s.id 1 && decide (s.text.size ≤ 40)
  else false

set_option maxRecDepth 100000 in
set_option maxHeartbeats 1000000 in
theorem refStep_calls (s : Stp) (A : Option Addr) (c : Nat) (w : World) (ha : KidsAt w A s.sub.kids) (hc : s.sub.kids.length ≤ c) (hN : s.sub.bulk ≤ 1099511627776) (ht : s.text.size ≤ 1099511627776) :
    Calls Try.prog 25 #[.agg #[.int .i8 s.op, .int .i64 s.id, .int .i64 s.parent, .int .i64 s.place, .string s.text, .int .i64 s.sub.id, .int .i64 s.sub.kind, .string s.sub.text, .slice A s.sub.kids.length c]] w fun e w' => e = .returned (.bool (okStep14 s)) ∧ Below w.heap.size w w' := by
  have hx := alloc_new w (.cells [.int .i8 s.op, .int .i64 s.id, .int .i64 s.parent, .int .i64 s.place, .string s.text, .int .i64 s.sub.id, .int .i64 s.sub.kind, .string s.sub.text, .slice A s.sub.kids.length c].toArray 32)
  have hB : Below w.heap.size w (w.alloc (.cells [.int .i8 s.op, .int .i64 s.id, .int .i64 s.parent, .int .i64 s.place, .string s.text, .int .i64 s.sub.id, .int .i64 s.sub.kind, .string s.sub.text, .slice A s.sub.kids.length c].toArray 32)) := by go_grown
  have ha0 := ha.below hB
  have HN : Hid (okStep14 s = if s.op = 1 then Stp.same s (stpPlain s) && leastB s.parent 1 && leastB s.place 0 && okTree s.sub else if s.op = 2 then Stp.same s (stpPlain s) && leastB s.id 1 else if s.op = 3 then Stp.same s (stpPlain s) && leastB s.id 1 && leastB s.parent 1 && leastB s.place 0 else if s.op = 4 then Stp.same s (stpPlain s) && leastB s.id 1 && decide (s.text.size ≤ 40) else false) := Lib.hid rfl
  go_enter Try.func25, Try.ntmps25
  go_wp2
  generalize w.alloc _ = W0 at hx hB ha0 ⊢
  obtain ⟨x0, x1, x2, x3, x4, x5, x6, x7, x8, xz⟩ := blk9 hx
  go_region_held3 (fun w' => w'.cell? ⟨w.heap.size, 0, none⟩ = some (.int .i8 s.op) ∧ w'.cell? ⟨w.heap.size, 1, none⟩ = some (.int .i64 s.id) ∧ w'.cell? ⟨w.heap.size, 2, none⟩ = some (.int .i64 s.parent) ∧ w'.cell? ⟨w.heap.size, 3, none⟩ = some (.int .i64 s.place) ∧ w'.cell? ⟨w.heap.size, 4, none⟩ = some (.string s.text) ∧ w'.cell? ⟨w.heap.size, 5, none⟩ = some (.int .i64 s.sub.id) ∧ w'.cell? ⟨w.heap.size, 6, none⟩ = some (.int .i64 s.sub.kind) ∧ w'.cell? ⟨w.heap.size, 7, none⟩ = some (.string s.sub.text) ∧ w'.cell? ⟨w.heap.size, 8, none⟩ = some (.slice A s.sub.kids.length c))
    (first | go_keep | (go_split_ands; (repeat' apply And.intro) <;> first | exact cell_keep hb3 (by assumption) | exact cell_keep hb2 (by assumption)))
    (first
      | (go_at_call 56; refine (refPlain_calls s A c _ ha0.drew hc hN).mono ?_
         rintro e w2 ⟨A2, c2, rfl, hc2, hk2, hb2⟩
         replace hb2 := below_undrew hb2)
      | (go_at_call 55; refine (refSameStep_calls s (stpPlain s) A A2 c c2 _ (ha0.below hb2) hk2.at_ hc hc2 hN).mono ?_
         rintro e w3 ⟨rfl, hb3⟩))
  all_goals
    have hBB := below_then (below_then hB hb2) hb3
    go_split_ands
    clear x0 x1 x2 x3 x4 x5 x6 x7 x8 xz
    have haw := (ha0.below hb2).below hb3
    generalize Stp.same s (stpPlain s) = p at HN ⊢
    cases p
    all_goals
      by_cases o1 : s.op = 1
      · have d1 : (s.op == 1) = true := by simpa using o1
        have HO := Lib.hid (HN.out.trans (if_pos o1))
        clear HN o1
        go_wp2_with (first | (go_at_call 46; refine (rnum_calls _ _ _).mono ?_; rintro e w4 ⟨rfl, rfl⟩) | (go_at_call 27; refine (refTreeTop_calls s.sub A c _ haw hc hN).mono ?_; rintro e w5 ⟨rfl, hb5⟩))
        all_goals
          go_ret
          first
            | (refine ⟨ret_bool ?_, below_then hBB hb5⟩; rw [HO.out]; done)
            | (refine ⟨ret_bool ?_, below_then hBB hb5⟩; rw [HO.out]; simp_all; done)
            | (refine ⟨ret_bool ?_, below_then hBB hb5⟩; rw [HO.out]; simp_all; omega; done)
            | (refine ⟨ret_bool ?_, hBB⟩; rw [HO.out]; done)
            | (refine ⟨ret_bool ?_, hBB⟩; rw [HO.out]; simp_all; done)
            | (refine ⟨ret_bool ?_, hBB⟩; rw [HO.out]; simp_all; omega; done)
      by_cases o2 : s.op = 2
      · have d1 : (s.op == 1) = false := by simpa using o1
        have d2 : (s.op == 2) = true := by simpa using o2
        have HO := Lib.hid ((HN.out.trans (if_neg o1)).trans (if_pos o2))
        clear HN o1 o2
        go_wp2_with (first | (go_at_call 46; refine (rnum_calls _ _ _).mono ?_; rintro e w4 ⟨rfl, rfl⟩) | (go_at_call 27; refine (refTreeTop_calls s.sub A c _ haw hc hN).mono ?_; rintro e w5 ⟨rfl, hb5⟩))
        all_goals
          go_ret
          first
            | (refine ⟨ret_bool ?_, below_then hBB hb5⟩; rw [HO.out]; done)
            | (refine ⟨ret_bool ?_, below_then hBB hb5⟩; rw [HO.out]; simp_all; done)
            | (refine ⟨ret_bool ?_, below_then hBB hb5⟩; rw [HO.out]; simp_all; omega; done)
            | (refine ⟨ret_bool ?_, hBB⟩; rw [HO.out]; done)
            | (refine ⟨ret_bool ?_, hBB⟩; rw [HO.out]; simp_all; done)
            | (refine ⟨ret_bool ?_, hBB⟩; rw [HO.out]; simp_all; omega; done)
      by_cases o3 : s.op = 3
      · have d1 : (s.op == 1) = false := by simpa using o1
        have d2 : (s.op == 2) = false := by simpa using o2
        have d3 : (s.op == 3) = true := by simpa using o3
        have HO := Lib.hid (((HN.out.trans (if_neg o1)).trans (if_neg o2)).trans (if_pos o3))
        clear HN o1 o2 o3
        go_wp2_with (first | (go_at_call 46; refine (rnum_calls _ _ _).mono ?_; rintro e w4 ⟨rfl, rfl⟩) | (go_at_call 27; refine (refTreeTop_calls s.sub A c _ haw hc hN).mono ?_; rintro e w5 ⟨rfl, hb5⟩))
        all_goals
          go_ret
          first
            | (refine ⟨ret_bool ?_, below_then hBB hb5⟩; rw [HO.out]; done)
            | (refine ⟨ret_bool ?_, below_then hBB hb5⟩; rw [HO.out]; simp_all; done)
            | (refine ⟨ret_bool ?_, below_then hBB hb5⟩; rw [HO.out]; simp_all; omega; done)
            | (refine ⟨ret_bool ?_, hBB⟩; rw [HO.out]; done)
            | (refine ⟨ret_bool ?_, hBB⟩; rw [HO.out]; simp_all; done)
            | (refine ⟨ret_bool ?_, hBB⟩; rw [HO.out]; simp_all; omega; done)
      have d1 : (s.op == 1) = false := by simpa using o1
      have d2 : (s.op == 2) = false := by simpa using o2
      have d3 : (s.op == 3) = false := by simpa using o3
      by_cases o4 : s.op = 4
      · have d4 : (s.op == 4) = true := by simpa using o4
        have HO := Lib.hid ((((HN.out.trans (if_neg o1)).trans (if_neg o2)).trans (if_neg o3)).trans (if_pos o4))
        clear HN o1 o2 o3 o4
        go_wp2_with (first | (go_at_call 46; refine (rnum_calls _ _ _).mono ?_; rintro e w4 ⟨rfl, rfl⟩) | (go_at_call 27; refine (refTreeTop_calls s.sub A c _ haw hc hN).mono ?_; rintro e w5 ⟨rfl, hb5⟩))
        all_goals
          go_ret
          first
            | (refine ⟨ret_bool ?_, below_then hBB hb5⟩; rw [HO.out]; done)
            | (refine ⟨ret_bool ?_, below_then hBB hb5⟩; rw [HO.out]; simp_all; done)
            | (refine ⟨ret_bool ?_, below_then hBB hb5⟩; rw [HO.out]; simp_all; omega; done)
            | (refine ⟨ret_bool ?_, hBB⟩; rw [HO.out]; done)
            | (refine ⟨ret_bool ?_, hBB⟩; rw [HO.out]; simp_all; done)
            | (refine ⟨ret_bool ?_, hBB⟩; rw [HO.out]; simp_all; omega; done)
      have d4 : (s.op == 4) = false := by simpa using o4
      have HO := Lib.hid ((((HN.out.trans (if_neg o1)).trans (if_neg o2)).trans (if_neg o3)).trans (if_neg o4))
      clear HN o1 o2 o3 o4
      go_wp2_with (first | (go_at_call 46; refine (rnum_calls _ _ _).mono ?_; rintro e w4 ⟨rfl, rfl⟩) | (go_at_call 27; refine (refTreeTop_calls s.sub A c _ haw hc hN).mono ?_; rintro e w5 ⟨rfl, hb5⟩))
      all_goals
        go_ret
        first
          | (refine ⟨ret_bool ?_, below_then hBB hb5⟩; rw [HO.out]; done)
          | (refine ⟨ret_bool ?_, below_then hBB hb5⟩; rw [HO.out]; simp_all; done)
          | (refine ⟨ret_bool ?_, below_then hBB hb5⟩; rw [HO.out]; simp_all; omega; done)
          | (refine ⟨ret_bool ?_, hBB⟩; rw [HO.out]; done)
          | (refine ⟨ret_bool ?_, hBB⟩; rw [HO.out]; simp_all; done)
          | (refine ⟨ret_bool ?_, hBB⟩; rw [HO.out]; simp_all; omega; done)
end Go.Proofs.Ytimjpkmdphccmaa

/- The plain law of WireSteps: both say the same of a step. -/
namespace Go.Proofs.Ytimjpkmdphccmaa
set_option linter.unusedSimpArgs false

theorem okStep_same (s : Stp) : okStep s = okStep14 s := by
  have l0 : leastB 0 0 = true := by decide
  rw [okStep, okStep14, okOp]
  by_cases o1 : s.op = 1
  · simp only [o1, if_pos]
    cases hp : Stp.same s (stpPlain s)
    · simp
    · have hp' := hp
      rw [Stp.same, stpPlain, if_pos o1] at hp'
      simp only [Bool.and_eq_true, decide_eq_true_eq] at hp'
      have ht : s.text.size ≤ 40 := by rw [hp'.1.2]; decide
      simp [ht]
      cases leastB s.place 0 <;> cases leastB s.parent 1 <;> simp
  by_cases o2 : s.op = 2
  · have o3 : ¬ s.op = 3 := by omega
    simp only [o1, o2, o3, if_neg, if_pos, not_false_eq_true, true_or]
    cases hp : Stp.same s (stpPlain s)
    · simp
    · have hp' := hp
      rw [Stp.same, stpPlain, if_neg o1, if_neg o3, if_pos o2] at hp'
      simp only [Bool.and_eq_true, decide_eq_true_eq] at hp'
      have ht : s.text.size ≤ 40 := by rw [hp'.1.2]; decide
      have hpl : s.place = 0 := hp'.1.1.2
      simp [ht, hpl, l0]
  by_cases o3 : s.op = 3
  · simp only [o1, o2, o3, if_neg, if_pos, not_false_eq_true]
    cases hp : Stp.same s (stpPlain s)
    · simp
    · have hp' := hp
      rw [Stp.same, stpPlain, if_neg o1, if_pos o3] at hp'
      simp only [Bool.and_eq_true, decide_eq_true_eq] at hp'
      have ht : s.text.size ≤ 40 := by rw [hp'.1.2]; decide
      simp [ht]
      cases leastB s.place 0 <;> cases leastB s.parent 1 <;> cases leastB s.id 1 <;> simp
  by_cases o4 : s.op = 4
  · simp only [o1, o2, o3, o4, if_neg, if_pos, not_false_eq_true, or_true]
    cases hp : Stp.same s (stpPlain s)
    · simp
    · have hp' := hp
      rw [Stp.same, stpPlain, if_neg o1, if_neg o3, if_neg o2, if_pos o4] at hp'
      simp only [Bool.and_eq_true, decide_eq_true_eq] at hp'
      have hpl : s.place = 0 := hp'.1.1.2
      simp [hpl, l0]
      cases leastB s.id 1 <;> simp
  · simp [o1, o2, o3, o4]
end Go.Proofs.Ytimjpkmdphccmaa

/- wire.Same: a walk. -/
namespace Go.Proofs.Ytimjpkmdphccmaa
open Go.RowKit
attribute [local go_sem ↓] Go.wp_at_zero Go.wp_at_succ
set_option linter.unusedVariables false
set_option linter.unusedSimpArgs false

def Msg.nums (m : Msg) : List Int := [m.kind, m.from_, m.to_, m.boot, m.server, m.number, m.node, m.lease, m.epoch, m.version, m.e]
def Msg.same (a b : Msg) : Bool := stpsSame a.steps b.steps && Nd.same a.tree b.tree && decide (a.nums = b.nums)
/-- A message's rows lie in memory. -/
def MsgAt (S : Nat → Prop) (w : World) (m : Msg) (As : Option Addr) (cs : Nat) (At : Option Addr) (ct : Nat) : Prop := m.steps.length ≤ cs ∧ StepsIn S w As m.steps ∧ m.tree.kids.length ≤ ct ∧ KidsIn S w At m.tree.kids

theorem blk16 {w : World} {b : Nat} {c0 c1 c2 c3 c4 c5 c6 c7 c8 c9 c10 c11 c12 c13 c14 c15 : Value} {t : TypeId} (h : w.heap[b]? = some (.cells [c0, c1, c2, c3, c4, c5, c6, c7, c8, c9, c10, c11, c12, c13, c14, c15].toArray t (0, 0))) :
    w.cell? ⟨b, 0, none⟩ = some c0 ∧ w.cell? ⟨b, 1, none⟩ = some c1 ∧ w.cell? ⟨b, 2, none⟩ = some c2 ∧ w.cell? ⟨b, 3, none⟩ = some c3 ∧ w.cell? ⟨b, 4, none⟩ = some c4 ∧ w.cell? ⟨b, 5, none⟩ = some c5 ∧ w.cell? ⟨b, 6, none⟩ = some c6 ∧ w.cell? ⟨b, 7, none⟩ = some c7 ∧ w.cell? ⟨b, 8, none⟩ = some c8 ∧ w.cell? ⟨b, 9, none⟩ = some c9 ∧ w.cell? ⟨b, 10, none⟩ = some c10 ∧ w.cell? ⟨b, 11, none⟩ = some c11 ∧ w.cell? ⟨b, 12, none⟩ = some c12 ∧ w.cell? ⟨b, 13, none⟩ = some c13 ∧ w.cell? ⟨b, 14, none⟩ = some c14 ∧ w.cell? ⟨b, 15, none⟩ = some c15 ∧ (∀ j, w.frozen? ⟨b, j, none⟩ = false) := by
  simp [World.cell?, World.frozen?, h]

theorem all_range_eqI : ∀ (xs ys : List Int), xs.length = ys.length → ((List.range xs.length).all fun i => xs.getD i 0 == ys.getD i 0) = (xs == ys)
  | [], [], _ => rfl
  | x :: xs, y :: ys, h => by
    have ih := all_range_eqI xs ys (by simpa using h)
    rw [List.length_cons, List.range_succ_eq_map, List.all_cons, List.all_map]
    simp only [List.getD_cons_zero, Function.comp_def, List.getD_cons_succ, ih]
    simp [List.cons_beq_cons]
  | [], _ :: _, h => by simp at h
  | _ :: _, [], h => by simp at h
theorem run_equalIn_ints {P : Program} (w : World) (d : Nat) (t e : TypeId) (n : Nat) (ht : P.underlying t = some (.array n e)) (he : P.underlying e = some (.int .i64)) (hsz : ∀ w, (sizeOf e).run P w = .ok 1 w)
    (xs ys : List Int) (hx : xs.length = n) (hy : ys.length = n) :
    (Op.equalIn (d + 2) t (.agg (xs.map (Value.int .i64)).toArray) (.agg (ys.map (Value.int .i64)).toArray)).run P w = .ok (xs == ys) w := by
  rw [← all_range_eqI xs ys (hx.trans hy.symm), hx, List.range_eq_range', Op.equalIn]
  simp only [Sem.run_bind, run_underlying ht, Result.andThen_ok, hsz, Std.Legacy.Range.forIn_eq_forIn_range', Std.Legacy.Range.size, Nat.sub_zero, Nat.add_sub_cancel, Nat.div_one]
  have hl : ∀ i ∈ List.range' 0 n 1, i < n := fun i hi => by simpa using (List.mem_range'_1.1 hi).2
  generalize List.range' 0 n 1 = l at hl ⊢
  induction l with
  | nil => simp
  | cons i l ih =>
    have hi : i < n := hl i (by simp)
    have px : (part e (xs.map (Value.int .i64)).toArray (i * 1)).run P w = .ok (Value.int .i64 (xs.getD i 0)) w := by
      simp [part, isAgg, run_underlying he, List.getD, List.getElem?_eq_getElem (show i < xs.length by omega)]
    have py : (part e (ys.map (Value.int .i64)).toArray (i * 1)).run P w = .ok (Value.int .i64 (ys.getD i 0)) w := by
      simp [part, isAgg, run_underlying he, List.getD, List.getElem?_eq_getElem (show i < ys.length by omega)]
    have pe : (Op.equalIn (d + 1) e (Value.int .i64 (xs.getD i 0)) (Value.int .i64 (ys.getD i 0))).run P w = .ok (xs.getD i 0 == ys.getD i 0) w := run_equalIn_int w d e .i64 .i64 _ _ he
    simp only [List.forIn_cons, Sem.run_bind, px, py, pe, Result.andThen_ok, List.all_cons]
    cases hb : (xs.getD i 0 == ys.getD i 0)
    · simp
    · simp only [Bool.not_true, Bool.false_eq_true, if_false, Sem.run_pure, Result.andThen_ok, Bool.true_and]
      exact ih fun j hj => hl j (by simp [hj])
theorem info_int1 : ∀ w, (sizeOf 3).run Try.prog w = .ok 1 w := by
  obtain ⟨i, h, h0, h1, h2⟩ := info_parts info_int
  intro w
  have hc : Try.prog.cellsOf 3 = 1 := by kernel_rfl
  rw [run_sizeOf w h, hc]
theorem guard_nums : Try.prog.eqGuardType Try.prog.depth 93 = false := by kernel_rfl
theorem eqNums (a b : Msg) (w : World) : (binOp .eql 93 (.agg #[.int .i64 a.kind, .int .i64 a.from_, .int .i64 a.to_, .int .i64 a.boot, .int .i64 a.server, .int .i64 a.number, .int .i64 a.node, .int .i64 a.lease, .int .i64 a.epoch, .int .i64 a.version, .int .i64 a.e]) (.agg #[.int .i64 b.kind, .int .i64 b.from_, .int .i64 b.to_, .int .i64 b.boot, .int .i64 b.server, .int .i64 b.number, .int .i64 b.node, .int .i64 b.lease, .int .i64 b.epoch, .int .i64 b.version, .int .i64 b.e])).run Try.prog w = .ok (.bool (a.nums == b.nums)) w := by
  rw [run_eql_struct]
  have := run_equalIn_ints (P := Try.prog) w 9998 93 3 11 Try.underlying93 Try.underlying3 info_int1 a.nums b.nums rfl rfl
  simp only [Msg.nums, List.map_cons, List.map_nil] at this
  rw [this]
  rfl

set_option maxRecDepth 100000 in
set_option maxHeartbeats 8000000 in
theorem WireSame_calls (a b : Msg) (Asa Ata Asb Atb : Option Addr) (csa cta csb ctb : Nat) (w : World) (ha : MsgAt (fun _ => True) w a Asa csa Ata cta) (hb : MsgAt (fun _ => True) w b Asb csb Atb ctb) (hN : a.bulk ≤ 1099511627776) (hka : -128 ≤ a.kind ∧ a.kind ≤ 127) (hkb : -128 ≤ b.kind ∧ b.kind ≤ 127) :
    Calls Try.prog 21 #[.agg #[.int .i8 a.kind, .int .i64 a.from_, .int .i64 a.to_, .int .i64 a.boot, .int .i64 a.server, .int .i64 a.number, .int .i64 a.node, .int .i64 a.lease, .int .i64 a.epoch, .int .i64 a.version, .int .i64 a.e, .slice Asa a.steps.length csa, .int .i64 a.tree.id, .int .i64 a.tree.kind, .string a.tree.text, .slice Ata a.tree.kids.length cta], .agg #[.int .i8 b.kind, .int .i64 b.from_, .int .i64 b.to_, .int .i64 b.boot, .int .i64 b.server, .int .i64 b.number, .int .i64 b.node, .int .i64 b.lease, .int .i64 b.epoch, .int .i64 b.version, .int .i64 b.e, .slice Asb b.steps.length csb, .int .i64 b.tree.id, .int .i64 b.tree.kind, .string b.tree.text, .slice Atb b.tree.kids.length ctb]] w fun e w' => e = .returned (.bool (Msg.same a b)) ∧ Below w.heap.size w w' := by
  have hN' : stepsBulk a.steps ≤ 1099511627776 ∧ a.tree.bulk ≤ 1099511627776 := by rw [Msg.bulk] at hN; omega
  obtain ⟨hsa, hsa', hta, hta'⟩ := ha
  obtain ⟨hka1, hka2⟩ := hka
  obtain ⟨hkb1, hkb2⟩ := hkb
  obtain ⟨hsb, hsb', htb, htb'⟩ := hb
  have hEQ := eqNums a b
  have hGD := guard_nums
  go_enter Try.func21, Try.ntmps21
  go_wp2_with fail
  generalize hW1 : (w.alloc _).alloc _ = W1
  have hB1 : Below w.heap.size w W1 := by rw [← hW1]; go_grown
  have hx : W1.heap[w.heap.size]? = some (.cells [.int .i8 a.kind, .int .i64 a.from_, .int .i64 a.to_, .int .i64 a.boot, .int .i64 a.server, .int .i64 a.number, .int .i64 a.node, .int .i64 a.lease, .int .i64 a.epoch, .int .i64 a.version, .int .i64 a.e, .slice Asa a.steps.length csa, .int .i64 a.tree.id, .int .i64 a.tree.kind, .string a.tree.text, .slice Ata a.tree.kids.length cta].toArray 41 (0, 0)) := by rw [← hW1]; exact alloc_old (alloc_new _ _) _
  have hy : W1.heap[w.heap.size + 1]? = some (.cells [.int .i8 b.kind, .int .i64 b.from_, .int .i64 b.to_, .int .i64 b.boot, .int .i64 b.server, .int .i64 b.number, .int .i64 b.node, .int .i64 b.lease, .int .i64 b.epoch, .int .i64 b.version, .int .i64 b.e, .slice Asb b.steps.length csb, .int .i64 b.tree.id, .int .i64 b.tree.kind, .string b.tree.text, .slice Atb b.tree.kids.length ctb].toArray 41 (0, 0)) := by rw [← hW1]; exact alloc_new1 _ _ _
  clear hW1
  refine (eqSteps_calls a.steps b.steps Asa Asb csa csb W1 (hsa'.later hB1) (hsb'.later hB1) hsa hsb hN'.1).mono ?_
  rintro e w2 ⟨rfl, hb2⟩
  have hx2 := (hb2.block _ (Array.getElem?_eq_some_iff.1 hx).1).trans hx
  have hy2 := (hb2.block _ (Array.getElem?_eq_some_iff.1 hy).1).trans hy
  have hB2 := below_then hB1 hb2
  obtain ⟨x0, x1, x2, x3, x4, x5, x6, x7, x8, x9, x10, x11, x12, x13, x14, x15, xz⟩ := blk16 hx2
  obtain ⟨y0, y1, y2, y3, y4, y5, y6, y7, y8, y9, y10, y11, y12, y13, y14, y15, yz⟩ := blk16 hy2
  by_cases hst : stpsSame a.steps b.steps = true
  · have HST := Lib.hid hst
    rw [hst]
    clear hst
    go_wp2_with fail
    refine (TSame_calls a.tree b.tree Ata Atb cta ctb w2 ((hta'.below hB1).below hb2) ((htb'.below hB1).below hb2) hta htb hN'.2).mono ?_
    rintro e w3 ⟨rfl, hb3⟩
    have hx3 := (hb3.block _ (Array.getElem?_eq_some_iff.1 hx2).1).trans hx2
    have hy3 := (hb3.block _ (Array.getElem?_eq_some_iff.1 hy2).1).trans hy2
    have hB3 := below_then hB2 hb3
    clear x0 x1 x2 x3 x4 x5 x6 x7 x8 x9 x10 x11 x12 x13 x14 x15 y0 y1 y2 y3 y4 y5 y6 y7 y8 y9 y10 y11 y12 y13 y14 y15 xz yz
    obtain ⟨x0, x1, x2, x3, x4, x5, x6, x7, x8, x9, x10, x11, x12, x13, x14, x15, xz⟩ := blk16 hx3
    obtain ⟨y0, y1, y2, y3, y4, y5, y6, y7, y8, y9, y10, y11, y12, y13, y14, y15, yz⟩ := blk16 (alloc_old hy3 (.cells #[.int .i64 a.kind, .int .i64 a.from_, .int .i64 a.to_, .int .i64 a.boot, .int .i64 a.server, .int .i64 a.number, .int .i64 a.node, .int .i64 a.lease, .int .i64 a.epoch, .int .i64 a.version, .int .i64 a.e] 93))
    go_wp2
    · rename_i hq
      go_ret
      refine ⟨ret_bool ?_, (hB3.alloc hB3.size _).alloc (by have := hB3.size; simp; omega) _⟩
      rw [Msg.same, HST.out, hq]
      simp [Bool.beq_eq_decide_eq]
    · rename_i hq
      go_ret
      refine ⟨ret_bool ?_, (hB3.alloc hB3.size _).alloc (by have := hB3.size; simp; omega) _⟩
      rw [Msg.same, HST.out]
      simp [hq]
  · have hst' : stpsSame a.steps b.steps = false := by simpa using hst
    have HST := Lib.hid hst'
    rw [hst']
    clear hst hst' y0 y1 y2 y3 y4 y5 y6 y7 y8 y9 y10 y11 y12 y13 y14 y15 yz
    obtain ⟨y0, y1, y2, y3, y4, y5, y6, y7, y8, y9, y10, y11, y12, y13, y14, y15, yz⟩ := blk16 (alloc_old hy2 (.cells #[.int .i64 a.kind, .int .i64 a.from_, .int .i64 a.to_, .int .i64 a.boot, .int .i64 a.server, .int .i64 a.number, .int .i64 a.node, .int .i64 a.lease, .int .i64 a.epoch, .int .i64 a.version, .int .i64 a.e] 93))
    go_wp2
    go_ret
    refine ⟨ret_bool ?_, (hB2.alloc hB2.size _).alloc (by have := hB2.size; simp; omega) _⟩
    rw [Msg.same, HST.out]
    simp
end Go.Proofs.Ytimjpkmdphccmaa
