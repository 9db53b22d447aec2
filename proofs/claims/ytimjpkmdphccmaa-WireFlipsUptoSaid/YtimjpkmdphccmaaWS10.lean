/- ref10.Plain: a walk. -/
import Derived.Test.YtimjpkmdphccmaaWS9
import Derived.Test.YtimjpkmdphccmaaProg
import Derived.Test.YtimjpkmdphccmaaWS8
import Derived.Test.YtimjpkmdphccmaaWS6
import Derived.Test.YtimjpkmdphccmaaWS4
import Derived.Deep.RegionHeld2
import Derived.WalkSpells
import Derived.Tactics
import Derived.Tactics2
import Derived.WalkKit
import Derived.Handy
import Derived.Deep.RegionHeld3
import Derived.Deep.DrawnRows
import Derived.Deep.DeepCutAuto
import Derived.KernelRfl
import Derived.BigRegion
import Derived.BigQuiet
import Derived.Deep.QuietTactic
import Derived.Outline
import Derived.Lib.Hide

namespace Go.Proofs.Ytimjpkmdphccmaa
open Go.RowKit
attribute [local go_sem ↓] Go.wp_at_zero Go.wp_at_succ
set_option linter.unusedVariables false
set_option linter.unusedSimpArgs false

set_option maxRecDepth 100000 in
set_option maxHeartbeats 1000000 in
theorem refPlain_calls (s : Stp) (A : Option Addr) (c : Nat) (w : World) (ha : KidsAt w A s.sub.kids) (hc : s.sub.kids.length ≤ c) (hN : s.sub.bulk ≤ 1099511627776) :
    Calls Try.prog 56 #[.agg #[.int .i8 s.op, .int .i64 s.id, .int .i64 s.parent, .int .i64 s.place, .string s.text, .int .i64 s.sub.id, .int .i64 s.sub.kind, .string s.sub.text, .slice A s.sub.kids.length c]] w (MadeSt (stpPlain s) w) := by
  by_cases o1 : s.op = 1
  · have d1 : (s.op == 1) = true := by simpa using o1
    have HP : Hid (stpPlain s = ⟨s.op, 0, s.parent, s.place, ⟨#[]⟩, s.sub⟩) := Lib.hid (by simp [stpPlain, o1])
    clear o1
    go_enter Try.func56, Try.ntmps56
    go_wp2
    generalize hW0 : (w.alloc _).alloc _ = W0
    have hB : Below w.heap.size w W0 := by rw [← hW0]; go_grown
    have hx : W0.heap[w.heap.size]? = some (.cells [.int .i8 s.op, .int .i64 s.id, .int .i64 s.parent, .int .i64 s.place, .string s.text, .int .i64 s.sub.id, .int .i64 s.sub.kind, .string s.sub.text, .slice A s.sub.kids.length c].toArray 32 (0, 0)) := by rw [← hW0]; exact alloc_old (alloc_new _ _) _
    have hr : W0.heap[w.heap.size + 1]? = some (.cells [.int .i8 0, .int .i64 0, .int .i64 0, .int .i64 0, .string ⟨#[]⟩, .int .i64 0, .int .i64 0, .string ⟨#[]⟩, .slice none 0 0].toArray 32 (0, 0)) := by rw [← hW0]; exact alloc_new1 _ _ _
    clear hW0
    obtain ⟨x0, x1, x2, x3, x4, x5, x6, x7, x8, xz⟩ := blk9 hx
    have ha0 := ha.below hB
    have lx := (Array.getElem?_eq_some_iff.1 hx).1
    have lr := (Array.getElem?_eq_some_iff.1 hr).1
    have j1 : ¬ w.heap.size + 1 = w.heap.size := by omega
    go_region_held2 (fun w' => w'.cell? ⟨w.heap.size, 0, none⟩ = some (.int .i8 s.op) ∧ w'.cell? ⟨w.heap.size, 2, none⟩ = some (.int .i64 s.parent) ∧ w'.cell? ⟨w.heap.size, 3, none⟩ = some (.int .i64 s.place) ∧ w'.cell? ⟨w.heap.size, 5, none⟩ = some (.int .i64 s.sub.id) ∧ w'.cell? ⟨w.heap.size, 6, none⟩ = some (.int .i64 s.sub.kind) ∧ w'.cell? ⟨w.heap.size, 7, none⟩ = some (.string s.sub.text) ∧ w'.cell? ⟨w.heap.size, 8, none⟩ = some (.slice A s.sub.kids.length c))
      (first | go_keep | exact hkp)
      (first
        | (go_at_call 92; refine (refCopy_calls s.sub A c _ ha0.drew hc hN).mono ?_
           rintro e w2 ⟨A2, c2, rfl, hc2, hk2, hb2⟩
           replace hb2 := below_undrew hb2
           have hr2 := (hb2.block _ lr).trans hr
           have hx2 := (hb2.block _ lx).trans hx
           have HH := Lib.hid (⟨hr2, hc2, hk2, hb2⟩ : _ ∧ _ ∧ _ ∧ _)
           obtain ⟨y0', y1', y2', y3', y4', y5', y6', y7', y8', yz'⟩ := blk9 hr2
           obtain ⟨u0, u1, u2, u3, u4, u5, u6, u7, u8, uz⟩ := blk9 hx2
           have hkp := (⟨u0, u2, u3, u5, u6, u7, u8⟩ : _ ∧ _ ∧ _ ∧ _ ∧ _ ∧ _ ∧ _)
           clear hr2 hx2 hc2 hk2 hb2))
    all_goals
      obtain ⟨hr2, hc2, hk2, hb2⟩ := HH.out
      have hsz2 : W0.heap.size ≤ w2.heap.size := hb2.size
      generalize hWf : World.setCell _ ⟨w.heap.size + 1, 8, none⟩ _ = Wf
      obtain ⟨E, G⟩ := put9 hr2 (.int .i8 s.op) (.int .i64 0) (.int .i64 s.parent) (.int .i64 s.place) (.string ⟨#[]⟩) (.int .i64 s.sub.id) (.int .i64 s.sub.kind) (.string s.sub.text) (.slice A2 s.sub.kids.length c2)
      rw [hWf] at E G
      clear hWf
      obtain ⟨e0, e1, e2, e3, e4, e5, e6, e7, e8, _⟩ := blk9 E
      go_wp2
      refine bodyPost_ret (v := .agg #[.int .i8 s.op, .int .i64 0, .int .i64 s.parent, .int .i64 s.place, .string ⟨#[]⟩, .int .i64 s.sub.id, .int .i64 s.sub.kind, .string s.sub.text, .slice A2 s.sub.kids.length c2]) (by simp [results, Try.results56, go_sem, e0, e1, e2, e3, e4, e5, e6, e7, e8]) rfl ?_
      rw [HP.out]
      have hBf := grown_step (grown_of_below (below_then hB hb2) none) G (.inr fun b hb => by simp at hb; omega)
      exact ⟨A2, c2, rfl, hc2, hk2.move fun b hb hlt => ⟨by have := hB.size; simp at hb; omega, G.block b hlt (by simp at hb ⊢; omega)⟩, ⟨hBf.os, hBf.tape, hBf.output, hBf.size, fun b hb => hBf.block b hb (by simp)⟩⟩
  by_cases o2 : s.op = 2
  · have d1 : (s.op == 1) = false := by simpa using o1
    have d2 : (s.op == 2) = true := by simpa using o2
    have HP : Hid (stpPlain s = ⟨s.op, s.id, 0, 0, ⟨#[]⟩, Nd.none_⟩) := Lib.hid (by simp [stpPlain, o2])
    clear o1 o2
    go_enter Try.func56, Try.ntmps56
    go_wp2
    refine bodyPost_ret (v := .agg #[.int .i8 s.op, .int .i64 s.id, .int .i64 0, .int .i64 0, .string ⟨#[]⟩, .int .i64 0, .int .i64 0, .string ⟨#[]⟩, .slice none 0 0]) (by simp [results, Try.results56, go_sem]) rfl ?_
    rw [HP.out]
    exact ⟨none, 0, rfl, Nat.le_refl _, .inl rfl, by go_grown⟩
  by_cases o3 : s.op = 3
  · have d1 : (s.op == 1) = false := by simpa using o1
    have d2 : (s.op == 2) = false := by simpa using o2
    have d3 : (s.op == 3) = true := by simpa using o3
    have HP : Hid (stpPlain s = ⟨s.op, s.id, s.parent, s.place, ⟨#[]⟩, Nd.none_⟩) := Lib.hid (by simp [stpPlain, o3])
    clear o1 o2 o3
    go_enter Try.func56, Try.ntmps56
    go_wp2
    refine bodyPost_ret (v := .agg #[.int .i8 s.op, .int .i64 s.id, .int .i64 s.parent, .int .i64 s.place, .string ⟨#[]⟩, .int .i64 0, .int .i64 0, .string ⟨#[]⟩, .slice none 0 0]) (by simp [results, Try.results56, go_sem]) rfl ?_
    rw [HP.out]
    exact ⟨none, 0, rfl, Nat.le_refl _, .inl rfl, by go_grown⟩
  by_cases o4 : s.op = 4
  · have d1 : (s.op == 1) = false := by simpa using o1
    have d2 : (s.op == 2) = false := by simpa using o2
    have d3 : (s.op == 3) = false := by simpa using o3
    have d4 : (s.op == 4) = true := by simpa using o4
    have HP : Hid (stpPlain s = ⟨s.op, s.id, 0, 0, s.text, Nd.none_⟩) := Lib.hid (by simp [stpPlain, o4])
    clear o1 o2 o3 o4
    go_enter Try.func56, Try.ntmps56
    go_wp2
    refine bodyPost_ret (v := .agg #[.int .i8 s.op, .int .i64 s.id, .int .i64 0, .int .i64 0, .string s.text, .int .i64 0, .int .i64 0, .string ⟨#[]⟩, .slice none 0 0]) (by simp [results, Try.results56, go_sem]) rfl ?_
    rw [HP.out]
    exact ⟨none, 0, rfl, Nat.le_refl _, .inl rfl, by go_grown⟩
  have d1 : (s.op == 1) = false := by simpa using o1
  have d2 : (s.op == 2) = false := by simpa using o2
  have d3 : (s.op == 3) = false := by simpa using o3
  have d4 : (s.op == 4) = false := by simpa using o4
  have HP : Hid (stpPlain s = ⟨s.op, 0, 0, 0, ⟨#[]⟩, Nd.none_⟩) := Lib.hid (by simp [stpPlain, o1, o2, o3, o4])
  clear o1 o2 o3 o4
  go_enter Try.func56, Try.ntmps56
  go_wp2
  refine bodyPost_ret (v := .agg #[.int .i8 s.op, .int .i64 0, .int .i64 0, .int .i64 0, .string ⟨#[]⟩, .int .i64 0, .int .i64 0, .string ⟨#[]⟩, .slice none 0 0]) (by simp [results, Try.results56, go_sem]) rfl ?_
  rw [HP.out]
  exact ⟨none, 0, rfl, Nat.le_refl _, .inl rfl, by go_grown⟩
end Go.Proofs.Ytimjpkmdphccmaa

/- ref01.SameStep, SameSteps, Copy: walks. -/
namespace Go.Proofs.Ytimjpkmdphccmaa
open Go.RowKit
attribute [local go_sem ↓] Go.wp_at_zero Go.wp_at_succ
set_option linter.unusedVariables false
set_option linter.unusedSimpArgs false

set_option maxRecDepth 100000 in
set_option maxHeartbeats 4000000 in
theorem refSameStep_calls (a b : Stp) (Aa Ab : Option Addr) (ca cb : Nat) (w : World) (ha : KidsAt w Aa a.sub.kids) (hb : KidsAt w Ab b.sub.kids) (hca : a.sub.kids.length ≤ ca) (hcb : b.sub.kids.length ≤ cb) (hN : a.sub.bulk ≤ 1099511627776) :
    Calls Try.prog 55 #[.agg #[.int .i8 a.op, .int .i64 a.id, .int .i64 a.parent, .int .i64 a.place, .string a.text, .int .i64 a.sub.id, .int .i64 a.sub.kind, .string a.sub.text, .slice Aa a.sub.kids.length ca], .agg #[.int .i8 b.op, .int .i64 b.id, .int .i64 b.parent, .int .i64 b.place, .string b.text, .int .i64 b.sub.id, .int .i64 b.sub.kind, .string b.sub.text, .slice Ab b.sub.kids.length cb]] w fun e w' => e = .returned (.bool (Stp.same a b)) ∧ Below w.heap.size w w' := by
  go_enter Try.func55, Try.ntmps55
  go_wp2_with fail
  · rename_i e1 e2 e3 e4 e5 KK hKK
    have HE := Lib.hid (⟨e1, e2, e3, e4, bytes_toList_inj e5⟩ : _ ∧ _ ∧ _ ∧ _ ∧ _)
    clear e1 e2 e3 e4 e5
    refine (SameNode_calls a.sub b.sub Aa Ab ca cb _ ((ha.alloc _).alloc _) ((hb.alloc _).alloc _) hca hcb hN).mono ?_
    rintro e w1 ⟨rfl, hb2⟩
    have hb1 := below_then (((Below.refl w.heap.size w).alloc (Nat.le_refl _) _).alloc (by simp) _) hb2
    clear hb2
    go_wp2
    go_ret
    refine ⟨ret_bool ?_, hb1⟩
    obtain ⟨h1, h2, h3, h4, h5⟩ := HE.out
    rw [Stp.same, h1, h2, h3, h4, h5]; simp
  · rename_i e1
    go_ret
    refine ⟨ret_bool ?_, by go_grown⟩
    have hne : ¬ a.text = b.text := fun h => e1 (by rw [h])
    rw [Stp.same]; simp [hne]
  all_goals
    rename_i e1
    go_ret
    refine ⟨ret_bool ?_, by go_grown⟩
    rw [Stp.same]; simp [e1]

end Go.Proofs.Ytimjpkmdphccmaa

/- ref14.number, tree, Tree: walks. -/
namespace Go.Proofs.Ytimjpkmdphccmaa
open Go.RowKit
attribute [local go_sem ↓] Go.wp_at_zero Go.wp_at_succ
set_option linter.unusedVariables false
set_option linter.unusedSimpArgs false

theorem rnum_calls (n m : Int) (w : World) : Calls Try.prog 46 #[.int .i64 n, .int .i64 m] w fun e w' => e = .returned (.bool (leastB n m)) ∧ w = w' := by
  have HL : Hid (leastB n m = (decide (m ≤ n) && decide (n ≤ 1125899906842624))) := Lib.hid rfl
  go_enter Try.func46, Try.ntmps46
  go_wp2
  all_goals
    go_ret
    rw [HL.out]
    refine ⟨ret_bool ?_, rfl⟩
    rw [← Bool.decide_and]
    first
      | (symm; rw [decide_eq_true_eq]; omega)
      | (symm; rw [decide_eq_false_iff_not]; omega)
      | (simp only [Bool.decide_and]; simp_all; done)
      | (have : ¬ m ≤ n := by omega
         simp [this])
/-- What ref14.tree does: it counts, as long as each node may be. -/
def TreeC (x : Nd) (d : Nat) (n : Nat) (bC : Nat) (w : World) (e : Ending) (w' : World) : Prop :=
  e = .returned (.bool (okRow n (Nd.flat x d))) ∧ w.grownBy w' (some bC) ∧ ∃ n' : Nat, w'.heap[bC]? = some (.cells #[.int .i64 n'] 3 (0, 0)) ∧ (okRow n (Nd.flat x d) = true → n' = n + (Nd.flat x d).length)

set_option maxRecDepth 100000 in
set_option maxHeartbeats 2000000 in
theorem refTree_calls (x : Nd) : ∀ (d n bC : Nat) (A : Option Addr) (c : Nat) (w : World), KidsIn (fun b => b < bC) w A x.kids → x.kids.length ≤ c → w.heap[bC]? = some (.cells #[.int .i64 n] 3 (0, 0)) → n ≤ 200 → d ≤ 33 → x.bulk ≤ 1099511627776 →
    Calls Try.prog 58 #[.agg #[.int .i64 x.id, .int .i64 x.kind, .string x.text, .slice A x.kids.length c], .int .i64 d, .pointer (some ⟨bC, 0, none⟩)] w (TreeC x d n bC w) := by
  induction x using Nd.induct with
  | h x ih =>
  intro d n bC A c w ha hc hC hn hd hN
  have ht : x.text.size ≤ 1099511627776 := by have := Nd.bulk_eq x; omega
  have hlen := x.kids_le
  have lC := (Array.getElem?_eq_some_iff.1 hC).1
  obtain ⟨c0, cz⟩ := blk1 hC
  have hC1 := setCell_blk hC 0 (.int .i64 ((n : Int) + 1))
  simp only [List.setIfInBounds_toArray, List.set] at hC1
  obtain ⟨c1, cz1⟩ := blk1 hC1
  have HI := Lib.hid ih
  clear ih
  have HF : Hid (okNode (n + 1) x d = false → ∀ w', w.grownBy w' (some bC) → w'.heap[bC]? = some (.cells #[.int .i64 ((n : Int) + 1)] 3 (0, 0)) → TreeC x d n bC w (.returned (.bool false)) w') := Lib.hid (fun hf w' hg hc => by
    have hr : okRow n (Nd.flat x d) = false := by rw [Nd.flat_eq, okRow, hf]; rfl
    exact ⟨ret_bool hr.symm, hg, n + 1, by simpa using hc, by rw [hr]; simp⟩)
  have hGw : w.grownBy ((w.setCell ⟨bC, 0, none⟩ (.int .i64 ((n : Int) + 1))).alloc (.cells #[.int .i64 x.id, .int .i64 x.kind, .string x.text, .slice A x.kids.length c] 24)) (some bC) := grown_step (grown_set (grown_refl w (some bC)) 0 _) (World.grownBy_alloc _ _ none) (.inr fun b hb => by simp at hb)
  have hCw := alloc_old hC1 (.cells #[.int .i64 x.id, .int .i64 x.kind, .string x.text, .slice A x.kids.length c] 24)
  have HG := Lib.hid (⟨hGw, hCw⟩ : _ ∧ _)
  clear hGw hCw
  go_enter Try.func58, Try.ntmps58
  go_wp2_with (go_at_call 46; refine (rnum_calls _ _ _).mono ?_; rintro e w' ⟨rfl, rfl⟩)
  rotate_left
  rotate_left
  rotate_right
  all_goals try
    (go_ret
     refine HF.out ?_ _ HG.out.1 HG.out.2
     rw [Bool.eq_false_iff]
     intro h
     simp only [okNode, Bool.and_eq_true, decide_eq_true_eq] at h
     obtain ⟨⟨⟨⟨⟨h1, h2⟩, h3⟩, h4⟩, h5⟩, h6⟩ := h
     first | omega | simp_all)
  have hok : okNode (n + 1) x d = true := by
    simp only [okNode, Bool.and_eq_true, decide_eq_true_eq]
    refine ⟨⟨⟨⟨⟨?_, ?_⟩, ?_⟩, ?_⟩, ?_⟩, ?_⟩ <;> first | omega | simp_all
  have hn2 : n + 1 ≤ 200 := by simp only [okNode, Bool.and_eq_true, decide_eq_true_eq] at hok; exact hok.1.1.1.1.1
  have hd2 : d ≤ 32 := by simp only [okNode, Bool.and_eq_true, decide_eq_true_eq] at hok; have := hok.1.1.1.1.2; omega
  have HR : Hid (okRow n (Nd.flat x d) = okRow (n + 1) (Nd.flats x.kids (d + 1)) ∧ (Nd.flat x d).length = 1 + (Nd.flats x.kids (d + 1)).length) := Lib.hid ⟨by rw [Nd.flat_eq, okRow, hok, Bool.true_and], by rw [Nd.flat_eq, List.length_cons, Nat.add_comm]⟩
  obtain ⟨hGw, hCw⟩ := HG.out
  have hXw := alloc_new (w.setCell ⟨bC, 0, none⟩ (.int .i64 ((n : Int) + 1))) (.cells #[.int .i64 x.id, .int .i64 x.kind, .string x.text, .slice A x.kids.length c] 24)
  rw [show (w.setCell ⟨bC, 0, none⟩ (.int .i64 ((n : Int) + 1))).heap.size = w.heap.size by simp [World.setCell]] at hXw
  clear hok HF HG c0 cz c1 cz1
  generalize (w.setCell ⟨bC, 0, none⟩ (.int .i64 ((n : Int) + 1))).alloc (.cells #[.int .i64 x.id, .int .i64 x.kind, .string x.text, .slice A x.kids.length c] 24) = W0 at hGw hCw hXw ⊢
  have lX := (Array.getElem?_eq_some_iff.1 hXw).1
  have lC0 := (Array.getElem?_eq_some_iff.1 hCw).1
  go_loopw [7] (fun v7 wr => ∃ k : Nat, v7 = .int .i64 k ∧ k ≤ x.kids.length ∧ okRow (n + 1) (Nd.flats (x.kids.take k) (d + 1)) = true ∧ wr.heap[bC]? = some (.cells #[.int .i64 ((n + 1 + (Nd.flats (x.kids.take k) (d + 1)).length : Nat) : Int)] 3 (0, 0)) ∧ W0.grownBy wr (some bC)) (fun v7 _ => x.kids.length - (intOf v7).toNat)
  case atStart => exact ⟨0, rfl, Nat.zero_le _, by simp [Nd.flats, okRow], by simpa [Nd.flats] using hCw, grown_refl _ _⟩
  case round =>
    obtain ⟨k, rfl, hk, hrow, hcnt, hbw⟩ := hrel
    have hx0 := (hbw.block w.heap.size lX (by simp; omega)).trans hXw
    obtain ⟨f0, f1, f2, f3, fz⟩ := blk4 hx0
    have hlenr := okRow_len _ _ hn2 hrow
    have HRW := Lib.hid hrow
    clear hrow
    by_cases hlt : k < x.kids.length
    · obtain ⟨ba, oa, rfl, hba, na⟩ := ha.get k hlt
      have hbk : ∀ b, b < bC → wr.heap[b]? = w.heap[b]? := fun b hb => (hbw.block b (by omega) (by simp; omega)).trans (hGw.block b (by omega) (by simp; omega))
      have na' : ndIn (fun b => b < bC) wr ba (oa + k * 4) x.kids[k] := ndIn_move (fun b hS _ => ⟨hS, hbk b hS⟩) _ (hbk _ hba) na
      obtain ⟨x0, x1, x2, A1, q1, x3, hq1, ka⟩ := ndIn_open na'
      have hkb := Nd.kid_bulk (List.getElem_mem hlt)
      have i1 : (0 : Int) ≤ (k : Int) := Int.natCast_nonneg _
      have i2 : (k : Int) < (x.kids.length : Int) := by omega
      have HC := HI.out _ (List.getElem_mem hlt) (d + 1) (n + 1 + (Nd.flats (x.kids.take k) (d + 1)).length) bC A1 q1 wr ka hq1 hcnt hlenr (by omega) (by omega)
      rw [show ((d + 1 : Nat) : Int) = (d : Int) + 1 by omega] at HC
      have HC' := Lib.hid HC
      clear HC
      go_wp2_with fail
      refine HC'.out.mono ?_
      clear HC'
      rintro e w2 ⟨rfl, hg2, n', hc2, hn'⟩
      rw [show ((d + 1 : Nat) : Int) = (d : Int) + 1 by omega] at hn' ⊢
      have hsplit : Nd.flats (x.kids.take (k + 1)) (d + 1) = Nd.flats (x.kids.take k) (d + 1) ++ Nd.flat x.kids[k] (d + 1) := by rw [take_snoc hlt, Nd.flats_append]; simp [Nd.flats]
      have hrs : okRow (n + 1) (Nd.flats (x.kids.take (k + 1)) (d + 1)) = okRow (n + 1 + (Nd.flats (x.kids.take k) (d + 1)).length) (Nd.flat x.kids[k] (d + 1)) := by rw [hsplit, okRow_append, HRW.out, Bool.true_and]
      have HS := Lib.hid (⟨hsplit, hrs⟩ : _ ∧ _)
      clear hsplit hrs
      by_cases hv : okRow (n + 1 + (Nd.flats (x.kids.take k) (d + 1)).length) (Nd.flat x.kids[k] (d + 1)) = true
      · have hN' := hn' hv
        have HV := Lib.hid (⟨hv, hN'⟩ : _ ∧ _)
        rw [hv]
        clear hv hN' hn'
        go_wp2
        go_roundw
        case rel =>
          refine ⟨k + 1, by go_num, by omega, by rw [HS.out.2]; exact HV.out.1, ?_, grown_step hbw hg2 (.inl rfl)⟩
          rw [hc2, HV.out.2, HS.out.1, List.length_append, Nat.add_assoc]
        case measure => simp [intOf]; omega
      · have hv' : okRow (n + 1 + (Nd.flats (x.kids.take k) (d + 1)).length) (Nd.flat x.kids[k] (d + 1)) = false := by simpa using hv
        have HV := Lib.hid hv'
        rw [hv']
        clear hv hv' hn'
        go_wp2
        go_ret
        have hf : okRow n (Nd.flat x d) = false := by
          rw [HR.out.1]
          have hsp : Nd.flats x.kids (d + 1) = Nd.flats (x.kids.take (k + 1)) (d + 1) ++ Nd.flats (x.kids.drop (k + 1)) (d + 1) := by rw [← Nd.flats_append, List.take_append_drop]
          rw [hsp, okRow_append, HS.out.2, HV.out, Bool.false_and]
        exact ⟨ret_bool hf.symm, grown_step (grown_step hGw hbw (.inl rfl)) hg2 (.inl rfl), n', hc2, by rw [hf]; simp⟩
    · have g5 : decide (k < x.kids.length) = false := by simpa using hlt
      have hkx : x.kids.take k = x.kids := List.take_of_length_le (by omega)
      have HX := Lib.hid hkx
      clear hkx
      go_wp2
      go_ret
      have hrw := HRW.out
      rw [HX.out] at hrw hcnt
      exact ⟨ret_bool (by rw [HR.out.1, hrw]), grown_step hGw hbw (.inl rfl), _, hcnt, fun _ => by rw [HR.out.2]; omega⟩

end Go.Proofs.Ytimjpkmdphccmaa

/- ref14.Tree: a walk. -/
namespace Go.Proofs.Ytimjpkmdphccmaa
open Go.RowKit
attribute [local go_sem ↓] Go.wp_at_zero Go.wp_at_succ
set_option linter.unusedVariables false
set_option linter.unusedSimpArgs false

set_option maxRecDepth 100000 in
set_option maxHeartbeats 300000 in
theorem refTreeTop_calls (t : Nd) (A : Option Addr) (c : Nat) (w : World) (ha : KidsAt w A t.kids) (hc : t.kids.length ≤ c) (hN : t.bulk ≤ 1099511627776) :
    Calls Try.prog 27 #[.agg #[.int .i64 t.id, .int .i64 t.kind, .string t.text, .slice A t.kids.length c]] w fun e w' => e = .returned (.bool (okTree t)) ∧ Below w.heap.size w w' := by
  have hn := alloc_new1 w (.cells #[.int .i64 t.id, .int .i64 t.kind, .string t.text, .slice A t.kids.length c] 24) (.cells #[.int .i64 0] 3)
  have hb : Below w.heap.size w ((w.alloc (.cells #[.int .i64 t.id, .int .i64 t.kind, .string t.text, .slice A t.kids.length c] 24)).alloc (.cells #[.int .i64 0] 3)) := by go_grown
  have hk : KidsIn (fun b => b < w.heap.size + 1) ((w.alloc (.cells #[.int .i64 t.id, .int .i64 t.kind, .string t.text, .slice A t.kids.length c] 24)).alloc (.cells #[.int .i64 0] 3)) A t.kids := (ha.move (S' := fun b => b < w.heap.size + 1) fun b _ hlt => ⟨by omega, rfl⟩).below hb
  have h0 := refTree_calls t 1 0 (w.heap.size + 1) A c ((w.alloc (.cells #[.int .i64 t.id, .int .i64 t.kind, .string t.text, .slice A t.kids.length c] 24)).alloc (.cells #[.int .i64 0] 3)) hk hc hn (by omega) (by omega) hN
  rw [show ((1 : Nat) : Int) = 1 from rfl] at h0
  have HC := Lib.hid h0
  clear h0
  have HO : Hid (okTree t = okRow 0 (Nd.flat t ((1 : Nat) : Int))) := Lib.hid (by rw [okTree, show ((1 : Nat) : Int) = 1 from rfl])
  go_enter Try.func27, Try.ntmps27
  go_wp2_with fail
  refine HC.out.mono ?_
  rintro e w1 ⟨rfl, hg, _⟩
  go_wp2
  go_ret
  have hg2 := grown_step (grown_of_below hb none) hg (.inr fun b hb => by simp at hb; omega)
  exact ⟨ret_bool HO.out.symm, hg2.os, hg2.tape, hg2.output, hg2.size, fun b hb => hg2.block b hb (by simp)⟩
end Go.Proofs.Ytimjpkmdphccmaa
