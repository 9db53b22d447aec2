/- changes.nodes, changes.Check, slices.ContainsFunc over wire.Step: walks. -/
import Derived.Test.YtimjpkmdphccmaaWS5
import Derived.Test.YtimjpkmdphccmaaWS11
import Derived.Test.YtimjpkmdphccmaaProg
import Derived.Test.YtimjpkmdphccmaaWS6
import Derived.Test.YtimjpkmdphccmaaWS8
import Derived.Test.YtimjpkmdphccmaaWS1
import Derived.Test.YtimjpkmdphccmaaWS7
import Derived.WalkLawsBesides
import Derived.WalkSpells
import Derived.Tactics
import Derived.Tactics2
import Derived.WalkKit
import Derived.Handy
import Derived.Deep.RegionHeld3
import Derived.Deep.DrawnRows
import Derived.Deep.DeepCutAuto
import Derived.KernelRfl
import Derived.BigRegion
import Derived.BigQuiet
import Derived.Deep.QuietTactic
import Derived.Outline
import Derived.Lib.Hide
import Derived.Deep.RegionHeld2
import Derived.Laws.EntriesVeiled
import Derived.Laws.Pointers

namespace Go.Proofs.Ytimjpkmdphccmaa
open Go.RowKit
attribute [local go_sem ↓] Go.wp_at_zero Go.wp_at_succ
set_option linter.unusedVariables false
set_option linter.unusedSimpArgs false

/-- What counting up to one more than may be comes to. -/
def NodesP (n c r : Nat) : Prop := (n + c ≤ 200 → r = n + c) ∧ (200 < n + c → 200 < r ∧ r ≤ n + c)
theorem NodesP.step {a c s d r : Nat} (h : NodesP a c s) (hs : s ≤ 200) (k : NodesP s d r) : NodesP a (c + d) r := by
  obtain ⟨h1, h2⟩ := h
  obtain ⟨k1, k2⟩ := k
  constructor <;> intro _ <;> omega
theorem NodesP.stop {a c c' s : Nat} (h : NodesP a c s) (hs : 200 < s) (k : c ≤ c') : NodesP a c' s := by
  obtain ⟨h1, h2⟩ := h
  constructor <;> intro _ <;> omega
theorem NodesP.le {a c s : Nat} (h : NodesP a c s) : s ≤ a + c := by
  obtain ⟨h1, h2⟩ := h
  omega
theorem Nd.cnt_le_bulk (x : Nd) : x.cnt ≤ x.bulk := by
  induction x using Nd.induct with
  | h x ih =>
    rw [Nd.cnt_eq, Nd.bulk_eq]
    have : ∀ l : List Nd, (∀ y ∈ l, y.cnt ≤ y.bulk) → Nd.cnts l ≤ Nd.bulks l := by
      intro l
      induction l with
      | nil => intro _; simp [Nd.cnts]
      | cons y ys ihl => intro h; rw [Nd.cnts, Nd.bulks]; have := h y (by simp); have := ihl fun z hz => h z (by simp [hz]); omega
    have := this x.kids ih
    omega
theorem Nd.cnts_snoc {l : List Nd} {k : Nat} (h : k < l.length) : Nd.cnts (l.take (k + 1)) = Nd.cnts (l.take k) + (l[k]).cnt := by
  rw [take_snoc h, Nd.cnts_append]; simp [Nd.cnts]
theorem Nd.cnts_pre (l : List Nd) (k : Nat) : Nd.cnts (l.take k) ≤ Nd.cnts l := by
  have : Nd.cnts l = Nd.cnts (l.take k) + Nd.cnts (l.drop k) := by rw [← Nd.cnts_append, List.take_append_drop]
  omega

set_option maxRecDepth 100000 in
set_option maxHeartbeats 1000000 in
theorem nodes_calls (x : Nd) : ∀ (n b o : Nat) (w : World), ndIn (fun _ => True) w b o x → n ≤ 200 → x.bulk ≤ 1099511627776 →
    Calls Try.prog 159 #[.pointer (some ⟨b, o, none⟩), .int .i64 n] w fun e w' => (∃ r : Nat, e = .returned (.int .i64 r) ∧ NodesP n x.cnt r) ∧ w' = w := by
  induction x using Nd.induct with
  | h x ih =>
  intro n b o w hx hn hN
  obtain ⟨f0, f1, f2, A1, q1, f3, hq1, ka⟩ := ndIn_open hx
  have hlen := x.kids_le
  have hcb := x.cnt_le_bulk
  have HC := Lib.hid x.cnt_eq
  have IH := Lib.hid ih
  clear ih f0 f1 f2
  go_enter Try.func159, Try.ntmps159
  go_wp2
  go_loopw [1, 13] (fun v1 v13 wr => ∃ k s : Nat, v13 = .int .i64 k ∧ k ≤ x.kids.length ∧ v1 = .int .i64 s ∧ NodesP (n + 1) (Nd.cnts (x.kids.take k)) s ∧ wr = w) (fun _ v13 _ => x.kids.length - (intOf v13).toNat)
  case atStart => exact ⟨0, n + 1, rfl, Nat.zero_le _, by go_num, ⟨fun _ => by simp [Nd.cnts], fun h => by simp only [List.take_zero, Nd.cnts, Nat.add_zero] at h ⊢; omega⟩, rfl⟩
  case round =>
    obtain ⟨k, s, rfl, hk, rfl, hs, rfl⟩ := hrel
    have hsl : s ≤ 1099511628000 := by have := hs.le; have := Nd.cnts_pre x.kids k; have := HC.out; omega
    have HS := Lib.hid hs
    clear hs
    by_cases hlt : k < x.kids.length
    · have g5 : decide (k < x.kids.length) = true := by simpa using hlt
      by_cases h200 : 200 < s
      · have g6 : decide ((200 : Int) < (s : Int)) = true := by simp; omega
        go_wp2
        go_ret
        refine ⟨⟨s, rfl, ?_⟩, rfl⟩
        have h1 := (HS.out.stop h200 (Nd.cnts_pre x.kids k))
        have h2 := HC.out
        obtain ⟨e1, e2⟩ := h1
        constructor <;> intro _ <;> omega
      · have g6 : decide ((200 : Int) < (s : Int)) = false := by simp; omega
        obtain ⟨ba, oa, rfl, _, na⟩ := ka.get k hlt
        have i1 : (0 : Int) ≤ (k : Int) := Int.natCast_nonneg _
        have i2 : (k : Int) < (x.kids.length : Int) := by omega
        have hkb := Nd.kid_bulk (List.getElem_mem hlt)
        have HK := Lib.hid (IH.out _ (List.getElem_mem hlt) s ba (oa + k * 4) wr na (by omega) (by omega))
        go_wp2_with fail
        refine HK.out.mono ?_
        rintro e w2 ⟨⟨r, rfl, hr⟩, rfl⟩
        have HR : Hid (NodesP (n + 1) (Nd.cnts (x.kids.take (k + 1))) r) := Lib.hid (by rw [Nd.cnts_snoc hlt]; exact HS.out.step (by omega) hr)
        clear hr HK
        go_wp2
        go_roundw
        case rel => exact ⟨k + 1, r, by go_num, by omega, rfl, HR.out, by first | rfl | trivial⟩
        case measure => simp [intOf]; omega
    · have g5 : decide (k < x.kids.length) = false := by simpa using hlt
      go_wp2
      go_ret
      refine ⟨⟨s, rfl, ?_⟩, rfl⟩
      have h1 := HS.out
      rw [List.take_of_length_le (by omega)] at h1
      have h2 := HC.out
      obtain ⟨e1, e2⟩ := h1
      constructor <;> intro _ <;> omega

/-- How many nodes the inserted trees have. -/
def insCnt : List Stp → Nat
  | [] => 0
  | s :: r => (if s.op = 1 then s.sub.cnt else 0) + insCnt r
theorem insCnt_append : ∀ l m : List Stp, insCnt (l ++ m) = insCnt l + insCnt m
  | [], m => by simp [insCnt]
  | s :: r, m => by rw [List.cons_append, insCnt, insCnt, insCnt_append r m]; omega
theorem insCnt_pre (l : List Stp) (k : Nat) : insCnt (l.take k) ≤ insCnt l := by
  have : insCnt l = insCnt (l.take k) + insCnt (l.drop k) := by rw [← insCnt_append, List.take_append_drop]
  omega
theorem insCnt_le : ∀ l : List Stp, insCnt l ≤ stepsBulk l
  | [] => by simp [insCnt]
  | s :: r => by have := insCnt_le r; have := s.sub.cnt_le_bulk; rw [insCnt, stepsBulk, Stp.bulk]; split <;> omega
def okCheck (l : List Stp) : Bool := decide (l.length ≤ 60) && decide (insCnt l ≤ 200)
def checkE (l : List Stp) : Int := if okCheck l then 0 else 3
theorem checkE_ok {l : List Stp} (h : okCheck l = true) : checkE l = 0 := by rw [checkE, if_pos h]
theorem checkE_no {l : List Stp} (h : okCheck l = false) : checkE l = 3 := by rw [checkE, h]; rfl
def InsP (c s : Nat) : Prop := (c ≤ 200 → s = c) ∧ (200 < c → 200 < s) ∧ s ≤ c
theorem InsP.step {c s d r : Nat} (h : InsP c s) (k : NodesP 0 d r) : InsP (c + d) (s + r) := by
  obtain ⟨h1, h2, h3⟩ := h
  obtain ⟨k1, k2⟩ := k
  refine ⟨fun _ => ?_, fun _ => ?_, ?_⟩ <;> omega

set_option maxRecDepth 100000 in
set_option maxHeartbeats 1000000 in
theorem Check_calls (l : List Stp) (A : Option Addr) (c : Nat) (w : World) (ha : StepsAt w A l) (hc : l.length ≤ c) (hN : stepsBulk l ≤ 1099511627776) :
    Calls Try.prog 134 #[.slice A l.length c] w fun e w' => e = .returned (.int .i64 (checkE l)) ∧ w' = w := by
  have hlen := stepsBulk_len l
  have hib := insCnt_le l
  by_cases h60 : 60 < l.length
  · have HO : Hid (checkE l = 3) := Lib.hid (checkE_no (by rw [okCheck]; simp; omega))
    have d1 : decide ((60 : Int) < (l.length : Int)) = true := by simp; omega
    go_enter Try.func134, Try.ntmps134
    go_wp2
    go_ret
    exact ⟨ret_int HO.out.symm, rfl⟩
  · have d1 : decide ((60 : Int) < (l.length : Int)) = false := by simp; omega
    go_enter Try.func134, Try.ntmps134
    go_wp2
    go_loopw [3, 10] (fun v3 v10 wr => ∃ k s : Nat, v10 = .int .i64 k ∧ k ≤ l.length ∧ v3 = .int .i64 s ∧ InsP (insCnt (l.take k)) s ∧ wr = w) (fun _ v10 _ => l.length - (intOf v10).toNat)
    case atStart => exact ⟨0, 0, rfl, Nat.zero_le _, rfl, ⟨fun _ => rfl, fun h => by simp [insCnt] at h, Nat.zero_le _⟩, rfl⟩
    case round =>
      obtain ⟨k, s, rfl, hk, rfl, hs, rfl⟩ := hrel
      have hsl : s ≤ 1099511627776 := by have := hs.2.2; have := insCnt_pre l k; omega
      have HS := Lib.hid hs
      clear hs
      by_cases hlt : k < l.length
      · have g5 : decide (k < l.length) = true := by simpa using hlt
        obtain ⟨ba, oa, rfl, _, na⟩ := ha.get k hlt
        obtain ⟨g0, _, _, _, _, nd⟩ := na
        have i1 : (0 : Int) ≤ (k : Int) := Int.natCast_nonneg _
        have i2 : (k : Int) < (l.length : Int) := by omega
        have hsb := stepsBulk_mem (List.getElem_mem hlt)
        rw [Stp.bulk] at hsb
        by_cases o1 : l[k].op = 1
        · have dq : (l[k].op == (1 : Int)) = true := by simpa using o1
          have HO := Lib.hid o1
          clear o1
          have HK := nodes_calls l[k].sub 0 ba (oa + k * 9 + 5) wr nd (by omega) (by omega)
          rw [show ((0 : Nat) : Int) = 0 from rfl] at HK
          have HK := Lib.hid HK
          go_wp2_with fail
          refine HK.out.mono ?_
          rintro e w2 ⟨⟨r, rfl, hr⟩, rfl⟩
          have HR : Hid (InsP (insCnt (l.take (k + 1))) (s + r)) := Lib.hid (by
            rw [take_snoc hlt, insCnt_append, insCnt, if_pos HO.out, insCnt, Nat.add_zero]; exact HS.out.step hr)
          have hrl : r ≤ 1099511627776 := by have := hr.le; have := l[k].sub.cnt_le_bulk; omega
          clear hr HK
          go_wp2
          go_roundw
          case rel => exact ⟨k + 1, s + r, by go_num, by omega, by go_num, HR.out, by first | rfl | trivial⟩
          case measure => simp [intOf]; omega
        · have dq : (l[k].op == (1 : Int)) = false := by simpa using o1
          have HR : Hid (InsP (insCnt (l.take (k + 1))) s) := Lib.hid (by
            rw [take_snoc hlt, insCnt_append, insCnt, if_neg o1, insCnt]; exact HS.out)
          clear o1
          go_wp2
          go_roundw
          case rel => exact ⟨k + 1, s, by go_num, by omega, rfl, HR.out, by first | rfl | trivial⟩
          case measure => simp [intOf]; omega
      · have g5 : decide (k < l.length) = false := by simpa using hlt
        have h1 := HS.out
        rw [List.take_of_length_le (by omega)] at h1
        by_cases h200 : 200 < s
        · have HO : Hid (checkE l = 3) := Lib.hid (checkE_no (by rw [okCheck]; simp; have := h1.2.2; omega))
          clear h1
          have g6 : decide ((200 : Int) < (s : Int)) = true := by simp; omega
          go_wp2
          go_ret
          exact ⟨ret_int HO.out.symm, rfl⟩
        · have HO : Hid (checkE l = 0) := Lib.hid (checkE_ok (by rw [okCheck]; simp; have := h1.2.1; omega))
          clear h1
          have g6 : decide ((200 : Int) < (s : Int)) = false := by simp; omega
          go_wp2
          go_ret
          exact ⟨ret_int HO.out.symm, rfl⟩

set_option maxRecDepth 100000 in
theorem not_calls (s : Stp) (A : Option Addr) (c : Nat) (w : World) (ha : KidsAt w A s.sub.kids) (hc : s.sub.kids.length ≤ c) (hN : s.sub.bulk ≤ 1099511627776) (ht : s.text.size ≤ 1099511627776) :
    Calls Try.prog 136 #[.agg #[.int .i8 s.op, .int .i64 s.id, .int .i64 s.parent, .int .i64 s.place, .string s.text, .int .i64 s.sub.id, .int .i64 s.sub.kind, .string s.sub.text, .slice A s.sub.kids.length c]] w fun e w' => e = .returned (.bool (!okStep s)) ∧ Below w.heap.size w w' := by
  have hb0 : Below w.heap.size w (w.alloc (.cells #[.int .i8 s.op, .int .i64 s.id, .int .i64 s.parent, .int .i64 s.place, .string s.text, .int .i64 s.sub.id, .int .i64 s.sub.kind, .string s.sub.text, .slice A s.sub.kids.length c] 32)) := by go_grown
  go_enter Try.func136, Try.ntmps136
  go_wp2_with fail
  refine (wireStep_calls s A c _ (ha.alloc _) hc hN ht).mono ?_
  rintro e w2 ⟨rfl, hb2⟩
  have hb := below_then hb0 hb2
  go_wp2
  go_ret
  exact ⟨rfl, hb⟩

set_option maxRecDepth 100000 in
set_option maxHeartbeats 2000000 in
theorem IndexFunc_calls (l : List Stp) (A : Option Addr) (c : Nat) (w : World) (ha : StepsAt w A l) (hc : l.length ≤ c) (hN : stepsBulk l ≤ 1099511627776) :
    Calls Try.prog 160 #[.slice A l.length c, .func (.func 136) #[] #[]] w
      fun e w' => ∃ r : Int, e = .returned (.int .i64 r) ∧ decide (r ≥ 0) = !l.all okStep ∧ -1 ≤ r ∧ r ≤ 1099511627776 ∧ Below w.heap.size w w' := by
  have hlen := stepsBulk_len l
  go_enter Try.func160, Try.ntmps160
  go_wp2
  go_loopw [8] (fun v8 wr => ∃ k : Nat, v8 = .int .i64 k ∧ k ≤ l.length ∧ (∀ i (h : i < k) (h1 : i < l.length), okStep l[i] = true) ∧ Below w.heap.size w wr) (fun v8 _ => l.length - (intOf v8).toNat)
  case atStart => exact ⟨0, rfl, Nat.zero_le _, fun i h => absurd h (by omega), Below.refl _ _⟩
  case round =>
    obtain ⟨k, rfl, hk, hs, hbw⟩ := hrel
    have HS := Lib.hid hs
    clear hs
    by_cases hlt : k < l.length
    · have g5 : decide (k < l.length) = true := by simpa using hlt
      obtain ⟨ba, oa, rfl, _, na⟩ := ha.get k hlt
      have na' : stIn (fun _ => True) wr ba (oa + k * 9) l[k] := na.move (fun b hS hlt => ⟨hS, hbw.block b hlt⟩) (hbw.block _ na.lt)
      obtain ⟨A1, q1, ⟨x0, x1, x2, x3, x4, x5, x6, x7, x8⟩, hq1, kk⟩ := stIn_open na'
      have i1 : (0 : Int) ≤ (k : Int) := Int.natCast_nonneg _
      have i2 : (k : Int) < (l.length : Int) := by omega
      have hsb := stepsBulk_mem (List.getElem_mem hlt)
      rw [Stp.bulk] at hsb
      go_wp2_with fail
      refine (not_calls l[k] A1 q1 _ kk hq1 (by omega) (by omega)).mono ?_
      rintro e w2 ⟨rfl, hb2⟩
      have hbw2 := below_from hbw hbw.size hb2
      by_cases ho : okStep l[k] = true
      · have HO := Lib.hid ho
        have hd : (!okStep l[k]) = false := by simpa using ho
        clear ho
        go_wp2
        go_roundw
        case rel =>
          refine ⟨k + 1, by go_num, by omega, fun i h h1 => ?_, hbw2⟩
          by_cases hik : i = k
          · subst hik; exact HO.out
          · exact HS.out i (by omega) h1
        case measure => simp [intOf]; omega
      · have HO := Lib.hid ho
        have hd : (!okStep l[k]) = true := by simpa using ho
        clear ho
        go_wp2
        go_ret
        refine ⟨k, rfl, ?_, by omega, by omega, hbw2⟩
        have : l.all okStep = false := by
          rw [Bool.eq_false_iff]
          intro h
          exact HO.out (List.all_eq_true.1 h _ (List.getElem_mem hlt))
        rw [this]; simp
    · have g5 : decide (k < l.length) = false := by simpa using hlt
      go_wp2
      go_ret
      refine ⟨-1, rfl, ?_, by omega, by omega, hbw⟩
      have : l.all okStep = true := by
        rw [List.all_eq_true]
        intro x hx
        obtain ⟨i, hi, rfl⟩ := List.getElem_of_mem hx
        exact HS.out i (by omega) hi
      rw [this]; rfl

set_option maxRecDepth 100000 in
theorem ContainsFunc_calls (l : List Stp) (A : Option Addr) (c : Nat) (w : World) (ha : StepsAt w A l) (hc : l.length ≤ c) (hN : stepsBulk l ≤ 1099511627776) :
    Calls Try.prog 135 #[.slice A l.length c, .func (.func 136) #[] #[]] w
      fun e w' => e = .returned (.bool (!l.all okStep)) ∧ Below w.heap.size w w' := by
  go_enter Try.func135, Try.ntmps135
  go_wp2_with fail
  refine (IndexFunc_calls l A c w ha hc hN).mono ?_
  rintro e w2 ⟨r, rfl, hr, hr1, hr2, hb⟩
  have HR := Lib.hid hr
  clear hr
  go_wp2
  all_goals
    go_ret
    exact ⟨ret_bool (by rw [← HR.out]; try simp [*]), hb⟩
end Go.Proofs.Ytimjpkmdphccmaa

/- What wire's write and read come to: plain functions, and the plain laws over them. -/
namespace Go.Proofs.Ytimjpkmdphccmaa
open Go.RowKit

/-- A message's fields beside its kind and its two addresses. -/
inductive Fld where
  | boot | known | server | count | node | lease | epoch | version | fault | steps | tree
def kindFlds (k : Int) : List Fld :=
  if k = 1 then [.server] else if k = 2 then [.boot, .known, .count, .node] else if k = 3 then [.server, .count, .lease, .epoch, .version, .tree]
  else if k = 4 then [.server, .count, .fault] else if k = 5 then [.boot, .known, .count, .lease, .epoch, .steps] else if k = 6 then [.server, .count, .version]
  else if k = 7 then [.server, .count, .fault] else if k = 8 then [.server, .version, .steps] else if k = 9 then [.boot, .known] else [.server, .version, .tree]
def okSteps (l : List Stp) : Bool := okCheck l && l.all okStep
def Fld.ok (m : Msg) : Fld → Bool
  | .boot => leastB m.boot 1
  | .known => leastB m.server 0
  | .server => leastB m.server 1
  | .count => leastB m.number 1
  | .node => leastB m.node 1
  | .lease => leastB m.lease 1
  | .epoch => leastB m.epoch 1
  | .version => leastB m.version 0
  | .fault => decide (1 ≤ m.e) && decide (m.e ≤ 999)
  | .steps => okSteps m.steps
  | .tree => okTree m.tree
def Fld.bytes (m : Msg) : Fld → List UInt8
  | .boot => numB m.boot
  | .known => numB m.server
  | .server => numB m.server
  | .count => numB m.number
  | .node => numB m.node
  | .lease => numB m.lease
  | .epoch => numB m.epoch
  | .version => numB m.version
  | .fault => numB m.e
  | .steps => stepsB m.steps
  | .tree => m.tree.bytes
/-- s with the field of m. -/
def Fld.see (m s : Msg) : Fld → Msg
  | .boot => { s with boot := m.boot }
  | .known => { s with server := m.server }
  | .server => { s with server := m.server }
  | .count => { s with number := m.number }
  | .node => { s with node := m.node }
  | .lease => { s with lease := m.lease }
  | .epoch => { s with epoch := m.epoch }
  | .version => { s with version := m.version }
  | .fault => { s with e := m.e }
  | .steps => { s with steps := m.steps }
  | .tree => { s with tree := m.tree }
def Msg.zero : Msg := ⟨0, 0, 0, 0, 0, 0, 0, 0, 0, 0, 0, [], Nd.zero⟩
def seen0 (m : Msg) : Msg := ⟨m.kind, m.from_, m.to_, 0, 0, 0, 0, 0, 0, 0, 0, [], Nd.zero⟩
def seenK (m : Msg) (l : List Fld) : Msg := l.foldl (fun s f => f.see m s) (seen0 m)
def bytesK (m : Msg) (l : List Fld) : List UInt8 := [opB m.kind] ++ numB m.from_ ++ numB m.to_ ++ l.flatMap (Fld.bytes m)
def clientK (k : Int) : Bool := decide (k = 2) || decide (k = 5) || decide (k = 9)
def okWho (m : Msg) : Bool := if clientK m.kind then decide (1 ≤ m.from_) && decide (m.from_ ≤ 8) && decide (m.to_ = 0) else decide (1 ≤ m.to_) && decide (m.to_ ≤ 8) && decide (m.from_ = 0)
def okMsg (m : Msg) : Bool := decide (1 ≤ m.kind) && decide (m.kind ≤ 10) && (kindFlds m.kind).all (Fld.ok m) && okWho m && Msg.same m (seenK m (kindFlds m.kind))
def msgB (m : Msg) : List UInt8 := bytesK m (kindFlds m.kind)
/-- What write tells. -/
def writeP (m : Msg) : Option (List UInt8) := if okMsg m then some (msgB m) else none

def Fld.read (B : List UInt8) (q : Msg × Rst) : Fld → Msg × Rst
  | .boot => ({ q.1 with boot := (askP (numberP B) 0 q.2).1 }, (askP (numberP B) 0 q.2).2)
  | .known => ({ q.1 with server := (askP (numberP B) 0 q.2).1 }, (askP (numberP B) 0 q.2).2)
  | .server => ({ q.1 with server := (askP (numberP B) 0 q.2).1 }, (askP (numberP B) 0 q.2).2)
  | .count => ({ q.1 with number := (askP (numberP B) 0 q.2).1 }, (askP (numberP B) 0 q.2).2)
  | .node => ({ q.1 with node := (askP (numberP B) 0 q.2).1 }, (askP (numberP B) 0 q.2).2)
  | .lease => ({ q.1 with lease := (askP (numberP B) 0 q.2).1 }, (askP (numberP B) 0 q.2).2)
  | .epoch => ({ q.1 with epoch := (askP (numberP B) 0 q.2).1 }, (askP (numberP B) 0 q.2).2)
  | .version => ({ q.1 with version := (askP (numberP B) 0 q.2).1 }, (askP (numberP B) 0 q.2).2)
  | .fault => ({ q.1 with e := (askP (numberP B) 0 q.2).1 }, (askP (numberP B) 0 q.2).2)
  | .steps => ({ q.1 with steps := (askP (stepsP B) ([], ()) q.2).1.1 }, (askP (stepsP B) ([], ()) q.2).2)
  | .tree => ({ q.1 with tree := (askP (treeP B) Nd.zero q.2).1 }, (askP (treeP B) Nd.zero q.2).2)
def readFlds (B : List UInt8) (q : Msg × Rst) (l : List Fld) : Msg × Rst := l.foldl (fun q f => f.read B q) q
/-- The kind and the two addresses. -/
def readHead (B : List UInt8) : Msg × Rst :=
  let k := askP (smallP B) 0 (.at 0)
  let f := askP (numberP B) 0 k.2
  let t := askP (numberP B) 0 f.2
  (⟨k.1, f.1, t.1, 0, 0, 0, 0, 0, 0, 0, 0, [], Nd.zero⟩, t.2)
def parseP (B : List UInt8) : Msg × Rst := readFlds B (readHead B) (kindFlds (readHead B).1.kind)
def headOk : List UInt8 → Bool
  | [] => false
  | x :: _ => decide (1 ≤ x.toNat) && decide (x.toNat ≤ 10)
def readOwn (B : List UInt8) : Msg × Int × Int :=
  if headOk B = false then (Msg.zero, 0, 30)
  else if (endP B (parseP B).2).2 ≠ 0 then (Msg.zero, (endP B (parseP B).2).1, (endP B (parseP B).2).2)
  else if okMsg (parseP B).1 then ((parseP B).1, 0, 0) else (Msg.zero, 0, 30)
/-- What Read tells. -/
def readP (b : List UInt8) : Msg × Int × Int :=
  if 65536 < b.length then (Msg.zero, 0, 3) else match openP b with
  | none => (Msg.zero, 0, 30)
  | some B => readOwn B

/- The same is the same. -/
mutual
theorem Nd.same_eq_iff : ∀ a b : Nd, Nd.same a b = true ↔ a = b
  | .mk i k t ks, .mk i' k' t' ks' => by
    rw [Nd.same]
    simp only [Bool.and_eq_true, decide_eq_true_eq, Nd.sames_eq_iff ks ks', Nd.mk.injEq, and_assoc]
theorem Nd.sames_eq_iff : ∀ l m : List Nd, Nd.sames l m = true ↔ l = m
  | [], [] => by simp [Nd.sames]
  | [], y :: ys => by simp [Nd.sames]
  | x :: xs, [] => by simp [Nd.sames]
  | x :: xs, y :: ys => by rw [Nd.sames, Bool.and_eq_true, Nd.same_eq_iff x y, Nd.sames_eq_iff xs ys, List.cons.injEq]
end
theorem Stp.same_eq_iff (a b : Stp) : Stp.same a b = true ↔ a = b := by
  cases a; cases b
  simp only [Stp.same, Bool.and_eq_true, decide_eq_true_eq, Nd.same_eq_iff, Stp.mk.injEq, and_assoc]
theorem stpsSame_eq_iff : ∀ l m : List Stp, stpsSame l m = true ↔ l = m
  | [], [] => by simp [stpsSame]
  | [], y :: ys => by simp [stpsSame]
  | x :: xs, [] => by simp [stpsSame]
  | x :: xs, y :: ys => by rw [stpsSame, Bool.and_eq_true, Stp.same_eq_iff x y, stpsSame_eq_iff xs ys, List.cons.injEq]
theorem Msg.same_eq_iff (a b : Msg) : Msg.same a b = true ↔ a = b := by
  cases a; cases b
  simp only [Msg.same, Msg.nums, Bool.and_eq_true, decide_eq_true_eq, stpsSame_eq_iff, Nd.same_eq_iff, Msg.mk.injEq, List.cons.injEq, and_true]
  constructor
  · rintro ⟨⟨h1, h2⟩, h3, h4, h5, h6, h7, h8, h9, h10, h11, h12, h13⟩
    exact ⟨h3, h4, h5, h6, h7, h8, h9, h10, h11, h12, h13, h1, h2⟩
  · rintro ⟨h3, h4, h5, h6, h7, h8, h9, h10, h11, h12, h13, h1, h2⟩
    exact ⟨⟨h1, h2⟩, h3, h4, h5, h6, h7, h8, h9, h10, h11, h12, h13⟩
theorem Msg.same_self (a : Msg) : Msg.same a a = true := (Msg.same_eq_iff a a).2 rfl
theorem Nd.same_self (a : Nd) : Nd.same a a = true := (Nd.same_eq_iff a a).2 rfl

theorem okMsg_parts {m : Msg} (h : okMsg m = true) : 1 ≤ m.kind ∧ m.kind ≤ 10 ∧ (∀ f ∈ kindFlds m.kind, f.ok m = true) ∧ okWho m = true ∧ m = seenK m (kindFlds m.kind) := by
  simp only [okMsg, Bool.and_eq_true, decide_eq_true_eq, List.all_eq_true, Msg.same_eq_iff] at h
  exact ⟨h.1.1.1.1, h.1.1.1.2, h.1.1.2, h.1.2, h.2⟩

/- A step that may be sent can be read back. -/
theorem Nd.zero_fits : Nd.deep 40 Nd.zero ∧ Nd.zero.cnt = 1 ∧ Nd.zero.wf ∧ Nd.zero.bulk = 1 := by
  refine ⟨?_, ?_, ?_, ?_⟩
  · rw [Nd.zero, Nd.deep]; intro k hk; simp [Nd.kids] at hk
  · rw [Nd.zero, Nd.cnt, Nd.cnts]
  · rw [Nd.zero, Nd.wf_eq]; simp [Nd.id, Nd.kind, Nd.kids, Nd.wfs]
  · rw [Nd.zero, Nd.bulk_eq]; simp [Nd.text, Nd.kids, Nd.bulks]; rfl
theorem leastB_range {n m : Int} (h : leastB n m = true) : m ≤ n ∧ n ≤ 1125899906842624 := by simpa [leastB] using h
theorem zero_none : Nd.none_ = Nd.zero := rfl
theorem emptyB_size : (⟨#[]⟩ : ByteArray).size = 0 := rfl
theorem okStep_fits {s : Stp} (h : okStep s = true) : s.fits ∧ s.bytes.length ≤ 33 + 72 + (if s.op = 1 then 72 * s.sub.cnt else 0) := by
  simp only [okStep, Bool.and_eq_true, decide_eq_true_eq, Stp.same_eq_iff] at h
  obtain ⟨⟨⟨h1, h2⟩, h3⟩, h4⟩ := h
  have h3' := leastB_range h3
  obtain ⟨z1, z2, z3, z4⟩ := Nd.zero_fits
  have zb : Nd.zero.bytes.length = 32 := by
    rw [Nd.bytes_eq]; simp only [Nd.zero, Nd.id, Nd.kind, Nd.text, Nd.kids, List.length_append, numB_length, textB_length, Nd.bytess, List.length_nil]; rfl
  cases s with
  | mk op id parent place text sub =>
  by_cases o1 : op = 1
  · simp only [stpPlain] at h1
    rw [if_pos o1] at h1
    simp only [Stp.mk.injEq] at h1
    obtain ⟨_, rfl, _, _, rfl, _⟩ := h1
    rw [okOp, if_pos o1] at h4
    simp only [Bool.and_eq_true] at h4
    obtain ⟨t1, t2, t3, t4⟩ := okTree_fits h4.2
    have p1 := leastB_range h4.1
    simp only at p1 h3'
    have hbb := bytes_of_ok h4.2
    refine ⟨⟨⟨by simp only; omega, by simp only; omega, by simp, by simp, by simp only; omega, by simp only; omega, by simp only; omega, by simp only; omega, t3⟩, Nd.deep_mono (by omega) t2, t1, by simp only [Stp.bulk, emptyB_size]; omega⟩, ?_⟩
    simp only [o1, if_true, Stp.bytes, List.length_append, numB_length, textB_length, List.length_singleton, emptyB_size]

    omega
  by_cases o3 : op = 3
  · simp only [stpPlain] at h1
    rw [if_neg o1, if_pos o3] at h1
    simp only [Stp.mk.injEq] at h1
    obtain ⟨_, _, _, _, rfl, rfl⟩ := h1
    rw [okOp, if_neg o1, if_pos o3] at h4
    simp only [Bool.and_eq_true] at h4
    have p1 := leastB_range h4.1
    have p2 := leastB_range h4.2
    simp only at p1 p2 h3'
    rw [zero_none]
    refine ⟨⟨⟨by simp only; omega, by simp only; omega, by simp only; omega, by simp only; omega, by simp only; omega, by simp only; omega, by simp only; omega, by simp only; omega, z3⟩, z1, by simp only; omega, by simp only [Stp.bulk, emptyB_size]; omega⟩, ?_⟩
    simp only [Stp.bytes, List.length_append, numB_length, textB_length, List.length_singleton, emptyB_size, zb]
    omega
  by_cases o2 : op = 2
  · simp only [stpPlain] at h1
    rw [if_neg o1, if_neg o3, if_pos o2] at h1
    simp only [Stp.mk.injEq] at h1
    obtain ⟨_, _, rfl, rfl, rfl, rfl⟩ := h1
    rw [okOp, if_neg o1, if_neg o3, if_pos (.inl o2)] at h4
    have p1 := leastB_range h4
    simp only at p1 h3'
    rw [zero_none]
    refine ⟨⟨⟨by simp only; omega, by simp only; omega, by simp only; omega, by simp only; omega, by simp, by simp, by simp, by simp, z3⟩, z1, by simp only; omega, by simp only [Stp.bulk, emptyB_size]; omega⟩, ?_⟩
    simp only [Stp.bytes, List.length_append, numB_length, textB_length, List.length_singleton, emptyB_size, zb]
    omega
  by_cases o4 : op = 4
  · simp only [stpPlain] at h1
    rw [if_neg o1, if_neg o3, if_neg o2, if_pos o4] at h1
    simp only [Stp.mk.injEq] at h1
    obtain ⟨_, _, rfl, rfl, _, rfl⟩ := h1
    rw [okOp, if_neg o1, if_neg o3, if_pos (.inr o4)] at h4
    have p1 := leastB_range h4
    simp only at p1 h2 h3'
    rw [zero_none]
    refine ⟨⟨⟨by simp only; omega, by simp only; omega, by simp only; omega, by simp only; omega, by simp, by simp, by simp, by simp, z3⟩, z1, by simp only; omega, by simp only [Stp.bulk]; omega⟩, ?_⟩
    simp only [Stp.bytes, List.length_append, numB_length, textB_length, List.length_singleton, zb]
    omega
  · rw [okOp, if_neg o1, if_neg o3, if_neg (by simp only; omega)] at h4
    cases h4
end Go.Proofs.Ytimjpkmdphccmaa

/- wire.must: a walk. -/
namespace Go.Proofs.Ytimjpkmdphccmaa
open Go.RowKit
attribute [local go_sem ↓] Go.wp_at_zero Go.wp_at_succ
set_option linter.unusedVariables false
set_option linter.unusedSimpArgs false

theorem must_true (w : World) : Calls Try.prog 88 #[.bool true] w fun e w' => e = .returned (.tuple #[]) ∧ w' = w := by
  go_enter Try.func88, Try.ntmps88
  go_wp2
  first
    | exact ⟨rfl, _, by simp [results, Try.results88], rfl, rfl⟩
    | (go_end0; exact ⟨rfl, rfl⟩)
theorem must_false (w : World) : Calls Try.prog 88 #[.bool false] w fun e w' => e = .panicked [{ v := .iface 133 (.agg #[]), recovered := false }] ∧ w' = w := by
  go_enter Try.func88, Try.ntmps88
  go_wp2
  exact ⟨rfl, rfl, rfl⟩
end Go.Proofs.Ytimjpkmdphccmaa

/- wire's pen: the fields of a kind, one behind the other: a walk, over whatever the fields do. -/
namespace Go.Proofs.Ytimjpkmdphccmaa
open Go.RowKit
attribute [local go_sem ↓] Go.wp_at_zero Go.wp_at_succ
set_option linter.unusedVariables false
set_option linter.unusedSimpArgs false

def fldFn : Fld → Nat
  | .boot => 102
  | .known => 103
  | .server => 101
  | .count => 104
  | .node => 105
  | .lease => 106
  | .epoch => 107
  | .version => 108
  | .fault => 110
  | .steps => 111
  | .tree => 109

def goFlds {σ : Type} (step : Fld → σ → Option σ) : List Fld → σ → Option σ
  | [], s => some s
  | f :: r, s => (step f s).bind (goFlds step r)

theorem goFlds_snoc {σ : Type} (step : Fld → σ → Option σ) : ∀ (l : List Fld) (f : Fld) (s : σ), goFlds step (l ++ [f]) s = (goFlds step l s).bind (step f)
  | [], f, s => by simp only [List.nil_append, goFlds, Option.bind_some]; cases step f s <;> rfl
  | g :: r, f, s => by
    rw [List.cons_append, goFlds, goFlds]
    cases h : step g s with
    | none => rfl
    | some s' => simp only [Option.bind_some]; exact goFlds_snoc step r f s'
theorem goFlds_append {σ : Type} (step : Fld → σ → Option σ) : ∀ (l m : List Fld) (s : σ), goFlds step (l ++ m) s = (goFlds step l s).bind (goFlds step m)
  | [], m, s => rfl
  | g :: r, m, s => by
    rw [List.cons_append, goFlds, goFlds]
    cases h : step g s with
    | none => rfl
    | some s' => simp only [Option.bind_some]; exact goFlds_append step r m s'

/-- What a pen's round comes to. -/
def RunPost {σ : Type} (Inv : σ → World → Prop) (p : Nat → Prop) (r : Option σ) (v : Value) (w : World) (e : Ending) (w' : World) : Prop :=
  match r with
  | some s => e = .returned v ∧ Inv s w' ∧ Keep p w w'
  | none => e = .panicked [{ v := .iface 133 (.agg #[]), recovered := false }] ∧ Keep p w w'

theorem kind_cases {k : Int} (h1 : 1 ≤ k) (h2 : k ≤ 10) : k = 1 ∨ k = 2 ∨ k = 3 ∨ k = 4 ∨ k = 5 ∨ k = 6 ∨ k = 7 ∨ k = 8 ∨ k = 9 ∨ k = 10 := by omega
theorem Keep.cell {p : Nat → Prop} {X Y : World} {a : Addr} {v : Value} (h : Keep p X Y) (hc : X.cell? a = some v) (hp : p a.block) : Y.cell? a = some v := (World.cell?_of_block (h.block a.block (World.block_lt_of_cell? X a hc) hp)).trans hc
theorem rows_cells {W : World} {b : Nat} {fs : List Fld} {bP : Nat} {t : TypeId} (h : W.heap[b]? = some (.cells (fs.map fun f => Value.func (.func (fldFn f)) #[.pointer (some ⟨bP, 0, none⟩)] #[]).toArray t (0, 0))) :
    ∀ i (hi : i < fs.length), W.cell? ⟨b, i, none⟩ = some (.func (.func (fldFn fs[i])) #[.pointer (some ⟨bP, 0, none⟩)] #[]) := fun i hi => (cell_of h (by simp [hi])).1

def allocs (w : World) : List Obj → World
  | [] => w
  | o :: r => allocs (w.alloc o) r
theorem allocs_old : ∀ (l : List Obj) (w : World) (b : Nat) (o : Obj), w.heap[b]? = some o → (allocs w l).heap[b]? = some o
  | [], _, _, _, h => h
  | _ :: r, _, _, _, h => allocs_old r _ _ _ (alloc_old h _)
theorem allocs_get : ∀ (l : List Obj) (w : World) (j : Nat) (o : Obj), l[j]? = some o → (allocs w l).heap[w.heap.size + j]? = some o
  | [], _, _, _, h => by simp at h
  | x :: r, w, 0, o, h => by
    simp at h
    subst h
    exact allocs_old r _ _ _ (alloc_new w x)
  | x :: r, w, j + 1, o, h => by
    have := allocs_get r (w.alloc x) j o (by simpa using h)
    rwa [World.size_alloc, show w.heap.size + 1 + j = w.heap.size + (j + 1) by omega] at this

set_option maxRecDepth 100000 in
set_option maxHeartbeats 8000000 in
theorem fields_calls {σ : Type} (Inv : σ → World → Prop) (step : Fld → σ → Option σ) (bP bM bR : Nat) (k : Int) (s0 : σ) (w : World) (hk1 : 1 ≤ k) (hk2 : k ≤ 10) (hlP : bP < w.heap.size) (hlM : bM < w.heap.size) (hlR : bR < w.heap.size)
    (hI : ∀ s X Y, Inv s X → Below X.heap.size X Y → Inv s Y) (h0 : Inv s0 w) (hc : ∀ s X, Inv s X → X.cell? ⟨bP, 0, none⟩ = some (.pointer (some ⟨bM, 0, none⟩)) ∧ X.cell? ⟨bM, 0, none⟩ = some (.int .i8 k))
    (hF : ∀ f j s X, j < 6 → goFlds step ((kindFlds k).take j) s0 = some s → Inv s X → Calls Try.prog (fldFn f) #[.pointer (some ⟨bP, 0, none⟩)] X (RunPost Inv (fun b => b ≠ bP ∧ b ≠ bM ∧ b ≠ bR) (step f s) (.tuple #[]) X)) :
    Calls Try.prog 64 #[.pointer (some ⟨bP, 0, none⟩)] w (RunPost Inv (fun b => b ≠ bP ∧ b ≠ bM ∧ b ≠ bR) (goFlds step (kindFlds k) s0) (.bool (clientK k)) w) := by
  have hmf : ∀ (fn : Fn) (first cap : Array Value) (w : World), (Instr.makeFunc fn first cap).run Try.prog w = .ok (.func fn first cap) w := fun _ _ _ _ => rfl
  have HI := Lib.hid hI
  have HF := Lib.hid hF
  have HCL := Lib.hid hc
  have HH0 := Lib.hid h0
  clear hI hF hc h0
  go_enter Try.func64, Try.ntmps64
  go_upto_region 2 with (fail)
  simp only [Nat.add_assoc, Nat.reduceAdd]
  generalize hW1 : ((((((((((w.alloc _).alloc _).alloc _).alloc _).alloc _).alloc _).alloc _).alloc _).alloc _).alloc _).alloc _ = W1
  have hB : Below w.heap.size w W1 := by rw [← hW1]; go_grown
  have hex : ∃ bk, w.heap.size ≤ bk ∧ bk < w.heap.size + 10 ∧ W1.cell? ⟨w.heap.size + 10, k.toNat, none⟩ = some (.slice (some ⟨bk, 0, none⟩) (kindFlds k).length (kindFlds k).length) ∧
      ∀ i (hi : i < (kindFlds k).length), W1.cell? ⟨bk, i, none⟩ = some (.func (.func (fldFn (kindFlds k)[i])) #[.pointer (some ⟨bP, 0, none⟩)] #[]) := by
    have hA : W1 = allocs w [_, _, _, _, _, _, _, _, _, _, _] := hW1.symm
    rw [hA]
    rcases kind_cases hk1 hk2 with rfl | rfl | rfl | rfl | rfl | rfl | rfl | rfl | rfl | rfl
    · exact ⟨w.heap.size + 0, by omega, by omega, (cell_of (allocs_get _ w 10 _ rfl) rfl).1, rows_cells (fs := kindFlds 1) (allocs_get _ w 0 _ rfl)⟩
    · exact ⟨w.heap.size + 1, by omega, by omega, (cell_of (allocs_get _ w 10 _ rfl) rfl).1, rows_cells (fs := kindFlds 2) (allocs_get _ w 1 _ rfl)⟩
    · exact ⟨w.heap.size + 2, by omega, by omega, (cell_of (allocs_get _ w 10 _ rfl) rfl).1, rows_cells (fs := kindFlds 3) (allocs_get _ w 2 _ rfl)⟩
    · exact ⟨w.heap.size + 3, by omega, by omega, (cell_of (allocs_get _ w 10 _ rfl) rfl).1, rows_cells (fs := kindFlds 4) (allocs_get _ w 3 _ rfl)⟩
    · exact ⟨w.heap.size + 4, by omega, by omega, (cell_of (allocs_get _ w 10 _ rfl) rfl).1, rows_cells (fs := kindFlds 5) (allocs_get _ w 4 _ rfl)⟩
    · exact ⟨w.heap.size + 5, by omega, by omega, (cell_of (allocs_get _ w 10 _ rfl) rfl).1, rows_cells (fs := kindFlds 6) (allocs_get _ w 5 _ rfl)⟩
    · exact ⟨w.heap.size + 6, by omega, by omega, (cell_of (allocs_get _ w 10 _ rfl) rfl).1, rows_cells (fs := kindFlds 7) (allocs_get _ w 6 _ rfl)⟩
    · exact ⟨w.heap.size + 7, by omega, by omega, (cell_of (allocs_get _ w 10 _ rfl) rfl).1, rows_cells (fs := kindFlds 8) (allocs_get _ w 7 _ rfl)⟩
    · exact ⟨w.heap.size + 8, by omega, by omega, (cell_of (allocs_get _ w 10 _ rfl) rfl).1, rows_cells (fs := kindFlds 9) (allocs_get _ w 8 _ rfl)⟩
    · exact ⟨w.heap.size + 9, by omega, by omega, (cell_of (allocs_get _ w 10 _ rfl) rfl).1, rows_cells (fs := kindFlds 10) (allocs_get _ w 9 _ rfl)⟩
  have hz : w.heap.size + 11 ≤ W1.heap.size := by rw [← hW1]; simp
  clear hW1
  obtain ⟨bk, hbk1, hbk2, hall, hfs⟩ := hex
  have HI1 := Lib.hid (HI.out _ _ _ HH0.out hB)
  obtain ⟨p0, m0⟩ := HCL.out _ _ HI1.out
  have d1 : decide ((1 : Int) ≤ k) = true := by simpa using hk1
  have d2 : decide (k < 11) = true := by simp; omega
  generalize hfl : kindFlds k = fs at hall hfs ⊢
  have HFL := Lib.hid hfl
  clear hfl
  have HFS := Lib.hid hfs
  clear hfs
  go_wp2_with fail
  refine (must_true W1).mono ?_
  rintro e w1 ⟨rfl, rfl⟩
  have i1 : (0 : Int) ≤ k := by omega
  go_wp2_with fail
  have HB := Lib.hid hB
  clear hB p0 m0 hall d1 d2
  go_loopw [115] (fun v115 wr => ∃ (j : Nat) (s : σ), v115 = .int .i64 j ∧ j ≤ fs.length ∧ Inv s wr ∧ Keep (fun b => b ≠ bP ∧ b ≠ bM ∧ b ≠ bR) w1 wr ∧ goFlds step (fs.take j) s0 = some s) (fun v115 _ => fs.length - (intOf v115).toNat)
  case atStart => exact ⟨0, s0, rfl, Nat.zero_le _, HI1.out, ⟨rfl, rfl, rfl, Nat.le_refl _, fun _ _ _ => rfl⟩, by simp [goFlds]⟩
  case round =>
    obtain ⟨j, s, rfl, hj, hinv, hkp, hgo⟩ := hrel
    have HGO := Lib.hid hgo
    have HINV := Lib.hid hinv
    have HKP := Lib.hid hkp
    clear hgo hinv hkp
    have hfl : fs.length ≤ 6 := by rw [← HFL.out]; unfold kindFlds; repeat' split
                                   all_goals decide
    by_cases hlt : j < fs.length
    · have g5 : decide (j < fs.length) = true := by simpa using hlt
      have i1 : (0 : Int) ≤ (j : Int) := Int.natCast_nonneg _
      have i2 : (j : Int) < (fs.length : Int) := by omega
      have hc := HKP.out.cell (HFS.out j hlt) (by simp only; omega)
      generalize hfj : fs[j] = f at hc
      have HFJ : Hid (fs.take (j + 1) = fs.take j ++ [f]) := Lib.hid (by rw [take_snoc hlt, hfj])
      have HC := Lib.hid (HF.out f j s _ (by omega) (by rw [HFL.out]; exact HGO.out) HINV.out)
      clear hfj
      have HP : Hid (∀ e w', RunPost Inv (fun b => b ≠ bP ∧ b ≠ bM ∧ b ≠ bR) (step f s) (.tuple #[]) wr e w' → (e = .panicked [{ v := .iface 133 (.agg #[]), recovered := false }] ∧ RunPost Inv (fun b => b ≠ bP ∧ b ≠ bM ∧ b ≠ bR) (goFlds step (kindFlds k) s0) (.bool (clientK k)) w (.panicked [{ v := .iface 133 (.agg #[]), recovered := false }]) w') ∨
          (e = .returned (.tuple #[]) ∧ ∃ s', Inv s' w' ∧ Keep (fun b => b ≠ bP ∧ b ≠ bM ∧ b ≠ bR) w1 w' ∧ goFlds step (fs.take (j + 1)) s0 = some s')) := Lib.hid (fun e w' hp => by
        have hsn : goFlds step (fs.take (j + 1)) s0 = step f s := by rw [HFJ.out, goFlds_snoc, HGO.out]; rfl
        cases hst : step f s with
        | none =>
          rw [hst, RunPost] at hp
          refine .inl ⟨hp.1, ?_⟩
          have hn : goFlds step fs s0 = none := by
            rw [← List.take_append_drop (j + 1) fs, goFlds_append, hsn, hst]; rfl
          rw [HFL.out, hn]
          exact ⟨rfl, (Keep.of_below HB.out).trans (HKP.out.trans hp.2)⟩
        | some s' =>
          rw [hst, RunPost] at hp
          exact .inr ⟨hp.1, s', hp.2.1, HKP.out.trans hp.2.2, by rw [hsn, hst]⟩)
      clear HFJ HGO HINV
      cases f
      all_goals
        dsimp only [fldFn] at hc HC
        go_wp2_with fail
        refine HC.out.mono ?_
        rintro e w2 hp
        rcases HP.out e w2 hp with ⟨rfl, hq⟩ | ⟨rfl, s', hs1, hs2, hs3⟩
        · exact ⟨rfl, hq⟩
        · have H3 := Lib.hid hs3
          have H2 := Lib.hid hs2
          have H1 := Lib.hid hs1
          clear hs1 hs2 hs3 hp
          go_wp2
          go_roundw
          case rel => exact ⟨j + 1, s', by go_num, by omega, H1.out, H2.out, H3.out⟩
          case measure => simp [intOf]; omega
    · have g5 : decide (j < fs.length) = false := by simpa using hlt
      have HG : Hid (goFlds step fs s0 = some s) := Lib.hid (by have := HGO.out; rwa [List.take_of_length_le (by omega)] at this)
      have HR : Hid (∀ v, v = clientK k → RunPost Inv (fun b => b ≠ bP ∧ b ≠ bM ∧ b ≠ bR) (goFlds step (kindFlds k) s0) (.bool (clientK k)) w (.returned (.bool v)) wr) := Lib.hid (fun v hv => by
        rw [HFL.out, HG.out, hv]; exact ⟨rfl, HINV.out, (Keep.of_below HB.out).trans HKP.out⟩)
      obtain ⟨p0, m0⟩ := HCL.out _ _ HINV.out
      by_cases k2 : k = 2
      · have HE : Hid (clientK k = true) := Lib.hid (by rw [clientK, k2]; rfl)
        have e2 : (k == (2 : Int)) = true := by simpa using k2
        clear k2
        go_wp2
        go_ret
        exact HR.out _ HE.out.symm
      · have e2 : (k == (2 : Int)) = false := by simpa using k2
        by_cases k5 : k = 5
        · have HE : Hid (clientK k = true) := Lib.hid (by rw [clientK, k5]; rfl)
          have e5 : (k == (5 : Int)) = true := by simpa using k5
          clear k2 k5
          go_wp2
          go_ret
          exact HR.out _ HE.out.symm
        · have e5 : (k == (5 : Int)) = false := by simpa using k5
          by_cases k9 : k = 9
          · have HE : Hid (clientK k = true) := Lib.hid (by rw [clientK, k9]; rfl)
            have e9 : (k == (9 : Int)) = true := by simpa using k9
            clear k2 k5 k9
            go_wp2
            go_ret
            exact HR.out _ HE.out.symm
          · have e9 : (k == (9 : Int)) = false := by simpa using k9
            have HE : Hid (clientK k = false) := Lib.hid (by rw [clientK]; simp [k2, k5, k9])
            clear k2 k5 k9
            go_wp2
            go_ret
            exact HR.out _ HE.out.symm
end Go.Proofs.Ytimjpkmdphccmaa
