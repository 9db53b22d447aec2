/- wire.Read: a walk. -/
import Derived.Test.YtimjpkmdphccmaaWS14
import Derived.Test.YtimjpkmdphccmaaProg
import Derived.Test.YtimjpkmdphccmaaWS12
import Derived.Laws.EntriesVeiled
import Derived.Laws.Pointers
import Derived.WalkLawsBesides
import Derived.WalkSpells
import Derived.Tactics
import Derived.Tactics2
import Derived.WalkKit
import Derived.Handy
import Derived.Deep.RegionHeld3
import Derived.Deep.DrawnRows
import Derived.Deep.DeepCutAuto
import Derived.KernelRfl
import Derived.BigRegion
import Derived.BigQuiet
import Derived.Deep.QuietTactic
import Derived.Outline
import Derived.Lib.Hide
import Derived.Great.BuildSlice
import Derived.Laws.Rows
import Derived.Laws.Tables
import Derived.Laws.CopyOwn

namespace Go.Proofs.Ytimjpkmdphccmaa
open Go.RowKit
attribute [local go_sem ↓] Go.wp_at_zero Go.wp_at_succ
set_option linter.unusedVariables false
set_option linter.unusedSimpArgs false

def stepR (B : List UInt8) (f : Fld) (q : Msg × Rst) : Option (Msg × Rst) := some (f.read B q)
theorem goR (B : List UInt8) : ∀ (l : List Fld) (q : Msg × Rst), goFlds (stepR B) l q = some (readFlds B q l)
  | [], q => rfl
  | f :: r, q => by rw [goFlds, stepR, Option.bind_some, goR B r]; rfl
theorem Fld.read_kind (B : List UInt8) (f : Fld) (q : Msg × Rst) : (f.read B q).1.kind = q.1.kind := by cases f <;> rfl

def InvR (bM bP br : Nat) (B : Src) (k : Int) (q : Msg × Rst) (w : World) : Prop := q.1.kind = k ∧ ∃ x : MsgV, x.m = q.1 ∧ PenR w bM bP br B x q.2
theorem InvR.later {bM bP br : Nat} {B : Src} {k : Int} {q : Msg × Rst} {w w' : World} (h : InvR bM bP br B k q w) (hb : Below w.heap.size w w') : InvR bM bP br B k q w' := by
  obtain ⟨hk, x, hx, h⟩ := h
  exact ⟨hk, x, hx, h.keep hb⟩
theorem fldR_run {bM bP br : Nat} {B : Src} {k : Int} {f : Fld} {x : MsgV} {q : Msg × Rst} {w w' : World} {e : Ending} (hk : q.1.kind = k) (hx : x.m = q.1) (hp : FldPostR f bM bP br B x q.2 w e w') :
    RunPost (InvR bM bP br B k) (fun b => b ≠ bP ∧ b ≠ bM ∧ b ≠ br) (stepR B.l f q) (.tuple #[]) w e w' := by
  obtain ⟨he, hkp, y, hy, hr⟩ := hp
  have hq : (x.m, q.2) = q := by rw [hx]
  rw [hq] at hy hr
  have hy1 : y.m = (f.read B.l q).1 := congrArg Prod.fst hy
  exact ⟨he, ⟨by rw [Fld.read_kind]; exact hk, y, hy1, hr⟩, hkp.os, hkp.tape, hkp.output, hkp.size, fun b hb hp => hkp.block b hb ⟨hp.2.1, hp.2.2⟩⟩
theorem fldR_calls (bM bP br : Nat) (B : Src) (k : Int) (hB : B.l.length ≤ 1099511627776) (f : Fld) (q : Msg × Rst) (w : World) (hi : InvR bM bP br B k q w) :
    Calls Try.prog (fldFn f) #[.pointer (some ⟨bP, 0, none⟩)] w (RunPost (InvR bM bP br B k) (fun b => b ≠ bP ∧ b ≠ bM ∧ b ≠ br) (stepR B.l f q) (.tuple #[]) w) := by
  obtain ⟨hk, x, hx, h⟩ := hi
  have hm : ∀ {e w'}, FldPostR f bM bP br B x q.2 w e w' → RunPost (InvR bM bP br B k) (fun b => b ≠ bP ∧ b ≠ bM ∧ b ≠ br) (stepR B.l f q) (.tuple #[]) w e w' := fun h => fldR_run hk hx h
  cases f
  · exact (penBoot_r bM bP br B x _ w h hB).mono fun _ _ => hm
  · exact (penKnown_r bM bP br B x _ w h hB).mono fun _ _ => hm
  · exact (penServer_r bM bP br B x _ w h hB).mono fun _ _ => hm
  · exact (penCount_r bM bP br B x _ w h hB).mono fun _ _ => hm
  · exact (penNode_r bM bP br B x _ w h hB).mono fun _ _ => hm
  · exact (penLease_r bM bP br B x _ w h hB).mono fun _ _ => hm
  · exact (penEpoch_r bM bP br B x _ w h hB).mono fun _ _ => hm
  · exact (penVersion_r bM bP br B x _ w h hB).mono fun _ _ => hm
  · exact (penFault_r bM bP br B x _ w h hB).mono fun _ _ => hm
  · exact (penSteps_r bM bP br B x _ w h hB).mono fun _ _ => hm
  · exact (penTree_r bM bP br B x _ w h hB).mono fun _ _ => hm

/- What is read is of Go's numbers, and no larger than the bytes. -/
theorem Nd.bulk_le_bytes : ∀ x : Nd, x.bulk ≤ x.bytes.length := by
  intro x
  induction x using Nd.induct with
  | h x ih =>
    have hs : ∀ (l : List Nd), (∀ y ∈ l, y.bulk ≤ y.bytes.length) → Nd.bulks l ≤ (Nd.bytess l).length := by
      intro l
      induction l with
      | nil => intro _; simp [Nd.bulks]
      | cons y ys ihl => intro h; rw [Nd.bulks, Nd.bytess, List.length_append]; have := h y (by simp); have := ihl fun z hz => h z (by simp [hz]); omega
    have := hs x.kids ih
    rw [Nd.bulk_eq, Nd.bytes_eq]
    simp only [List.length_append, numB_length, textB_length]
    omega
theorem Stp.bulk_le_bytes (s : Stp) : s.bulk ≤ s.bytes.length := by
  have := s.sub.bulk_le_bytes
  simp only [Stp.bulk, Stp.bytes, List.length_append, numB_length, textB_length, List.length_singleton]; omega
theorem stepsBulk_le_bytes : ∀ l : List Stp, stepsBulk l ≤ (stepsBs l).length
  | [] => by simp [stepsBulk]
  | s :: r => by rw [stepsBulk, stepsBs, List.length_append]; have := s.bulk_le_bytes; have := stepsBulk_le_bytes r; omega
def stOk (B : List UInt8) : Rst → Prop
  | .at n => n ≤ B.length
  | .bad _ => True
def ReadOk (B : List UInt8) (q : Msg × Rst) : Prop := q.1.wf ∧ stepsBulk q.1.steps ≤ B.length ∧ q.1.tree.bulk ≤ B.length + 1 ∧ stOk B q.2
theorem askNum_ok {B : List UInt8} {st : Rst} (h : stOk B st) : -9223372036854775808 ≤ (askP (numberP B) 0 st).1 ∧ (askP (numberP B) 0 st).1 ≤ 9223372036854775807 ∧ stOk B (askP (numberP B) 0 st).2 := by
  cases st with
  | bad f => simp [askP, stOk]
  | «at» n =>
    rw [askP]
    cases hp : numberP B n with
    | fail f => simp [stOk]
    | ok v m =>
      have := numberP_seg hp
      simp only [stOk]
      omega
theorem read_ok {B : List UInt8} (f : Fld) {q : Msg × Rst} (h : ReadOk B q) : ReadOk B (f.read B q) := by
  obtain ⟨⟨hk, hn, hs, ht⟩, h1, h2, h3⟩ := h
  have ha := askNum_ok h3
  have num : ∀ (m : Msg), m.kind = q.1.kind → (∀ n ∈ [m.from_, m.to_, m.boot, m.server, m.number, m.node, m.lease, m.epoch, m.version, m.e], n = (askP (numberP B) 0 q.2).1 ∨ n ∈ [q.1.from_, q.1.to_, q.1.boot, q.1.server, q.1.number, q.1.node, q.1.lease, q.1.epoch, q.1.version, q.1.e]) → m.steps = q.1.steps → m.tree = q.1.tree →
      ReadOk B (m, (askP (numberP B) 0 q.2).2) := by
    intro m e1 e2 e3 e4
    refine ⟨⟨by simp only [e1]; exact hk, ?_, by simp only [e3]; exact hs, by simp only [e4]; exact ht⟩, by simp only [e3]; exact h1, by simp only [e4]; exact h2, ha.2.2⟩
    intro n hm
    rcases e2 n hm with rfl | hm
    · exact ⟨ha.1, ha.2.1⟩
    · exact hn n hm
  cases f
  case steps =>
    rw [Fld.read]
    cases hst : q.2 with
    | bad f => exact ⟨⟨hk, hn, by simp [askP], ht⟩, by simp [askP, stepsBulk], h2, trivial⟩
    | «at» n =>
      rw [hst] at h3
      cases hp : stepsP B n with
      | fail f => simp only [askP, hp]; exact ⟨⟨hk, hn, by simp, ht⟩, by simp [stepsBulk], h2, trivial⟩
      | ok v m =>
        obtain ⟨l, u⟩ := v
        obtain ⟨g1, g2, g3, g4, g5⟩ := stepsP_seg hp
        simp only [askP, hp]
        refine ⟨⟨hk, hn, fun s hs => (g5 s hs).1, ht⟩, ?_, h2, g2⟩
        have := stepsBulk_le_bytes l
        have h8 := congrArg List.length g3
        rw [seg_len g2, stepsB, List.length_append, numB_length] at h8
        simp only
        omega
  case tree =>
    rw [Fld.read]
    cases hst : q.2 with
    | bad f => exact ⟨⟨hk, hn, hs, Nd.zero_fits.2.2.1⟩, h1, by simp only [askP]; rw [Nd.zero_fits.2.2.2]; omega, trivial⟩
    | «at» n =>
      rw [hst] at h3
      cases hp : treeP B n with
      | fail f => simp only [askP, hp]; exact ⟨⟨hk, hn, hs, Nd.zero_fits.2.2.1⟩, h1, by simp only; rw [Nd.zero_fits.2.2.2]; omega, trivial⟩
      | ok v m =>
        obtain ⟨g1, g2, g3, g4, g5, g6⟩ := treeP_seg h3 hp
        simp only [askP, hp]
        refine ⟨⟨hk, hn, hs, g4⟩, h1, ?_, g2⟩
        have := v.bulk_le_bytes
        have h8 := congrArg List.length g3
        rw [seg_len g2] at h8
        simp only
        omega
  all_goals
    refine num _ rfl (fun n hm => ?_) rfl rfl
    simp only [List.mem_cons, List.mem_nil_iff, or_false] at hm ⊢
    rcases hm with h | h | h | h | h | h | h | h | h | h <;> simp [h]
theorem readFlds_ok {B : List UInt8} : ∀ (l : List Fld) {q : Msg × Rst}, ReadOk B q → ReadOk B (readFlds B q l)
  | [], _, h => h
  | f :: r, _, h => readFlds_ok r (read_ok f h)
theorem head_ok (B : List UInt8) : ReadOk B (readHead B) := by
  have h0 : stOk B (.at 0) := Nat.zero_le _
  have hk : -128 ≤ (askP (smallP B) 0 (.at 0)).1 ∧ (askP (smallP B) 0 (.at 0)).1 ≤ 127 ∧ stOk B (askP (smallP B) 0 (.at 0)).2 := by
    rw [askP]
    cases hp : smallP B 0 with
    | fail f => simp [stOk]
    | ok v m => have := smallP_seg hp; simp only [stOk]; omega
  have hf := askNum_ok hk.2.2
  have ht := askNum_ok hf.2.2
  rw [readHead]
  refine ⟨⟨⟨hk.1, hk.2.1⟩, ?_, by simp, Nd.zero_fits.2.2.1⟩, by simp [stepsBulk], by simp only; rw [Nd.zero_fits.2.2.2]; omega, ht.2.2⟩
  intro n hm
  simp only [List.mem_cons, List.mem_nil_iff, or_false] at hm
  rcases hm with rfl | rfl | rfl | rfl | rfl | rfl | rfl | rfl | rfl | rfl
  · exact ⟨hf.1, hf.2.1⟩
  · exact ⟨ht.1, ht.2.1⟩
  all_goals omega
theorem parse_ok (B : List UInt8) : ReadOk B (parseP B) := readFlds_ok _ (head_ok B)
end Go.Proofs.Ytimjpkmdphccmaa

/- wire.Read: a walk. -/
namespace Go.Proofs.Ytimjpkmdphccmaa
open Go.RowKit
attribute [local go_sem ↓] Go.wp_at_zero Go.wp_at_succ
set_option linter.unusedVariables false
set_option linter.unusedSimpArgs false

theorem info16 : (Try.prog.info? 41).map (·.size) = some 16 := by kernel_rfl
def zeroV : MsgV := ⟨Msg.zero, none, 0, none, 0⟩
theorem zeroV_rows (S : Nat → Prop) (w : World) : zeroV.rows S w := ⟨Nat.le_refl _, .inl rfl, Nat.le_refl _, .inl rfl⟩
theorem info_msg (x : MsgV) : (Try.prog.info? 41).map (·.size) = some x.cells.toArray.size := info16
theorem msg_one (x : MsgV) : x.cells.toArray.all (·.oneCell') = true := by simp [MsgV.cells, Value.oneCell']
theorem msg_sizes (x y : MsgV) : x.cells.toArray.size = y.cells.toArray.size := rfl
/-- What Read tells. -/
def ReadPost (b : List UInt8) (w : World) (e : Ending) (w' : World) : Prop :=
  Below w.heap.size w w' ∧ ∃ y : MsgV, y.m = (readP b).1 ∧ y.rows (fun _ => True) w' ∧ e = .returned (.tuple #[.agg y.cells.toArray, .int .i64 (readP b).2.1, .int .i64 (readP b).2.2])
set_option maxRecDepth 10000 in
theorem ReadPost.zero {b : List UInt8} {w w' : World} {n k : Int} (h : readP b = (Msg.zero, n, k)) (hb : Below w.heap.size w w') : ReadPost b w (.returned (.tuple #[.agg zeroV.cells.toArray, .int .i64 n, .int .i64 k])) w' := by
  refine ⟨hb, zeroV, by rw [h]; rfl, zeroV_rows _ _, by rw [h]⟩
set_option maxRecDepth 10000 in
theorem small_head (x : UInt8) (r : List UInt8) (h : x.toNat ≤ 10) : askP (smallP (x :: r)) 0 (.at 0) = ((x.toNat : Int), .at 1) := by
  have e : smallP (x :: r) 0 = .ok (x.toNat : Int) 1 := by
    rw [smallP, takeP, if_pos (by simp)]
    simp only [PR.bind_ok, List.drop_zero, List.take_succ_cons, List.take_zero, Nat.zero_add]
    congr 1
    have e : foldB [x] = (x.toNat : Int) := by simp [foldB]
    rw [e, toI8, if_pos (by omega)]
  rw [askP, e]
set_option maxRecDepth 10000 in
theorem head_kind (x : UInt8) (r : List UInt8) (h : x.toNat ≤ 10) : (readHead (x :: r)).1.kind = (x.toNat : Int) := by
  show (askP (smallP (x :: r)) 0 (.at 0)).1 = _
  rw [small_head x r h]

theorem read_results (tmps : Array Value) (w : World) (g : Nat) (cs : Array Value) (hp : tmps.getD 2 undef = .pointer (some ⟨g, 0, none⟩)) (hg : w.heap[g]? = some (.cells cs 41 (0, 0))) (hs : cs.size = 16) :
    (results Try.f29 tmps).run Try.prog w = .ok (.tuple #[.agg cs, tmps.getD 3 undef, tmps.getD 4 undef]) w := by
  have hp' : tmps[2]?.getD undef = .pointer (some ⟨g, 0, none⟩) := by simpa using hp
  have hl := run_loadVar_row (P := Try.prog) w g 41 41 cs (0, 0) _ hg Try.underlying41 rfl (by rw [info16, hs])
  simp [results, Try.results29, hp', asAddr, hl]
theorem readP_none {b : List UInt8} (h : ¬ 65536 < b.length) (ho : openP b = none) : readP b = (Msg.zero, 0, 30) := by rw [readP, if_neg h, ho]
theorem readP_some {b own : List UInt8} (h : ¬ 65536 < b.length) (ho : openP b = some own) : readP b = readOwn own := by rw [readP, if_neg h, ho]
theorem readOwn_head {own : List UInt8} (h : headOk own = false) : readOwn own = (Msg.zero, 0, 30) := by rw [readOwn, if_pos h]

set_option maxRecDepth 100000 in
set_option maxHeartbeats 4000000 in
theorem WRead_calls (b : List UInt8) (A : Option Addr) (c : Nat) (w : World) (hA : BytesAt w A b) (hc : b.length ≤ c) (hcm : c ≤ 9223372036854775807) (hl : b.length ≤ 1099511627776) :
    Calls Try.prog 29 #[.slice A b.length c] w (ReadPost b w) := by
  by_cases hlong : 65536 < b.length
  · have HR : Hid (readP b = (Msg.zero, 0, 3)) := Lib.hid (by rw [readP, if_pos hlong])
    have d1 : decide ((65536 : Int) < (b.length : Int)) = true := by simp; omega
    go_enter Try.func29, Try.ntmps29
    go_upto_region 2 with (fail)
    generalize hW1 : w.alloc _ = W1
    have hz0 : W1.heap[w.heap.size]? = some (.cells zeroV.cells.toArray 41 (0, 0)) := by rw [← hW1]; exact alloc_new w _
    have hB0 : Below w.heap.size w W1 := by rw [← hW1]; go_grown
    clear hW1
    go_wp2_with (refine wpList_store_rowTo rfl 41 _ _ rfl rfl w.heap.size zeroV.cells.toArray rfl rfl 41 _ hz0 (info_msg zeroV) (msg_sizes zeroV zeroV) (msg_one zeroV) ?_)
    refine bodyPost_ret (read_results _ _ w.heap.size zeroV.cells.toArray rfl (setRow_heap _ _ _ _ _ _ hz0) rfl) rfl ?_
    exact ReadPost.zero (n := 0) (k := 3) HR.out (below_setRow hB0 (Nat.le_refl _) _)
  have d1 : decide ((65536 : Int) < (b.length : Int)) = false := by simp; omega
  have HO := Lib.hid (Open_calls b A c (w.alloc (.cells zeroV.cells.toArray 41)) (hA.alloc _) (by omega) hc hcm)
  have hb0 : Below w.heap.size w (w.alloc (.cells zeroV.cells.toArray 41)) := by go_grown
  have hz0 := alloc_new w (.cells zeroV.cells.toArray 41)
  go_enter Try.func29, Try.ntmps29
  go_wp2_with fail
  refine HO.out.mono ?_
  clear HO
  rintro e w2 ⟨hb2, hp⟩
  have hB2 := below_then hb0 hb2
  have hz2 := (hb2.block _ (Array.getElem?_eq_some_iff.1 hz0).1).trans hz0
  obtain ⟨z0, z1, z2, z3, z4, z5, z6, z7, z8, z9, z10, z11, z12, z13, z14, z15, zz⟩ := blk16 hz2
  have HLG := Lib.hid hlong
  clear hlong d1 hA hb0 hz0 hb2
  cases ho : openP b with
  | none =>
    rw [ho] at hp
    subst hp
    have HR : Hid (readP b = (Msg.zero, 0, 30)) := Lib.hid (readP_none HLG.out ho)
    clear ho
    as_aux_lemma =>
      go_wp2_with (refine wpList_store_rowTo rfl 41 _ _ rfl rfl w.heap.size zeroV.cells.toArray rfl rfl 41 _ hz2 (info_msg zeroV) (msg_sizes zeroV zeroV) (msg_one zeroV) ?_)
      refine bodyPost_ret (read_results _ _ w.heap.size zeroV.cells.toArray rfl (setRow_heap _ _ _ _ _ _ hz2) rfl) rfl ?_
      exact ReadPost.zero (n := 0) (k := 30) HR.out (below_setRow hB2 (Nat.le_refl _) _)
  | some own =>
    rw [ho] at hp
    obtain ⟨A2, c2, rfl, hc2, hA2⟩ := hp
    have HR0 : Hid (readP b = readOwn own) := Lib.hid (readP_some HLG.out ho)
    have hol : own.length ≤ b.length := by have := congrArg List.length (openP_some ho); rw [sealB_len] at this; omega
    clear ho
    by_cases hh : headOk own = false
    · have HR : Hid (readP b = (Msg.zero, 0, 30)) := Lib.hid (by rw [HR0.out, readOwn_head hh])
      cases hown : own with
      | nil =>
        subst hown
        clear hh
        as_aux_lemma =>
          go_wp2_with (refine wpList_store_rowTo rfl 41 _ _ rfl rfl w.heap.size zeroV.cells.toArray rfl rfl 41 _ hz2 (info_msg zeroV) (msg_sizes zeroV zeroV) (msg_one zeroV) ?_)
          refine bodyPost_ret (read_results _ _ w.heap.size zeroV.cells.toArray rfl (setRow_heap _ _ _ _ _ _ hz2) rfl) rfl ?_
          exact ReadPost.zero (n := 0) (k := 30) HR.out (below_setRow hB2 (Nat.le_refl _) _)
      | cons x r =>
        subst hown
        obtain ⟨bb, oo, rfl, hcell⟩ : ∃ b o, A2 = some ⟨b, o, none⟩ ∧ ∀ i (h : i < (x :: r).length), w2.cell? ⟨b, o + i, none⟩ = some (.int .u8 ((x :: r)[i].toNat : Int)) := by
          rcases hA2 with h | h
          · cases h
          · exact h
        have hx := hcell 0 (by simp)
        simp only [List.getElem_cons_zero, Nat.add_zero] at hx
        simp only [headOk, Bool.and_eq_false_iff, decide_eq_false_iff_not] at hh
        have hlt := x.toNat_lt
        generalize x.toNat = n at hx hh hlt
        clear hcell
        have hr0 : ((r.length : Int) + 1 == 0) = false := by simp; omega
        by_cases n0 : n = 0
        · subst n0
          clear hh
          as_aux_lemma =>
            go_wp2_with (refine wpList_store_rowTo rfl 41 _ _ rfl rfl w.heap.size zeroV.cells.toArray rfl rfl 41 _ hz2 (info_msg zeroV) (msg_sizes zeroV zeroV) (msg_one zeroV) ?_)
            refine bodyPost_ret (read_results _ _ w.heap.size zeroV.cells.toArray rfl (setRow_heap _ _ _ _ _ _ hz2) rfl) rfl ?_
            exact ReadPost.zero (n := 0) (k := 30) HR.out (below_setRow hB2 (Nat.le_refl _) _)
        · by_cases n1 : n < 128
          · have g1 : 10 < n := by omega
            clear hh n0
            as_aux_lemma =>
              go_upto_region 5 with (fail)
              all_goals
                go_wp2_with (refine wpList_store_rowTo rfl 41 _ _ rfl rfl w.heap.size zeroV.cells.toArray rfl rfl 41 _ hz2 (info_msg zeroV) (msg_sizes zeroV zeroV) (msg_one zeroV) ?_)
                refine bodyPost_ret (read_results _ _ w.heap.size zeroV.cells.toArray rfl (setRow_heap _ _ _ _ _ _ hz2) rfl) rfl ?_
                exact ReadPost.zero (n := 0) (k := 30) HR.out (below_setRow hB2 (Nat.le_refl _) _)
          · have g1 : 128 ≤ n := by omega
            clear hh n0 n1
            as_aux_lemma =>
              go_upto_region 5 with (fail)
              all_goals
                go_wp2_with (refine wpList_store_rowTo rfl 41 _ _ rfl rfl w.heap.size zeroV.cells.toArray rfl rfl 41 _ hz2 (info_msg zeroV) (msg_sizes zeroV zeroV) (msg_one zeroV) ?_)
                refine bodyPost_ret (read_results _ _ w.heap.size zeroV.cells.toArray rfl (setRow_heap _ _ _ _ _ _ hz2) rfl) rfl ?_
                exact ReadPost.zero (n := 0) (k := 30) HR.out (below_setRow hB2 (Nat.le_refl _) _)
    · cases hown : own with
      | nil => subst hown; exact absurd rfl hh
      | cons x r =>
        have hol2 := hol
        subst hown
        obtain ⟨bb, oo, rfl, hcell⟩ : ∃ b o, A2 = some ⟨b, o, none⟩ ∧ ∀ i (h : i < (x :: r).length), w2.cell? ⟨b, o + i, none⟩ = some (.int .u8 ((x :: r)[i].toNat : Int)) := by
          rcases hA2 with h | h
          · cases h
          · exact h
        have hx := hcell 0 (by simp)
        simp only [List.getElem_cons_zero, Nat.add_zero] at hx
        simp only [headOk, Bool.not_eq_false, Bool.and_eq_true, decide_eq_true_eq] at hh
        obtain ⟨hh1, hh2⟩ := hh
        have hkd := head_kind x r hh2
        have HKD := Lib.hid hkd
        have HNW := Lib.hid (New_calls (x :: r) _ c2 w2 hA2 (by omega))
        have HX : Hid (readOwn (x :: r) = if (endP (x :: r) (parseP (x :: r)).2).2 ≠ 0 then (Msg.zero, (endP (x :: r) (parseP (x :: r)).2).1, (endP (x :: r) (parseP (x :: r)).2).2)
            else if okMsg (parseP (x :: r)).1 then ((parseP (x :: r)).1, 0, 0) else (Msg.zero, 0, 30)) := Lib.hid (by rw [readOwn, if_neg (by simp [headOk, hh1, hh2])])
        have hlen : ((x :: r).length : Int) = (r.length : Int) + 1 := by simp
        have hnl : ¬ ((x :: r).length = 0) := by simp
        have hr0 : ((r.length : Int) + 1 == 0) = false := by simp; omega
        generalize x.toNat = n at hx hh1 hh2 hkd HKD
        clear hcell hA2 hkd
        go_upto_region 6 with (fail)
        as_aux_lemma =>
          go_wp2_with fail
          refine HNW.out.mono ?_
          clear HNW
          rintro e w3 ⟨br, B, rfl, hBl, hbr, hR3, hb3⟩
          have hB3 := below_then hB2 hb3
          have hz3 := (hb3.block _ (Array.getElem?_eq_some_iff.1 hz2).1).trans hz2
          have hlB : B.l.length ≤ 1099511627776 := by rw [hBl]; omega
          have HBL := Lib.hid hBl
          have lR := hR3.lt
          have lz := (Array.getElem?_eq_some_iff.1 hz3).1
          have lbr : w.heap.size < br := by have := (Array.getElem?_eq_some_iff.1 hz2).1; omega
          have lw3 := hB3.size
          clear z0 z1 z2 z3 z4 z5 z6 z7 z8 z9 z10 z11 z12 z13 z14 z15 zz hBl hx hlen hnl hr0 hz2 hb3
          go_wp2_with fail
          generalize hW4 : w3.alloc _ = w4
          have hM4 : w4.heap[w3.heap.size]? = some (.cells zeroV.cells.toArray 41 (0, 0)) := by rw [← hW4]; exact alloc_new w3 _
          have hb4 : Below w3.heap.size w3 w4 := by rw [← hW4]; go_grown
          have hR4 := hR3.later hb4
          have hB4 := below_then hB3 hb4
          have hz4 := (hb4.block _ lz).trans hz3
          clear hW4 hR3 hz3
          refine (Small_calls br B (.at 0) w4 hR4 hlB).mono ?_
          rintro e w5 ⟨_, rfl, rfl, hR5, hg5⟩
          generalize hq1 : askP (smallP B.l) 0 (.at 0) = q1 at hR5 ⊢
          have HQ1 := Lib.hid hq1
          have hM5 := (hg5.block _ (Array.getElem?_eq_some_iff.1 hM4).1 (by simp; omega)).trans hM4
          have hz5 := (hg5.block _ (Array.getElem?_eq_some_iff.1 hz4).1 (by simp; omega)).trans hz4
          have hB5 := hB4.grown hg5 hB4.size (fun k hk => by simp at hk; omega)
          obtain ⟨m0, mz0⟩ := cell_of hM5 (i := 0) (v := .int .i8 0) rfl
          clear hq1 hM4 hR4 hz4 hg5
          go_wp2_with fail
          have hM6 := setCell_blk hM5 0 (.int .i8 q1.1)
          have hG6 := grown_set (grown_refl w5 (some w3.heap.size)) 0 (.int .i8 q1.1)
          generalize w5.setCell ⟨w3.heap.size, 0, none⟩ (.int .i8 q1.1) = w6 at hM6 hG6 ⊢
          have hR6 := hR5.grown hG6 (fun b hb => by simp at hb; omega)
          have hz6 := (hG6.block _ (Array.getElem?_eq_some_iff.1 hz5).1 (by simp; omega)).trans hz5
          have hB6 := hB5.grown hG6 hB5.size (fun k hk => by simp at hk; omega)
          clear m0 mz0 hM5 hR5 hz5 hG6
          refine (RNumber_calls br B q1.2 w6 hR6 hlB).mono ?_
          rintro e w7 ⟨_, rfl, rfl, hR7, hg7⟩
          generalize hq2 : askP (numberP B.l) 0 q1.2 = q2 at hR7 ⊢
          have HQ2 := Lib.hid hq2
          have hM7 := (hg7.block _ (Array.getElem?_eq_some_iff.1 hM6).1 (by simp; omega)).trans hM6
          have hz7 := (hg7.block _ (Array.getElem?_eq_some_iff.1 hz6).1 (by simp; omega)).trans hz6
          have hB7 := hB6.grown hg7 hB6.size (fun k hk => by simp at hk; omega)
          obtain ⟨m1, mz1⟩ := cell_of hM7 (i := 1) (v := .int .i64 0) rfl
          clear hq2 hM6 hR6 hz6 hg7
          go_wp2_with fail
          have hM8 := setCell_blk hM7 1 (.int .i64 q2.1)
          have hG8 := grown_set (grown_refl w7 (some w3.heap.size)) 1 (.int .i64 q2.1)
          generalize w7.setCell ⟨w3.heap.size, 1, none⟩ (.int .i64 q2.1) = w8 at hM8 hG8 ⊢
          have hR8 := hR7.grown hG8 (fun b hb => by simp at hb; omega)
          have hz8 := (hG8.block _ (Array.getElem?_eq_some_iff.1 hz7).1 (by simp; omega)).trans hz7
          have hB8 := hB7.grown hG8 hB7.size (fun k hk => by simp at hk; omega)
          clear m1 mz1 hM7 hR7 hz7 hG8
          refine (RNumber_calls br B q2.2 w8 hR8 hlB).mono ?_
          rintro e w9 ⟨_, rfl, rfl, hR9, hg9⟩
          generalize hq3 : askP (numberP B.l) 0 q2.2 = q3 at hR9 ⊢
          have HQ3 := Lib.hid hq3
          have hM9 := (hg9.block _ (Array.getElem?_eq_some_iff.1 hM8).1 (by simp; omega)).trans hM8
          have hz9 := (hg9.block _ (Array.getElem?_eq_some_iff.1 hz8).1 (by simp; omega)).trans hz8
          have hB9 := hB8.grown hg9 hB8.size (fun k hk => by simp at hk; omega)
          obtain ⟨m2, mz2⟩ := cell_of hM9 (i := 2) (v := .int .i64 0) rfl
          clear hq3 hM8 hR8 hz8 hg9
          go_upto_region 11 with (fail)
          have hM10 := setCell_blk hM9 2 (.int .i64 q3.1)
          have hG10 := grown_set (grown_refl w9 (some w3.heap.size)) 2 (.int .i64 q3.1)
          generalize w9.setCell ⟨w3.heap.size, 2, none⟩ (.int .i64 q3.1) = w10 at hM10 hG10 ⊢
          have hR10 := hR9.grown hG10 (fun b hb => by simp at hb; omega)
          have hz10 := (hG10.block _ (Array.getElem?_eq_some_iff.1 hz9).1 (by simp; omega)).trans hz9
          have hB10 := hB9.grown hG10 hB9.size (fun k hk => by simp at hk; omega)
          have hh : readHead B.l = (⟨q1.1, q2.1, q3.1, 0, 0, 0, 0, 0, 0, 0, 0, [], Nd.zero⟩, q3.2) := by simp only [readHead, HQ1.out, HQ2.out, HQ3.out]
          clear m2 mz2 hM9 hR9 hz9 hG10 HQ1 HQ2 HQ3
          have HHH := Lib.hid hh
          clear hh
          go_wp2_with fail
          generalize hW11 : World.alloc w10 _ = w11
          have hb11 : Below w10.heap.size w10 w11 := by rw [← hW11]; go_grown
          have hP11 : ∃ rest : List Value, w11.heap[w10.heap.size]? = some (.cells (.pointer (some ⟨w3.heap.size, 0, none⟩) :: .pointer (some ⟨br, 0, none⟩) :: rest).toArray 110 (0, 0)) := ⟨_, by rw [← hW11]; exact alloc_new w10 _⟩
          clear hW11
          have hM11 := (hb11.block _ (Array.getElem?_eq_some_iff.1 hM10).1).trans hM10
          have hz11 := (hb11.block _ (Array.getElem?_eq_some_iff.1 hz10).1).trans hz10
          have hR11 := hR10.later hb11
          have hB11 := below_then hB10 hb11
          have hs11 := hb11.size
          have lM10 := (Array.getElem?_eq_some_iff.1 hM10).1
          have lP11 := (Array.getElem?_eq_some_iff.1 hP11.choose_spec).1
          have hkk : (readHead B.l).1.kind = (n : Int) := by rw [HBL.out]; exact HKD.out
          have hcells : (((zeroV.cells.toArray.setIfInBounds 0 (.int .i8 q1.1)).setIfInBounds 1 (.int .i64 q2.1)).setIfInBounds 2 (.int .i64 q3.1)) = (⟨(readHead B.l).1, none, 0, none, 0⟩ : MsgV).cells.toArray := by
            rw [HHH.out]; simp [MsgV.cells, zeroV, Msg.zero]
          rw [hcells] at hM11
          have hI11 : InvR w3.heap.size w10.heap.size br B (n : Int) (readHead B.l) w11 := ⟨hkk, ⟨(readHead B.l).1, none, 0, none, 0⟩, rfl, hM11, hP11, by rw [HHH.out]; exact hR11, by rw [HHH.out]; exact ⟨Nat.le_refl _, .inl rfl, Nat.le_refl _, .inl rfl⟩, lR, lM10⟩
          have HC := Lib.hid (fields_calls (InvR w3.heap.size w10.heap.size br B (n : Int)) (stepR B.l) w10.heap.size w3.heap.size br (n : Int) (readHead B.l) w11 (by omega) (by omega) (by omega) (by omega) (by omega)
            (fun s X Y h hb => h.later hb) hI11 (fun s X h => ⟨by
              obtain ⟨_, x', _, h⟩ := h
              obtain ⟨rest, hP⟩ := h.P
              exact (cell_of hP (i := 0) rfl).1, by
              obtain ⟨hk, x', hx', h⟩ := h
              have := (cell_of h.M (i := 0) (v := .int .i8 x'.m.kind) rfl).1
              rwa [hx', hk] at this⟩)
            (fun f j s X _ _ h => fldR_calls w3.heap.size w10.heap.size br B (n : Int) hlB f s X h))
          clear hM10 hz10 hR10 hb11 hP11 hM11 hR11 hI11 hcells HHH hB10
          refine HC.out.mono ?_
          clear HC
          rintro e w12 hp
          rw [goR] at hp
          obtain ⟨rfl, ⟨hk12, y, hy, hI12⟩, hk12'⟩ := hp
          have hq : readFlds B.l (readHead B.l) (kindFlds (n : Int)) = parseP B.l := by rw [parseP, hkk]
          rw [hq] at hy hI12
          have hz12 := hk12'.get hz11 ⟨by omega, by omega, by omega⟩
          have hB12 := hk12'.below hB11 (Nat.le_refl _) fun b hb => ⟨by omega, by omega, by omega⟩
          have hok := parse_ok B.l
          have HX1 : Hid (readP b = if (endP B.l (parseP B.l).2).2 ≠ 0 then (Msg.zero, (endP B.l (parseP B.l).2).1, (endP B.l (parseP B.l).2).2) else if okMsg y.m then (y.m, 0, 0) else (Msg.zero, 0, 30)) := Lib.hid (by rw [HR0.out, HX.out, ← HBL.out, hy])
          have hyk : y.m.wf ∧ y.m.bulk ≤ 1073741824 := by
            rw [hy]
            obtain ⟨g1, g2, g3, _⟩ := hok
            refine ⟨g1, ?_⟩
            have : B.l.length ≤ 65536 := by rw [HBL.out]; have := HLG.out; omega
            rw [Msg.bulk]; omega
          have HYK := Lib.hid hyk
          clear hyk hok hk12 hk12' hq hkk HX hz11 hB11
          go_wp2_with fail
          have hen : (endP B.l (parseP B.l).2).2 = 0 ∨ (endP B.l (parseP B.l).2).2 = 30 := by
            cases (parseP B.l).2 with
            | bad f => exact .inr rfl
            | «at» m => rw [endP]; split; exact .inr rfl; exact .inl rfl
          refine (End_calls br B (parseP B.l).2 w12 hI12.R hlB).mono ?_
          rintro e w13 ⟨rfl, hb13⟩
          generalize endP B.l (parseP B.l).2 = en at hen HX1 ⊢
          obtain ⟨at_, ee⟩ := en
          simp only at hen HX1 ⊢
          have hz13 := (hb13.block _ (Array.getElem?_eq_some_iff.1 hz12).1).trans hz12
          have hI13 := hI12.keep hb13
          have hB13 := below_then hB12 hb13
          clear hz12 hI12 hB12 hb13
          rcases hen with rfl | rfl
          case inr =>
            have HR : Hid (readP b = (Msg.zero, at_, 30)) := Lib.hid (by rw [HX1.out]; simp)
            clear hI13
            as_aux_lemma =>
              go_wp2_with (refine wpList_store_rowTo rfl 41 _ _ rfl rfl w.heap.size zeroV.cells.toArray rfl rfl 41 _ hz13 (info_msg zeroV) (msg_sizes zeroV zeroV) (msg_one zeroV) ?_)
              refine bodyPost_ret (read_results _ _ w.heap.size zeroV.cells.toArray rfl (setRow_heap _ _ _ _ _ _ hz13) rfl) rfl ?_
              exact ReadPost.zero (n := at_) (k := 30) HR.out (below_setRow hB13 (Nat.le_refl _) _)
          case inl =>
          have HX2 : Hid (readP b = if okMsg y.m then (y.m, 0, 0) else (Msg.zero, 0, 30)) := Lib.hid (by rw [HX1.out]; simp)
          have hM13 := hI13.M
          have hrw := hI13.rows
          clear HX1
          go_wp2_with (refine wpList_load_row rfl 41 _ rfl w3.heap.size rfl 41 y.cells.toArray (0, 0) _ hM13 Try.underlying41 rfl (info_msg y) ?_)
          refine (Right_calls y w13 (MsgV.rows_move hrw fun b _ _ => ⟨trivial, rfl⟩) HYK.out.1 HYK.out.2).mono ?_
          rintro e w14 ⟨rfl, hb14⟩
          have hz14 := (hb14.block _ (Array.getElem?_eq_some_iff.1 hz13).1).trans hz13
          have hB14 := below_then hB13 hb14
          have hI14 := hI13.keep hb14
          have hM14 := hI14.M
          have hrw14 := hI14.rows
          have hlt1 := hI14.lt1
          clear hz13 hB13 hI13 hM13 hrw hb14
          cases hom : okMsg y.m with
          | false =>
            have HR : Hid (readP b = (Msg.zero, 0, 30)) := Lib.hid (by rw [HX2.out, hom]; rfl)
            clear hI14 hom
            as_aux_lemma =>
              go_wp2_with (refine wpList_store_rowTo rfl 41 _ _ rfl rfl w.heap.size zeroV.cells.toArray rfl rfl 41 _ hz14 (info_msg zeroV) (msg_sizes zeroV zeroV) (msg_one zeroV) ?_)
              refine bodyPost_ret (read_results _ _ w.heap.size zeroV.cells.toArray rfl (setRow_heap _ _ _ _ _ _ hz14) rfl) rfl ?_
              exact ReadPost.zero (n := 0) (k := 30) HR.out (below_setRow hB14 (Nat.le_refl _) _)
          | true =>
            have HR : Hid (readP b = (y.m, 0, 0)) := Lib.hid (by rw [HX2.out, hom]; rfl)
            clear hI14 hom
            as_aux_lemma =>
              go_wp2_with (first
                | (refine wpList_load_row rfl 41 _ rfl w3.heap.size rfl 41 y.cells.toArray (0, 0) _ hM14 Try.underlying41 rfl (info_msg y) ?_)
                | (refine wpList_store_rowTo rfl 41 _ _ rfl rfl w.heap.size y.cells.toArray rfl rfl 41 _ hz14 (info_msg y) (msg_sizes zeroV y) (msg_one y) ?_))
              refine bodyPost_ret (read_results _ _ w.heap.size y.cells.toArray rfl (setRow_heap _ _ _ _ _ _ hz14) rfl) rfl ?_
              refine ⟨below_setRow hB14 (Nat.le_refl _) _, y, by rw [HR.out], ?_, by rw [HR.out]; rfl⟩
              exact MsgV.rows_move hrw14 fun b hS _ => ⟨trivial, setRow_other _ _ _ _ (by have := hS.1; omega)⟩
end Go.Proofs.Ytimjpkmdphccmaa

/- What is written is read as it was: plain laws of messages. -/
namespace Go.Proofs.Ytimjpkmdphccmaa
open Go.RowKit
set_option linter.unusedSimpArgs false

theorem num_at {B p r : List UInt8} {n : Int} (hB : B = p ++ (numB n ++ r)) (h0 : -9223372036854775808 ≤ n) (h1 : n ≤ 9223372036854775807) : askP (numberP B) 0 (.at p.length) = (n, .at (p.length + 8)) := by
  rw [askP, hB, numberP_at p r n h0 h1]
theorem okSteps_fits {l : List Stp} (h : okSteps l = true) : l.length ≤ 60 ∧ insCnt l ≤ 200 ∧ ∀ s ∈ l, s.fits := by
  simp only [okSteps, okCheck, Bool.and_eq_true, decide_eq_true_eq, List.all_eq_true] at h
  exact ⟨h.1.1, h.1.2, fun s hs => (okStep_fits (h.2 s hs)).1⟩
/-- A field, read where it was written. -/
theorem read_at {B p r : List UInt8} (m s : Msg) (f : Fld) (hB : B = p ++ (f.bytes m ++ r)) (ho : f.ok m = true) : f.read B (s, .at p.length) = (f.see m s, .at (p.length + (f.bytes m).length)) := by
  cases f
  case steps =>
    obtain ⟨h1, _, h2⟩ := okSteps_fits ho
    have e : askP (stepsP B) ([], ()) (.at p.length) = ((m.steps, ()), .at (p.length + (stepsB m.steps).length)) := by rw [askP, hB, Fld.bytes, stepsP_at m.steps p r h1 h2]
    simp only [Fld.read, e, Fld.see, Fld.bytes]
  case tree =>
    obtain ⟨h1, h2, h3, h4⟩ := okTree_fits ho
    have e : askP (treeP B) Nd.zero (.at p.length) = (m.tree, .at (p.length + m.tree.bytes.length)) := by rw [askP, hB, Fld.bytes, treeP_at m.tree p r (Nd.deep_mono (by omega) h2) h1 h3 (by omega)]
    simp only [Fld.read, e, Fld.see, Fld.bytes]
  case fault =>
    simp only [Fld.ok, Bool.and_eq_true, decide_eq_true_eq] at ho
    have e := num_at (n := m.e) hB (by omega) (by omega)
    simp only [Fld.read, e, Fld.see, Fld.bytes, numB_length]
  all_goals
    have hr := leastB_range ho
    have e := num_at hB (by omega) (by omega)
    simp only [Fld.read, e, Fld.see, Fld.bytes, numB_length]
theorem readFlds_at {B : List UInt8} (m : Msg) : ∀ (l : List Fld) (p r : List UInt8) (s : Msg), B = p ++ (l.flatMap (Fld.bytes m) ++ r) → (∀ f ∈ l, f.ok m = true) → readFlds B (s, .at p.length) l = (l.foldl (fun s f => f.see m s) s, .at (p.length + (l.flatMap (Fld.bytes m)).length))
  | [], p, r, s, _, _ => by simp [readFlds]
  | f :: l, p, r, s, hB, ho => by
    have h1 := read_at (B := B) (p := p) (r := l.flatMap (Fld.bytes m) ++ r) m s f (by rw [hB]; simp) (ho f (by simp))
    have h2 := readFlds_at (B := B) m l (p ++ f.bytes m) r (f.see m s) (by rw [hB]; simp) (fun g hg => ho g (by simp [hg]))
    rw [List.length_append] at h2
    show readFlds B (f.read B (s, .at p.length)) l = _
    rw [h1, h2]
    simp [Nat.add_assoc]
theorem okWho_range {m : Msg} (h : okWho m = true) : 0 ≤ m.from_ ∧ m.from_ ≤ 8 ∧ 0 ≤ m.to_ ∧ m.to_ ≤ 8 := by
  rw [okWho] at h
  split at h <;> simp only [Bool.and_eq_true, decide_eq_true_eq] at h <;> omega
theorem head_at {m : Msg} (r : List UInt8) (h1 : 1 ≤ m.kind) (h2 : m.kind ≤ 10) (hw : okWho m = true) : readHead ([opB m.kind] ++ numB m.from_ ++ numB m.to_ ++ r) = (seen0 m, .at 17) := by
  obtain ⟨a1, a2, a3, a4⟩ := okWho_range hw
  have e0 : askP (smallP ([opB m.kind] ++ numB m.from_ ++ numB m.to_ ++ r)) 0 (.at 0) = (m.kind, .at 1) := by
    have := smallP_at [] (numB m.from_ ++ numB m.to_ ++ r) m.kind (by omega) (by omega)
    rw [askP, show [opB m.kind] ++ numB m.from_ ++ numB m.to_ ++ r = [] ++ ([opB m.kind] ++ (numB m.from_ ++ numB m.to_ ++ r)) by simp]
    rw [show (0 : Nat) = ([] : List UInt8).length by rfl, this]
    rfl
  have e1 := num_at (B := [opB m.kind] ++ numB m.from_ ++ numB m.to_ ++ r) (p := [opB m.kind]) (r := numB m.to_ ++ r) (n := m.from_) (by simp) (by omega) (by omega)
  have e2 := num_at (B := [opB m.kind] ++ numB m.from_ ++ numB m.to_ ++ r) (p := [opB m.kind] ++ numB m.from_) (r := r) (n := m.to_) (by simp) (by omega) (by omega)
  simp only [List.length_append, List.length_singleton, numB_length, Nat.reduceAdd] at e1 e2
  simp only [readHead, e0, e1, e2, seen0]
theorem parse_msg {m : Msg} (h : okMsg m = true) (r : List UInt8) : parseP (msgB m ++ r) = (m, .at (msgB m).length) := by
  obtain ⟨h1, h2, h3, h4, h5⟩ := okMsg_parts h
  have hB : msgB m ++ r = [opB m.kind] ++ numB m.from_ ++ numB m.to_ ++ ((kindFlds m.kind).flatMap (Fld.bytes m) ++ r) := by rw [msgB, bytesK]; simp
  have hh := head_at ((kindFlds m.kind).flatMap (Fld.bytes m) ++ r) h1 h2 h4
  rw [← hB] at hh
  have hp : ([opB m.kind] ++ numB m.from_ ++ numB m.to_).length = 17 := by simp [numB_length]
  have hf := readFlds_at (B := msgB m ++ r) m (kindFlds m.kind) ([opB m.kind] ++ numB m.from_ ++ numB m.to_) r (seen0 m) hB h3
  rw [hp] at hf
  rw [parseP, hh]
  show readFlds _ (seen0 m, .at 17) (kindFlds m.kind) = _
  rw [hf]
  have hl : (msgB m).length = 17 + ((kindFlds m.kind).flatMap (Fld.bytes m)).length := by rw [msgB, bytesK, List.length_append, hp]
  rw [hl]
  congr 1
  exact h5.symm
theorem head_ok_msg {m : Msg} (h : okMsg m = true) (r : List UInt8) : headOk (msgB m ++ r) = true := by
  obtain ⟨h1, h2, _⟩ := okMsg_parts h
  have : ((opB m.kind).toNat : Int) = m.kind := by rw [opB_val]; omega
  have e : msgB m ++ r = opB m.kind :: (numB m.from_ ++ numB m.to_ ++ (kindFlds m.kind).flatMap (Fld.bytes m) ++ r) := by rw [msgB, bytesK]; simp
  rw [e]
  show (decide (1 ≤ (opB m.kind).toNat) && decide ((opB m.kind).toNat ≤ 10)) = true
  rw [Bool.and_eq_true, decide_eq_true_eq, decide_eq_true_eq]
  omega
theorem readOwn_msg {m : Msg} (h : okMsg m = true) : readOwn (msgB m) = (m, 0, 0) := by
  have hp := parse_msg h []
  have hh := head_ok_msg h []
  rw [List.append_nil] at hp hh
  rw [readOwn, if_neg (by rw [hh]; simp), hp]
  have he : endP (msgB m) (.at (msgB m).length) = (0, 0) := by rw [endP, if_neg (by omega)]
  simp only [he, ne_eq, not_true_eq_false, if_false, h, if_true]

/- A message that may be is short. -/
theorem stepsBs_short : ∀ l : List Stp, (∀ s ∈ l, okStep s = true) → (stepsBs l).length ≤ 105 * l.length + 72 * insCnt l
  | [], _ => by simp [stepsBs]
  | s :: r, h => by
    have h1 := (okStep_fits (h s (by simp))).2
    have h2 := stepsBs_short r fun t ht => h t (by simp [ht])
    rw [stepsBs, insCnt, List.length_append, List.length_cons, Nat.mul_add]
    split at h1
    · rename_i ho; rw [if_pos ho]; omega
    · rename_i ho; rw [if_neg ho]; omega
theorem fld_short {m : Msg} {f : Fld} (ho : f.ok m = true) : (f.bytes m).length ≤ 20708 := by
  cases f
  case steps =>
    obtain ⟨h1, h2, _⟩ := okSteps_fits ho
    simp only [Fld.ok, okSteps, Bool.and_eq_true, List.all_eq_true] at ho
    have := stepsBs_short m.steps ho.2
    simp only [Fld.bytes, stepsB, List.length_append, numB_length]
    omega
  case tree =>
    have h1 := bytes_of_ok ho
    have h2 := (okTree_fits ho).1
    simp only [Fld.bytes]; omega
  all_goals simp only [Fld.bytes, numB_length]; omega
/-- All but steps and tree are eight bytes. -/
theorem fld_eight {m : Msg} {f : Fld} (h1 : f ≠ .steps) (h2 : f ≠ .tree) : (f.bytes m).length = 8 := by
  cases f
  case steps => exact absurd rfl h1
  case tree => exact absurd rfl h2
  all_goals simp only [Fld.bytes, numB_length]
theorem msgB_short {m : Msg} (h : okMsg m = true) : (msgB m).length ≤ 20800 := by
  obtain ⟨h1, h2, h3, _⟩ := okMsg_parts h
  have hl : (msgB m).length = 17 + ((kindFlds m.kind).flatMap (Fld.bytes m)).length := by rw [msgB, bytesK, List.length_append]; simp [numB_length]
  rw [hl]
  generalize hk : kindFlds m.kind = l at h3
  have hsh : ∀ f, f ∈ l → (f.bytes m).length ≤ 20708 := fun f hf => fld_short (h3 f hf)
  have hcase : l = [.server] ∨ l = [.boot, .known, .count, .node] ∨ l = [.server, .count, .lease, .epoch, .version, .tree] ∨ l = [.server, .count, .fault] ∨ l = [.boot, .known, .count, .lease, .epoch, .steps] ∨ l = [.server, .count, .version] ∨ l = [.server, .version, .steps] ∨ l = [.boot, .known] ∨ l = [.server, .version, .tree] := by
    rw [← hk, kindFlds]
    repeat' split
    all_goals simp
  rcases hcase with rfl | rfl | rfl | rfl | rfl | rfl | rfl | rfl | rfl
  · simp only [List.flatMap_cons, List.flatMap_nil, List.length_append, List.length_nil, Fld.bytes, numB_length]
    omega
  · simp only [List.flatMap_cons, List.flatMap_nil, List.length_append, List.length_nil, Fld.bytes, numB_length]
    omega
  · have := hsh .tree (by simp)
    simp only [List.flatMap_cons, List.flatMap_nil, List.length_append, List.length_nil, Fld.bytes, numB_length]
    simp only [Fld.bytes] at this
    omega
  · simp only [List.flatMap_cons, List.flatMap_nil, List.length_append, List.length_nil, Fld.bytes, numB_length]
    omega
  · have := hsh .steps (by simp)
    simp only [List.flatMap_cons, List.flatMap_nil, List.length_append, List.length_nil, Fld.bytes, numB_length]
    simp only [Fld.bytes] at this
    omega
  · simp only [List.flatMap_cons, List.flatMap_nil, List.length_append, List.length_nil, Fld.bytes, numB_length]
    omega
  · have := hsh .steps (by simp)
    simp only [List.flatMap_cons, List.flatMap_nil, List.length_append, List.length_nil, Fld.bytes, numB_length]
    simp only [Fld.bytes] at this
    omega
  · simp only [List.flatMap_cons, List.flatMap_nil, List.length_append, List.length_nil, Fld.bytes, numB_length]
    omega
  · have := hsh .tree (by simp)
    simp only [List.flatMap_cons, List.flatMap_nil, List.length_append, List.length_nil, Fld.bytes, numB_length]
    simp only [Fld.bytes] at this
    omega
/-- What is written is read as it was. -/
theorem readP_msg {m : Msg} (h : okMsg m = true) : readP (sealB (msgB m)) = (m, 0, 0) := by
  have := msgB_short h
  rw [readP, if_neg (by rw [sealB_len]; omega), openP_seal]
  exact readOwn_msg h
end Go.Proofs.Ytimjpkmdphccmaa

/- The law's own example: a walk. -/
namespace Go.Proofs.Ytimjpkmdphccmaa
open Go.RowKit
attribute [local go_sem ↓] Go.wp_at_zero Go.wp_at_succ
set_option linter.unusedVariables false
set_option linter.unusedSimpArgs false

theorem BytesPost.ok {m : Msg} {w w' : World} {e : Ending} (h : okMsg m = true) (hp : BytesPost m w e w') : Below w.heap.size w w' ∧ ∃ (L : List UInt8) (A : Option Addr) (c : Nat), Hid (L = sealB (msgB m)) ∧ e = .returned (.tuple #[.slice A L.length c, .int .i64 0]) ∧ L.length ≤ c ∧ c ≤ 9223372036854775807 ∧ BytesAt w' A L := by
  obtain ⟨hb, hp⟩ := hp
  rw [if_pos h] at hp
  obtain ⟨A, c, he, h1, h2, h3⟩ := hp
  exact ⟨hb, _, A, c, Lib.hid rfl, he, h1, h2, h3⟩
theorem BytesPost.no {m : Msg} {w w' : World} {e : Ending} (h : okMsg m = false) (hp : BytesPost m w e w') : Below w.heap.size w w' ∧ e = .returned (.tuple #[.slice none 0 0, .int .i64 2]) := by
  obtain ⟨hb, hp⟩ := hp
  rw [h] at hp
  exact ⟨hb, hp⟩
def exM (m : Msg) : MsgV := ⟨m, none, 0, none, 0⟩
def ex1 : Msg := ⟨9, 2, 0, 1, 0, 0, 0, 0, 0, 0, 0, [], Nd.zero⟩
def ex2 : Msg := ⟨1, 0, 1, 0, 1, 1, 0, 0, 0, 0, 0, [], Nd.zero⟩
theorem ex_rows (m : Msg) (hs : m.steps = []) (ht : m.tree = Nd.zero) (w : World) : (exM m).rows (fun _ => True) w := by
  simp only [MsgV.rows, MsgAt, exM, hs, ht]
  exact ⟨Nat.le_refl _, .inl rfl, Nat.le_refl _, .inl rfl⟩
theorem ex1_ok : okMsg ex1 = true := by kernel_rfl
theorem ex2_no : okMsg ex2 = false := by kernel_rfl
theorem ex_wf {m : Msg} (hk : -128 ≤ m.kind ∧ m.kind ≤ 127) (hn : ∀ n ∈ [m.from_, m.to_, m.boot, m.server, m.number, m.node, m.lease, m.epoch, m.version, m.e], 0 ≤ n ∧ n ≤ 9) (hs : m.steps = []) (ht : m.tree = Nd.zero) : m.wf ∧ m.bulk ≤ 1073741824 := by
  refine ⟨⟨hk, fun n h => by have := hn n h; omega, by rw [hs]; simp, by rw [ht]; exact Nd.zero_fits.2.2.1⟩, ?_⟩
  rw [Msg.bulk, hs, ht, stepsBulk, Nd.zero_fits.2.2.2]; omega
theorem ex1_wf : ex1.wf ∧ ex1.bulk ≤ 1073741824 := ex_wf (by simp [ex1]) (by simp [ex1]) rfl rfl
theorem ex2_wf : ex2.wf ∧ ex2.bulk ≤ 1073741824 := ex_wf (by simp [ex2]) (by simp [ex2]) rfl rfl
theorem ex1_len : (sealB (msgB ex1)).length = 37 := by rw [sealB_len]; rfl
theorem ex1_0 : (sealB (msgB ex1))[0]? = some 9 := by rw [sealB, List.getElem?_append_left (by show 0 < 33; omega)]; kernel_rfl
theorem ex1_8 : (sealB (msgB ex1))[8]? = some 2 := by rw [sealB, List.getElem?_append_left (by show 8 < 33; omega)]; kernel_rfl

set_option maxRecDepth 100000 in
set_option maxHeartbeats 4000000 in
theorem wakes14_calls (w : World) : Calls Try.prog 18 #[] w fun e w' => e = .returned (.bool true) ∧ Below w.heap.size w w' := by
  have H1 := Lib.hid (WBytes_calls (exM ex1) w (ex_rows ex1 rfl rfl w) ex1_wf.1 ex1_wf.2)
  go_enter Try.func18, Try.ntmps18
  go_wp2_with fail
  refine H1.out.mono ?_
  clear H1
  rintro e w1 hp
  obtain ⟨hb1, L, A, c, HL, rfl, hc, hcm, hA⟩ := hp.ok ex1_ok
  clear hp
  have h0 : L[0]? = some 9 := by rw [HL.out]; exact ex1_0
  have h8 : L[8]? = some 2 := by rw [HL.out]; exact ex1_8
  have hlen : L.length = 37 := by rw [HL.out]; exact ex1_len
  have HR : Hid (readP L = (ex1, 0, 0)) := Lib.hid (by rw [HL.out]; exact readP_msg ex1_ok)
  have H2 := Lib.hid (WBytes_calls (exM ex2) w1 (ex_rows ex2 rfl rfl w1) ex2_wf.1 ex2_wf.2)
  obtain ⟨ba, oa, rfl, hcell⟩ : ∃ b o, A = some ⟨b, o, none⟩ ∧ ∀ i (h : i < L.length), w1.cell? ⟨b, o + i, none⟩ = some (.int .u8 (L[i].toNat : Int)) := by
    rcases hA with h | h
    · rw [h] at hlen; simp at hlen
    · exact h
  have c0 : w1.cell? ⟨ba, oa, none⟩ = some (.int .u8 9) := by
    have := hcell 0 (by omega)
    have e : L[0]'(by omega) = 9 := by rw [List.getElem?_eq_getElem (by omega)] at h0; injection h0
    rw [e] at this; exact this
  have c8 : w1.cell? ⟨ba, oa + 8, none⟩ = some (.int .u8 2) := by
    have := hcell 8 (by omega)
    have e : L[8]'(by omega) = 2 := by rw [List.getElem?_eq_getElem (by omega)] at h8; injection h8
    rw [e] at this; exact this
  have HA := Lib.hid hA
  have HLL := Lib.hid hlen
  clear hcell hA h0 h8 hlen HL
  go_wp2_with fail
  refine H2.out.mono ?_
  clear H2
  rintro e w2 hp
  obtain ⟨hb2, rfl⟩ := hp.no ex2_no
  clear hp
  have c0' := cell_keep hb2 c0
  have c8' := cell_keep hb2 c8
  have hB2 := below_then hb1 hb2
  have H3 := Lib.hid (WRead_calls L _ c w2 (HA.out.below hb2) hc hcm (by have := HLL.out; omega))
  clear c0 c8
  go_wp2_with fail
  refine H3.out.mono ?_
  clear H3
  rintro e w3 ⟨hb3, y, hy, hyr, rfl⟩
  rw [HR.out] at hy ⊢
  have c0 := cell_keep hb3 c0'
  have c8 := cell_keep hb3 c8'
  have hB3 := below_then hB2 hb3
  have hy1 : y.m.from_ = 2 := by rw [hy]; rfl
  have hy3 : y.m.boot = 1 := by rw [hy]; rfl
  simp only [MsgV.cells]
  rw [hy1, hy3]
  clear c0' c8' hy hy1 hy3
  have k37 : L.length = 37 := HLL.out
  rw [k37]
  go_upto_region 4 with (fail)
  generalize hW : w3.alloc _ = w4
  have hb4 : Below w3.heap.size w3 w4 := by rw [← hW]; go_grown
  obtain ⟨_, m1, _, m3, _⟩ : _ ∧ _ := blk16 (by rw [← hW]; exact alloc_new w3 _ : w4.heap[w3.heap.size]? = some (.cells [.int .i8 y.m.kind, .int .i64 2, .int .i64 y.m.to_, .int .i64 1, .int .i64 y.m.server, .int .i64 y.m.number, .int .i64 y.m.node, .int .i64 y.m.lease, .int .i64 y.m.epoch, .int .i64 y.m.version, .int .i64 y.m.e, .slice y.As y.m.steps.length y.cs, .int .i64 y.m.tree.id, .int .i64 y.m.tree.kind, .string y.m.tree.text, .slice y.At y.m.tree.kids.length y.ct].toArray 41 (0, 0)))
  replace c0 := cell_keep hb4 c0
  replace c8 := cell_keep hb4 c8
  have hB4 := below_then hB3 hb4
  clear hW hb4 hB3 hB2 hb3 hb2 hb1
  go_wp2
  go_ret
  exact ⟨rfl, hB4⟩
end Go.Proofs.Ytimjpkmdphccmaa
