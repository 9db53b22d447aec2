/- sums: entry, table, More, Sum: walks. -/
import Derived.Test.YtimjpkmdphccmaaWS1
import Derived.Test.YtimjpkmdphccmaaWS3
import Derived.Test.YtimjpkmdphccmaaProg
import Derived.Test.YtimjpkmdphccmaaWS5
import Derived.WalkLawsBesides
import Derived.WalkSpells
import Derived.Tactics
import Derived.Tactics2
import Derived.WalkKit
import Derived.Handy
import Derived.Deep.RegionHeld3
import Derived.Deep.DrawnRows
import Derived.Deep.DeepCutAuto
import Derived.KernelRfl
import Derived.BigRegion
import Derived.BigQuiet
import Derived.Deep.QuietTactic
import Derived.Outline
import Derived.Lib.Hide
import Derived.Laws.MakeOwn
import Derived.Deep.RegionHeld2
import Derived.Laws.EntriesVeiled
import Derived.Laws.Pointers
import Derived.Defers
import Derived.Recover

namespace Go.Proofs.Ytimjpkmdphccmaa
open Go.RowKit
attribute [local go_sem ↓] Go.wp_at_zero Go.wp_at_succ
set_option linter.unusedVariables false
set_option linter.unusedSimpArgs false

/-- One bit of the sum's table. -/
def crcBit (r : Int) : Int := bits .xor .u32 (r / 2) (bits .and .u32 2197175160 (-bits .and .u32 r 1 % 4294967296))
def crcBits : Nat → Int → Int
  | 0, r => r
  | n + 1, r => crcBit (crcBits n r)
def crcEntry (c : Int) : Int := crcBits 8 c

set_option maxRecDepth 100000 in
set_option maxHeartbeats 2000000 in
theorem entry_calls (c : Int) (w : World) (h0 : 0 ≤ c) (h1 : c < 256) :
    Calls Try.prog 164 #[.int .u8 c] w fun e w' => e = .returned (.int .u32 (crcEntry c)) ∧ w' = w := by
  go_enter Try.func164, Try.ntmps164
  go_wp2
  go_loopw [3, 6] (fun v3 v6 wr => ∃ (k : Nat), v6 = .int .i64 k ∧ k ≤ 8 ∧ v3 = .int .u32 (crcBits k c) ∧ wr = w) (fun _ v6 _ => 8 - (intOf v6).toNat)
  case atStart => exact ⟨0, rfl, Nat.zero_le _, rfl, rfl⟩
  case round =>
    obtain ⟨k, rfl, hk, rfl, rfl⟩ := hrel
    by_cases hlt : k < 8
    · have g5 : decide ((k : Int) < 8) = true := by simp; omega
      go_wp2
      exact ⟨⟨k + 1, by simp, hlt, rfl, trivial⟩, by simp [intOf]; omega⟩
    · have g5 : decide ((k : Int) < 8) = false := by simp; omega
      have hk8 : k = 8 := by omega
      subst hk8
      go_wp2
      go_ret
      exact ⟨rfl, rfl⟩

/-- The table under way. -/
def TabAt (w : World) (bK bS : Nat) : Prop := ∃ ck cs, w.heap[bK]? = some (.cells ck 198 (0, 0)) ∧ w.heap[bS]? = some (.cells cs 199 (0, 0)) ∧ bK < bS ∧
  ∀ i : Nat, i < 256 → ∃ (b : Bool) (n : Int), cs[i]? = some (.bool b) ∧ ck[i]? = some (.int .u32 n) ∧ (b = true → n = crcEntry i)
theorem zero_known : Try.zeroCells198 = Array.replicate 256 (.int .u32 0) := by kernel_rfl
theorem zero_seen : Try.zeroCells199 = Array.replicate 256 (.bool false) := by kernel_rfl

theorem table_calls (w : World) :
    Calls Try.prog 150 #[] w fun e w' => e = .returned (.func (.func 163) #[] #[.pointer (some ⟨w.heap.size + 1, 0, none⟩), .pointer (some ⟨w.heap.size, 0, none⟩)]) ∧ TabAt w' w.heap.size (w.heap.size + 1) ∧ Below w.heap.size w w' := by
  have hmf : ∀ (fn : Fn) (first cap : Array Value) (w : World), (Instr.makeFunc fn first cap).run Try.prog w = .ok (.func fn first cap) w := fun _ _ _ _ => rfl
  go_enter Try.func150, Try.ntmps150
  go_wp2
  go_ret
  refine ⟨rfl, ⟨_, _, alloc_old (alloc_new _ _) _, alloc_new1 _ _ _, by omega, fun i hi => ⟨false, 0, ?_, ?_, by simp⟩⟩, by go_grown⟩
  · rw [zero_seen]; simp [hi]
  · rw [zero_known]; simp [hi]

theorem cell_of {w : World} {b : Nat} {cs : Array Value} {t : TypeId} (h : w.heap[b]? = some (.cells cs t (0, 0))) {i : Nat} {v : Value} (hv : cs[i]? = some v) : w.cell? ⟨b, i, none⟩ = some v ∧ w.frozen? ⟨b, i, none⟩ = false := by
  simp [World.cell?, World.frozen?, h, hv]

set_option maxRecDepth 100000 in
set_option maxHeartbeats 2000000 in
theorem table1_calls (c : Nat) (bK bS : Nat) (w : World) (hc : c < 256) (h : TabAt w bK bS) :
    Calls Try.prog 163 #[.int .u8 c, .pointer (some ⟨bS, 0, none⟩), .pointer (some ⟨bK, 0, none⟩)] w fun e w' => e = .returned (.int .u32 (crcEntry c)) ∧ TabAt w' bK bS ∧ Keep2 bK bS w w' := by
  have h' := h
  obtain ⟨ck, cs, hk, hs, hlt, hall⟩ := h
  obtain ⟨b, n, hsc, hkc, hbn⟩ := hall c hc
  obtain ⟨s0, s1⟩ := cell_of hs hsc
  obtain ⟨k0, k1⟩ := cell_of hk hkc
  have i1 : (0 : Int) ≤ (c : Int) := by omega
  have i2 : (c : Int) < 256 := by omega
  cases b with
  | true =>
    have hn := hbn rfl
    clear hall hbn
    subst hn
    go_enter Try.func163, Try.ntmps163
    go_wp2
    go_ret
    exact ⟨rfl, h', Keep2.refl _ _ _⟩
  | false =>
    clear hbn
    have hc1 : c < ck.size := (Array.getElem?_eq_some_iff.1 hkc).1
    have hc2 : c < cs.size := (Array.getElem?_eq_some_iff.1 hsc).1
    have hk1 := setCell_blk hk c (.int .u32 (crcEntry c))
    have hs1 := setCell_ne hs (by omega : bS ≠ bK) c (.int .u32 (crcEntry c))
    have hk2 := setCell_ne hk1 (by omega : bK ≠ bS) c (.bool true)
    have hs2 := setCell_blk hs1 c (.bool true)
    obtain ⟨s0', s1'⟩ := cell_of hs1 hsc
    obtain ⟨k0', k1'⟩ := cell_of hk2 (i := c) (v := .int .u32 (crcEntry c)) (by simp [hc1])
    have HT : Hid (TabAt ((w.setCell ⟨bK, c, none⟩ (.int .u32 (crcEntry c))).setCell ⟨bS, c, none⟩ (.bool true)) bK bS ∧ Keep2 bK bS w ((w.setCell ⟨bK, c, none⟩ (.int .u32 (crcEntry c))).setCell ⟨bS, c, none⟩ (.bool true))) := Lib.hid (by
      refine ⟨⟨_, _, hk2, hs2, hlt, fun i hi => ?_⟩, rfl, rfl, rfl, by simp [World.setCell], fun b hb h1 h2 => ?_⟩
      · by_cases he : c = i
        · subst he
          exact ⟨true, crcEntry c, by simp [hc2], by simp [hc1], fun _ => rfl⟩
        · obtain ⟨b, n, h1, h2, h3⟩ := hall i hi
          exact ⟨b, n, by simp [Array.getElem?_setIfInBounds, he, h1], by simp [Array.getElem?_setIfInBounds, he, h2], h3⟩
      · rw [Below.heap_setCell _ _ _ _ (by simpa using h2), Below.heap_setCell _ _ _ _ (by simpa using h1)])
    clear hall
    go_enter Try.func163, Try.ntmps163
    go_wp2_with fail
    refine (entry_calls c w i1 i2).mono ?_
    rintro e w1 ⟨rfl, rfl⟩
    go_wp2
    go_ret
    exact ⟨rfl, HT.out⟩

def crcRound (r : Int) (x : UInt8) : Int := bits .xor .u32 (r / 256) (crcEntry (bits .xor .u8 (r % 256) (x.toNat : Int)))
def crcFold (r : Int) (l : List UInt8) : Int := l.foldl crcRound r
def crc0 : Int := bits .xor .u32 IntKind.u32.max 0
def crcSum (l : List UInt8) : Int := bits .xor .u32 IntKind.u32.max (crcFold crc0 l)
theorem crcFold_snoc (r : Int) (l : List UInt8) (x : UInt8) : crcFold r (l ++ [x]) = crcRound (crcFold r l) x := by simp [crcFold]
theorem bits_u32_range (op : BinOp) (a b : Int) : 0 ≤ bits op .u32 a b ∧ bits op .u32 a b < 4294967296 := by
  unfold bits
  simp only [IntKind.wrap_u32']
  omega
theorem crcFold_range (l : List UInt8) : 0 ≤ crcFold crc0 l ∧ crcFold crc0 l < 4294967296 := by
  rcases List.eq_nil_or_concat l with rfl | ⟨m, x, rfl⟩
  · show 0 ≤ crc0 ∧ crc0 < 4294967296
    rw [crc0]
    exact bits_u32_range _ _ _
  · rw [List.concat_eq_append, crcFold_snoc, crcRound]
    exact bits_u32_range _ _ _
theorem xor8 (a : Int) (x : UInt8) (h0 : 0 ≤ a) (h1 : a < 256) : ∃ c : Nat, bits .xor .u8 a (x.toNat : Int) = (c : Int) ∧ c < 256 := by
  have hx := x.toNat_lt
  rw [u8_xor a _ h0 h1 (by omega) (by omega)]
  exact ⟨_, rfl, Nat.xor_lt_two_pow (n := 8) (by omega) (by omega)⟩

set_option maxRecDepth 100000 in
set_option maxHeartbeats 2000000 in
theorem More_calls (l : List UInt8) (A : Option Addr) (cp : Nat) (w : World) (h : BytesAt w A l) (hl : l.length ≤ 70368744177664) :
    Calls Try.prog 126 #[.int .u32 0, .slice A l.length cp] w fun e w' => e = .returned (.int .u32 (crcSum l)) ∧ Below w.heap.size w w' := by
  have HA := Lib.hid h
  clear h
  go_enter Try.func126, Try.ntmps126
  go_wp2_with fail
  refine (table_calls w).mono ?_
  rintro e w1 ⟨rfl, hT, hb1⟩
  go_wp2
  go_loopw [6, 14] (fun v6 v14 wr => ∃ (k : Nat), v14 = .int .i64 k ∧ k ≤ l.length ∧ v6 = .int .u32 (crcFold crc0 (l.take k)) ∧ TabAt wr w.heap.size (w.heap.size + 1) ∧ Below w.heap.size w wr) (fun _ v14 _ => l.length - (intOf v14).toNat)
  case atStart => exact ⟨0, rfl, Nat.zero_le _, rfl, hT, hb1⟩
  case round =>
    obtain ⟨k, rfl, hk, rfl, hTr, hbr⟩ := hrel
    have HT := Lib.hid hTr
    clear hTr hT
    by_cases hlt : k < l.length
    · obtain ⟨bb, ob, rfl, hcell⟩ : ∃ b o, A = some ⟨b, o, none⟩ ∧ ∀ i (h : i < l.length), w.cell? ⟨b, o + i, none⟩ = some (.int .u8 (l[i].toNat : Int)) := by
        rcases HA.out with h | h
        · rw [h] at hlt; simp at hlt
        · exact h
      have hck := cell_keep hbr (hcell k hlt)
      have i1 : (0 : Int) ≤ (k : Int) := Int.natCast_nonneg _
      have i2 : (k : Int) < (l.length : Int) := by omega
      clear hcell
      have hr := crcFold_range (l.take k)
      obtain ⟨cc, hcc, hcl⟩ := xor8 (crcFold crc0 (l.take k) % 256) l[k] (by omega) (by omega)
      have HCC := Lib.hid hcc
      have HC := table1_calls cc w.heap.size (w.heap.size + 1) wr hcl HT.out
      rw [← hcc] at HC
      have HC' := Lib.hid HC
      clear HC hcc
      go_wp2_with fail
      refine HC'.out.mono ?_
      clear HC'
      rintro e w2 ⟨rfl, hT2, hK2⟩
      go_wp2
      refine ⟨⟨k + 1, by simp, hlt, ?_, hT2, ?_⟩, by simp [intOf]; omega⟩
      · rw [List.take_succ_eq_append_getElem hlt, crcFold_snoc, crcRound, HCC.out]
      · exact ⟨hK2.os.trans hbr.os, hK2.tape.trans hbr.tape, hK2.output.trans hbr.output, Nat.le_trans hbr.size hK2.size, fun b hb => (hK2.block b (Nat.lt_of_lt_of_le hb hbr.size) (by omega) (by omega)).trans (hbr.block b hb)⟩
    · have g5 : decide (k < l.length) = false := by simpa using hlt
      have hk2 : l.take k = l := List.take_of_length_le (by omega)
      have HK := Lib.hid hk2
      clear hk2
      go_wp2
      go_ret
      rw [HK.out]
      exact ⟨rfl, hbr⟩

set_option maxRecDepth 100000 in
theorem Sum_calls (l : List UInt8) (A : Option Addr) (cp : Nat) (w : World) (h : BytesAt w A l) (hl : l.length ≤ 70368744177664) :
    Calls Try.prog 95 #[.slice A l.length cp] w fun e w' => e = .returned (.int .u32 (crcSum l)) ∧ Below w.heap.size w w' := by
  go_enter Try.func95, Try.ntmps95
  go_wp2_with fail
  refine (More_calls l A cp w h hl).mono ?_
  rintro e w1 ⟨rfl, hb⟩
  go_wp2
  go_ret
  exact ⟨rfl, hb⟩
end Go.Proofs.Ytimjpkmdphccmaa

/- sums: Seal, Open: walks. -/
namespace Go.Proofs.Ytimjpkmdphccmaa
open Go.RowKit
attribute [local go_sem ↓] Go.wp_at_zero Go.wp_at_succ
set_option linter.unusedVariables false
set_option linter.unusedSimpArgs false

def byteAt (n : Int) (d : Int) : UInt8 := UInt8.ofNat (n / d % 256).toNat
theorem byteAt_val (n d : Int) : ((byteAt n d).toNat : Int) = n / d % 256 := by
  have h0 : 0 ≤ n / d % 256 := Int.emod_nonneg _ (by decide)
  have h1 : n / d % 256 < 256 := Int.emod_lt_of_pos _ (by decide)
  rw [byteAt, UInt8.toNat_ofNat']
  omega
def sumB (s : Int) : List UInt8 := [byteAt s 16777216, byteAt s 65536, byteAt s 256, byteAt s 1]
def sealB (l : List UInt8) : List UInt8 := l ++ sumB (crcSum l)
theorem crcSum_range (l : List UInt8) : 0 ≤ crcSum l ∧ crcSum l < 4294967296 := by rw [crcSum]; exact bits_u32_range _ _ _

set_option maxRecDepth 100000 in
set_option maxHeartbeats 2000000 in
theorem Seal_calls (l : List UInt8) (A : Option Addr) (cp : Nat) (w : World) (h : BytesAt w A l) (hl : l.length ≤ 35184372088832) :
    Calls Try.prog 59 #[.slice A l.length cp] w (MadeBy w (sealB l)) := by
  obtain ⟨iY, jY, jY0, jY1, jY2⟩ := info_parts info_byte
  have HA := Lib.hid h
  clear h
  go_enter Try.func59, Try.ntmps59
  go_wp2_with fail
  refine (Sum_calls l A cp w HA.out (by omega)).mono ?_
  rintro e w1 ⟨rfl, hb⟩
  have hA1 := HA.out.below hb
  obtain ⟨hs0, hs1⟩ := crcSum_range l
  have hbs : w.heap.size ≤ w1.heap.size := hb.size
  obtain ⟨wm, hm, hown, hgm⟩ := run_make_own (P := Try.prog) w1 w.heap.size 46 5 iY _ 1 Try.underlying46 jY jY0 jY1 .i64 .i64 (l.length + 4) (by rw [jY2]; omega) (by unfold maxLen; omega) hbs
  have hcast : ((l.length + 4 : Nat) : Int) = (l.length : Int) + 4 := by omega
  rw [hcast] at hm
  have HS : Hid (sealB l = l ++ sumB (crcSum l)) := Lib.hid rfl
  generalize crcSum l = s at hs0 hs1 HS ⊢
  have hv : [.int .u8 (s / 16777216), .int .u8 (s / 65536 % 256), .int .u8 (s / 256 % 256), .int .u8 (s % 256)] = bv (sumB s) := by
    simp only [sumB, bv, List.map_cons, List.map_nil, byteAt_val]
    rw [show s / 16777216 % 256 = s / 16777216 by omega, show s / 1 % 256 = s % 256 by omega]
  have HV := Lib.hid hv
  clear hv
  by_cases h0 : l = []
  · subst h0
    clear hm hown hgm
    obtain ⟨wm, hm, hown, hgm⟩ := run_make_own (P := Try.prog) w1 w.heap.size 46 5 iY _ 1 Try.underlying46 jY jY0 jY1 .i64 .i64 4 (by rw [jY2]; omega) (by unfold maxLen; omega) hbs
    rw [show ((4 : Nat) : Int) = 4 from rfl] at hm
    have hwm : w.heap.size ≤ wm.heap.size := Nat.le_trans hbs hgm.size
    cases A
    all_goals
      go_wp2_with (at_builtin; go_loud (refine wpList_append_lies _ rfl _ _ _ rfl w.heap.size 5 iY _ 1 1 Try.underlying46 jY jY0 jY1 jY2 rfl (by omega) (.slice (some ⟨w1.heap.size, 0, none⟩) 0 4) (0) ([]) rfl (hown.alloc _) ⟨wm.heap.size, 0, none⟩ 4 4 ([.int .u8 (s / 16777216), .int .u8 (s / 65536 % 256), .int .u8 (s / 256 % 256), .int .u8 (s % 256)]) rfl rfl (World.news_of_block (heap_alloc_new wm _)) (by simp [Value.oneCell']) (by omega) (by unfold maxLen; omega) (by omega) (by simp; omega) _ rfl ?_); intro g4 cap4 w4 hown4 hgrow4 hat4 hlt4)
      go_ret
      rw [HV.out] at hown4
      refine ⟨_, rfl, ⟨Nat.le_trans hwm (by have := hgrow4.size; simp at this; omega), ?_⟩, ?_⟩
      · rw [HS.out]
        exact hown4
      · exact ((hb.grown hgm hbs (by simp)).grown (World.grownBy_alloc wm _ none) hwm (by simp)).grown hgrow4 (by simp; omega) (fun k hk => by simp [Value.ownBlock] at hk; omega)
  · obtain ⟨bb, ob, rfl, hcell⟩ : ∃ b o, A = some ⟨b, o, none⟩ ∧ ∀ i (h : i < l.length), w1.cell? ⟨b, o + i, none⟩ = some (.int .u8 (l[i].toNat : Int)) := by
      rcases hA1 with h | h
      · exact absurd h h0
      · exact h
    have h0' : 0 < l.length := List.length_pos_iff.2 h0
    have hcm : ∀ i (h : i < l.length), wm.cell? ⟨bb, ob + i, none⟩ = some (.int .u8 (l[i].toNat : Int)) := fun i hi => by
      have := hcell i hi
      exact (World.cell?_of_block (a := ⟨bb, ob + i, none⟩) (hgm.block bb (World.block_lt_of_cell? _ _ this) (by simp))).trans this
    have HN := Lib.hid (BytesAt.news hcm)
    clear hcell hcm hA1 h0
    have hwm : w.heap.size ≤ wm.heap.size := Nat.le_trans hbs hgm.size
    go_wp2_with (first | (at_builtin; go_loud (refine wpList_append_lies _ rfl _ _ _ rfl w.heap.size 5 iY _ 1 1 Try.underlying46 jY jY0 jY1 jY2 rfl (by omega) (.slice (some ⟨w1.heap.size, 0, none⟩) 0 (l.length + 4)) (0) ([]) rfl (hown) ⟨bb, ob, none⟩ l.length cp (bv l) rfl (by simp [bv]) HN.out (bv_one _) (by omega) (by unfold maxLen; omega) (by omega) (by omega) _ rfl ?_); intro g cap w3 hown3 hgrow hat hlt3); have hwm3 : w.heap.size ≤ w3.heap.size := Nat.le_trans hwm hgrow.size | (at_builtin; go_loud (refine wpList_append_lies _ rfl _ _ _ rfl w.heap.size 5 iY _ 1 1 Try.underlying46 jY jY0 jY1 jY2 rfl (by omega) (.slice (some ⟨g, 0, none⟩) l.length cap) (l.length) (bv l) rfl (by simpa using hown3.alloc _) ⟨w3.heap.size, 0, none⟩ 4 4 ([.int .u8 (s / 16777216), .int .u8 (s / 65536 % 256), .int .u8 (s / 256 % 256), .int .u8 (s % 256)]) rfl rfl (World.news_of_block (heap_alloc_new w3 _)) (by simp [Value.oneCell']) (by omega) (by unfold maxLen; omega) (by omega) (by simp; omega) _ rfl ?_); intro g4 cap4 w4 hown4 hgrow4 hat4 hlt4))
    go_ret
    rw [HV.out, ← bv_append] at hown4
    refine ⟨_, rfl, ⟨Nat.le_trans hwm3 (by have := hgrow4.size; simp at this; omega), ?_⟩, ?_⟩
    · rw [HS.out, show (l ++ sumB s).length = l.length + 4 by simp [sumB]]
      exact hown4
    · have hgb : ∀ k, (Value.slice (some ⟨g, 0, none⟩) l.length cap).ownBlock = some k → w.heap.size ≤ k := fun k hk => by
        simp only [Value.ownBlock, Option.some.injEq] at hk
        subst hk
        exact (hown3.lt g rfl).1
      exact (((hb.grown hgm hbs (by simp)).grown hgrow hwm (fun k hk => by simp [Value.ownBlock] at hk; omega)).grown (World.grownBy_alloc w3 _ none) hwm3 (by simp)).grown hgrow4 (by simp; omega) hgb
end Go.Proofs.Ytimjpkmdphccmaa

/- code's reader: the asking; its recovery: walks. Printed by gen_ask.py. -/
namespace Go.Proofs.Ytimjpkmdphccmaa
open Go.RowKit
attribute [local go_sem ↓] Go.wp_at_zero Go.wp_at_succ
set_option linter.unusedVariables false
set_option linter.unusedSimpArgs false

set_option maxRecDepth 100000 in
set_option maxHeartbeats 2000000 in
theorem askI_idle (a b : Addr) (w : World) :
    CallsD Try.prog 129 #[.pointer (some a), .pointer (some b)] .returning w fun e u' w' => e = .returned (.tuple #[]) ∧ u' = .returning ∧ w' = w := by
  refine callsD_of_wpS Try.func129 rfl fun c₀ cs hu => ?_
  simp only [Try.ntmps129, List.size_toArray, List.length_cons, List.length_nil, Nat.reduceAdd, Nat.reduceSub, Array.replicate_succ, Array.replicate_zero, List.push_toArray, List.append_toArray, List.nil_append, List.cons_append]
  apply wpS_seq
  apply wpS_region
  simp [wpOpsS, go_sem, recoverD, hu, Exit.thenS]
  apply wpS_seq
  apply wpS_region
  simp [wpOpsS, go_sem, Exit.thenS]
  refine wpS_cond (t := false) (by simp [Act.eval, Array.replicate]) ?_
  simp only [Bool.false_eq_true, if_false]
  refine wpS_of_wp (wp_skip ?_)
  cases c₀
  simp_all [bodyPostS, results, Try.results129]

set_option maxRecDepth 100000 in
set_option maxHeartbeats 2000000 in
theorem askI_panics (f : Int) (bR br bX : Nat) (tR tX : TypeId) (c0 c1 c2 x : Value) (w : World) (hR : w.heap[bR]? = some (.cells #[.pointer (some ⟨br, 0, none⟩)] tR (0, 0))) (hb : w.heap[br]? = some (.cells #[c0, c1, c2] 145 (0, 0)))
    (hx : w.heap[bX]? = some (.cells #[x] tX (0, 0))) (hne : br < bX) :
    CallsD Try.prog 129 #[.pointer (some ⟨bR, 0, none⟩), .pointer (some ⟨bX, 0, none⟩)] (.panicking [{ v := .iface 161 (.agg #[.int .i64 f]), recovered := false }]) w fun e u' w' =>
      e = .returned (.tuple #[]) ∧ u' = .panicking [{ v := .iface 161 (.agg #[.int .i64 f]), recovered := true }] ∧ w' = (((w.alloc (.cells #[.int .i64 f] 161)).setCell ⟨br, 2, none⟩ (.int .i64 f)).setCell ⟨bX, 0, none⟩ (.int .i64 0)) := by
  obtain ⟨q0, qz⟩ := blk1 (alloc_old hR (.cells #[.int .i64 f] 161))
  obtain ⟨r0, r1, r2, rz⟩ := blk3 (alloc_old hb (.cells #[.int .i64 f] 161))
  obtain ⟨x0, xz⟩ := blk1 (setCell_ne (alloc_old hx (.cells #[.int .i64 f] 161)) (by omega : bX ≠ br) 2 (.int .i64 f))
  refine callsD_of_wpS Try.func129 rfl fun c₀ cs hu => ?_
  simp only [Try.ntmps129, List.size_toArray, List.length_cons, List.length_nil, Nat.reduceAdd, Nat.reduceSub, Array.replicate_succ, Array.replicate_zero, List.push_toArray, List.append_toArray, List.nil_append, List.cons_append]
  apply wpS_seq
  apply wpS_region
  simp [wpOpsS, go_sem, recoverD, hu, Exit.thenS]
  apply wpS_seq
  apply wpS_region
  simp [wpOpsS, go_sem, Exit.thenS]
  refine wpS_cond (t := true) (by simp [Act.eval, Array.replicate]) ?_
  simp only [if_true]
  refine wpS_of_wp ?_
  go_wp2
  cases c₀
  simp_all [bodyPostS, results, Try.results129]

set_option maxRecDepth 100000 in
set_option maxHeartbeats 2000000 in
theorem askN_calls (br : Nat) (B : Src) (st : Rst) (w : World) (h : RdS w br B st) (hB : B.l.length ≤ 1099511627776) :
    Calls Try.prog 99 #[.pointer (some ⟨br, 0, none⟩), .func (.func 100) #[.pointer (some ⟨br, 0, none⟩)] #[]] w (AskPost w br B (goodInt) (askP (numberP B.l) 0 st)) := by
  have hmf : ∀ (fn : Fn) (first cap : Array Value) (w : World), (Instr.makeFunc fn first cap).run Try.prog w = .ok (.func fn first cap) w := fun _ _ _ _ => rfl
  cases st with
  | bad f =>
    obtain ⟨n, hr⟩ := h
    have hb1 : Below w.heap.size w ((w.alloc (.cells #[.pointer (some ⟨br, 0, none⟩)] 103)).alloc (.cells #[.int .i64 0] 3)) := by go_grown
    obtain ⟨r0, r1, r2, rz⟩ := blk3 (hr.later hb1).1
    have d1 : decide ((0 : Int) ≤ (f : Int)) = true := by simp
    have d2 : decide ((f : Int) ≥ 0) = true := by simp
    go_enter_defers Try.func99, Try.ntmps99
    go_wp2
    have HP : Hid (AskPost w br B (goodInt) (askP (numberP B.l) 0 (Rst.bad f)) (.returned (.int .i64 0)) ((w.alloc (.cells #[.pointer (some ⟨br, 0, none⟩)] 103)).alloc (.cells #[.int .i64 0] 3))) := Lib.hid ⟨_, rfl, rfl, ⟨n, hr.later hb1⟩, grown_of_below hb1 _⟩
    simp only [bodyPostD, Leaves, settle, results, Try.results99]
    simp [go_sem]
    exact HP.out
  | «at» n =>
    obtain ⟨hr, hn⟩ := h
    have lr := hr.lt
    have hb1 : Below w.heap.size w ((w.alloc (.cells #[.pointer (some ⟨br, 0, none⟩)] 103)).alloc (.cells #[.int .i64 0] 3)) := by go_grown
    have hr1 := hr.later hb1
    obtain ⟨r0, r1, r2, rz⟩ := blk3 hr1.1
    have hR := alloc_old (alloc_new w (.cells #[.pointer (some ⟨br, 0, none⟩)] 103)) (.cells #[.int .i64 0] 3)
    have hX := alloc_new1 w (.cells #[.pointer (some ⟨br, 0, none⟩)] 103) (.cells #[.int .i64 0] 3)
    have lX := (Array.getElem?_eq_some_iff.1 hX).1
    have HC := Lib.hid (rnumber_calls br B n _ hr1 hn hB)
    go_enter_defers Try.func99, Try.ntmps99
    go_wp2_with fail
    generalize ((w.alloc (.cells #[.pointer (some ⟨br, 0, none⟩)] 103)).alloc (.cells #[.int .i64 0] 3)) = W1 at hb1 hr1 r0 r1 r2 rz hR hX lX HC ⊢
    refine HC.out.mono ?_
    clear HC r0 r1 r2 rz
    rintro e w2 hp
    rcases hp.split with ⟨f, hf, rfl, ⟨n', hr2⟩, hg⟩ | ⟨v, m, x, hf, rfl, rfl, hr2, hg⟩
    · have hR2 := (hg.block _ (Array.getElem?_eq_some_iff.1 hR).1 (by simp; omega)).trans hR
      have hX2 := (hg.block _ (Array.getElem?_eq_some_iff.1 hX).1 (by simp; omega)).trans hX
      go_wp2
      have hR3 : RdAt (((w2.alloc (.cells #[.int .i64 (f : Int)] 161)).setCell ⟨br, 2, none⟩ (.int .i64 (f : Int))).setCell ⟨w.heap.size + 1, 0, none⟩ (.int .i64 0)) br B n' f := (RdAt.stop (hr2.later (by go_grown))).grown (grown_set (grown_refl _ (some (w.heap.size + 1))) 0 (.int .i64 0)) (fun b hb => by simp at hb; omega)
      have hG3 : w.grownBy (((w2.alloc (.cells #[.int .i64 (f : Int)] 161)).setCell ⟨br, 2, none⟩ (.int .i64 (f : Int))).setCell ⟨w.heap.size + 1, 0, none⟩ (.int .i64 0)) (some br) :=
        grown_step (grown_set (grown_step (grown_step (grown_of_below hb1 (some br)) hg (.inl rfl)) (grown_of_below (by go_grown) (some br)) (.inl rfl)) 2 _) (grown_set (grown_refl _ (some (w.heap.size + 1))) 0 (.int .i64 0)) (.inr fun b hb => by simp at hb; omega)
      obtain ⟨e0, _⟩ := blk1 (setCell_blk (setCell_ne (alloc_old hX2 (.cells #[.int .i64 (f : Int)] 161)) (by omega : w.heap.size + 1 ≠ br) 2 (.int .i64 (f : Int))) 0 (.int .i64 0))
      refine leaves_cons (f := 129) (args := #[.pointer (some ⟨w.heap.size, 0, none⟩), .pointer (some ⟨w.heap.size + 1, 0, none⟩)]) (by simp) (by simp [go_sem]) ?_
      refine (askI_panics f w.heap.size br (w.heap.size + 1) _ _ _ _ _ _ w2 hR2 hr2.1 hX2 (by omega)).mono ?_
      rintro e u' w'' ⟨rfl, rfl, rfl⟩
      have HP : Hid (AskPost w br B (goodInt) (askP (numberP B.l) 0 (Rst.at n)) (.returned (.int .i64 0)) _) := Lib.hid ⟨_, rfl, by rw [askP, hf]; exact rfl, by rw [askP, hf]; exact ⟨n', hR3⟩, hG3⟩
      simp [Leaves, settle, results, Try.results99, go_sem, e0]
      exact HP.out
    · have hX2 := (hg.block _ (Array.getElem?_eq_some_iff.1 hX).1 (by simp; omega)).trans hX
      obtain ⟨x0, xz⟩ := blk1 hX2
      go_wp2
      refine leaves_cons (f := 129) (args := #[.pointer (some ⟨w.heap.size, 0, none⟩), .pointer (some ⟨w.heap.size + 1, 0, none⟩)]) (by simp) (by simp [go_sem]) ?_
      refine (askI_idle _ _ _).mono ?_
      rintro e u' w'' ⟨rfl, rfl, rfl⟩
      have hR3 : RdAt (w2.setCell ⟨w.heap.size + 1, 0, none⟩ (.int .i64 v)) br B m (-1) := hr2.grown (grown_set (grown_refl _ (some (w.heap.size + 1))) 0 (.int .i64 v)) (fun b hb => by simp at hb; omega)
      have hG3 : w.grownBy (w2.setCell ⟨w.heap.size + 1, 0, none⟩ (.int .i64 v)) (some br) :=
        grown_step (grown_step (grown_of_below hb1 (some br)) hg (.inl rfl)) (grown_set (grown_refl _ (some (w.heap.size + 1))) 0 (.int .i64 v)) (.inr fun b hb => by simp at hb; omega)
      have hbl : ∀ b, b < w2.heap.size → b ≠ w.heap.size + 1 → (w2.setCell ⟨w.heap.size + 1, 0, none⟩ (.int .i64 v)).heap[b]? = w2.heap[b]? := fun b hb hne => (grown_set (grown_refl w2 (some (w.heap.size + 1))) 0 (.int .i64 v)).block b hb (by simpa using hne)
      obtain ⟨e0, _⟩ := blk1 (setCell_blk hX2 0 (.int .i64 v))
      have HP : Hid (AskPost w br B (goodInt) (askP (numberP B.l) 0 (Rst.at n)) (.returned (.int .i64 v)) _) := Lib.hid ⟨_, rfl, by rw [askP, hf]; exact rfl, by rw [askP, hf]; exact ⟨hR3, (numberP_ok hf).2⟩, hG3⟩
      simp only [Leaves, settle, results, Try.results99]
      simp [go_sem, e0]
      exact HP.out

set_option maxRecDepth 100000 in
set_option maxHeartbeats 2000000 in
theorem RNumber_calls (br : Nat) (B : Src) (st : Rst) (w : World) (h : RdS w br B st) (hB : B.l.length ≤ 1099511627776) :
    Calls Try.prog 63 #[.pointer (some ⟨br, 0, none⟩)] w (AskPost w br B (goodInt) (askP (numberP B.l) 0 st)) := by
  go_enter Try.func63, Try.ntmps63
  go_wp2_with fail
  refine (askN_calls br B st w h hB).mono ?_
  rintro e w1 ⟨x, rfl, hx, hr, hg⟩
  go_wp2
  go_ret
  exact ⟨x, rfl, hx, hr, hg⟩

end Go.Proofs.Ytimjpkmdphccmaa

/- code's reader: the asking for a node; its recovery: walks. -/
namespace Go.Proofs.Ytimjpkmdphccmaa
open Go.RowKit
attribute [local go_sem ↓] Go.wp_at_zero Go.wp_at_succ
set_option linter.unusedVariables false
set_option linter.unusedSimpArgs false

set_option maxRecDepth 100000 in
set_option maxHeartbeats 2000000 in
theorem askD_idle (a b : Addr) (w : World) :
    CallsD Try.prog 165 #[.pointer (some a), .pointer (some b)] .returning w fun e u' w' => e = .returned (.tuple #[]) ∧ u' = .returning ∧ w' = w := by
  refine callsD_of_wpS Try.func165 rfl fun c₀ cs hu => ?_
  simp only [Try.ntmps165, List.size_toArray, List.length_cons, List.length_nil, Nat.reduceAdd, Nat.reduceSub, Array.replicate_succ, Array.replicate_zero, List.push_toArray, List.append_toArray, List.nil_append, List.cons_append]
  apply wpS_seq
  apply wpS_region
  simp [wpOpsS, go_sem, recoverD, hu, Exit.thenS]
  apply wpS_seq
  apply wpS_region
  simp [wpOpsS, go_sem, Exit.thenS]
  refine wpS_cond (t := false) (by simp [Act.eval, Array.replicate]) ?_
  simp only [Bool.false_eq_true, if_false]
  refine wpS_of_wp (wp_skip ?_)
  cases c₀
  simp_all [bodyPostS, results, Try.results165]

set_option maxRecDepth 100000 in
set_option maxHeartbeats 4000000 in
theorem askD_panics (f : Int) (bR br bX : Nat) (tR tX : TypeId) (c0 c1 c2 x0 x1 x2 x3 : Value) (w : World) (hR : w.heap[bR]? = some (.cells #[.pointer (some ⟨br, 0, none⟩)] tR (0, 0))) (hb : w.heap[br]? = some (.cells #[c0, c1, c2] 145 (0, 0)))
    (hx : w.heap[bX]? = some (.cells #[x0, x1, x2, x3] tX (0, 0))) (hne : br < bX) (hne2 : br < bR) (hne3 : bR < bX) :
    CallsD Try.prog 165 #[.pointer (some ⟨bR, 0, none⟩), .pointer (some ⟨bX, 0, none⟩)] (.panicking [{ v := .iface 161 (.agg #[.int .i64 f]), recovered := false }]) w fun e u' w' =>
      e = .returned (.tuple #[]) ∧ u' = .panicking [{ v := .iface 161 (.agg #[.int .i64 f]), recovered := true }] ∧
        w'.heap[bX]? = some (.cells #[.int .i64 0, .int .i64 0, .string ⟨#[]⟩, .slice none 0 0] tX (0, 0)) ∧ ∃ w1, Below w.heap.size w w1 ∧ (w1.setCell ⟨br, 2, none⟩ (.int .i64 f)).grownBy w' (some bX) := by
  obtain ⟨w0, hw0⟩ : ∃ w0, w0 = (w.alloc (.cells #[.int .i64 f] 161)).alloc (.cells #[.int .i64 0, .int .i64 0, .string ⟨#[]⟩, .slice none 0 0] 24) := ⟨_, rfl⟩
  have hB0 : Below w.heap.size w w0 := by rw [hw0]; go_grown
  have hf0 : w0.heap[w.heap.size]? = some (.cells #[.int .i64 f] 161 (0, 0)) := by rw [hw0]; exact alloc_old (alloc_new _ _) _
  have hn0 : w0.heap[w.heap.size + 1]? = some (.cells #[.int .i64 0, .int .i64 0, .string ⟨#[]⟩, .slice none 0 0] 24 (0, 0)) := by rw [hw0]; exact alloc_new1 _ _ _
  have hR0 := (hB0.block bR (Array.getElem?_eq_some_iff.1 hR).1).trans hR
  have hb0 := (hB0.block br (Array.getElem?_eq_some_iff.1 hb).1).trans hb
  have hx0 := (hB0.block bX (Array.getElem?_eq_some_iff.1 hx).1).trans hx
  have lX := (Array.getElem?_eq_some_iff.1 hx).1
  have HW := Lib.hid hw0
  refine callsD_of_wpS Try.func165 rfl fun c₀ cs hu => ?_
  simp only [Try.ntmps165, List.size_toArray, List.length_cons, List.length_nil, Nat.reduceAdd, Nat.reduceSub, Array.replicate_succ, Array.replicate_zero, List.push_toArray, List.append_toArray, List.nil_append, List.cons_append]
  apply wpS_seq
  apply wpS_region
  simp [wpOpsS, go_sem, recoverD, hu, Exit.thenS]
  apply wpS_seq
  apply wpS_region
  simp [wpOpsS, go_sem, Exit.thenS]
  refine wpS_cond (t := true) (by simp [Act.eval, Array.replicate]) ?_
  simp only [if_true]
  refine wpS_of_wp ?_
  go_wp2
  rw [← HW.out]
  clear HW hw0 hu
  obtain ⟨q0, qz⟩ := blk1 hR0
  obtain ⟨fr0, frz⟩ := blk1 hf0
  obtain ⟨n0, n1, n2, n3, nz⟩ := blk4 hn0
  obtain ⟨r0, r1, r2, rz⟩ := blk3 hb0
  have hbd : w0.drew.heap[br]? = some (.cells #[c0, c1, c2] 145 (0, 0)) := hb0
  have hxd : w0.drew.heap[bX]? = some (.cells #[x0, x1, x2, x3] tX (0, 0)) := hx0
  obtain ⟨x0', x1', x2', x3', xz'⟩ := blk4 (setCell_ne hxd (by omega : bX ≠ br) 2 (.int .i64 f))
  obtain ⟨y0', y1', y2', y3', yz'⟩ := blk4 (setCell_ne hx0 (by omega : bX ≠ br) 2 (.int .i64 f))
  have lb := (Array.getElem?_eq_some_iff.1 hb).1
  have lR := (Array.getElem?_eq_some_iff.1 hR).1
  have j1 : ¬ br = bR := by omega
  have j2 : ¬ br = w.heap.size := by omega
  have j3 : ¬ br = w.heap.size + 1 := by omega
  have j4 : ¬ bX = bR := by omega
  have j5 : ¬ bX = w.heap.size := by omega
  have j6 : ¬ bX = w.heap.size + 1 := by omega
  go_region_held2 (fun w' => w'.cell? ⟨bR, 0, none⟩ = some (.pointer (some ⟨br, 0, none⟩)) ∧ w'.cell? ⟨w.heap.size, 0, none⟩ = some (.int .i64 f) ∧ w'.cell? ⟨w.heap.size + 1, 0, none⟩ = some (.int .i64 0) ∧ w'.cell? ⟨w.heap.size + 1, 1, none⟩ = some (.int .i64 0) ∧ w'.cell? ⟨w.heap.size + 1, 2, none⟩ = some (.string ⟨#[]⟩) ∧ w'.cell? ⟨w.heap.size + 1, 3, none⟩ = some (.slice none 0 0))
    (go_keep)
    (fail)
  go_wp2
  cases c₀
  rw [bodyPostS]
  obtain ⟨E, G⟩ := put4 (setCell_ne hx0 (by omega : bX ≠ br) 2 (.int .i64 f)) (.int .i64 0) (.int .i64 0) (.string ⟨#[]⟩) (.slice none 0 0)
  exact ⟨rfl, _, rfl, .tuple #[], by simp [results, Try.results165], rfl, rfl, E, w0, hB0, ⟨G.os, G.tape, G.output, G.size, G.block⟩⟩

def Nd.zero : Nd := .mk 0 0 ⟨#[]⟩ []
set_option maxRecDepth 100000 in
set_option maxHeartbeats 2000000 in
theorem askD_calls (br : Nat) (B : Src) (st : Rst) (w : World) (h : RdS w br B st) (hB : B.l.length ≤ 1099511627776) :
    Calls Try.prog 151 #[.pointer (some ⟨br, 0, none⟩), .func (.func 152) #[.pointer (some ⟨br, 0, none⟩)] #[]] w (AskPost w br B (goodNd w) (askP (treeP B.l) Nd.zero st)) := by
  have hmf : ∀ (fn : Fn) (first cap : Array Value) (w : World), (Instr.makeFunc fn first cap).run Try.prog w = .ok (.func fn first cap) w := fun _ _ _ _ => rfl
  have hz : ∀ w', goodNd w Nd.zero (.agg #[.int .i64 0, .int .i64 0, .string ⟨#[]⟩, .slice none 0 0]) w' := fun w' => ⟨none, 0, rfl, Nat.le_refl _, .inl rfl⟩
  cases st with
  | bad f =>
    obtain ⟨n, hr⟩ := h
    have hb1 : Below w.heap.size w ((w.alloc (.cells #[.pointer (some ⟨br, 0, none⟩)] 103)).alloc (.cells #[.int .i64 0, .int .i64 0, .string ⟨#[]⟩, .slice none 0 0] 24)) := by go_grown
    obtain ⟨r0, r1, r2, rz⟩ := blk3 (hr.later hb1).1
    have d1 : decide ((0 : Int) ≤ (f : Int)) = true := by simp
    have d2 : decide ((f : Int) ≥ 0) = true := by simp
    have hX := alloc_new1 w (.cells #[.pointer (some ⟨br, 0, none⟩)] 103) (.cells #[.int .i64 0, .int .i64 0, .string ⟨#[]⟩, .slice none 0 0] 24)
    obtain ⟨x0, x1, x2, x3, xz⟩ := blk4 hX
    go_enter_defers Try.func151, Try.ntmps151
    go_wp2
    have HP : Hid (AskPost w br B (goodNd w) (askP (treeP B.l) Nd.zero (Rst.bad f)) (.returned (.agg #[.int .i64 0, .int .i64 0, .string ⟨#[]⟩, .slice none 0 0])) _) := Lib.hid ⟨_, rfl, hz _, ⟨n, hr.later hb1⟩, grown_of_below hb1 (some br)⟩
    simp only [bodyPostD, Leaves, settle, results, Try.results151]
    simp [go_sem]
    exact HP.out
  | «at» n =>
    obtain ⟨hr, hn⟩ := h
    have lr := hr.lt
    have hb1 : Below w.heap.size w ((w.alloc (.cells #[.pointer (some ⟨br, 0, none⟩)] 103)).alloc (.cells #[.int .i64 0, .int .i64 0, .string ⟨#[]⟩, .slice none 0 0] 24)) := by go_grown
    have hr1 := hr.later hb1
    obtain ⟨r0, r1, r2, rz⟩ := blk3 hr1.1
    have hR := alloc_old (alloc_new w (.cells #[.pointer (some ⟨br, 0, none⟩)] 103)) (.cells #[.int .i64 0, .int .i64 0, .string ⟨#[]⟩, .slice none 0 0] 24)
    have hX := alloc_new1 w (.cells #[.pointer (some ⟨br, 0, none⟩)] 103) (.cells #[.int .i64 0, .int .i64 0, .string ⟨#[]⟩, .slice none 0 0] 24)
    have lX := (Array.getElem?_eq_some_iff.1 hX).1
    have HC := Lib.hid (rnode_calls br B n _ hr1 hn hB)
    go_enter_defers Try.func151, Try.ntmps151
    go_wp2_with fail
    generalize ((w.alloc (.cells #[.pointer (some ⟨br, 0, none⟩)] 103)).alloc (.cells #[.int .i64 0, .int .i64 0, .string ⟨#[]⟩, .slice none 0 0] 24)) = W1 at hb1 hr1 r0 r1 r2 rz hR hX lX HC ⊢
    refine HC.out.mono ?_
    clear HC r0 r1 r2 rz
    rintro e w2 hp
    rcases hp.split with ⟨f, hf, rfl, ⟨n', hr2⟩, hg⟩ | ⟨v, m, x, hf, rfl, ⟨A, c, rfl, hc, hk⟩, hr2, hg⟩
    · have hR2 := (hg.block _ (Array.getElem?_eq_some_iff.1 hR).1 (by simp; omega)).trans hR
      have hX2 := (hg.block _ (Array.getElem?_eq_some_iff.1 hX).1 (by simp; omega)).trans hX
      go_wp2
      refine leaves_cons (f := 165) (args := #[.pointer (some ⟨w.heap.size, 0, none⟩), .pointer (some ⟨w.heap.size + 1, 0, none⟩)]) (by simp) (by simp [go_sem]) ?_
      refine (askD_panics f w.heap.size br (w.heap.size + 1) _ _ _ _ _ _ _ _ _ w2 hR2 hr2.1 hX2 (by omega) (by omega) (by omega)).mono ?_
      rintro e u' w'' ⟨rfl, rfl, hX3, w3, hB3, hG3⟩
      have hR3 : RdAt w'' br B n' f := (RdAt.stop (hr2.later hB3)).grown hG3 (fun b hb => by simp at hb; omega)
      have hG4 : w.grownBy w'' (some br) :=
        grown_step (grown_set (grown_step (grown_step (grown_of_below hb1 (some br)) hg (.inl rfl)) (grown_of_below hB3 (some br)) (.inl rfl)) 2 _) hG3 (.inr fun b hb => by simp at hb; omega)
      obtain ⟨e0, e1, e2, e3, _⟩ := blk4 hX3
      have HP : Hid (AskPost w br B (goodNd w) (askP (treeP B.l) Nd.zero (Rst.at n)) (.returned (.agg #[.int .i64 0, .int .i64 0, .string ⟨#[]⟩, .slice none 0 0])) _) := Lib.hid ⟨_, rfl, by rw [askP, hf]; exact hz _, by rw [askP, hf]; exact ⟨n', hR3⟩, hG4⟩
      simp [Leaves, settle, results, Try.results151, go_sem, e0, e1, e2, e3]
      exact HP.out
    · have hX2 := (hg.block _ (Array.getElem?_eq_some_iff.1 hX).1 (by simp; omega)).trans hX
      obtain ⟨x0, x1, x2, x3, xz⟩ := blk4 hX2
      go_wp2
      refine leaves_cons (f := 165) (args := #[.pointer (some ⟨w.heap.size, 0, none⟩), .pointer (some ⟨w.heap.size + 1, 0, none⟩)]) (by simp) (by simp [go_sem]) ?_
      refine (askD_idle _ _ _).mono ?_
      rintro e u' w'' ⟨rfl, rfl, rfl⟩
      obtain ⟨E, G⟩ := put4 hX2 (.int .i64 v.id) (.int .i64 v.kind) (.string v.text) (.slice A v.kids.length c)
      have hR3 := hr2.grown G (fun b hb => by simp at hb; omega)
      have hG3 : w.grownBy _ (some br) := grown_step (grown_step (grown_of_below hb1 (some br)) hg (.inl rfl)) G (.inr fun b hb => by simp at hb; omega)
      obtain ⟨e0, e1, e2, e3, _⟩ := blk4 E
      have HP : Hid (AskPost w br B (goodNd w) (askP (treeP B.l) Nd.zero (Rst.at n)) (.returned (.agg #[.int .i64 v.id, .int .i64 v.kind, .string v.text, .slice A v.kids.length c])) _) := Lib.hid ⟨_, rfl, by rw [askP, hf]; exact ⟨A, c, rfl, hc, hk.move fun b hb hlt => ⟨by omega, G.block b hlt (by simp; omega)⟩⟩, by rw [askP, hf]; exact ⟨hR3, treeP_ok hf⟩, hG3⟩
      simp only [Leaves, settle, results, Try.results151]
      simp [go_sem, e0, e1, e2, e3]
      exact HP.out

set_option maxRecDepth 100000 in
set_option maxHeartbeats 2000000 in
theorem RNode_calls (br : Nat) (B : Src) (st : Rst) (w : World) (h : RdS w br B st) (hB : B.l.length ≤ 1099511627776) :
    Calls Try.prog 131 #[.pointer (some ⟨br, 0, none⟩)] w (AskPost w br B (goodNd w) (askP (treeP B.l) Nd.zero st)) := by
  have hb1 : Below w.heap.size w (w.alloc (.cells #[.int .i64 0, .int .i64 0, .string ⟨#[]⟩, .slice none 0 0] 24)) := by go_grown
  have hn := alloc_new w (.cells #[.int .i64 0, .int .i64 0, .string ⟨#[]⟩, .slice none 0 0] 24)
  have ln := (Array.getElem?_eq_some_iff.1 hn).1
  have HC := Lib.hid (askD_calls br B st _ (h.later hb1) hB)
  have lr := h.lt
  go_enter Try.func131, Try.ntmps131
  go_wp2_with fail
  generalize w.alloc _ = W1 at hb1 hn ln HC ⊢
  refine HC.out.mono ?_
  clear HC
  rintro e w2 ⟨_, rfl, ⟨A, c, rfl, hc, hk⟩, hr, hg⟩
  have hn2 := (hg.block _ ln (by simp; omega)).trans hn
  obtain ⟨x0, x1, x2, x3, xz⟩ := blk4 hn2
  generalize hp : askP (treeP B.l) Nd.zero st = p at hc hk hr
  have HPp := Lib.hid hp
  clear hp
  obtain ⟨v, st'⟩ := p
  simp only at hc hk hr
  go_wp2
  obtain ⟨E, G⟩ := put4 hn2 (.int .i64 v.id) (.int .i64 v.kind) (.string v.text) (.slice A v.kids.length c)
  generalize (((w2.setCell ⟨w.heap.size, 0, none⟩ (.int .i64 v.id)).setCell ⟨w.heap.size, 1, none⟩ (.int .i64 v.kind)).setCell ⟨w.heap.size, 2, none⟩ (.string v.text)).setCell ⟨w.heap.size, 3, none⟩ (.slice A v.kids.length c) = Wf at E G ⊢
  obtain ⟨e0, e1, e2, e3, _⟩ := blk4 E
  refine bodyPost_ret (v := .agg #[.int .i64 v.id, .int .i64 v.kind, .string v.text, .slice A v.kids.length c]) (by simp [results, Try.results131, go_sem, e0, e1, e2, e3]) rfl ?_
  show AskPost w br B (goodNd w) (askP (treeP B.l) Nd.zero st) _ _
  rw [HPp.out]
  exact ⟨_, rfl, ⟨A, c, rfl, hc, hk.move fun b hb hlt => ⟨by have := hb1.size; omega, G.block b hlt (by simp; omega)⟩⟩, hr.grown G (fun b hb => by simp at hb; omega), grown_step (grown_step (grown_of_below hb1 (some br)) hg (.inl rfl)) G (.inr fun b hb => by simp at hb; omega)⟩
end Go.Proofs.Ytimjpkmdphccmaa
