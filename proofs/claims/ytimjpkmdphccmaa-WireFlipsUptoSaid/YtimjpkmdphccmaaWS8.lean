/- code.New, Reader.End: walks. -/
import Derived.Test.YtimjpkmdphccmaaWS7
import Derived.Test.YtimjpkmdphccmaaWS5
import Derived.Test.YtimjpkmdphccmaaWS1
import Derived.Test.YtimjpkmdphccmaaProg
import Derived.Tactics
import Derived.Tactics2
import Derived.WalkKit
import Derived.Handy
import Derived.Deep.RegionHeld3
import Derived.Deep.DrawnRows
import Derived.Deep.DeepCutAuto
import Derived.KernelRfl
import Derived.BigRegion
import Derived.BigQuiet
import Derived.Deep.QuietTactic
import Derived.Outline
import Derived.Lib.Hide
import Derived.Deep.RegionHeld2
import Derived.WalkLawsBesides
import Derived.WalkSpells
import Derived.Laws.BitsAllLaws

namespace Go.Proofs.Ytimjpkmdphccmaa
open Go.RowKit
attribute [local go_sem ↓] Go.wp_at_zero Go.wp_at_succ
set_option linter.unusedVariables false
set_option linter.unusedSimpArgs false

theorem ByRow.opens {base : Nat} {w : World} {v : Value} {l : List UInt8} (h : ByRow base w v l) : ∃ A c, v = .slice A l.length c ∧ l.length ≤ c ∧ (l = [] ∨ ∃ b, A = some ⟨b, 0, none⟩ ∧ base ≤ b ∧ b < w.heap.size ∧ ∀ i (h : i < l.length), w.cell? ⟨b, i, none⟩ = some (.int .u8 (l[i].toNat : Int))) := by
  have h2 := h.2
  rcases h2.2 with ⟨rfl, h0⟩ | ⟨g, cap, cur, rfl, hb, hg, hle, hcap, hsz, htk⟩
  · exact ⟨none, 0, by rw [h0], by omega, .inl (List.eq_nil_of_length_eq_zero h0)⟩
  · refine ⟨_, cap, rfl, hle, .inr ⟨g, rfl, hb, (Array.getElem?_eq_some_iff.1 hg).1, fun i hi => ?_⟩⟩
    have := h2.cells (g := g) rfl i (.int .u8 (l[i].toNat : Int)) (by simp [bv, hi])
    rw [addr_add] at this
    simpa using this

set_option maxRecDepth 100000 in
set_option maxHeartbeats 2000000 in
theorem New_calls (l : List UInt8) (A : Option Addr) (c : Nat) (w : World) (h : BytesAt w A l) (hl : l.length ≤ 1099511627776) :
    Calls Try.prog 61 #[.slice A l.length c] w fun e w' => ∃ (br : Nat) (B : Src), e = .returned (.pointer (some ⟨br, 0, none⟩)) ∧ B.l = l ∧ w.heap.size ≤ br ∧ RdS w' br B (.at 0) ∧ Below w.heap.size w w' := by
  go_enter Try.func61, Try.ntmps61
  go_wp2_with fail
  refine (own_calls l A c w h (by omega)).mono ?_
  rintro e w1 ⟨v, rfl, hrow, hb⟩
  obtain ⟨A', c', rfl, hc, hcell⟩ := hrow.opens
  go_wp2
  go_ret
  have hn := alloc_new w1 (.cells #[.slice A' l.length c', .int .i64 0, .int .i64 (-1)] 145)
  refine ⟨w1.heap.size, ⟨l, A', c'⟩, rfl, rfl, hb.size, ⟨⟨hn, hc, ?_⟩, Nat.zero_le _⟩, below_alloc hb hb.size _⟩
  rcases hcell with h0 | ⟨b, hA, h1, h2, h3⟩
  · exact .inl h0
  · exact .inr ⟨b, 0, hA, h2, fun i hi => by rw [Nat.zero_add]; exact cell_keep (by go_grown) (h3 i hi)⟩

/-- How a reading ends. -/
def endP (B : List UInt8) : Rst → Int × Int
  | .bad f => (f, 30)
  | .at n => if n < B.length then ((n : Int), 30) else (0, 0)

set_option maxRecDepth 100000 in
set_option maxHeartbeats 2000000 in
theorem End_calls (br : Nat) (B : Src) (st : Rst) (w : World) (h : RdS w br B st) (hB : B.l.length ≤ 1099511627776) :
    Calls Try.prog 65 #[.pointer (some ⟨br, 0, none⟩)] w fun e w' => e = .returned (.tuple #[.int .i64 (endP B.l st).1, .int .i64 (endP B.l st).2]) ∧ Below w.heap.size w w' := by
  cases st with
  | bad f =>
    obtain ⟨n, hr⟩ := h
    obtain ⟨r0, r1, r2, rz⟩ := blk3 hr.1
    have d1 : decide ((0 : Int) ≤ (f : Int)) = true := by simp
    go_enter Try.func65, Try.ntmps65
    go_wp2
    go_ret2
    exact ⟨rfl, Below.refl _ _⟩
  | «at» n =>
    obtain ⟨hr, hn⟩ := h
    obtain ⟨r0, r1, r2, rz⟩ := blk3 hr.1
    by_cases hlt : n < B.l.length
    · have hE : Hid (endP B.l (.at n) = ((n : Int), 30)) := Lib.hid (by rw [endP, if_pos hlt])
      have d1 : decide (n < B.l.length) = true := by simpa using hlt
      have d2 : decide ((n : Int) < (B.l.length : Int)) = true := by simpa using hlt
      go_enter Try.func65, Try.ntmps65
      go_wp2
      go_quiet (fail)
      go_wp2
      go_ret2
      exact ⟨by rw [hE.out]; rfl, below_drewN (Below.refl _ _) _⟩
    · have hE : Hid (endP B.l (.at n) = (0, 0)) := Lib.hid (by rw [endP, if_neg hlt])
      have d1 : decide (n < B.l.length) = false := by simpa using hlt
      have d2 : decide ((n : Int) < (B.l.length : Int)) = false := by simpa using hlt
      go_enter Try.func65, Try.ntmps65
      go_wp2
      go_quiet (fail)
      go_wp2
      go_ret2
      exact ⟨by rw [hE.out]; rfl, below_drewN (Below.refl _ _) _⟩
end Go.Proofs.Ytimjpkmdphccmaa

/- sums: Open: a walk. -/
namespace Go.Proofs.Ytimjpkmdphccmaa
open Go.RowKit
attribute [local go_sem ↓] Go.wp_at_zero Go.wp_at_succ
set_option linter.unusedVariables false
set_option linter.unusedSimpArgs false

def openP (l : List UInt8) : Option (List UInt8) := if 4 ≤ l.length ∧ sealB (l.take (l.length - 4)) = l then some (l.take (l.length - 4)) else none
theorem BytesAt.take {w : World} {A : Option Addr} {l : List UInt8} (h : BytesAt w A l) (n : Nat) : BytesAt w A (l.take n) := by
  rcases h with rfl | ⟨b, o, hA, h⟩
  · exact .inl (by simp)
  · exact .inr ⟨b, o, hA, fun i hi => by simp only [List.length_take] at hi; have := h i (by omega); simpa using this⟩
theorem ByRow.bytes {base : Nat} {w : World} {v : Value} {l : List UInt8} (h : ByRow base w v l) : ∃ A c, v = .slice A l.length c ∧ l.length ≤ c ∧ BytesAt w A l := by
  obtain ⟨A, c, hv, hc, h⟩ := h.opens
  refine ⟨A, c, hv, hc, ?_⟩
  rcases h with h | ⟨b, hA, _, _, h⟩
  · exact .inl h
  · exact .inr ⟨b, 0, hA, fun i hi => by rw [Nat.zero_add]; exact h i hi⟩
theorem bytes_ne {a b : List UInt8} (h : a ≠ b) : (⟨a.toArray⟩ : ByteArray) ≠ ⟨b.toArray⟩ := fun e => h (by injection e with e; simpa using congrArg Array.toList e)

/-- What Open hands back. -/
def OpenPost (w : World) (l : List UInt8) (e : Ending) (w' : World) : Prop :=
  Below w.heap.size w w' ∧ match openP l with
  | none => e = .returned (.tuple #[.slice none 0 0, .bool false])
  | some m => ∃ A c, e = .returned (.tuple #[.slice A m.length c, .bool true]) ∧ m.length ≤ c ∧ BytesAt w' A m

set_option maxRecDepth 100000 in
set_option maxHeartbeats 2000000 in
theorem Open_calls (l : List UInt8) (A : Option Addr) (cp : Nat) (w : World) (h : BytesAt w A l) (hl : l.length ≤ 35184372088832) (hcp : l.length ≤ cp) (hcp2 : cp ≤ 9223372036854775807) :
    Calls Try.prog 60 #[.slice A l.length cp] w (OpenPost w l) := by
  obtain ⟨iY, jY, jY0, jY1, jY2⟩ := info_parts info_byte
  by_cases h4 : l.length < 4
  · have HN : Hid (openP l = none) := Lib.hid (by rw [openP, if_neg (by omega)])
    have d1 : decide ((l.length : Int) - 4 < 0) = true := by simp; omega
    go_enter Try.func60, Try.ntmps60
    go_wp2
    go_quiet (fail)
    go_wp2
    go_ret2
    exact ⟨below_drewN (Below.refl _ _) _, by rw [HN.out]; rfl⟩
  · obtain ⟨n, hn⟩ : ∃ n, l.length = n + 4 := ⟨l.length - 4, by omega⟩
    have hnn : l.length - 4 = n := by omega
    have d1 : decide ((l.length : Int) - 4 < 0) = false := by simp; omega
    have d1' : decide ((n : Int) < 0) = false := by simp
    have e1 : (l.length : Int) - 4 = (n : Int) := by omega
    have hlt : (l.take n).length = n := by simp; omega
    have HT := Lib.hid (h.take n)
    have hcv : ∀ w', BytesAt w' A l → (convert 46 9 (.slice A l.length cp)).run Try.prog w' = .ok (.string ⟨l.toArray⟩) w' := fun w' hw => conv_bytes w' A l cp hw
    have HS := Seal_calls (l.take n) A cp
    rw [hlt] at HS
    have HS' := Lib.hid HS
    clear HS
    have j1 : (0 : Int) ≤ (n : Int) := by omega
    have j2 : (n : Int) ≤ (cp : Int) := by omega
    have j3 : n ≤ cp := by omega
    have HNN := Lib.hid (⟨hn, hnn, hlt⟩ : _ ∧ _ ∧ _)
    clear hn hnn hlt
    by_cases heq : sealB (l.take n) = l
    · have HN : Hid (openP l = some (l.take n)) := Lib.hid (by rw [openP, HNN.out.2.1, if_pos ⟨by omega, heq⟩])
      have HQ := Lib.hid heq
      have dq : (sealB (l.take n) == l) = true := by rw [heq]; simp
      clear heq h4
      go_enter Try.func60, Try.ntmps60
      go_wp2
      have hcA := hcv _ h
      have hcB := hcv _ (BytesAt.drew h)
      first
      | go_region_with (first
          | (go_at_call 59; refine (HS'.out _ (BytesAt.drew HT.out) (by have := HNN.out.1; omega)).mono ?_
             rintro e w2 ⟨v, rfl, hrow, hb2⟩
             obtain ⟨A2, c2, rfl, _, hby2⟩ := hrow.bytes
             have hb2' := below_undrew hb2
             have hBk := h.below hb2'
             have hcv2 : (convert 46 9 (.slice A2 (sealB (l.take n)).length c2)).run Try.prog w2 = .ok (.string ⟨(sealB (l.take n)).toArray⟩) w2 := conv_bytes w2 A2 _ c2 hby2
             have hcC := hcv _ hBk))
      | fail
      all_goals
        have hws := hb2'.size
        rcases Nat.eq_zero_or_pos n with h0 | h0
        · have HZ := Lib.hid h0
          subst h0
          have hnil : l.take 0 = [] := rfl
          cases A
          all_goals
            go_wp2
            go_ret2
            refine ⟨hb2', ?_⟩
            rw [HN.out]
            exact ⟨none, 0, rfl, Nat.le_refl _, .inl rfl⟩
        · obtain ⟨bb, ob, rfl, hcell⟩ : ∃ b o, A = some ⟨b, o, none⟩ ∧ ∀ i (h : i < (l.take n).length), w2.cell? ⟨b, o + i, none⟩ = some (.int .u8 ((l.take n)[i].toNat : Int)) := by
            rcases hBk.take n with h | h
            · have := congrArg List.length h; rw [HNN.out.2.2] at this; simp at this; omega
            · exact h
          have HNW := Lib.hid (BytesAt.news hcell)
          have hlen := HNN.out.2.2
          clear hcell hcv hcv2
          go_wp2_with (at_builtin; go_loud (refine wpList_append_lies _ rfl _ _ _ rfl w.heap.size 5 iY _ 1 1 Try.underlying46 jY jY0 jY1 jY2 rfl (by omega) (.slice none 0 0) 0 [] rfl (World.ownsRow_nil _ _ _ _) ⟨bb, ob, none⟩ n cp (bv (l.take n)) rfl (by simp [bv]; omega) HNW.out (bv_one _) (by omega) (by unfold maxLen; omega) (by omega) (by omega) _ rfl ?_); intro g cap w3 hown3 hgrow hat hlt3)
          go_ret2
          refine ⟨hb2'.grown hgrow hws (by simp [Value.ownBlock]), ?_⟩
          rw [HN.out]
          have hby3 : ByRow w.heap.size w3 (.slice (some ⟨g, 0, none⟩) n cap) (l.take n) := ⟨Nat.le_trans hws hgrow.size, by rw [hlen]; simpa using hown3⟩
          obtain ⟨A9, c9, hv9, hc9, hb9⟩ := hby3.bytes
          exact ⟨A9, c9, by rw [← hv9]; rfl, hc9, hb9⟩
    · have HN : Hid (openP l = none) := Lib.hid (by rw [openP, HNN.out.2.1, if_neg (fun h => heq h.2)])
      have dq : (sealB (l.take n) == l) = false := by simpa using heq
      clear heq h4
      go_enter Try.func60, Try.ntmps60
      go_wp2
      have hcA := hcv _ h
      have hcB := hcv _ (BytesAt.drew h)
      first
      | go_region_with (first
          | (go_at_call 59; refine (HS'.out _ (BytesAt.drew HT.out) (by have := HNN.out.1; omega)).mono ?_
             rintro e w2 ⟨v, rfl, hrow, hb2⟩
             obtain ⟨A2, c2, rfl, _, hby2⟩ := hrow.bytes
             have hb2' := below_undrew hb2
             have hBk := h.below hb2'
             have hcv2 : (convert 46 9 (.slice A2 (sealB (l.take n)).length c2)).run Try.prog w2 = .ok (.string ⟨(sealB (l.take n)).toArray⟩) w2 := conv_bytes w2 A2 _ c2 hby2
             have hcC := hcv _ hBk))
      | fail
      all_goals
        go_wp2
        go_ret2
        exact ⟨hb2', by rw [HN.out]; rfl⟩
end Go.Proofs.Ytimjpkmdphccmaa

/- The sum: its rounds as numbers; one byte that is another turns it: plain laws. -/
namespace Go.Proofs.Ytimjpkmdphccmaa
open Go.RowKit

def cbN (r : Nat) : Nat := (r / 2) ^^^ (if r % 2 = 1 then 2197175160 else 0)
theorem xor_mod2 (a b : Nat) : (a ^^^ b) % 2 = (a % 2 + b % 2) % 2 := by
  have := @Nat.xor_mod_two_eq_one a b
  generalize a ^^^ b = c at *
  omega
theorem xor_zero_eq {a b : Nat} (h : a ^^^ b = 0) : a = b := by
  have e : a = (a ^^^ b) ^^^ b := by rw [Nat.xor_assoc, Nat.xor_self, Nat.xor_zero]
  rw [e, h, Nat.zero_xor]
theorem cbN_xor (a b : Nat) : cbN (a ^^^ b) = cbN a ^^^ cbN b := by
  unfold cbN
  rw [Nat.xor_div_two, xor_mod2]
  rcases Nat.mod_two_eq_zero_or_one a with h | h <;> rcases Nat.mod_two_eq_zero_or_one b with h' | h' <;> simp only [h, h', Nat.reduceAdd, Nat.reduceMod, Nat.zero_mod, if_true, Nat.zero_ne_one, if_false, Nat.xor_zero]
  · rw [Nat.xor_assoc]
  · ac_rfl
  · have : ∀ x y z : Nat, x ^^^ y = (x ^^^ z) ^^^ (y ^^^ z) := fun x y z => by
      have e : (x ^^^ z) ^^^ (y ^^^ z) = (x ^^^ y) ^^^ (z ^^^ z) := by ac_rfl
      rw [e, Nat.xor_self, Nat.xor_zero]
    exact this _ _ _
theorem cbN_lt {r : Nat} (h : r < 4294967296) : cbN r < 4294967296 := by
  unfold cbN
  refine Nat.xor_lt_two_pow (n := 32) (by omega) ?_
  split <;> decide
theorem cbN_zero {c : Nat} (hc : c < 4294967296) (h : cbN c = 0) : c = 0 := by
  unfold cbN at h
  split at h
  · have := xor_zero_eq h
    omega
  · rw [Nat.xor_zero] at h; omega
def cbsN : Nat → Nat → Nat
  | 0, r => r
  | n + 1, r => cbN (cbsN n r)
theorem cbsN_xor (n a b : Nat) : cbsN n (a ^^^ b) = cbsN n a ^^^ cbsN n b := by
  induction n with
  | zero => rfl
  | succ n ih => rw [cbsN, cbsN, cbsN, ih, cbN_xor]
theorem cbsN_lt (n : Nat) {r : Nat} (h : r < 4294967296) : cbsN n r < 4294967296 := by
  induction n with
  | zero => exact h
  | succ n ih => exact cbN_lt ih
theorem cbsN_inj (n : Nat) {a b : Nat} (ha : a < 4294967296) (hb : b < 4294967296) (h : cbsN n a = cbsN n b) : a = b := by
  have h0 : cbsN n (a ^^^ b) = 0 := by rw [cbsN_xor, h, Nat.xor_self]
  have hlt : a ^^^ b < 4294967296 := Nat.xor_lt_two_pow (n := 32) ha hb
  have hz : ∀ n c, c < 4294967296 → cbsN n c = 0 → c = 0 := by
    intro n
    induction n with
    | zero => intro c _ h; exact h
    | succ n ih => intro c hc h; exact ih c hc (cbN_zero (cbsN_lt n hc) h)
  have : a ^^^ b = 0 := hz n _ hlt h0
  exact xor_zero_eq this
theorem cbN_even (h : Nat) : cbN (2 * h) = h := by
  unfold cbN
  rw [if_neg (by omega), Nat.xor_zero]; omega
theorem cbsN_high (h : Nat) : cbsN 8 (256 * h) = h := by
  simp only [cbsN]
  rw [show 256 * h = 2 * (128 * h) by omega, cbN_even, show 128 * h = 2 * (64 * h) by omega, cbN_even, show 64 * h = 2 * (32 * h) by omega, cbN_even, show 32 * h = 2 * (16 * h) by omega, cbN_even, show 16 * h = 2 * (8 * h) by omega, cbN_even, show 8 * h = 2 * (4 * h) by omega, cbN_even, show 4 * h = 2 * (2 * h) by omega, cbN_even, cbN_even]
theorem split_xor (r : Nat) : r = (r % 256) ^^^ (256 * (r / 256)) := by
  apply Nat.eq_of_testBit_eq
  intro i
  rw [Nat.testBit_xor, show 256 * (r / 256) = 2 ^ 8 * (r / 2 ^ 8) by rfl, Nat.testBit_two_pow_mul, show r % 256 = r % 2 ^ 8 by rfl, Nat.testBit_mod_two_pow, Nat.testBit_div_two_pow]
  by_cases h : i < 8
  · simp [h, show ¬ 8 ≤ i by omega]
  · simp [h, show 8 ≤ i by omega]
/-- The round over the table is eight bits of the plain one. -/
theorem cbs_round (r x : Nat) : cbsN 8 (r ^^^ x) = (r / 256) ^^^ cbsN 8 ((r % 256) ^^^ x) := by
  have e : r ^^^ x = ((r % 256) ^^^ x) ^^^ (256 * (r / 256)) := by
    have := split_xor r
    conv => lhs; rw [this]
    ac_rfl
  rw [e, cbsN_xor, cbsN_high]
  ac_rfl

theorem crcBit_nat (n : Nat) (h : n < 4294967296) : crcBit (n : Int) = (cbN n : Int) := by
  rw [crcBit]
  have e1 : bits .and .u32 (n : Int) 1 = ((n % 2 : Nat) : Int) := by
    have := u32_and_nat n 1 h (by omega)
    rw [show ((1 : Nat) : Int) = 1 from rfl] at this
    rw [this, Nat.and_one_is_mod]
  have e2 : ((n : Int) / 2) = ((n / 2 : Nat) : Int) := by omega
  rw [e1, e2, cbN]
  rcases Nat.mod_two_eq_zero_or_one n with h2 | h2
  · rw [h2, if_neg (by omega)]
    have e3 : bits .and .u32 2197175160 (-((0 : Nat) : Int) % 4294967296) = ((0 : Nat) : Int) := by
      have := u32_and_nat 2197175160 0 (by omega) (by omega)
      rw [Nat.and_zero] at this
      exact this
    rw [e3, u32_xor_nat _ _ (by omega) (by omega)]
  · rw [h2, if_pos rfl]
    have e3 : bits .and .u32 2197175160 (-((1 : Nat) : Int) % 4294967296) = ((2197175160 : Nat) : Int) := by
      have := u32_and_nat 2197175160 4294967295 (by omega) (by omega)
      rw [show 2197175160 &&& 4294967295 = 2197175160 by decide] at this
      exact this
    rw [e3, u32_xor_nat _ _ (by omega) (by omega)]
theorem crcBits_nat (k n : Nat) (h : n < 4294967296) : crcBits k (n : Int) = (cbsN k n : Int) := by
  induction k with
  | zero => rfl
  | succ k ih => rw [crcBits, ih, crcBit_nat _ (cbsN_lt k h), cbsN]
theorem crcRound_nat (n : Nat) (h : n < 4294967296) (x : UInt8) : crcRound (n : Int) x = (cbsN 8 (n ^^^ x.toNat) : Int) := by
  have hx := x.toNat_lt
  have hy : n % 256 ^^^ x.toNat < 256 := Nat.xor_lt_two_pow (n := 8) (by omega) (by omega)
  rw [crcRound, show (n : Int) % 256 = ((n % 256 : Nat) : Int) by omega, u8_xor_nat _ _ (by omega) (by omega), crcEntry, crcBits_nat 8 _ (by omega), show (n : Int) / 256 = ((n / 256 : Nat) : Int) by omega,
    u32_xor_nat _ _ (by omega) (cbsN_lt 8 (by omega)), ← cbs_round]
def crcStep (n : Nat) (x : UInt8) : Nat := cbsN 8 (n ^^^ x.toNat)
theorem crcStep_lt {n : Nat} (h : n < 4294967296) (x : UInt8) : crcStep n x < 4294967296 := cbsN_lt 8 (Nat.xor_lt_two_pow (n := 32) h (by have := x.toNat_lt; omega))
def crcN (n : Nat) (l : List UInt8) : Nat := l.foldl crcStep n
theorem crcN_lt : ∀ (l : List UInt8) {n : Nat}, n < 4294967296 → crcN n l < 4294967296
  | [], _, h => h
  | x :: l, _, h => crcN_lt l (crcStep_lt h x)
theorem crcFold_nat : ∀ (l : List UInt8) (n : Nat), n < 4294967296 → crcFold (n : Int) l = (crcN n l : Int)
  | [], _, _ => rfl
  | x :: l, n, h => by
    show crcFold (crcRound n x) l = _
    rw [crcRound_nat n h x]
    exact crcFold_nat l _ (crcStep_lt h x)
theorem crc0_nat : crc0 = ((4294967295 : Nat) : Int) := by
  rw [crc0]
  have := u32_xor_nat 4294967295 0 (by omega) (by omega)
  exact this
theorem crcSum_nat (l : List UInt8) : crcSum l = ((4294967295 ^^^ crcN 4294967295 l : Nat) : Int) := by
  rw [crcSum, crc0_nat, crcFold_nat l _ (by omega)]
  exact u32_xor_nat 4294967295 _ (by omega) (crcN_lt l (by omega))
theorem crcStep_inj {a b : Nat} (ha : a < 4294967296) (hb : b < 4294967296) {x y : UInt8} (h : crcStep a x = crcStep b y) : a ^^^ x.toNat = b ^^^ y.toNat :=
  cbsN_inj 8 (Nat.xor_lt_two_pow (n := 32) ha (by have := x.toNat_lt; omega)) (Nat.xor_lt_two_pow (n := 32) hb (by have := y.toNat_lt; omega)) h
theorem xor_right {a b c : Nat} (h : a ^^^ c = b ^^^ c) : a = b := by
  have e : (a ^^^ c) ^^^ c = (b ^^^ c) ^^^ c := by rw [h]
  rwa [Nat.xor_assoc, Nat.xor_assoc, Nat.xor_self, Nat.xor_zero, Nat.xor_zero] at e
theorem xor_left {a b c : Nat} (h : c ^^^ a = c ^^^ b) : a = b := by rw [Nat.xor_comm c a, Nat.xor_comm c b] at h; exact xor_right h
theorem crcN_inj : ∀ (l : List UInt8) {a b : Nat}, a < 4294967296 → b < 4294967296 → crcN a l = crcN b l → a = b
  | [], _, _, _, _, h => h
  | x :: l, _, _, ha, hb, h => xor_right (crcStep_inj ha hb (crcN_inj l (crcStep_lt ha x) (crcStep_lt hb x) h))
theorem crcN_append (n : Nat) (l m : List UInt8) : crcN n (l ++ m) = crcN (crcN n l) m := by simp [crcN]
theorem crcSum_flip (p q : List UInt8) {x y : UInt8} (h : x ≠ y) : crcSum (p ++ x :: q) ≠ crcSum (p ++ y :: q) := by
  intro he
  rw [crcSum_nat, crcSum_nat] at he
  have h1 := xor_left (Int.ofNat_inj.1 he)
  rw [crcN_append, crcN_append] at h1
  have hp := crcN_lt p (n := 4294967295) (by omega)
  have h2 := crcN_inj q (crcStep_lt hp x) (crcStep_lt hp y) h1
  exact h (UInt8.toNat_inj.1 (xor_left (crcStep_inj hp hp h2)))

theorem sumB_len (s : Int) : (sumB s).length = 4 := rfl
theorem sealB_len (l : List UInt8) : (sealB l).length = l.length + 4 := by simp [sealB, sumB_len]
theorem sumB_inj {s t : Int} (hs0 : 0 ≤ s) (hs : s < 4294967296) (ht0 : 0 ≤ t) (ht : t < 4294967296) (h : sumB s = sumB t) : s = t := by
  simp only [sumB, List.cons.injEq, and_true] at h
  obtain ⟨h1, h2, h3, h4⟩ := h
  have e : ∀ d, byteAt s d = byteAt t d → s / d % 256 = t / d % 256 := fun d h => by rw [← byteAt_val, ← byteAt_val, h]
  have := e _ h1; have := e _ h2; have := e _ h3; have := e _ h4
  omega
theorem openP_seal (l : List UInt8) : openP (sealB l) = some l := by
  have e : (sealB l).take ((sealB l).length - 4) = l := by rw [sealB_len, Nat.add_sub_cancel, sealB]; simp
  rw [openP, e, if_pos ⟨by rw [sealB_len]; omega, rfl⟩]
theorem openP_some {c m : List UInt8} (h : openP c = some m) : c = sealB m := by
  rw [openP] at h
  split at h
  · rename_i hc
    injection h with h
    rw [← h, hc.2]
  · cases h
/-- One byte that is another one. -/
theorem openP_flip (l : List UInt8) (i : Nat) (hi : i < (sealB l).length) (y : UInt8) (hy : y ≠ (sealB l)[i]) : openP ((sealB l).set i y) = none := by
  cases ho : openP ((sealB l).set i y) with
  | none => rfl
  | some m =>
    exfalso
    have hc := openP_some ho
    have hlm : m.length = l.length := by
      have := congrArg List.length hc
      rw [List.length_set, sealB_len, sealB_len] at this
      omega
    rw [sealB_len] at hi
    by_cases hil : i < l.length
    · have e : (sealB l).set i y = l.set i y ++ sumB (crcSum l) := by rw [sealB, List.set_append_left _ _ hil]
      rw [e, sealB] at hc
      obtain ⟨h1, h2⟩ := List.append_inj hc (by simp [hlm])
      have hl : l = l.take i ++ l[i] :: l.drop (i + 1) := by simp
      have hm : m = l.take i ++ y :: l.drop (i + 1) := by rw [← h1, List.set_eq_take_append_cons_drop, if_pos hil]
      have hne : l[i] ≠ y := by
        intro he
        apply hy
        simp only [sealB]
        rw [List.getElem_append_left hil, he]
      have hr1 := crcSum_range l
      have hr2 := crcSum_range m
      have := sumB_inj hr1.1 hr1.2 hr2.1 hr2.2 h2
      rw [hm] at this
      conv at this => lhs; rw [hl]
      exact crcSum_flip _ _ hne this
    · have e : (sealB l).set i y = l ++ (sumB (crcSum l)).set (i - l.length) y := by rw [sealB, List.set_append_right _ _ (by omega)]
      rw [e, sealB] at hc
      obtain ⟨h1, h2⟩ := List.append_inj hc hlm.symm
      rw [← h1] at h2
      have hj : i - l.length < (sumB (crcSum l)).length := by rw [sumB_len]; omega
      have h3 : ((sumB (crcSum l)).set (i - l.length) y)[i - l.length]'(by simpa using hj) = y := by simp
      have h4 : (sumB (crcSum l))[i - l.length] = y := by
        have := congrArg (fun z : List UInt8 => z[i - l.length]?) h2
        simp only [List.getElem?_eq_getElem hj, List.getElem?_eq_getElem (show i - l.length < ((sumB (crcSum l)).set (i - l.length) y).length by simpa using hj), h3] at this
        injection this with this
        exact this.symm
      apply hy
      simp only [sealB]
      rw [List.getElem_append_right (by omega), h4]
/-- Some bytes at the end missing. -/
theorem openP_cut (l : List UInt8) (k : Nat) (hk : k < (sealB l).length) : openP ((sealB l).take k) = none ∨ (4 ≤ k ∧ openP ((sealB l).take k) = some (l.take (k - 4)) ∧ k - 4 < l.length) := by
  rw [sealB_len] at hk
  cases ho : openP ((sealB l).take k) with
  | none => exact .inl rfl
  | some m =>
    have hc := openP_some ho
    have hlen := congrArg List.length hc
    rw [List.length_take, sealB_len, sealB_len] at hlen
    refine .inr ⟨by omega, ?_, by omega⟩
    congr 1
    have h1 : m = (sealB m).take m.length := by simp [sealB]
    rw [h1, ← hc, List.take_take, sealB]
    rw [show min m.length k = k - 4 by omega]
    rw [List.take_append_of_le_length (by omega)]
end Go.Proofs.Ytimjpkmdphccmaa

/- SameNode: a walk. -/
namespace Go.Proofs.Ytimjpkmdphccmaa
open Go.RowKit
attribute [local go_sem ↓] Go.wp_at_zero Go.wp_at_succ
set_option linter.unusedVariables false
set_option linter.unusedSimpArgs false
mutual
def Nd.same : Nd → Nd → Bool
  | .mk i k t ks, .mk i' k' t' ks' => decide (i = i') && decide (k = k') && decide (t = t') && Nd.sames ks ks'
def Nd.sames : List Nd → List Nd → Bool
  | [], [] => true
  | x :: xs, y :: ys => Nd.same x y && Nd.sames xs ys
  | _, _ => false
end

theorem Nd.same_eq (a b : Nd) : Nd.same a b = (decide (a.id = b.id) && decide (a.kind = b.kind) && decide (a.text = b.text) && Nd.sames a.kids b.kids) := by
  cases a; cases b; rw [Nd.same]; rfl
theorem Nd.sames_iff : ∀ (l m : List Nd), Nd.sames l m = true ↔ l.length = m.length ∧ ∀ i (h : i < l.length) (h' : i < m.length), Nd.same l[i] m[i] = true
  | [], [] => by simp [Nd.sames]
  | [], y :: ys => by simp [Nd.sames]
  | x :: xs, [] => by simp [Nd.sames]
  | x :: xs, y :: ys => by
    rw [Nd.sames, Bool.and_eq_true, Nd.sames_iff xs ys]
    constructor
    · rintro ⟨h0, h1, h2⟩
      refine ⟨by simp [h1], fun i h h' => ?_⟩
      cases i with
      | zero => simpa using h0
      | succ i => simpa using h2 i (by simpa using h) (by simpa using h')
    · rintro ⟨h1, h2⟩
      exact ⟨h2 0 (by simp) (by simp), by simpa using h1, fun i h h' => h2 (i + 1) (by simpa using h) (by simpa using h')⟩

set_option maxRecDepth 100000 in
set_option maxHeartbeats 1000000 in
theorem SameNode_calls (a : Nd) : ∀ (b : Nd) (Aa Ab : Option Addr) (ca cb : Nat) (w : World), KidsAt w Aa a.kids → KidsAt w Ab b.kids → a.kids.length ≤ ca → b.kids.length ≤ cb → a.bulk ≤ 1099511627776 →
    Calls Try.prog 16 #[.agg #[.int .i64 a.id, .int .i64 a.kind, .string a.text, .slice Aa a.kids.length ca], .agg #[.int .i64 b.id, .int .i64 b.kind, .string b.text, .slice Ab b.kids.length cb]] w
      fun e w' => e = .returned (.bool (Nd.same a b)) ∧ Below w.heap.size w w' := by
  induction a using Nd.induct with
  | h a ih =>
  intro b Aa Ab ca cb w ha hb hca hcb hN
  have hlen := a.kids_le
  by_cases hlab : a.kids.length = b.kids.length
  case neg =>
    have g4 : ((a.kids.length : Int) != (b.kids.length : Int)) = true := by rw [bne_iff_ne]; omega
    have hne : Nd.sames a.kids b.kids = false := by
      rw [Bool.eq_false_iff]
      intro h
      exact hlab ((Nd.sames_iff _ _).1 h).1
    have HE := Lib.hid hne
    clear hne ih
    go_enter Try.func16, Try.ntmps16
    go_wp2
    all_goals
      go_ret
      exact ⟨ret_bool (by rw [Nd.same_eq, HE.out]; simp), by go_grown⟩
  case pos =>
  have g4 : ((a.kids.length : Int) != (b.kids.length : Int)) = false := by rw [bne_eq_false_iff_eq]; omega
  have HL := Lib.hid hlab
  clear hlab
  go_enter Try.func16, Try.ntmps16
  go_wp2
  · rename_i e1 e2 e3
    generalize hW0 : (w.alloc _).alloc _ = W0
    have hB : Below w.heap.size w W0 := by rw [← hW0]; go_grown
    have hz : W0.heap.size = w.heap.size + 2 := by rw [← hW0]; simp
    have c0 : W0.cell? ⟨w.heap.size, 3, none⟩ = some (.slice Aa a.kids.length ca) := by subst hW0; simp [go_sem]
    have c1 : W0.cell? ⟨w.heap.size + 1, 3, none⟩ = some (.slice Ab b.kids.length cb) := by subst hW0; simp [go_sem]
    clear hW0
    go_loopw [5] (fun v5 wr => ∃ k : Nat, v5 = .int .i64 k ∧ k ≤ a.kids.length ∧ (∀ i (h : i < k) (h1 : i < a.kids.length) (h2 : i < b.kids.length), Nd.same a.kids[i] b.kids[i] = true) ∧ Below W0.heap.size W0 wr) (fun v5 _ => a.kids.length - (intOf v5).toNat)
    case atStart => exact ⟨0, rfl, Nat.zero_le _, fun i h => absurd h (by omega), Below.refl _ _⟩
    case round =>
      obtain ⟨k, rfl, hk, hs, hbw⟩ := hrel
      have d0 := (hbw.cell (p := ⟨w.heap.size, 3, none⟩) (by simp only; omega)).trans c0
      have d1 := (hbw.cell (p := ⟨w.heap.size + 1, 3, none⟩) (by simp only; omega)).trans c1
      by_cases hlt : k < a.kids.length
      · have hltb : k < b.kids.length := by have := HL.out; omega
        obtain ⟨ba, oa, rfl, _, na⟩ := ha.get k hlt
        obtain ⟨bb, ob, rfl, _, nb⟩ := hb.get k hltb
        have na' := na.below (below_then hB hbw)
        have nb' := nb.below (below_then hB hbw)
        obtain ⟨x0, x1, x2, A1, q1, x3, hq1, ka⟩ := ndIn_open na'
        obtain ⟨y0, y1, y2, A2, q2, y3, hq2, kb⟩ := ndIn_open nb'
        have hkb := Nd.kid_bulk (List.getElem_mem hlt)
        have i1 : (0 : Int) ≤ (k : Int) := Int.natCast_nonneg _
        have i2 : (k : Int) < (a.kids.length : Int) := by omega
        have i3 : (k : Int) < (b.kids.length : Int) := by omega
        have HS := Lib.hid hs
        clear hs
        go_wp2
        go_region_held3 (fun w' => w'.cell? ⟨w.heap.size, 3, none⟩ = some (.slice (some ⟨ba, oa, none⟩) a.kids.length ca) ∧ w'.cell? ⟨w.heap.size + 1, 3, none⟩ = some (.slice (some ⟨bb, ob, none⟩) b.kids.length cb) ∧
          w'.cell? ⟨ba, oa + k * 4, none⟩ = some (.int .i64 a.kids[k].id) ∧ w'.cell? ⟨ba, oa + k * 4 + 1, none⟩ = some (.int .i64 a.kids[k].kind) ∧ w'.cell? ⟨ba, oa + k * 4 + 2, none⟩ = some (.string a.kids[k].text) ∧ w'.cell? ⟨ba, oa + k * 4 + 3, none⟩ = some (.slice A1 a.kids[k].kids.length q1) ∧ w'.cell? ⟨bb, ob + k * 4, none⟩ = some (.int .i64 b.kids[k].id) ∧ w'.cell? ⟨bb, ob + k * 4 + 1, none⟩ = some (.int .i64 b.kids[k].kind) ∧ w'.cell? ⟨bb, ob + k * 4 + 2, none⟩ = some (.string b.kids[k].text) ∧ w'.cell? ⟨bb, ob + k * 4 + 3, none⟩ = some (.slice A2 b.kids[k].kids.length q2))
          (first | go_keep | (go_split_ands; (repeat' apply And.intro) <;> exact cell_keep hb2 (by assumption))) ((go_at_call 16; refine (ih _ (List.getElem_mem hlt) _ _ _ _ _ _ ka.drew kb.drew hq1 hq2 (by omega)).mono ?_; rintro e w2 ⟨rfl, hb2⟩; replace hb2 := below_undrew hb2))
        have hbw2 : Below W0.heap.size W0 w2 := hbw.trans (hb2.mono hbw.size)
        go_wp2
        · have hsm : (!Nd.same a.kids[k] b.kids[k]) = true := by assumption
          go_ret
          refine ⟨ret_bool ?_, hB.trans (hbw2.mono hB.size)⟩
          have hne : Nd.sames a.kids b.kids = false := by
            rw [Bool.eq_false_iff]
            intro h
            have := ((Nd.sames_iff _ _).1 h).2 k hlt hltb
            simp [this] at hsm
          rw [Nd.same_eq, hne]; simp
        · have hsm : (!Nd.same a.kids[k] b.kids[k]) = false := by assumption
          go_roundw
          case rel =>
            refine ⟨k + 1, by go_num, by omega, fun i h h1 h2 => ?_, hbw2⟩
            by_cases hik : i = k
            · subst hik; simpa using hsm
            · exact HS.out i (by omega) h1 h2
          case measure => simp [intOf]; omega
      · have g5 : decide (k < a.kids.length) = false := by simpa using hlt
        go_wp2
        go_ret
        have e0 : a.id = b.id := by assumption
        have e1' : a.kind = b.kind := by assumption
        refine ⟨ret_bool ?_, hB.trans (hbw.mono hB.size)⟩
        have hye : Nd.sames a.kids b.kids = true := (Nd.sames_iff _ _).2 ⟨HL.out, fun i h h' => hs i (by omega) h h'⟩
        rw [Nd.same_eq, hye, bytes_toList_inj e1, e0, e1']; simp
  · rename_i e1
    go_ret
    refine ⟨ret_bool ?_, by go_grown⟩
    have hne : ¬ a.text = b.text := fun h => e1 (by rw [h])
    rw [Nd.same_eq]; simp [hne]
  · rename_i e1
    go_ret
    refine ⟨ret_bool ?_, by go_grown⟩
    rw [Nd.same_eq]; simp [e1]
  · rename_i e1
    go_ret
    refine ⟨ret_bool ?_, by go_grown⟩
    rw [Nd.same_eq]; simp [e1]
end Go.Proofs.Ytimjpkmdphccmaa
