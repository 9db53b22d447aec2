/- allotmentref01.walk, Walk, Great: walks. -/
import Derived.Test.YtimjpkmdphccmaaWS1
import Derived.Test.YtimjpkmdphccmaaProg
import Derived.Test.YtimjpkmdphccmaaWS15
import Derived.Test.YtimjpkmdphccmaaWS11
import Derived.Test.YtimjpkmdphccmaaWS10
import Derived.Test.YtimjpkmdphccmaaRows
import Derived.Test.YtimjpkmdphccmaaWS13
import Derived.Tactics
import Derived.Tactics2
import Derived.WalkKit
import Derived.Handy
import Derived.Deep.RegionHeld3
import Derived.Deep.DrawnRows
import Derived.Deep.DeepCutAuto
import Derived.KernelRfl
import Derived.BigRegion
import Derived.BigQuiet
import Derived.Deep.QuietTactic
import Derived.Outline
import Derived.Lib.Hide
import Derived.Laws.EntriesVeiled
import Derived.Laws.Pointers
import Derived.WalkLawsBesides
import Derived.WalkSpells
import Derived.ProofKit
import Derived.OpenShut
import Derived.JoinedCond
import Derived.Below
import Derived.ChangeSame
import Derived.WideKeyArgs
import Derived.Deep.Slices
import Derived.Lib.SmallJoins

namespace Go.Proofs.Ytimjpkmdphccmaa
open Go.RowKit
attribute [local go_sem ↓] Go.wp_at_zero Go.wp_at_succ
set_option linter.unusedVariables false
set_option linter.unusedSimpArgs false

mutual
/-- A tree's nodes with their depths, at most so many behind those that are there already. -/
def Nd.walk (most : Nat) : Nd → List (Nd × Int) → Int → List (Nd × Int)
  | .mk i k t ks, l, d => if most ≤ l.length then l else Nd.walks most ks (l ++ [(.mk i k t ks, d)]) (d + 1)
def Nd.walks (most : Nat) : List Nd → List (Nd × Int) → Int → List (Nd × Int)
  | [], l, _ => l
  | x :: xs, l, d => Nd.walks most xs (Nd.walk most x l d) d
end
theorem Nd.walk_eq (most : Nat) (x : Nd) (l : List (Nd × Int)) (d : Int) : Nd.walk most x l d = if most ≤ l.length then l else Nd.walks most x.kids (l ++ [(x, d)]) (d + 1) := by cases x; rw [Nd.walk]; rfl
theorem Nd.walks_snoc (most : Nat) : ∀ (xs : List Nd) (x : Nd) (l : List (Nd × Int)) (d : Int), Nd.walks most (xs ++ [x]) l d = Nd.walk most x (Nd.walks most xs l d) d
  | [], x, l, d => by simp [Nd.walks]
  | y :: ys, x, l, d => by rw [List.cons_append, Nd.walks, Nd.walks, Nd.walks_snoc most ys x]
mutual
theorem Nd.walk_len (most : Nat) : ∀ (x : Nd) (l : List (Nd × Int)) (d : Int), l.length ≤ (Nd.walk most x l d).length ∧ (Nd.walk most x l d).length ≤ l.length + x.bulk
  | .mk i k t ks, l, d => by
    rw [Nd.walk_eq]
    have hb := Nd.bulk_eq (.mk i k t ks)
    have := Nd.walks_len most ks (l ++ [(.mk i k t ks, d)]) (d + 1)
    simp only [Nd.kids, List.length_append, List.length_singleton] at *
    split <;> omega
theorem Nd.walks_len (most : Nat) : ∀ (xs : List Nd) (l : List (Nd × Int)) (d : Int), l.length ≤ (Nd.walks most xs l d).length ∧ (Nd.walks most xs l d).length ≤ l.length + Nd.bulks xs
  | [], l, d => by simp [Nd.walks, Nd.bulks]
  | x :: xs, l, d => by
    rw [Nd.walks, Nd.bulks]
    have h1 := Nd.walk_len most x l d
    have h2 := Nd.walks_len most xs (Nd.walk most x l d) d
    omega
end

/-- The cells of a row of spots. -/
inductive SpCells (S : Nat → Prop) (w : World) : List (Nd × Int) → List Value → Prop where
  | nil : SpCells S w [] []
  | cons {x : Nd} {d : Int} {xs : List (Nd × Int)} {cs : List Value} {A : Option Addr} {c : Nat} (hc : x.kids.length ≤ c) (hk : KidsIn S w A x.kids) (h : SpCells S w xs cs) :
      SpCells S w ((x, d) :: xs) (.int .i64 x.id :: .int .i64 x.kind :: .string x.text :: .slice A x.kids.length c :: .int .i64 d :: cs)
theorem SpCells.append {S : Nat → Prop} {w : World} {l m : List (Nd × Int)} {cs ds : List Value} (h : SpCells S w l cs) (h' : SpCells S w m ds) : SpCells S w (l ++ m) (cs ++ ds) := by
  induction h with
  | nil => exact h'
  | cons hc hk h ih => exact .cons hc hk ih
theorem SpCells.move {S S' : Nat → Prop} {w w' : World} {l : List (Nd × Int)} {cs : List Value} (h : SpCells S w l cs) (hs : ∀ b, S b → b < w.heap.size → S' b ∧ w'.heap[b]? = w.heap[b]?) : SpCells S' w' l cs := by
  induction h with
  | nil => exact .nil
  | cons hc hk h ih => exact .cons hc (hk.move hs) ih
theorem SpCells.length {S : Nat → Prop} {w : World} {l : List (Nd × Int)} {cs : List Value} (h : SpCells S w l cs) : cs.length = l.length * 5 := by
  induction h with
  | nil => rfl
  | cons hc hk h ih => simp only [List.length_cons, ih]; omega
theorem SpCells.get {S : Nat → Prop} {w : World} {l : List (Nd × Int)} {cs : List Value} (h : SpCells S w l cs) : ∀ i (hi : i < l.length), ∃ A c, cs[i * 5]? = some (.int .i64 l[i].1.id) ∧ cs[i * 5 + 1]? = some (.int .i64 l[i].1.kind) ∧ cs[i * 5 + 2]? = some (.string l[i].1.text) ∧
    cs[i * 5 + 3]? = some (.slice A l[i].1.kids.length c) ∧ cs[i * 5 + 4]? = some (.int .i64 l[i].2) ∧ l[i].1.kids.length ≤ c ∧ KidsIn S w A l[i].1.kids := by
  induction h with
  | nil => intro i hi; simp at hi
  | @cons x d xs cs A c hc hk h ih =>
    intro i hi
    cases i with
    | zero => exact ⟨A, c, rfl, rfl, rfl, rfl, rfl, hc, hk⟩
    | succ i =>
      obtain ⟨A', c', h0, h1, h2, h3, h4, h5, h6⟩ := ih i (by simpa using hi)
      refine ⟨A', c', ?_, ?_, ?_, ?_, ?_, h5, h6⟩
      · rw [show (i + 1) * 5 = i * 5 + 5 by omega]; exact h0
      · rw [show (i + 1) * 5 + 1 = (i * 5 + 1) + 5 by omega]; exact h1
      · rw [show (i + 1) * 5 + 2 = (i * 5 + 2) + 5 by omega]; exact h2
      · rw [show (i + 1) * 5 + 3 = (i * 5 + 3) + 5 by omega]; exact h3
      · rw [show (i + 1) * 5 + 4 = (i * 5 + 4) + 5 by omega]; exact h4

/-- A row of spots of the call's own, over trees that lie below base. -/
def SpRow (base : Nat) (w : World) (v : Value) (l : List (Nd × Int)) : Prop :=
  base ≤ w.heap.size ∧ ∃ cells, w.ownsRow base 72 5 v l.length cells ∧ SpCells (fun b => b < base) w l cells
theorem SpRow.nil (w : World) : SpRow w.heap.size w (.slice none 0 0) [] := ⟨Nat.le_refl _, [], World.ownsRow_nil _ _ _ _, .nil⟩
theorem SpRow.later {base : Nat} {w w' : World} {v : Value} {l : List (Nd × Int)} (h : SpRow base w v l) (hb : Below w.heap.size w w') : SpRow base w' v l := by
  obtain ⟨h0, cells, h1, h2⟩ := h
  exact ⟨Nat.le_trans h0 hb.size, cells, own_below h1 hb, h2.move fun b hS hlt => ⟨hS, hb.block b hlt⟩⟩

def WalkPost (base : Nat) (w : World) (v : Value) (l : List (Nd × Int)) (e : Ending) (w' : World) : Prop :=
  ∃ v', e = .returned v' ∧ SpRow base w' v' l ∧ w.grownBy w' v.ownBlock ∧ RowOf w v.ownBlock v'

set_option maxRecDepth 100000 in
set_option maxHeartbeats 1000000 in
theorem walk_calls (base most : Nat) (hm : most ≤ 1099511627776) (x : Nd) : ∀ (v : Value) (l : List (Nd × Int)) (A : Option Addr) (c : Nat) (d : Int) (w : World), SpRow base w v l → KidsIn (fun b => b < base) w A x.kids → x.kids.length ≤ c → x.bulk ≤ 1099511627776 → l.length + x.bulk ≤ 2199023255552 → 0 ≤ d → d + x.bulk ≤ 2199023255552 →
    Calls Try.prog 39 #[v, .agg #[.int .i64 x.id, .int .i64 x.kind, .string x.text, .slice A x.kids.length c], .int .i64 d, .int .i64 most] w (WalkPost base w v (Nd.walk most x l d)) := by
  induction x using Nd.induct with
  | h x ih =>
  intro v l A c d w hrow ha hc hN hlN hd0 hdN
  have hlen := x.kids_le
  obtain ⟨iS, jS, jS0, jS1, jS2⟩ := info_parts info_Spot
  obtain ⟨hb0, cells, hown, hcells⟩ := hrow
  by_cases hge : most ≤ l.length
  · have e : Nd.walk most x l d = l := by rw [Nd.walk_eq, if_pos hge]
    have HE := Lib.hid e
    clear e ih
    obtain ⟨Av, cv, rfl⟩ : ∃ Av cv, v = .slice Av l.length cv := by
      rcases hown.2 with ⟨rfl, h0⟩ | ⟨g, cap, cur, rfl, _⟩
      · exact ⟨none, 0, by rw [h0]⟩
      · exact ⟨_, cap, rfl⟩
    go_enter Try.func39, Try.ntmps39
    go_wp2
    go_ret
    refine ⟨_, rfl, ?_, ?_, .inl rfl⟩
    · rw [HE.out]; exact SpRow.later ⟨hb0, cells, hown, hcells⟩ (by go_grown)
    · exact grown_of_below (by go_grown) _
  · have e : Nd.walk most x l d = Nd.walks most x.kids (l ++ [(x, d)]) (d + 1) := by rw [Nd.walk_eq, if_neg hge]
    rw [e]
    clear e
    have hge' : l.length < most := by omega
    clear hge
    obtain ⟨Av, cv, rfl⟩ : ∃ Av cv, v = .slice Av l.length cv := by
      rcases hown.2 with ⟨rfl, h0⟩ | ⟨g, cap, cur, rfl, _⟩
      · exact ⟨none, 0, by rw [h0]⟩
      · exact ⟨_, cap, rfl⟩
    go_enter Try.func39, Try.ntmps39
    go_wp2_with (at_builtin; go_loud (refine wpList_append_lies _ rfl _ _ _ rfl base 72 iS _ 5 64 Try.underlying28 jS jS0 jS1 jS2 rfl (by omega) (.slice Av l.length cv) l.length cells rfl ((hown.alloc _).alloc _) ⟨w.heap.size + 1, 0, none⟩ 1 1 [.int .i64 x.id, .int .i64 x.kind, .string x.text, .slice A x.kids.length c, .int .i64 d] rfl rfl (World.news_of_block (alloc_new1 w _ _)) (by simp [Value.oneCell']) (by omega) (by unfold maxLen; omega) (by omega) (by simp; omega) (w.heap.size + 2) (by simp) ?_); intro g cap w3 hown3 hgrow hat hlt3)
    obtain ⟨W1, hW1⟩ : ∃ W1, w.alloc (.cells #[.int .i64 x.id, .int .i64 x.kind, .string x.text, .slice A x.kids.length c] 24) = W1 := ⟨_, rfl⟩
    have hz1 : W1.heap.size = w.heap.size + 1 := by rw [← hW1]; simp
    have hvb : ∀ b, (Value.slice Av l.length cv).ownBlock = some b → base ≤ b ∧ b < w.heap.size := fun b hb => hown.lt b hb
    have hbx1 : W1.heap[w.heap.size]? = some (.cells #[.int .i64 x.id, .int .i64 x.kind, .string x.text, .slice A x.kids.length c] 24 (0, 0)) := by rw [← hW1]; exact alloc_new _ _
    have hg1 : W1.grownBy w3 (Value.slice Av l.length cv).ownBlock := by
      rw [hW1] at hgrow
      exact World.grownBy.trans (World.grownBy_alloc W1 _ _) hgrow
    have hcells1 : SpCells (fun b => b < base) w3 (l ++ [(x, d)]) (cells ++ [.int .i64 x.id, .int .i64 x.kind, .string x.text, .slice A x.kids.length c, .int .i64 d]) := by
      have hkeep : ∀ b, b < base → b < w.heap.size → w3.heap[b]? = w.heap[b]? := fun b hb hlt =>
        (hg1.block b (by omega) (fun he => by have := (hvb b he.symm).1; omega)).trans (by rw [← hW1]; exact Below.heap_alloc _ _ _ hlt)
      exact (hcells.move fun b hb hlt => ⟨hb, hkeep b hb hlt⟩).append (.cons hc (ha.move fun b hb hlt => ⟨hb, hkeep b hb hlt⟩) .nil)
    have hrow3 : SpRow base w3 (.slice (some ⟨g, 0, none⟩) (l.length + 1) cap) (l ++ [(x, d)]) := by
      refine ⟨by have := hg1.size; omega, _, ?_, hcells1⟩
      simpa using hown3
    have hro3 : RowOf W1 (Value.slice Av l.length cv).ownBlock (.slice (some ⟨g, 0, none⟩) (l.length + 1) cap) := by
      rcases hat with hat | hat
      · exact .inl hat.symm
      · exact .inr fun b hb => by simp [Value.ownBlock] at hb; omega
    clear hown3 hgrow hat hcells1 hlt3 hown hcells
    have ha1 : KidsIn (fun b => b < base) W1 A x.kids := by rw [← hW1]; exact ha.alloc _
    have hB1 : Below w.heap.size w W1 := by rw [← hW1]; go_grown
    clear hW1
    go_loopw [0, 9] (fun v0 v9 wr => ∃ k : Nat, v9 = .int .i64 k ∧ k ≤ x.kids.length ∧ SpRow base wr v0 (Nd.walks most (x.kids.take k) (l ++ [(x, d)]) (d + 1)) ∧ W1.grownBy wr (Value.slice Av l.length cv).ownBlock ∧ RowOf W1 (Value.slice Av l.length cv).ownBlock v0) (fun _ v9 _ => x.kids.length - (intOf v9).toNat)
    case atStart => exact ⟨0, rfl, Nat.zero_le _, by simpa [Nd.walks] using hrow3, hg1, hro3⟩
    case round =>
      obtain ⟨k, rfl, hk, hrowk, hgk, hrok⟩ := hrel
      have hbk := (hgk.block w.heap.size (by omega) (fun he => by have := (hvb _ he.symm).2; omega)).trans hbx1
      obtain ⟨f0, f1, f2, f3, fz⟩ := blk4 hbk
      by_cases hlt : k < x.kids.length
      · obtain ⟨ba, oa, rfl, hba, na⟩ := (ha1.move (w' := wr) (S' := fun b => b < base) fun b hb hlt' => ⟨hb, hgk.block b hlt' (fun he => by have := (hvb b he.symm).1; omega)⟩).get k hlt
        obtain ⟨x0, x1, x2, A1, q1, x3, hq1, ka⟩ := ndIn_open na
        have hkb := Nd.kid_bulk (List.getElem_mem hlt)
        have hwl := Nd.walks_len most (x.kids.take k) (l ++ [(x, d)]) (d + 1)
        have hbt := Nd.bulks_take hlt
        have hbe := Nd.bulk_eq x
        simp only [List.length_append, List.length_singleton] at hwl
        have i1 : (0 : Int) ≤ (k : Int) := Int.natCast_nonneg _
        have i2 : (k : Int) < (x.kids.length : Int) := by omega
        have HC := Lib.hid (ih _ (List.getElem_mem hlt) u0 _ A1 q1 (d + 1) wr hrowk ka hq1 (by omega) (by omega) (by omega) (by omega))
        clear ih hbe
        go_wp2_with fail
        refine HC.out.mono ?_
        rintro e w2 ⟨v', rfl, hr2, hg2, ho2⟩
        go_wp2
        go_roundw
        case rel =>
          refine ⟨k + 1, by go_num, by omega, ?_, ?_, ?_⟩
          · rw [take_snoc hlt, Nd.walks_snoc]; exact hr2
          · exact grown_step hgk hg2 hrok
          · rcases ho2 with ho2 | ho2
            · rw [RowOf, ho2]; exact hrok
            · exact .inr fun b hb => by have := ho2 b hb; have := hgk.size; omega
        case measure => simp [intOf]; omega
      · have g5 : decide (k < x.kids.length) = false := by simpa using hlt
        go_wp2
        go_ret
        have hkx : x.kids.take k = x.kids := List.take_of_length_le (by omega)
        rw [hkx] at hrowk
        refine ⟨_, rfl, hrowk, ?_, ?_⟩
        · exact grown_step (grown_of_below (w := w) (w1 := W1) hB1 _) hgk (.inl rfl)
        · rcases hrok with h | h
          · exact .inl h
          · exact .inr fun b hb => by have := h b hb; omega

/-- What Walk hands back. -/
def WalkMade (w : World) (l : List (Nd × Int)) (e : Ending) (w' : World) : Prop := ∃ v, e = .returned v ∧ SpRow w.heap.size w' v l ∧ Below w.heap.size w w'

set_option maxRecDepth 100000 in
theorem Walk_calls (most : Nat) (hm : most ≤ 1099511627776) (x : Nd) (A : Option Addr) (c : Nat) (w : World) (ha : KidsAt w A x.kids) (hc : x.kids.length ≤ c) (hN : x.bulk ≤ 1099511627776) :
    Calls Try.prog 13 #[.agg #[.int .i64 x.id, .int .i64 x.kind, .string x.text, .slice A x.kids.length c], .int .i64 most] w (WalkMade w (Nd.walk most x [] 1)) := by
  have ha' : KidsIn (fun b => b < w.heap.size) w A x.kids := ha.lt.mono fun b hb => hb.2
  have hrow : SpRow w.heap.size (w.alloc (.cells #[.int .i64 x.id, .int .i64 x.kind, .string x.text, .slice A x.kids.length c] 24)) (.slice none 0 0) [] := (SpRow.nil w).later (by go_grown)
  have HC := Lib.hid (walk_calls w.heap.size most hm x (.slice none 0 0) [] A c 1 (w.alloc (.cells #[.int .i64 x.id, .int .i64 x.kind, .string x.text, .slice A x.kids.length c] 24)) hrow (ha'.alloc _) hc hN (by simp; omega) (by omega) (by omega))
  clear hrow
  go_enter Try.func13, Try.ntmps13
  go_wp2_with fail
  refine HC.out.mono ?_
  rintro e w2 ⟨v', rfl, hr2, hg2, ho2⟩
  go_wp2
  go_ret
  refine ⟨_, rfl, hr2, ?_⟩
  exact (Below.refl _ w).alloc (Nat.le_refl _) _ |>.grown hg2 (by simp) (by simp [Value.ownBlock])

def Nd.great (x : Nd) : Bool := decide (2000 < (Nd.walk 2001 x [] 1).length) || (Nd.walk 2001 x [] 1).any fun s => decide (2000 < s.2)

set_option maxRecDepth 100000 in
set_option maxHeartbeats 1000000 in
theorem Great_calls (x : Nd) (A : Option Addr) (c : Nat) (w : World) (ha : KidsAt w A x.kids) (hc : x.kids.length ≤ c) (hN : x.bulk ≤ 1099511627776) :
    Calls Try.prog 23 #[.agg #[.int .i64 x.id, .int .i64 x.kind, .string x.text, .slice A x.kids.length c]] w fun e w' => e = .returned (.bool (Nd.great x)) ∧ Below w.heap.size w w' := by
  have HC := Lib.hid (Walk_calls 2001 (by omega) x A c (w.alloc (.cells #[.int .i64 x.id, .int .i64 x.kind, .string x.text, .slice A x.kids.length c] 24)) (ha.alloc _) hc hN)
  have HG : Hid (Nd.great x = (decide (2000 < (Nd.walk 2001 x [] 1).length) || (Nd.walk 2001 x [] 1).any fun s => decide (2000 < s.2))) := Lib.hid rfl
  have hwl := (Nd.walk_len 2001 x [] 1).2
  simp only [List.length_nil, Nat.zero_add] at hwl
  go_enter Try.func23, Try.ntmps23
  go_wp2_with fail
  refine HC.out.mono ?_
  clear HC
  rintro e w2 ⟨v', rfl, ⟨hb2, cells, hown, hcells⟩, hbel⟩
  have hB : Below w.heap.size w w2 := (by go_grown : Below w.heap.size w (w.alloc (.cells #[.int .i64 x.id, .int .i64 x.kind, .string x.text, .slice A x.kids.length c] 24))).trans (hbel.mono (by simp))
  revert HG hown hcells hwl
  generalize Nd.walk 2001 x [] 1 = l
  intro HG hwl hown hcells
  obtain ⟨Av, cv, rfl⟩ : ∃ Av cv, v' = .slice Av l.length cv := by
    rcases hown.2 with ⟨rfl, h0⟩ | ⟨g, cap, cur, rfl, _⟩
    · exact ⟨none, 0, by rw [h0]⟩
    · exact ⟨_, cap, rfl⟩
  by_cases h2 : 2000 < l.length
  · go_wp2
    go_ret
    exact ⟨ret_bool (by rw [HG.out]; simp [h2]), hB⟩
  · go_wp2
    go_loopw [4] (fun v4 wr => ∃ k : Nat, v4 = .int .i64 k ∧ k ≤ l.length ∧ (∀ s ∈ l.take k, s.2 ≤ 2000) ∧ wr = w2) (fun v4 _ => l.length - (intOf v4).toNat)
    case atStart => exact ⟨0, rfl, Nat.zero_le _, by simp, rfl⟩
    case round =>
      obtain ⟨k, rfl, hk, hs, rfl⟩ := hrel
      have HS := Lib.hid hs
      clear hs
      by_cases hlt : k < l.length
      · obtain ⟨g, cap, hv, hg0, hg1⟩ := hown.form (by omega)
        obtain ⟨A1, c1, p0, p1, p2, p3, p4, _⟩ := hcells.get k hlt
        have hAv : Av = some ⟨g, 0, none⟩ := by injection hv
        subst hAv
        have q4 := hown.cells (g := g) rfl _ _ p4
        rw [addr_add, Nat.zero_add] at q4
        have i1 : (0 : Int) ≤ (k : Int) := Int.natCast_nonneg _
        have i2 : (k : Int) < (l.length : Int) := by omega
        clear p0 p1 p2 p3 p4
        go_wp2
        · go_ret
          have hgt : 2000 < l[k].2 := by assumption
          refine ⟨ret_bool ?_, hB⟩
          rw [HG.out]
          have : (l.any fun s => decide (2000 < s.2)) = true := List.any_eq_true.2 ⟨l[k], List.getElem_mem hlt, by simpa using hgt⟩
          simp [this]
        · go_roundw
          case rel =>
            refine ⟨k + 1, by go_num, by omega, ?_, by trivial⟩
            intro s hs
            rw [take_snoc hlt, List.mem_append, List.mem_singleton] at hs
            rcases hs with hs | rfl
            · exact HS.out s hs
            · have : l[k].2 ≤ 2000 := by assumption
              exact this
          case measure => simp [intOf]; omega
      · have g5 : decide (k < l.length) = false := by simpa using hlt
        go_wp2
        go_ret
        refine ⟨ret_bool ?_, hB⟩
        rw [HG.out]
        have hkx : l.take k = l := List.take_of_length_le (by omega)
        have hs := HS.out
        rw [hkx] at hs
        have : (l.any fun s => decide (2000 < s.2)) = false := by
          rw [List.any_eq_false]
          intro s hs'
          have := hs s hs'
          simp; omega
        simp [this, h2]
end Go.Proofs.Ytimjpkmdphccmaa

/- allotmentlaw14.WireSteps: a walk. -/
namespace Go.Proofs.Ytimjpkmdphccmaa
open Go.RowKit
attribute [local go_sem ↓] Go.wp_at_zero Go.wp_at_succ
set_option linter.unusedVariables false
set_option linter.unusedSimpArgs false

set_option maxRecDepth 100000 in
set_option maxHeartbeats 4000000 in
theorem lawSteps_calls (s : Stp) (t : Nd) (A A2 : Option Addr) (c c2 : Nat) (w : World) (hs : KidsAt w A s.sub.kids) (hc : s.sub.kids.length ≤ c) (ht : KidsAt w A2 t.kids) (hc2 : t.kids.length ≤ c2) (hN : s.bulk ≤ 1048576) (hN2 : t.bulk ≤ 1048576) :
    Calls Try.prog 5 #[.agg #[.int .i8 s.op, .int .i64 s.id, .int .i64 s.parent, .int .i64 s.place, .string s.text, .int .i64 s.sub.id, .int .i64 s.sub.kind, .string s.sub.text, .slice A s.sub.kids.length c], .agg #[.int .i64 t.id, .int .i64 t.kind, .string t.text, .slice A2 t.kids.length c2]] w fun e w' => e = .returned (.bool true) ∧ Below w.heap.size w w' := by
  rw [Stp.bulk] at hN
  have G1 := Lib.hid fun W (h : Below w.heap.size w W) => Great_calls t A2 c2 W (ht.below h) hc2 (by omega)
  have G2 := Lib.hid fun W (h : Below w.heap.size w W) => Great_calls s.sub A c W (hs.below h) hc (by omega)
  have S1 := Lib.hid fun W (h : Below w.heap.size w W) => wireStep_calls s A c W (hs.below h) hc (by omega) (by omega)
  have S2 : Hid (∀ W, Below w.heap.size w W → Calls Try.prog 25 #[.agg #[.int .i8 s.op, .int .i64 s.id, .int .i64 s.parent, .int .i64 s.place, .string s.text, .int .i64 s.sub.id, .int .i64 s.sub.kind, .string s.sub.text, .slice A s.sub.kids.length c]] W fun e w' => e = .returned (.bool (okStep s)) ∧ Below W.heap.size W w') := Lib.hid fun W h => by
    rw [okStep_same]; exact refStep_calls s A c W (hs.below h) hc (by omega) (by omega)
  have T1 := Lib.hid fun W (h : Below w.heap.size w W) => wireTree_calls t (by omega) A2 c2 W (ht.below h) hc2
  have T2 := Lib.hid fun W (h : Below w.heap.size w W) => refTreeTop_calls t A2 c2 W (ht.below h) hc2 (by omega)
  generalize okStep s = b1 at S1 S2
  generalize okTree t = b2 at T1 T2
  generalize Nd.great t = g1 at G1
  generalize Nd.great s.sub = g2 at G2
  clear hs ht
  go_enter Try.func5, Try.ntmps5
  go_upto_region 1 with (fail)
  generalize hW : (w.alloc _).alloc _ = W0
  have hB : Below w.heap.size w W0 := by rw [← hW]; go_grown
  have hx : W0.heap[w.heap.size]? = some (.cells [.int .i8 s.op, .int .i64 s.id, .int .i64 s.parent, .int .i64 s.place, .string s.text, .int .i64 s.sub.id, .int .i64 s.sub.kind, .string s.sub.text, .slice A s.sub.kids.length c].toArray 32 (0, 0)) := by rw [← hW]; exact alloc_old (alloc_new w _) _
  have hy : W0.heap[w.heap.size + 1]? = some (.cells #[.int .i64 t.id, .int .i64 t.kind, .string t.text, .slice A2 t.kids.length c2] 24 (0, 0)) := by rw [← hW]; exact alloc_new1 w _ _
  clear hW
  obtain ⟨y0, y1, y2, y3, yz⟩ := blk4 hy
  go_wp2_with fail
  refine (G1.out _ hB).mono ?_
  rintro e W1 ⟨rfl, hb1⟩
  have hB1 := below_from hB hB.size hb1
  have hx1 := (hb1.block _ (Array.getElem?_eq_some_iff.1 hx).1).trans hx
  have hy1 := (hb1.block _ (Array.getElem?_eq_some_iff.1 hy).1).trans hy
  clear y0 y1 y2 y3 yz
  obtain ⟨x0, x1, x2, x3, x4, x5, x6, x7, x8, xz⟩ := blk9 hx1
  cases g1 with
  | true =>
    go_wp2_with fail
    refine (wakes14_calls W1).mono ?_
    rintro e W2 ⟨rfl, hb2⟩
    have hB2 := below_from hB1 hB1.size hb2
    go_wp2
    go_ret
    exact ⟨rfl, hB2⟩
  | false =>
    go_wp2_with fail
    refine (G2.out _ hB1).mono ?_
    rintro e W2 ⟨rfl, hb2⟩
    have hB2 := below_from hB1 hB1.size hb2
    have hx2 := (hb2.block _ (Array.getElem?_eq_some_iff.1 hx1).1).trans hx1
    have hy2 := (hb2.block _ (Array.getElem?_eq_some_iff.1 hy1).1).trans hy1
    clear x0 x1 x2 x3 x4 x5 x6 x7 x8 xz G1 G2
    cases g2 with
    | true =>
      go_wp2_with fail
      refine (wakes14_calls W2).mono ?_
      rintro e W3 ⟨rfl, hb3⟩
      have hB3 := below_from hB2 hB2.size hb3
      go_wp2
      go_ret
      exact ⟨rfl, hB3⟩
    | false =>
      go_upto_region 3 with (fail)
      obtain ⟨x0, x1, x2, x3, x4, x5, x6, x7, x8, xz⟩ := blk9 hx2
      obtain ⟨y0, y1, y2, y3, yz⟩ := blk4 hy2
      have eb : ∀ b : Bool, (b == b) = true := fun b => by simp
      (go_region_held3 (fun w' => (w'.cell? ⟨w.heap.size, 0, none⟩ = some (.int .i8 s.op) ∧ w'.cell? ⟨w.heap.size, 1, none⟩ = some (.int .i64 s.id) ∧ w'.cell? ⟨w.heap.size, 2, none⟩ = some (.int .i64 s.parent) ∧ w'.cell? ⟨w.heap.size, 3, none⟩ = some (.int .i64 s.place) ∧ w'.cell? ⟨w.heap.size, 4, none⟩ = some (.string s.text) ∧ w'.cell? ⟨w.heap.size, 5, none⟩ = some (.int .i64 s.sub.id) ∧ w'.cell? ⟨w.heap.size, 6, none⟩ = some (.int .i64 s.sub.kind) ∧ w'.cell? ⟨w.heap.size, 7, none⟩ = some (.string s.sub.text) ∧ w'.cell? ⟨w.heap.size, 8, none⟩ = some (.slice A s.sub.kids.length c)) ∧ (w'.cell? ⟨w.heap.size + 1, 0, none⟩ = some (.int .i64 t.id) ∧ w'.cell? ⟨w.heap.size + 1, 1, none⟩ = some (.int .i64 t.kind) ∧ w'.cell? ⟨w.heap.size + 1, 2, none⟩ = some (.string t.text) ∧ w'.cell? ⟨w.heap.size + 1, 3, none⟩ = some (.slice A2 t.kids.length c2)))
            (first | go_keep | (go_split_ands; (repeat' apply And.intro) <;> exact cell_keep hbk (by assumption)))
            (first
              | (go_at_call 24; refine (S1.out _ (below_drewN hB2 1)).mono ?_; rintro e W3 ⟨rfl, hbk⟩; have hB3 := below_from (below_drewN hB2 1) hB2.size hbk)
              | (go_at_call 25; refine (S2.out _ hB3).mono ?_; rintro e W4 ⟨rfl, hbk⟩; have hB4 := below_from hB3 hB3.size hbk)
              | (go_at_call 26; refine (T1.out _ hB4).mono ?_; rintro e W5 ⟨rfl, hbk⟩; have hB5 := below_from hB4 hB4.size hbk)
              | (go_at_call 27; refine (T2.out _ hB5).mono ?_; rintro e W6 ⟨rfl, hbk⟩; have hB6 := below_from hB5 hB5.size hbk)
              | (go_at_call 18; refine (wakes14_calls _).mono ?_; rintro e W7 ⟨rfl, hbk⟩; have hB7 := below_from hB6 hB6.size hbk)))
      all_goals
        go_wp2
        go_ret
        exact ⟨by simp, hB7⟩
end Go.Proofs.Ytimjpkmdphccmaa

/- A law's arguments read as data: trees, steps, messages, bytes: what the form hands over is what the walks want. -/
namespace Go.Proofs.Ytimjpkmdphccmaa
open Go.RowKit Go.WideShapes Go.ChangeShapes Go.ChangeAt
set_option linter.unusedVariables false
set_option linter.unusedSimpArgs false

theorem cellsNode : Try.prog.cellsOf 24 = 4 := by kernel_rfl
theorem cellsStep : Try.prog.cellsOf 32 = 9 := by kernel_rfl
theorem cellsMsg : Try.prog.cellsOf 41 = 16 := by kernel_rfl
theorem cellsInt : Try.prog.cellsOf 3 = 1 := by kernel_rfl
theorem cellsStr : Try.prog.cellsOf 9 = 1 := by kernel_rfl
theorem cellsI8 : Try.prog.cellsOf 30 = 1 := by kernel_rfl
theorem cellsErr : Try.prog.cellsOf 33 = 1 := by kernel_rfl
theorem cellsNds : Try.prog.cellsOf 22 = 1 := by kernel_rfl
theorem cellsSts : Try.prog.cellsOf 25 = 1 := by kernel_rfl
theorem cellsU8 : Try.prog.cellsOf 5 = 1 := by kernel_rfl

theorem list4 {α : Type} {cs : List α} (h : cs.length = 4) : ∃ c0 c1 c2 c3, cs = [c0, c1, c2, c3] := by
  match cs, h with
  | [c0, c1, c2, c3], _ => exact ⟨_, _, _, _, rfl⟩
theorem list6 {α : Type} {cs : List α} (h : cs.length = 6) : ∃ c0 c1 c2 c3 c4 c5, cs = [c0, c1, c2, c3, c4, c5] := by
  match cs, h with
  | [c0, c1, c2, c3, c4, c5], _ => exact ⟨_, _, _, _, _, _, rfl⟩
set_option maxRecDepth 10000 in
theorem list9 {α : Type} {cs : List α} (h : cs.length = 9) : ∃ c0 c1 c2 c3 c4 c5 c6 c7 c8, cs = [c0, c1, c2, c3, c4, c5, c6, c7, c8] := by
  match cs, h with
  | [c0, c1, c2, c3, c4, c5, c6, c7, c8], _ => exact ⟨_, _, _, _, _, _, _, _, _, rfl⟩
instance : Inhabited Stp := ⟨⟨0, 0, 0, 0, ⟨#[]⟩, default⟩⟩
section
variable {H : Type} {enc : TypeId × Value → H} {w : World}
theorem all_le {d : DataW H} {l : List (DataW H)} (h : d ∈ l) : Rows.uptoBulk d ≤ Rows.uptoBulkAll l := by
  induction l with
  | nil => simp at h
  | cons x xs ih =>
    rw [Rows.uptoBulkAll]
    rcases List.mem_cons.1 h with rfl | h
    · omega
    · have := ih h; omega
theorem all_range (D : Nat → DataW H) (f : Nat → Nat) : ∀ (n : Nat), (∀ i, i < n → f i ≤ Rows.uptoBulk (D i)) → ((List.range n).map f).sum ≤ Rows.uptoBulkAll ((List.range n).map D)
  | 0, _ => by simp
  | n + 1, h => by
    have ih := all_range D f n fun i hi => h i (by omega)
    have hn := h n (by omega)
    have e : ∀ (l m : List (DataW H)), Rows.uptoBulkAll (l ++ m) = Rows.uptoBulkAll l + Rows.uptoBulkAll m := by
      intro l m
      induction l with
      | nil => simp [Rows.uptoBulkAll]
      | cons x xs ih => rw [List.cons_append, Rows.uptoBulkAll, Rows.uptoBulkAll, ih]; omega
    rw [List.range_succ, List.map_append, List.map_append, List.sum_append, e]
    simp only [List.map_cons, List.map_nil, List.sum_cons, List.sum_nil, Rows.uptoBulkAll]
    omega
theorem bulks_sum : ∀ l : List Nd, Nd.bulks l = (l.map Nd.bulk).sum
  | [] => rfl
  | x :: xs => by rw [Nd.bulks, List.map_cons, List.sum_cons, bulks_sum xs]
theorem stepsBulk_sum : ∀ l : List Stp, stepsBulk l = (l.map Stp.bulk).sum
  | [] => rfl
  | x :: xs => by rw [stepsBulk, List.map_cons, List.sum_cons, stepsBulk_sum xs]
theorem spot_none {a : Addr} {v : Value} (h : w.cell? a = some v) : a = ⟨a.block, a.off, none⟩ := by
  obtain ⟨b, o, s⟩ := a
  cases s with
  | none => rfl
  | some k =>
    exfalso
    unfold World.cell? at h
    split at h
    · simp at h
    · cases h
theorem wf_i64 {n : Int} (h : (Lit.int .i64 n).wf = true) : -9223372036854775808 ≤ n ∧ n ≤ 9223372036854775807 := by
  simpa [Lit.wf, IntKind.min, IntKind.max, IntKind.signed, IntKind.bits] using h
theorem wf_i8 {n : Int} (h : (Lit.int .i8 n).wf = true) : -128 ≤ n ∧ n ≤ 127 := by
  simpa [Lit.wf, IntKind.min, IntKind.max, IntKind.signed, IntKind.bits] using h
theorem upto_pos (d : DataW H) : 1 ≤ Rows.uptoBulk d := by
  cases d with
  | lit l => cases l <;> simp [Rows.uptoBulk]
  | nil => simp [Rows.uptoBulk]
  | ptr d => simp [Rows.uptoBulk]
  | slice elems spare => simp [Rows.uptoBulk]
  | agg parts => simp [Rows.uptoBulk]
  | iface t d => simp [Rows.uptoBulk]
  | map entries => simp [Rows.uptoBulk]
  | held h => simp [Rows.uptoBulk]

/-- A node's four cells, read. -/
def ndGood (w : World) (cs : List Value) (d : DataW H) (n : Nd) : Prop :=
  ∃ A c, cs = [.int .i64 n.id, .int .i64 n.kind, .string n.text, .slice A n.kids.length c] ∧ n.kids.length ≤ c ∧ KidsAt w A n.kids ∧ n.wf ∧ n.bulk ≤ Rows.uptoBulk d
theorem trod_i64 {t : TypeId} {fuel : Nat} {cs : List Value} {x : DataW H × List MemPlace} (ht : Try.prog.underlying t = some (.int .i64)) (h : DataW.trod enc Try.prog w 0 (fun _ => true) true fuel t cs = some x) :
    ∃ n, cs = [.int .i64 n] ∧ x.1 = .lit (.int .i64 n) ∧ -9223372036854775808 ≤ n ∧ n ≤ 9223372036854775807 := by
  obtain ⟨n, rfl, rfl, hw⟩ := DataW.trod_int ht h
  exact ⟨n, rfl, rfl, wf_i64 hw⟩
theorem trod_i8 {t : TypeId} {fuel : Nat} {cs : List Value} {x : DataW H × List MemPlace} (ht : Try.prog.underlying t = some (.int .i8)) (h : DataW.trod enc Try.prog w 0 (fun _ => true) true fuel t cs = some x) :
    ∃ n, cs = [.int .i8 n] ∧ x.1 = .lit (.int .i8 n) ∧ -128 ≤ n ∧ n ≤ 127 := by
  obtain ⟨n, rfl, rfl, hw⟩ := DataW.trod_int ht h
  exact ⟨n, rfl, rfl, wf_i8 hw⟩
theorem trod_str {fuel : Nat} {cs : List Value} {x : DataW H × List MemPlace} (h : DataW.trod enc Try.prog w 0 (fun _ => true) true fuel 9 cs = some x) :
    ∃ s : ByteArray, cs = [.string s] ∧ Rows.uptoBulk x.1 = s.size + 1 := by
  obtain ⟨s, rfl, rfl, hs⟩ := DataW.trod_string Try.underlying9 h
  refine ⟨s, rfl, ?_⟩
  simp only [Rows.uptoBulk]
  rw [Array.length_toList]; rfl

theorem open_nd : ∀ (N : Nat) (fuel : Nat) (cs : List Value) (x : DataW H × List MemPlace), Rows.uptoBulk x.1 ≤ N → DataW.trod enc Try.prog w 0 (fun _ => true) true fuel 24 cs = some x → ∃ n : Nd, ndGood w cs x.1 n := by
  intro N
  induction N with
  | zero => intro fuel cs x hN _; have := upto_pos x.1; omega
  | succ N ih =>
    intro fuel cs x hN h
    obtain ⟨y0, y1, y2, y3, n, rfl, hl, h0, h1, h2, h3⟩ := Joins.trod_struct4 Try.underlying24 h
    rw [cellsNode] at hl
    obtain ⟨c0, c1, c2, c3, rfl⟩ := list4 hl
    simp only [cellsInt, cellsStr, cellsNds, List.drop_zero, List.take_succ_cons, List.take_zero, List.drop_succ_cons] at h0 h1 h2 h3
    obtain ⟨i, hi, e0, i0, i1⟩ := trod_i64 Try.underlying3 h0
    obtain ⟨k, hk, e1, k0, k1⟩ := trod_i64 Try.underlying3 h1
    obtain ⟨s, hs, e2⟩ := trod_str h2
    injection hi with hi; subst hi
    injection hk with hk; subst hk
    injection hs with hs; subst hs
    have hB : Rows.uptoBulk (DataW.agg [y0.1, y1.1, y2.1, y3.1]) = 1 + 1 + (s.size + 1) + Rows.uptoBulk y3.1 + 1 := by
      simp only [Rows.uptoBulk, Rows.uptoBulkAll, e0, e1, e2]; omega
    rw [hB] at hN
    rcases Deep.open_slice Try.underlying22 h3 with ⟨hc, rfl⟩ | ⟨a, len, cap, m, n', D, Pl, hc, _, hle, hcap, hm, rfl, hx⟩
    · injection hc with hc; subst hc
      refine ⟨.mk i k s [], none, 0, rfl, Nat.le_refl _, .inl rfl, ?_, ?_⟩
      · rw [Nd.wf_eq]; exact ⟨i0, i1, k0, k1, trivial⟩
      · rw [hB, Nd.bulk_eq]; simp only [Nd.text, Nd.kids, Nd.bulks, Rows.uptoBulk]; omega
    · injection hc with hc; subst hc
      simp only [if_true] at hm
      subst hm
      have hall : ∀ j, j < len → ∃ y : Nd, ∃ cs', w.cells? 0 (a.add (j * 4)) 4 = some cs' ∧ ndGood w cs' (D j) y := fun j hj => by
        obtain ⟨cs', q1, q2⟩ := hx j (by omega)
        rw [cellsNode] at q1
        have hd : Rows.uptoBulk (D j) ≤ N := by
          have h1 : Rows.uptoBulk (D j) ≤ Rows.uptoBulkAll ((List.range len).map D) := all_le (List.mem_map.2 ⟨j, List.mem_range.2 hj, rfl⟩)
          simp only [Rows.uptoBulk] at hN
          omega
        obtain ⟨y, hy⟩ := ih n' cs' (D j, Pl j) hd q2
        exact ⟨y, cs', q1, hy⟩
      obtain ⟨V, hV⟩ := Deep.choose_lt hall
      have hlen : ((List.range len).map V).length = len := by simp
      refine ⟨.mk i k s ((List.range len).map V), some a, m, by simp [Nd.id, Nd.kind, Nd.text, Nd.kids], by simp [Nd.kids]; exact hle, ?_, ?_, ?_⟩
      · simp only [Nd.kids]
        rcases Nat.eq_zero_or_pos len with h0 | h0
        · exact .inl (by rw [h0]; rfl)
        · have hsp : a = ⟨a.block, a.off, none⟩ := by
            obtain ⟨cs', q1, A, c, rfl, _⟩ := hV 0 h0
            obtain ⟨_, _, q2⟩ := World.cells?_some q1
            have := q2 0 (by omega)
            simp only [Nat.zero_mul] at this
            exact spot_none this
          refine .inr ⟨a.block, a.off, by rw [← hsp], trivial, ndsIn_of_get fun j hj => ?_⟩
          rw [hlen] at hj
          obtain ⟨cs', q1, A, c, rfl, p1, p2, p3, p4⟩ := hV j hj
          obtain ⟨_, _, q2⟩ := World.cells?_some q1
          rw [hsp, addr_add] at q2
          have g0 := q2 0 (by omega)
          have g1 := q2 1 (by omega)
          have g2 := q2 2 (by omega)
          have g3 := q2 3 (by omega)
          simp only [addr_add] at g0 g1 g2 g3
          rw [List.getElem_map, List.getElem_range]
          exact ndIn_iff.2 ⟨by simpa using g0, by simpa using g1, by simpa using g2, A, c, by simpa using g3, p1, p2⟩
      · rw [Nd.wf_eq]
        refine ⟨i0, i1, k0, k1, (Nd.wfs_iff _).2 fun y hy => ?_⟩
        simp only [Nd.kids, List.mem_map, List.mem_range] at hy
        obtain ⟨j, hj, rfl⟩ := hy
        obtain ⟨cs', q1, A, c, _, _, _, p3, _⟩ := hV j hj
        exact p3
      · rw [hB, Nd.bulk_eq]
        simp only [Nd.text, Nd.kids, Rows.uptoBulk]
        rw [bulks_sum, List.map_map]
        have := all_range D (Nd.bulk ∘ V) len fun j hj => by
          obtain ⟨cs', q1, A, c, _, _, _, _, p4⟩ := hV j hj
          exact p4
        omega

/-- A step's nine cells, read. -/
def stGood (w : World) (cs : List Value) (d : DataW H) (s : Stp) : Prop :=
  ∃ A c, cs = [.int .i8 s.op, .int .i64 s.id, .int .i64 s.parent, .int .i64 s.place, .string s.text, .int .i64 s.sub.id, .int .i64 s.sub.kind, .string s.sub.text, .slice A s.sub.kids.length c] ∧ s.sub.kids.length ≤ c ∧ KidsAt w A s.sub.kids ∧ s.wf ∧ s.bulk ≤ Rows.uptoBulk d
set_option maxRecDepth 100000 in
theorem open_st (fuel : Nat) (cs : List Value) (x : DataW H × List MemPlace) (h : DataW.trod enc Try.prog w 0 (fun _ => true) true fuel 32 cs = some x) : ∃ s : Stp, stGood w cs x.1 s := by
  obtain ⟨xs, n, _, rfl, hl, hlen, hf⟩ := DataW.trod_struct Try.underlying32 h
  rw [cellsStep] at hl
  obtain ⟨c0, c1, c2, c3, c4, c5, c6, c7, c8, rfl⟩ := list9 hl
  obtain ⟨y0, y1, y2, y3, y4, y5, rfl⟩ := list6 hlen
  have h0 : DataW.trod enc Try.prog w 0 (fun _ => true) true n 30 [c0] = some y0 := by simpa [cellsInt, cellsStr, cellsI8, cellsNode] using hf 0 _ rfl
  have h1 : DataW.trod enc Try.prog w 0 (fun _ => true) true n 3 [c1] = some y1 := by simpa [cellsInt, cellsStr, cellsI8, cellsNode] using hf 1 _ rfl
  have h2 : DataW.trod enc Try.prog w 0 (fun _ => true) true n 3 [c2] = some y2 := by simpa [cellsInt, cellsStr, cellsI8, cellsNode] using hf 2 _ rfl
  have h3 : DataW.trod enc Try.prog w 0 (fun _ => true) true n 3 [c3] = some y3 := by simpa [cellsInt, cellsStr, cellsI8, cellsNode] using hf 3 _ rfl
  have h4 : DataW.trod enc Try.prog w 0 (fun _ => true) true n 9 [c4] = some y4 := by simpa [cellsInt, cellsStr, cellsI8, cellsNode] using hf 4 _ rfl
  have h5 : DataW.trod enc Try.prog w 0 (fun _ => true) true n 24 [c5, c6, c7, c8] = some y5 := by simpa [cellsInt, cellsStr, cellsI8, cellsNode] using hf 5 _ rfl
  obtain ⟨n0, q0, e0, r0⟩ := trod_i8 Try.underlying30 h0
  obtain ⟨n1, q1, e1, r1⟩ := trod_i64 Try.underlying3 h1
  obtain ⟨n2, q2, e2, r2⟩ := trod_i64 Try.underlying3 h2
  obtain ⟨n3, q3, e3, r3⟩ := trod_i64 Try.underlying3 h3
  obtain ⟨s4, q4, e4⟩ := trod_str h4
  obtain ⟨nd, A, c, q5, p1, p2, p3, p4⟩ := open_nd _ n _ y5 (Nat.le_refl _) h5
  injection q0 with q0; subst q0
  injection q1 with q1; subst q1
  injection q2 with q2; subst q2
  injection q3 with q3; subst q3
  injection q4 with q4; subst q4
  simp only [List.cons.injEq, and_true] at q5
  obtain ⟨rfl, rfl, rfl, rfl⟩ := q5
  refine ⟨⟨n0, n1, n2, n3, s4, nd⟩, A, c, rfl, p1, p2, ⟨r0.1, r0.2, r1.1, r1.2, r2.1, r2.2, r3.1, r3.2, p3⟩, ?_⟩
  simp only [Stp.bulk, List.map_cons, List.map_nil, Rows.uptoBulk, Rows.uptoBulkAll, e0, e1, e2, e3, e4]
  omega

/-- A row of steps, read. -/
theorem open_steps (fuel : Nat) (cs : List Value) (x : DataW H × List MemPlace) (h : DataW.trod enc Try.prog w 0 (fun _ => true) true fuel 25 cs = some x) :
    ∃ (l : List Stp) (A : Option Addr) (c : Nat), cs = [.slice A l.length c] ∧ l.length ≤ c ∧ StepsAt w A l ∧ (∀ s ∈ l, s.wf) ∧ stepsBulk l + 1 ≤ Rows.uptoBulk x.1 := by
  rcases Deep.open_slice Try.underlying25 h with ⟨rfl, rfl⟩ | ⟨a, len, cap, m, n', D, Pl, rfl, _, hle, hcap, hm, rfl, hx⟩
  · exact ⟨[], none, 0, rfl, Nat.le_refl _, .inl rfl, by simp, by simp [stepsBulk, Rows.uptoBulk]⟩
  · simp only [if_true] at hm
    subst hm
    have hall : ∀ j, j < len → ∃ y : Stp, ∃ cs', w.cells? 0 (a.add (j * 9)) 9 = some cs' ∧ stGood w cs' (D j) y := fun j hj => by
      obtain ⟨cs', q1, q2⟩ := hx j (by omega)
      rw [cellsStep] at q1
      obtain ⟨y, hy⟩ := open_st n' cs' (D j, Pl j) q2
      exact ⟨y, cs', q1, hy⟩
    obtain ⟨V, hV⟩ := Deep.choose_lt hall
    have hlen : ((List.range len).map V).length = len := by simp
    refine ⟨(List.range len).map V, some a, m, by rw [hlen], by rw [hlen]; exact hle, ?_, ?_, ?_⟩
    · rcases Nat.eq_zero_or_pos len with h0 | h0
      · exact .inl (by rw [h0]; rfl)
      · have hsp : a = ⟨a.block, a.off, none⟩ := by
          obtain ⟨cs', q1, A, c, rfl, _⟩ := hV 0 h0
          obtain ⟨_, _, q2⟩ := World.cells?_some q1
          have := q2 0 (by omega)
          simp only [Nat.zero_mul] at this
          exact spot_none this
        refine .inr ⟨a.block, a.off, by rw [← hsp], trivial, fun j hj => ?_⟩
        rw [hlen] at hj
        obtain ⟨cs', q1, A, c, rfl, p1, p2, p3, p4⟩ := hV j hj
        obtain ⟨_, _, q2⟩ := World.cells?_some q1
        rw [hsp, addr_add] at q2
        have g0 := q2 0 (by omega)
        have g1 := q2 1 (by omega)
        have g2 := q2 2 (by omega)
        have g3 := q2 3 (by omega)
        have g4 := q2 4 (by omega)
        have g5 := q2 5 (by omega)
        have g6 := q2 6 (by omega)
        have g7 := q2 7 (by omega)
        have g8 := q2 8 (by omega)
        simp only [addr_add] at g0 g1 g2 g3 g4 g5 g6 g7 g8
        rw [List.getElem_map, List.getElem_range]
        refine ⟨by simpa using g0, by simpa using g1, by simpa using g2, by simpa using g3, by simpa using g4, ndIn_iff.2 ⟨by simpa using g5, ?_, ?_, A, c, ?_, p1, p2⟩⟩
        · rw [Nat.add_assoc]; simpa using g6
        · rw [Nat.add_assoc]; simpa using g7
        · rw [Nat.add_assoc]; simpa using g8
    · intro y hy
      simp only [List.mem_map, List.mem_range] at hy
      obtain ⟨j, hj, rfl⟩ := hy
      obtain ⟨cs', q1, A, c, _, _, _, p3, _⟩ := hV j hj
      exact p3
    · simp only [Rows.uptoBulk]
      rw [stepsBulk_sum, List.map_map]
      have := all_range D (Stp.bulk ∘ V) len fun j hj => by
        obtain ⟨cs', q1, A, c, _, _, _, _, p4⟩ := hV j hj
        exact p4
      omega

set_option maxRecDepth 10000 in
theorem list16 {α : Type} {cs : List α} (h : cs.length = 16) : ∃ c0 c1 c2 c3 c4 c5 c6 c7 c8 c9 c10 c11 c12 c13 c14 c15, cs = [c0, c1, c2, c3, c4, c5, c6, c7, c8, c9, c10, c11, c12, c13, c14, c15] := by
  match cs, h with
  | [c0, c1, c2, c3, c4, c5, c6, c7, c8, c9, c10, c11, c12, c13, c14, c15], _ => exact ⟨_, _, _, _, _, _, _, _, _, _, _, _, _, _, _, _, rfl⟩
set_option maxRecDepth 10000 in
theorem list13 {α : Type} {cs : List α} (h : cs.length = 13) : ∃ c0 c1 c2 c3 c4 c5 c6 c7 c8 c9 c10 c11 c12, cs = [c0, c1, c2, c3, c4, c5, c6, c7, c8, c9, c10, c11, c12] := by
  match cs, h with
  | [c0, c1, c2, c3, c4, c5, c6, c7, c8, c9, c10, c11, c12], _ => exact ⟨_, _, _, _, _, _, _, _, _, _, _, _, _, rfl⟩
/-- A message's cells, read. -/
def msgGood (w : World) (cs : List Value) (d : DataW H) (x : MsgV) : Prop := cs = x.cells ∧ x.rows (fun _ => True) w ∧ x.m.wf ∧ x.m.bulk ≤ Rows.uptoBulk d
set_option maxRecDepth 100000 in
theorem open_msg (fuel : Nat) (cs : List Value) (x : DataW H × List MemPlace) (h : DataW.trod enc Try.prog w 0 (fun _ => true) true fuel 41 cs = some x) : ∃ y : MsgV, msgGood w cs x.1 y := by
  obtain ⟨xs, n, _, rfl, hl, hlen, hf⟩ := DataW.trod_struct Try.underlying41 h
  rw [cellsMsg] at hl
  obtain ⟨c0, c1, c2, c3, c4, c5, c6, c7, c8, c9, c10, c11, c12, c13, c14, c15, rfl⟩ := list16 hl
  obtain ⟨y0, y1, y2, y3, y4, y5, y6, y7, y8, y9, y10, y11, y12, rfl⟩ := list13 hlen
  have h0 : DataW.trod enc Try.prog w 0 (fun _ => true) true n 30 [c0] = some y0 := by simpa [cellsInt, cellsStr, cellsI8, cellsNode, cellsErr, cellsSts] using hf 0 _ rfl
  have h1 : DataW.trod enc Try.prog w 0 (fun _ => true) true n 3 [c1] = some y1 := by simpa [cellsInt, cellsStr, cellsI8, cellsNode, cellsErr, cellsSts] using hf 1 _ rfl
  have h2 : DataW.trod enc Try.prog w 0 (fun _ => true) true n 3 [c2] = some y2 := by simpa [cellsInt, cellsStr, cellsI8, cellsNode, cellsErr, cellsSts] using hf 2 _ rfl
  have h3 : DataW.trod enc Try.prog w 0 (fun _ => true) true n 3 [c3] = some y3 := by simpa [cellsInt, cellsStr, cellsI8, cellsNode, cellsErr, cellsSts] using hf 3 _ rfl
  have h4 : DataW.trod enc Try.prog w 0 (fun _ => true) true n 3 [c4] = some y4 := by simpa [cellsInt, cellsStr, cellsI8, cellsNode, cellsErr, cellsSts] using hf 4 _ rfl
  have h5 : DataW.trod enc Try.prog w 0 (fun _ => true) true n 3 [c5] = some y5 := by simpa [cellsInt, cellsStr, cellsI8, cellsNode, cellsErr, cellsSts] using hf 5 _ rfl
  have h6 : DataW.trod enc Try.prog w 0 (fun _ => true) true n 3 [c6] = some y6 := by simpa [cellsInt, cellsStr, cellsI8, cellsNode, cellsErr, cellsSts] using hf 6 _ rfl
  have h7 : DataW.trod enc Try.prog w 0 (fun _ => true) true n 3 [c7] = some y7 := by simpa [cellsInt, cellsStr, cellsI8, cellsNode, cellsErr, cellsSts] using hf 7 _ rfl
  have h8 : DataW.trod enc Try.prog w 0 (fun _ => true) true n 3 [c8] = some y8 := by simpa [cellsInt, cellsStr, cellsI8, cellsNode, cellsErr, cellsSts] using hf 8 _ rfl
  have h9 : DataW.trod enc Try.prog w 0 (fun _ => true) true n 3 [c9] = some y9 := by simpa [cellsInt, cellsStr, cellsI8, cellsNode, cellsErr, cellsSts] using hf 9 _ rfl
  have h10 : DataW.trod enc Try.prog w 0 (fun _ => true) true n 33 [c10] = some y10 := by simpa [cellsInt, cellsStr, cellsI8, cellsNode, cellsErr, cellsSts] using hf 10 _ rfl
  have h11 : DataW.trod enc Try.prog w 0 (fun _ => true) true n 25 [c11] = some y11 := by simpa [cellsInt, cellsStr, cellsI8, cellsNode, cellsErr, cellsSts] using hf 11 _ rfl
  have h12 : DataW.trod enc Try.prog w 0 (fun _ => true) true n 24 [c12, c13, c14, c15] = some y12 := by simpa [cellsInt, cellsStr, cellsI8, cellsNode, cellsErr, cellsSts] using hf 12 _ rfl
  clear hf h
  obtain ⟨n0, q0, e0, r0⟩ := trod_i8 Try.underlying30 h0
  injection q0 with q0; subst q0
  obtain ⟨n1, q1, e1, r1⟩ := trod_i64 Try.underlying3 h1
  injection q1 with q1; subst q1
  obtain ⟨n2, q2, e2, r2⟩ := trod_i64 Try.underlying3 h2
  injection q2 with q2; subst q2
  obtain ⟨n3, q3, e3, r3⟩ := trod_i64 Try.underlying3 h3
  injection q3 with q3; subst q3
  obtain ⟨n4, q4, e4, r4⟩ := trod_i64 Try.underlying3 h4
  injection q4 with q4; subst q4
  obtain ⟨n5, q5, e5, r5⟩ := trod_i64 Try.underlying3 h5
  injection q5 with q5; subst q5
  obtain ⟨n6, q6, e6, r6⟩ := trod_i64 Try.underlying3 h6
  injection q6 with q6; subst q6
  obtain ⟨n7, q7, e7, r7⟩ := trod_i64 Try.underlying3 h7
  injection q7 with q7; subst q7
  obtain ⟨n8, q8, e8, r8⟩ := trod_i64 Try.underlying3 h8
  injection q8 with q8; subst q8
  obtain ⟨n9, q9, e9, r9⟩ := trod_i64 Try.underlying3 h9
  injection q9 with q9; subst q9
  obtain ⟨n10, q10, e10, r10⟩ := trod_i64 Try.underlying33 h10
  injection q10 with q10; subst q10
  obtain ⟨l, A, c, q11, t1, t2, t3, t4⟩ := open_steps n _ y11 h11
  injection q11 with q11; subst q11
  obtain ⟨nd, A2, c2, q12, p1, p2, p3, p4⟩ := open_nd _ n _ y12 (Nat.le_refl _) h12
  simp only [List.cons.injEq, and_true] at q12
  obtain ⟨rfl, rfl, rfl, rfl⟩ := q12
  refine ⟨⟨⟨n0, n1, n2, n3, n4, n5, n6, n7, n8, n9, n10, l, nd⟩, A, c, A2, c2⟩, rfl, ⟨t1, t2, p1, p2⟩, ⟨r0, ?_, t3, p3⟩, ?_⟩
  · intro k hk
    simp only [List.mem_cons, List.mem_nil_iff, or_false] at hk
    rcases hk with rfl | rfl | rfl | rfl | rfl | rfl | rfl | rfl | rfl | rfl <;> assumption
  · simp only [Msg.bulk, List.map_cons, List.map_nil, Rows.uptoBulk, Rows.uptoBulkAll, e0, e1, e2, e3, e4, e5, e6, e7, e8, e9, e10]
    omega

/-- Bytes, read. -/
theorem open_bytes (fuel : Nat) (cs : List Value) (x : DataW H × List MemPlace) (h : DataW.trod enc Try.prog w 0 (fun _ => true) true fuel 46 cs = some x) :
    ∃ (l : List UInt8) (A : Option Addr) (c : Nat), cs = [.slice A l.length c] ∧ l.length ≤ c ∧ c ≤ maxLen ∧ BytesAt w A l ∧ l.length + 1 ≤ Rows.uptoBulk x.1 := by
  rcases Deep.open_slice Try.underlying46 h with ⟨rfl, rfl⟩ | ⟨a, len, cap, m, n', D, Pl, rfl, _, hle, hcap, hm, rfl, hx⟩
  · exact ⟨[], none, 0, rfl, Nat.le_refl _, Nat.zero_le _, .inl rfl, by simp [Rows.uptoBulk]⟩
  · simp only [if_true] at hm
    subst hm
    have hall : ∀ j, j < len → ∃ y : UInt8, w.cells? 0 (a.add (j * 1)) 1 = some [.int .u8 (y.toNat : Int)] := fun j hj => by
      obtain ⟨cs', q1, q2⟩ := hx j (by omega)
      rw [cellsU8] at q1
      obtain ⟨n, rfl, _, hw⟩ := DataW.trod_int Try.underlying5 q2
      have hw' : 0 ≤ n ∧ n ≤ 255 := by simpa [Lit.wf, IntKind.min, IntKind.max, IntKind.signed, IntKind.bits] using hw
      refine ⟨UInt8.ofNat n.toNat, ?_⟩
      rw [q1, UInt8.toNat_ofNat']
      congr 3
      omega
    obtain ⟨V, hV⟩ := Deep.choose_lt hall
    have hlen : ((List.range len).map V).length = len := by simp
    refine ⟨(List.range len).map V, some a, m, by rw [hlen], by rw [hlen]; exact hle, hcap, ?_, ?_⟩
    · rcases Nat.eq_zero_or_pos len with h0 | h0
      · exact .inl (by rw [h0]; rfl)
      · have hsp : a = ⟨a.block, a.off, none⟩ := by
          obtain ⟨_, _, q2⟩ := World.cells?_some (hV 0 h0)
          have := q2 0 (by omega)
          simp only [Nat.zero_mul] at this
          exact spot_none this
        refine .inr ⟨a.block, a.off, hsp ▸ rfl, fun j hj => ?_⟩
        rw [hlen] at hj
        obtain ⟨_, _, q2⟩ := World.cells?_some (hV j hj)
        rw [hsp, addr_add] at q2
        have g0 := q2 0 (by omega)
        simp only [addr_add] at g0
        rw [List.getElem_map, List.getElem_range]
        simpa using g0
    · simp only [Rows.uptoBulk]
      rw [hlen]
      have := all_range D (fun _ => 1) len fun j _ => upto_pos _
      have hs : ∀ k : Nat, ((List.range k).map fun _ => 1).sum = k := by
        intro k
        induction k with
        | zero => rfl
        | succ k ih => rw [List.range_succ, List.map_append, List.sum_append, ih]; simp
      rw [hs] at this
      omega
end

theorem laid_ : laidOutB Try.prog = true := by kernel_rfl
/-- The arguments read as they did, where nothing that was there has turned. -/
theorem trodAll_later {H : Type} {enc : TypeId × Value → H} {W W' : World} {sp : Nat → Bool} : ∀ {ts : List TypeId} {vs : List Value} {ds : List (DataW H)} {p : List MemPlace}, (∀ t ∈ ts, Try.prog.readableRec t = true ∧ t < Try.prog.types.size) →
    DataW.TrodAll enc Try.prog W 0 (fun _ => true) true ts vs ds p → (∀ x ∈ p, W.sameAt W' x) → (∀ x ∈ p, sp x.block = true) → DataW.TrodAll enc Try.prog W' 0 sp true ts vs ds p
  | [], [], [], _, _, h, _, _ => h
  | [], _ :: _, _, _, _, h, _, _ => h.elim
  | [], [], _ :: _, _, _, h, _, _ => h.elim
  | _ :: _, [], _, _, _, h, _, _ => h.elim
  | _ :: _, _ :: _, [], _, _, h, _, _ => h.elim
  | t :: ts, v :: vs, d :: ds, _, ht, ⟨p, q, h1, h2, e⟩, hs, hsp => by
    subst e
    exact ⟨p, q, WideElems.Trod_stays laid_ (ht t (by simp)).1 (ht t (by simp)).2 h1 (fun x hx => hs x (by simp [hx])) (fun x hx => hsp x (by simp [hx])),
      trodAll_later (fun u hu => ht u (by simp [hu])) h2 (fun x hx => hs x (by simp [hx])) (fun x hx => hsp x (by simp [hx])), rfl⟩

section
variable {H : Type} {enc : TypeId × Value → H} {P : Program}
/-- The row's last step where below the elder blocks nothing has turned. -/
theorem post_below {f : Func} {s : ChangeSpec} {apart fresh handsOn again : Bool} {W W' : World} {args : Array Value} {v : Value} {ds gs : List (DataW H)} {before pa pv : List MemPlace}
    (hW : DataW.Whole enc P f.params.toList s.vars apart W args.toList ds gs before)
    (hres : ∀ (b : Nat) (sp : Nat → Bool) (hd : Bool), DataW.TrodAll enc P W' b sp hd f.resultTypes.toList (v.resultList f.resultTypes.size) (s.fn H (ds ++ gs)).results [])
    (hargs : ∀ sp : Nat → Bool, (∀ p ∈ before, sp p.block = true) → DataW.TrodAll enc P W' 0 sp true f.params.toList args.toList (s.fn H (ds ++ gs)).args pa)
    (hvars : ∀ sp : Nat → Bool, (∀ p ∈ before, sp p.block = true) → DataW.TrodVars enc P W' sp s.vars (s.fn H (ds ++ gs)).vars pv)
    (hps : before = pa ++ pv) (hb : Below W.heap.size W W')
    (hok : ∀ (j : Nat) (t : TypeId) (r : Value), f.resultTypes[j]? = some t → (v.resultList f.resultTypes.size)[j]? = some r → Value.okWide P W' .any 0 t r) :
    s.post enc P f apart fresh handsOn again W args v W' := by
  have hlt : ∀ p ∈ before, p.block < W.heap.size := fun p hp => hW.lt p hp
  have hold : ∀ p ∈ before, (fun b => decide (b < W.heap.size)) p.block = true := fun p hp => by simpa using hlt p hp
  refine ⟨ds, gs, before, [], pa, pv, hW, hres _ _ _, hargs _ hold, hvars _ hold, World.keptBut_mono (fun p hp => ⟨hp, ?_⟩) (hb.frame (· ∈ before)), fun _ => ?_⟩
  · rw [hps, List.mem_append] at hp
    exact Or.inr hp
  · obtain ⟨_, _, _, _, _, hz, hn⟩ := hW
    refine ⟨hok, _, _, ([] ++ pa) ++ pv, ⟨[] ++ pa, pv, trodAll_append (hargs _ (fun _ _ => rfl)) (hres _ _ _), hvars _ (fun _ _ => rfl), rfl, ?_, ?_⟩, ?_⟩
    · intro b off hp
      have hin : MemPlace.cell b off ∈ before := by rw [hps]; simpa using hp
      rw [hb.frozen (hlt _ hin)]
      exact hz b off hin
    · intro ha
      have := hn ha
      rw [hps] at this
      simpa using this
    · intro p hp _
      rw [hps]
      simpa using hp
end
end Go.Proofs.Ytimjpkmdphccmaa
