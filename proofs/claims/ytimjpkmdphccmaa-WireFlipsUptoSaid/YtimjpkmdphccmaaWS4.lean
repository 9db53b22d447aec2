/- code's reader: the node's closure, the node: walks. -/
import Derived.Test.YtimjpkmdphccmaaWS3
import Derived.Test.YtimjpkmdphccmaaProg
import Derived.Test.YtimjpkmdphccmaaWS2
import Derived.Laws.EntriesVeiled
import Derived.Deep.RegionHeld2
import Derived.WalkLawsBesides
import Derived.WalkSpells
import Derived.Tactics
import Derived.Tactics2
import Derived.WalkKit
import Derived.Handy
import Derived.Deep.RegionHeld3
import Derived.Deep.DrawnRows
import Derived.Deep.DeepCutAuto
import Derived.KernelRfl
import Derived.BigRegion
import Derived.BigQuiet
import Derived.Deep.QuietTactic
import Derived.Outline
import Derived.Lib.Hide

namespace Go.Proofs.Ytimjpkmdphccmaa
open Go.RowKit
attribute [local go_sem ↓] Go.wp_at_zero Go.wp_at_succ
set_option linter.unusedVariables false
set_option linter.unusedSimpArgs false

/-- Where the closure stands: its three blocks, the reader, the counter. -/
structure NS (w W : World) (br bR bN bF : Nat) (B : Src) (at_ nodes : Nat) (d : Nat) (v0 v1 v2 v3 : Value) : Prop where
  rd : RdAt W br B at_ (-1)
  rn : RN W br bR bN bF nodes
  D : W.heap[w.heap.size]? = some (.cells #[.int .i64 d] 3 (0, 0))
  R : W.heap[w.heap.size + 1]? = some (.cells #[.int .i64 0, .int .i64 0, .string ⟨#[]⟩, .slice none 0 0] 24 (0, 0))
  X : W.heap[w.heap.size + 1 + 1]? = some (.cells #[v0, v1, v2, v3] 24 (0, 0))
  K : Keep2 br bN w W
  lt : bF < w.heap.size
section
variable {w W W' : World} {br bR bN bF : Nat} {B : Src} {at_ nodes d : Nat} {v0 v1 v2 v3 : Value}
theorem NS.keep {at' nodes' : Nat} (h : NS w W br bR bN bF B at_ nodes d v0 v1 v2 v3) (k : Keep2 br bN W W') (hr : RdAt W' br B at' (-1)) (hn : RN W' br bR bN bF nodes') : NS w W' br bR bN bF B at' nodes' d v0 v1 v2 v3 := by
  have h1 := h.rn.rn; have h2 := h.rn.nn; have h3 := h.rn.fn; have h4 := h.lt; have h5 := (Array.getElem?_eq_some_iff.1 h.X).1
  exact ⟨hr, hn, (k.block _ (by omega) (by omega) (by omega)).trans h.D, (k.block _ (by omega) (by omega) (by omega)).trans h.R, (k.block _ (by omega) (by omega) (by omega)).trans h.X, h.K.trans k, h4⟩
theorem NS.grown {at' : Nat} (h : NS w W br bR bN bF B at_ nodes d v0 v1 v2 v3) (k : W.grownBy W' (some br)) (hr : RdAt W' br B at' (-1)) : NS w W' br bR bN bF B at' nodes d v0 v1 v2 v3 := h.keep (.grown k) hr (h.rn.grown k)
theorem NS.set {at_ : Nat} (h : NS w W br bR bN bF B at_ nodes d v0 v1 v2 v3) (i : Nat) (v : Value) {u0 u1 u2 u3 : Value} (hu : (#[v0, v1, v2, v3].setIfInBounds i v) = #[u0, u1, u2, u3]) : NS w (W.setCell ⟨w.heap.size + 1 + 1, i, none⟩ v) br bR bN bF B at_ nodes d u0 u1 u2 u3 := by
  have h1 := h.rn.rn; have h2 := h.rn.nn; have h3 := h.rn.fn; have h4 := h.lt
  have G : W.grownBy (W.setCell ⟨w.heap.size + 1 + 1, i, none⟩ v) (some (w.heap.size + 1 + 1)) := grown_set (grown_refl W _) i v
  refine ⟨h.rd.grown G (fun b hb => by simp at hb; omega), h.rn.row G (fun b hb => by simp at hb; omega), setCell_ne h.D (by omega) _ _, setCell_ne h.R (by omega) _ _, ?_, h.K.row G (fun b hb => by simp at hb; omega), h4⟩
  rw [setCell_blk h.X, hu]
end

theorem RN.sl {w : World} {br bR bN bF nodes at_ : Nat} {B : Src} (h : RN w br bR bN bF nodes) (k : RdAt w br B at_ (-1)) :
    w.cell? ⟨bR, 0, none⟩ = some (.pointer (some ⟨br, 0, none⟩)) ∧ w.cell? ⟨br, 0, none⟩ = some (.slice B.A B.l.length B.c) := ⟨(blk1 h.r).1, (blk3 k.1).1⟩
theorem RdPost.split {α : Type} {w w' : World} {br : Nat} {B : Src} {good : α → Value → World → Prop} {res : PR α} {e : Ending} (h : RdPost w br B good res e w') :
    (∃ f, res = .fail f ∧ e = .panicked [{ v := .iface 161 (.agg #[.int .i64 (f : Int)]), recovered := false }] ∧ (∃ n, RdAt w' br B n (-1)) ∧ w.grownBy w' (some br)) ∨
    (∃ v n x, res = .ok v n ∧ e = .returned x ∧ good v x w' ∧ RdAt w' br B n (-1) ∧ w.grownBy w' (some br)) := by
  cases res with
  | ok v n => obtain ⟨x, h⟩ := h; exact .inr ⟨v, n, x, rfl, h⟩
  | fail f => exact .inl ⟨f, rfl, h⟩
theorem LPost.split {w w' : World} {br bR bN bF : Nat} {B : Src} {res : PR (List Nd × Nat)} {e : Ending} (h : LPost w br bR bN bF B res e w') :
    (∃ f, res = .fail f ∧ e = .panicked [{ v := .iface 161 (.agg #[.int .i64 (f : Int)]), recovered := false }] ∧ (∃ n, RdAt w' br B n (-1)) ∧ Keep2 br bN w w') ∨
    (∃ l nodes n A c, res = .ok (l, nodes) n ∧ e = .returned (.slice A l.length c) ∧ l.length ≤ c ∧ KidsIn (fun b => w.heap.size ≤ b) w' A l ∧ RdAt w' br B n (-1) ∧ RN w' br bR bN bF nodes ∧ Keep2 br bN w w' ∧ n ≤ B.l.length) := by
  cases res with
  | ok v n => obtain ⟨⟨A, c, h1, h2, h3⟩, h4, h5, h6, h7⟩ := h; exact .inr ⟨v.1, v.2, n, A, c, rfl, h1, h2, h3, h4, h5, h6, h7⟩
  | fail f => exact .inl ⟨f, rfl, h⟩
theorem NPost.fails {w w' : World} {br bR bN bF f : Nat} {B : Src} {res : PR (Nd × Nat)} (h : res = .fail f) (hr : ∃ n, RdAt w' br B n (-1)) (hK : Keep2 br bN w w') : NPost w br bR bN bF B res (.panicked [{ v := .iface 161 (.agg #[.int .i64 (f : Int)]), recovered := false }]) w' := by
  subst h; exact ⟨rfl, hr, hK⟩
theorem NS.drew {w W : World} {br bR bN bF : Nat} {B : Src} {at_ nodes d : Nat} {v0 v1 v2 v3 : Value} (h : NS w W br bR bN bF B at_ nodes d v0 v1 v2 v3) : NS w W.drew br bR bN bF B at_ nodes d v0 v1 v2 v3 :=
  h.keep (.below (below_drewN (Below.refl _ _) 1)) h.rd.drew (h.rn.later (below_drewN (Below.refl _ _) 1))

theorem nodeP_ok {B : List UInt8} : ∀ {fuel at_ nodes m s : Nat} {x : Nd}, nodeP B fuel at_ nodes = .ok (x, s) m → s ≤ 200 := by
  intro fuel
  induction fuel with
  | zero => intro at_ nodes m s x h; rw [nodeP] at h; cases h
  | succ fuel ih =>
    intro at_ nodes m s x h
    rw [nodeP] at h
    split at h
    · cases h
    · rename_i hn
      cases h1 : numberP B at_ with
      | fail f => rw [h1] at h; cases h
      | ok i a1 =>
      rw [h1, PR.bind_ok] at h
      cases h2 : numberP B a1 with
      | fail f => rw [h2] at h; cases h
      | ok k a2 =>
      rw [h2, PR.bind_ok] at h
      cases h3 : textP B a2 with
      | fail f => rw [h3] at h; cases h
      | ok t a3 =>
      rw [h3, PR.bind_ok] at h
      cases h4 : countP B a3 32 B.length with
      | fail f => rw [h4] at h; cases h
      | ok n a4 =>
      rw [h4, PR.bind_ok] at h
      have hl : ∀ k a s q m, s ≤ 200 → listP (fun a s => nodeP B fuel a s) k a s = .ok q m → q.2 ≤ 200 := by
        intro k
        induction k with
        | zero => intro a s q m hs h; injection h with h5 h6; rw [← h5]; exact hs
        | succ k ihk =>
          intro a s q m hs h
          rw [listP] at h
          cases h5 : listP (fun a s => nodeP B fuel a s) k a s with
          | fail f => rw [h5] at h; cases h
          | ok r b =>
            rw [h5, PR.bind_ok] at h
            cases h6 : nodeP B fuel b r.2 with
            | fail f => simp only [h6] at h; cases h
            | ok r' b' =>
              simp only [h6, PR.bind_ok] at h
              injection h with h7 h8
              rw [← h7]
              exact ih (x := r'.1) (s := r'.2) h6
      cases h5 : listP (fun a s => nodeP B fuel a s) n a4 (nodes + 1) with
      | fail f => rw [h5] at h; cases h
      | ok r b =>
        rw [h5, PR.bind_ok] at h
        injection h with h6 h7
        injection h6 with h8 h9
        rw [← h9]
        exact hl _ _ _ _ _ (by omega) h5

set_option maxRecDepth 100000 in
set_option maxHeartbeats 4000000 in
theorem node1_stops (br bR bN bF : Nat) (B : Src) (d at_ nodes : Nat) (w : World) (hd : d ≤ 41) (hstop : nodes + 1 > 200 ∨ 40 < d) (hn : nodes ≤ 200) (hat : at_ ≤ B.l.length) (hr : RdAt w br B at_ (-1)) (hx : RN w br bR bN bF nodes) :
    Calls Try.prog 166 #[.int .i64 d, .pointer (some ⟨bR, 0, none⟩), .pointer (some ⟨bN, 0, none⟩), .pointer (some ⟨bF, 0, none⟩)] w (NPost w br bR bN bF B (.fail at_)) := by
  have hr0 := hr
  obtain ⟨k0, k1, k2⟩ := hr
  obtain ⟨f0, f1, f2, fz⟩ := blk3 k0
  obtain ⟨n0, nz⟩ := blk1 hx.n
  obtain ⟨r0, rz⟩ := blk1 hx.r
  have hb2 : Below w.heap.size w ((w.alloc (.cells #[.int .i64 d] 3)).alloc (.cells #[.int .i64 0, .int .i64 0, .string ⟨#[]⟩, .slice none 0 0] 24)) := by go_grown
  have f1' := cell_keep hb2 f1
  have n0' := cell_keep hb2 n0
  have r0' := cell_keep hb2 r0
  have lN := (Array.getElem?_eq_some_iff.1 hx.n).1
  have lr := (Array.getElem?_eq_some_iff.1 k0).1
  have lR := (Array.getElem?_eq_some_iff.1 hx.r).1
  have lF := (Array.getElem?_eq_some_iff.1 hx.f).1
  have hN1 := setCell_blk hx.n 0 (.int .i64 ((nodes : Int) + 1))
  simp only [List.setIfInBounds_toArray, List.set] at hN1
  obtain ⟨n1, nz1⟩ := blk1 hN1
  have HP : Hid ((∃ n, RdAt (((w.setCell ⟨bN, 0, none⟩ (.int .i64 ((nodes : Int) + 1))).alloc (.cells #[.int .i64 d] 3)).alloc (.cells #[.int .i64 0, .int .i64 0, .string ⟨#[]⟩, .slice none 0 0] 24)) br B n (-1)) ∧ Keep2 br bN w (((w.setCell ⟨bN, 0, none⟩ (.int .i64 ((nodes : Int) + 1))).alloc (.cells #[.int .i64 d] 3)).alloc (.cells #[.int .i64 0, .int .i64 0, .string ⟨#[]⟩, .slice none 0 0] 24))) := Lib.hid (by
    have h1 := hx.rn; have h2 := hx.nn; have h3 := hx.fn
    have G := grown_set (grown_refl w (some bN)) 0 (.int .i64 ((nodes : Int) + 1))
    have G2 : Below (w.setCell ⟨bN, 0, none⟩ (.int .i64 ((nodes : Int) + 1))).heap.size (w.setCell ⟨bN, 0, none⟩ (.int .i64 ((nodes : Int) + 1))) (((w.setCell ⟨bN, 0, none⟩ (.int .i64 ((nodes : Int) + 1))).alloc (.cells #[.int .i64 d] 3)).alloc (.cells #[.int .i64 0, .int .i64 0, .string ⟨#[]⟩, .slice none 0 0] 24)) := by go_grown
    exact ⟨⟨_, (hr0.grown G (fun b hb => by simp at hb; omega)).later G2⟩, (⟨G.os, G.tape, G.output, G.size, fun b hb _ h2 => G.block b hb (by simpa using h2)⟩ : Keep2 br bN w _).trans (.below G2)⟩)
  by_cases hmax : nodes + 1 > 200
  · have dm : decide ((200 : Int) < (nodes : Int) + 1) = true := by simp; omega
    have HS := Lib.hid hstop
    clear hstop hmax
    go_enter Try.func166, Try.ntmps166
    go_wp2
    exact ⟨rfl, rfl, HP.out⟩
  · have dm : decide ((200 : Int) < (nodes : Int) + 1) = false := by simp; omega
    have dd : decide ((40 : Int) < (d : Int)) = true := by simp; omega
    clear hstop hmax
    go_enter Try.func166, Try.ntmps166
    go_wp2
    exact ⟨rfl, rfl, HP.out⟩

set_option maxRecDepth 100000 in
set_option maxHeartbeats 4000000 in
theorem node1_calls (br bR bN bF : Nat) (B : Src) (hB : B.l.length ≤ 1099511627776) : ∀ fuel, NodeC fuel br bR bN bF B := by
  intro fuel
  induction fuel with
  | zero =>
    intro d at_ nodes w hd hn hat hr hx
    rw [nodeP]
    exact node1_stops br bR bN bF B d at_ nodes w (by omega) (.inr (by omega)) hn hat hr hx
  | succ fuel ih =>
  intro d at_ nodes w hd hn hat hr hx
  have hr0 := hr
  have HI := Lib.hid ih
  clear ih
  obtain ⟨k0, k1, k2⟩ := hr
  obtain ⟨f0, f1, f2, fz⟩ := blk3 k0
  obtain ⟨n0, nz⟩ := blk1 hx.n
  obtain ⟨r0, rz⟩ := blk1 hx.r
  have hb2 : Below w.heap.size w ((w.alloc (.cells #[.int .i64 d] 3)).alloc (.cells #[.int .i64 0, .int .i64 0, .string ⟨#[]⟩, .slice none 0 0] 24)) := by go_grown
  have f1' := cell_keep hb2 f1
  have n0' := cell_keep hb2 n0
  have r0' := cell_keep hb2 r0
  have lN := (Array.getElem?_eq_some_iff.1 hx.n).1
  have lr := (Array.getElem?_eq_some_iff.1 k0).1
  have lR := (Array.getElem?_eq_some_iff.1 hx.r).1
  have lF := (Array.getElem?_eq_some_iff.1 hx.f).1
  have hN1 := setCell_blk hx.n 0 (.int .i64 ((nodes : Int) + 1))
  simp only [List.setIfInBounds_toArray, List.set] at hN1
  obtain ⟨n1, nz1⟩ := blk1 hN1
  by_cases hmax : nodes + 1 > 200
  · rw [nodeP, if_pos hmax]
    exact node1_stops br bR bN bF B d at_ nodes w (by omega) (.inl hmax) hn hat hr0 hx
  · have dm : decide ((200 : Int) < (nodes : Int) + 1) = false := by simp; omega
    have dm' : decide ((nodes : Int) + 1 > 200) = false := by simp; omega
    have dd : decide ((40 : Int) < (d : Int)) = false := by simp; omega
    have HNn := Lib.hid hmax
    have HDd := Lib.hid hd
    clear hmax hd
    have KW : Keep2 br bN w ((((w.setCell ⟨bN, 0, none⟩ (.int .i64 ((nodes : Int) + 1))).alloc (.cells #[.int .i64 d] 3)).alloc (.cells #[.int .i64 0, .int .i64 0, .string ⟨#[]⟩, .slice none 0 0] 24)).alloc (.cells #[.int .i64 0, .int .i64 0, .string ⟨#[]⟩, .slice none 0 0] 24)) := ⟨rfl, rfl, rfl, by simp [World.setCell]; omega, fun b hb h1 h2 => by
      rw [Below.heap_alloc _ _ _ (by simp [World.setCell]; omega), Below.heap_alloc _ _ _ (by simp [World.setCell]; omega), Below.heap_alloc _ _ _ (by simp [World.setCell]; omega), Below.heap_setCell _ _ _ _ (by simpa using h2)]⟩
    have hsz : (w.setCell ⟨bN, 0, none⟩ (.int .i64 ((nodes : Int) + 1))).heap.size = w.heap.size := by simp [World.setCell]
    have hS : NS w ((((w.setCell ⟨bN, 0, none⟩ (.int .i64 ((nodes : Int) + 1))).alloc (.cells #[.int .i64 d] 3)).alloc (.cells #[.int .i64 0, .int .i64 0, .string ⟨#[]⟩, .slice none 0 0] 24)).alloc (.cells #[.int .i64 0, .int .i64 0, .string ⟨#[]⟩, .slice none 0 0] 24)) br bR bN bF B at_ (nodes + 1) d (.int .i64 0) (.int .i64 0) (.string ⟨#[]⟩) (.slice none 0 0) := by
      refine ⟨?_, hx.keep KW ?_, ?_, ?_, ?_, KW, lF⟩
      · have h1 := hx.rn; have h2 := hx.nn
        exact (hr0.grown (grown_set (grown_refl w (some bN)) 0 (.int .i64 ((nodes : Int) + 1))) (fun b hb => by simp at hb; omega)).later (by go_grown)
      · exact alloc_old (alloc_old (alloc_old hN1 _) _) _
      · have := alloc_new (w.setCell ⟨bN, 0, none⟩ (.int .i64 ((nodes : Int) + 1))) (.cells #[.int .i64 d] 3)
        rw [hsz] at this
        exact alloc_old (alloc_old this _) _
      · have := alloc_new1 (w.setCell ⟨bN, 0, none⟩ (.int .i64 ((nodes : Int) + 1))) (.cells #[.int .i64 d] 3) (.cells #[.int .i64 0, .int .i64 0, .string ⟨#[]⟩, .slice none 0 0] 24)
        rw [hsz] at this
        exact alloc_old this _
      · have := alloc_new2 (w.setCell ⟨bN, 0, none⟩ (.int .i64 ((nodes : Int) + 1))) (.cells #[.int .i64 d] 3) (.cells #[.int .i64 0, .int .i64 0, .string ⟨#[]⟩, .slice none 0 0] 24) (.cells #[.int .i64 0, .int .i64 0, .string ⟨#[]⟩, .slice none 0 0] 24)
        rw [hsz] at this
        exact this
    have hw1 := Lib.hid hS
    clear KW hS
    obtain ⟨fr, frz⟩ := blk1 hw1.out.rn.r
    go_enter Try.func166, Try.ntmps166
    go_wp2_with fail
    have hS := hw1.out
    clear hw1
    generalize ((((w.setCell ⟨bN, 0, none⟩ (.int .i64 ((nodes : Int) + 1))).alloc (.cells #[.int .i64 d] 3)).alloc (.cells #[.int .i64 0, .int .i64 0, .string ⟨#[]⟩, .slice none 0 0] 24)).alloc (.cells #[.int .i64 0, .int .i64 0, .string ⟨#[]⟩, .slice none 0 0] 24)) = W1 at hS fr frz ⊢
    clear fr frz n1 nz1 f1' n0' r0'
    refine (rnumber_calls br B at_ W1 hS.rd hat hB).mono ?_
    rintro e w2 hp
    cases ht : numberP B.l at_ with
    | fail f =>
      have HN : Hid (nodeP B.l (fuel + 1) at_ nodes = .fail f) := Lib.hid (by rw [nodeP, if_neg HNn.out, ht]; rfl)
      rw [ht] at hp
      obtain ⟨rfl, hr, hg⟩ := hp
      refine ⟨rfl, ?_⟩; show NPost w br bR bN bF B (nodeP B.l (fuel + 1) at_ nodes) _ _; rw [HN.out]; exact ⟨rfl, hr, hS.K.trans (.grown hg)⟩
    | ok i a1 =>
    obtain ⟨ha1, hb1⟩ := numberP_ok ht
    have HN : Hid (nodeP B.l (fuel + 1) at_ nodes = (numberP B.l a1).bind fun k a2 => (textP B.l a2).bind fun t a3 => (countP B.l a3 32 B.l.length).bind fun n a4 =>
      (listP (fun a s => nodeP B.l fuel a s) n a4 (nodes + 1)).bind fun q a5 => .ok (.mk i k t q.1, q.2) a5) := Lib.hid (by rw [nodeP, if_neg HNn.out, ht]; rfl)
    rw [ht] at hp
    clear ht ha1
    obtain ⟨x, rfl, rfl, hr, hg⟩ := hp
    replace hS := hS.grown hg hr
    clear hr hg
    obtain ⟨fr, frz⟩ := blk1 hS.rn.r; obtain ⟨q0, q1, q2, q3, qz⟩ := blk4 hS.X
    have hS2 := Lib.hid (hS.set 0 (.int .i64 i) rfl)
    obtain ⟨fr', frz'⟩ := blk1 hS2.out.rn.r
    go_wp2_with fail
    replace hS := hS2.out
    clear hS2 q0 q1 q2 q3 qz fr frz fr' frz'
    generalize w2.setCell ⟨w.heap.size + 1 + 1, 0, none⟩ (.int .i64 i) = W2 at hS ⊢
    refine (rnumber_calls br B a1 W2 hS.rd hb1 hB).mono ?_
    clear hb1
    rintro e w3 hp
    cases ht : numberP B.l a1 with
    | fail f =>
      replace HN : Hid (nodeP B.l (fuel + 1) at_ nodes = .fail f) := Lib.hid (by rw [HN.out, ht]; rfl)
      rw [ht] at hp
      obtain ⟨rfl, hr, hg⟩ := hp
      refine ⟨rfl, ?_⟩; show NPost w br bR bN bF B (nodeP B.l (fuel + 1) at_ nodes) _ _; rw [HN.out]; exact ⟨rfl, hr, hS.K.trans (.grown hg)⟩
    | ok k a2 =>
    obtain ⟨ha1, hb1⟩ := numberP_ok ht
    replace HN : Hid (nodeP B.l (fuel + 1) at_ nodes = (textP B.l a2).bind fun t a3 => (countP B.l a3 32 B.l.length).bind fun n a4 =>
      (listP (fun a s => nodeP B.l fuel a s) n a4 (nodes + 1)).bind fun q a5 => .ok (.mk i k t q.1, q.2) a5) := Lib.hid (by rw [HN.out, ht]; rfl)
    rw [ht] at hp
    clear ht ha1
    obtain ⟨x, rfl, rfl, hr, hg⟩ := hp
    replace hS := hS.grown hg hr
    clear hr hg
    obtain ⟨fr, frz⟩ := blk1 hS.rn.r; obtain ⟨q0, q1, q2, q3, qz⟩ := blk4 hS.X
    have hS2 := Lib.hid (hS.set 1 (.int .i64 k) rfl)
    obtain ⟨fr', frz'⟩ := blk1 hS2.out.rn.r
    go_wp2_with fail
    replace hS := hS2.out
    clear hS2 q0 q1 q2 q3 qz fr frz fr' frz'
    generalize w3.setCell ⟨w.heap.size + 1 + 1, 1, none⟩ (.int .i64 k) = W3 at hS ⊢
    refine (rtext_calls br B a2 W3 hS.rd hb1 hB).mono ?_
    clear hb1
    rintro e w4 hp
    cases ht : textP B.l a2 with
    | fail f =>
      replace HN : Hid (nodeP B.l (fuel + 1) at_ nodes = .fail f) := Lib.hid (by rw [HN.out, ht]; rfl)
      rw [ht] at hp
      obtain ⟨rfl, hr, hg⟩ := hp
      refine ⟨rfl, ?_⟩; show NPost w br bR bN bF B (nodeP B.l (fuel + 1) at_ nodes) _ _; rw [HN.out]; exact ⟨rfl, hr, hS.K.trans (.grown hg)⟩
    | ok t a3 =>
    obtain ⟨hb1, ha1⟩ := textP_ok ht
    replace HN : Hid (nodeP B.l (fuel + 1) at_ nodes = (countP B.l a3 32 B.l.length).bind fun n a4 =>
      (listP (fun a s => nodeP B.l fuel a s) n a4 (nodes + 1)).bind fun q a5 => .ok (.mk i k t q.1, q.2) a5) := Lib.hid (by rw [HN.out, ht]; rfl)
    rw [ht] at hp
    clear ht ha1
    obtain ⟨x, rfl, rfl, hr, hg⟩ := hp
    replace hS := hS.grown hg hr
    clear hr hg
    obtain ⟨fr, frz⟩ := blk1 hS.rn.r; obtain ⟨q0, q1, q2, q3, qz⟩ := blk4 hS.X
    have hS2 := Lib.hid (hS.set 2 (.string t) rfl)
    obtain ⟨fr', frz'⟩ := blk1 hS2.out.rn.r
    go_wp2_with fail
    replace hS := hS2.out
    clear hS2 q0 q1 q2 q3 qz fr frz fr' frz'
    generalize w4.setCell ⟨w.heap.size + 1 + 1, 2, none⟩ (.string t) = W4 at hS ⊢
    have HS := Lib.hid hS
    have hsl := hS.rn.sl hS.rd
    have lx : w.heap.size + 1 + 1 < W4.heap.size := (Array.getElem?_eq_some_iff.1 hS.X).1
    clear hS
    go_region_held2 (fun w' => w'.cell? ⟨bR, 0, none⟩ = some (.pointer (some ⟨br, 0, none⟩)) ∧ w'.cell? ⟨br, 0, none⟩ = some (.slice B.A B.l.length B.c))
      (first | go_keep | exact hslk | exact hslk2)
      (first
        | (go_at_call 157; refine (count_calls br B a3 32 B.l.length _ HS.out.drew.rd hb1 hB (by omega) (by omega) hB).mono ?_; rintro e w5 hp
           rcases hp.split with ⟨f, hf, rfl, hr, hg⟩ | ⟨n, a4, x, hf, rfl, rfl, hr, hg⟩
           focus (exact ⟨rfl, NPost.fails (HN.out.trans (by rw [hf]; rfl)) hr (HS.out.drew.K.trans (.grown hg))⟩)
           replace HN : Hid (nodeP B.l (fuel + 1) at_ nodes = (listP (fun a s => nodeP B.l fuel a s) n a4 (nodes + 1)).bind fun q a5 => .ok (.mk i k t q.1, q.2) a5) := Lib.hid (by rw [HN.out, hf]; rfl)
           obtain ⟨ha4, ha4', hn32, _⟩ := countP_ok hf
           have hS5 := HS.out.drew.grown hg hr
           have hslk := hS5.rn.sl hS5.rd
           have H5 := Lib.hid (⟨hS5, ha4', hn32⟩ : _ ∧ _ ∧ _)
           clear ha4 ha4' hn32 hS5)
        | (go_at_call 168
           have hS5 := H5.out.1
           refine (list_calls fuel br bR bN bF w.heap.size B HI.out (fun _ _ _ _ _ h => nodeP_ok h) d n a4 (nodes + 1) _ (by have := HDd.out; omega) (by have := HNn.out; omega) H5.out.2.1 hS5.rd hS5.rn (blk1 hS5.D).1 hS5.lt (by have := H5.out.2.2; omega)).mono ?_
           rintro e w6 hp
           rcases hp.split with ⟨f, hf, rfl, hr, hK⟩ | ⟨l, nodes', a5, A6, c6, hf, rfl, hc6, hk6, hr, hn6, hK, ha5⟩
           focus (exact ⟨rfl, NPost.fails (HN.out.trans (by rw [hf]; rfl)) hr (hS5.K.trans hK)⟩)
           replace HN : Hid (nodeP B.l (fuel + 1) at_ nodes = .ok (.mk i k t l, nodes') a5) := Lib.hid (by rw [HN.out, hf]; rfl)
           have hS6 := hS5.keep hK hr hn6
           clear hf hp
           have hslk := hS6.rn.sl hS6.rd
           have hS7 := hS6.set 3 (.slice A6 l.length c6) rfl
           have hslk2 := hS7.rn.sl hS7.rd
           have H7 := Lib.hid hS7
           have HK6 := Lib.hid (⟨hk6, (Array.getElem?_eq_some_iff.1 hS5.X).1, hc6, ha5, (grown_set (grown_refl w6 (some (w.heap.size + 1 + 1))) 3 (.slice A6 l.length c6))⟩ : _ ∧ _ ∧ _ ∧ _ ∧ _)
           clear hS7 hk6 hK hS5
           obtain ⟨q0, q1, q2, q3, qz⟩ := blk4 hS6.X))
    all_goals
      clear q0 q1 q2 q3 qz
      have lr5 := lr
      generalize w6.setCell ⟨w.heap.size + 1 + 1, 3, none⟩ (.slice A6 l.length c6) = W7 at H7 HK6 hslk2 ⊢
      obtain ⟨q0, q1, q2, q3, qz⟩ := blk4 H7.out.X
      obtain ⟨r0, r1, r2, r3, rz⟩ := blk4 H7.out.R
      go_wp2
      obtain ⟨E, G⟩ := put4 H7.out.R (.int .i64 i) (.int .i64 k) (.string t) (.slice A6 l.length c6)
      have HG := Lib.hid (⟨E, G⟩ : _ ∧ _)
      generalize (((W7.setCell ⟨w.heap.size + 1, 0, none⟩ (.int .i64 i)).setCell ⟨w.heap.size + 1, 1, none⟩ (.int .i64 k)).setCell ⟨w.heap.size + 1, 2, none⟩ (.string t)).setCell ⟨w.heap.size + 1, 3, none⟩ (.slice A6 l.length c6) = Wf at E G HG ⊢
      obtain ⟨e0, e1, e2, e3, _⟩ := blk4 E
      clear E G q0 q1 q2 q3 qz r0 r1 r2 r3 rz
      refine bodyPost_ret (v := .agg #[.int .i64 (Nd.mk i k t l).id, .int .i64 (Nd.mk i k t l).kind, .string (Nd.mk i k t l).text, .slice A6 (Nd.mk i k t l).kids.length c6]) (by simp [results, Try.results166, go_sem, e0, e1, e2, e3, Nd.id, Nd.kind, Nd.text, Nd.kids]) rfl ?_
      show NPost w br bR bN bF B (nodeP B.l (fuel + 1) at_ nodes) _ _
      rw [HN.out]
      obtain ⟨hk6, hX5, hc6, ha5, G7⟩ := HK6.out
      obtain ⟨E, G⟩ := HG.out
      have h7 := H7.out
      have g1 := h7.rn.rn; have g2 := h7.rn.nn; have g3 := h7.rn.fn; have g4 := h7.lt
      refine ⟨⟨A6, c6, rfl, hc6, hk6.move fun b hb hlt => ⟨by omega, (G.block b (Nat.lt_of_lt_of_le hlt G7.size) (by simp; omega)).trans (G7.block b hlt (by simp; omega))⟩⟩, ?_, ?_, ?_, ha5⟩
      · exact h7.rd.grown G (fun b hb => by simp at hb; omega)
      · exact h7.rn.row G (fun b hb => by simp at hb; omega)
      · exact h7.K.row G (fun b hb => by simp at hb; omega)
end Go.Proofs.Ytimjpkmdphccmaa

/- code's reader: node, step: walks. -/
namespace Go.Proofs.Ytimjpkmdphccmaa
open Go.RowKit
attribute [local go_sem ↓] Go.wp_at_zero Go.wp_at_succ
set_option linter.unusedVariables false
set_option linter.unusedSimpArgs false

def treeP (B : List UInt8) (at_ : Nat) : PR Nd := (nodeP B 40 at_ 0).bind fun q n => .ok q.1 n
def goodNd (w : World) (x : Nd) (v : Value) (w' : World) : Prop := ∃ A c, v = .agg #[.int .i64 x.id, .int .i64 x.kind, .string x.text, .slice A x.kids.length c] ∧ x.kids.length ≤ c ∧ KidsIn (fun b => w.heap.size ≤ b) w' A x.kids
theorem NPost.split {w w' : World} {br bR bN bF : Nat} {B : Src} {res : PR (Nd × Nat)} {e : Ending} (h : NPost w br bR bN bF B res e w') :
    (∃ f, res = .fail f ∧ e = .panicked [{ v := .iface 161 (.agg #[.int .i64 (f : Int)]), recovered := false }] ∧ (∃ n, RdAt w' br B n (-1)) ∧ Keep2 br bN w w') ∨
    (∃ x nodes n A c, res = .ok (x, nodes) n ∧ e = .returned (.agg #[.int .i64 x.id, .int .i64 x.kind, .string x.text, .slice A x.kids.length c]) ∧ x.kids.length ≤ c ∧ KidsIn (fun b => w.heap.size ≤ b) w' A x.kids ∧ RdAt w' br B n (-1) ∧ RN w' br bR bN bF nodes ∧ Keep2 br bN w w' ∧ n ≤ B.l.length) := by
  cases res with
  | ok v n => obtain ⟨⟨A, c, h1, h2, h3⟩, h4, h5, h6, h7⟩ := h; exact .inr ⟨v.1, v.2, n, A, c, rfl, h1, h2, h3, h4, h5, h6, h7⟩
  | fail f => exact .inl ⟨f, rfl, h⟩
theorem RdPost.fails {α : Type} {w w' : World} {br f : Nat} {B : Src} {good : α → Value → World → Prop} {res : PR α} (h : res = .fail f) (hr : ∃ n, RdAt w' br B n (-1)) (hK : w.grownBy w' (some br)) : RdPost w br B good res (.panicked [{ v := .iface 161 (.agg #[.int .i64 (f : Int)]), recovered := false }]) w' := by
  subst h; exact ⟨rfl, hr, hK⟩
theorem RdPost.oks {α : Type} {w w' : World} {br n : Nat} {B : Src} {good : α → Value → World → Prop} {res : PR α} {v : α} {x : Value} (h : res = .ok v n) (hg : good v x w') (hr : RdAt w' br B n (-1)) (hK : w.grownBy w' (some br)) : RdPost w br B good res (.returned x) w' := by
  subst h; exact ⟨x, rfl, hg, hr, hK⟩

set_option maxRecDepth 100000 in
set_option maxHeartbeats 2000000 in
theorem rnode_calls (br : Nat) (B : Src) (at_ : Nat) (w : World) (h : RdAt w br B at_ (-1)) (hat : at_ ≤ B.l.length) (hB : B.l.length ≤ 1099511627776) :
    Calls Try.prog 152 #[.pointer (some ⟨br, 0, none⟩)] w (RdPost w br B (goodNd w) (treeP B.l at_)) := by
  go_enter Try.func152, Try.ntmps152
  go_wp2_with fail
  have lr := h.lt
  generalize hW1 : (((w.alloc _).alloc _).alloc _).alloc _ = W1
  have hb1 : Below w.heap.size w W1 := by rw [← hW1]; go_grown
  have hRes : W1.heap[w.heap.size + 1]? = some (.cells #[.int .i64 0, .int .i64 0, .string ⟨#[]⟩, .slice none 0 0] 24 (0, 0)) := by rw [← hW1]; exact alloc_old (alloc_old (alloc_new1 _ _ _) _) _
  have hz1 : W1.heap.size = w.heap.size + 4 := by rw [← hW1]; simp
  have hRN : RN W1 br w.heap.size (w.heap.size + 1 + 1) (w.heap.size + 1 + 1 + 1) 0 := by
    rw [← hW1]
    exact ⟨alloc_old (alloc_old (alloc_old (alloc_new _ _) _) _) _, alloc_old (alloc_new2 _ _ _ _) _, alloc_new3 _ _ _ _ _, lr, by omega, by omega⟩
  clear hW1
  refine (node1_calls br w.heap.size (w.heap.size + 1 + 1) (w.heap.size + 1 + 1 + 1) B hB 40 1 at_ 0 W1 (by omega) (by omega) hat (h.later hb1) hRN).mono ?_
  rintro e w2 hp
  have hgk : ∀ {w2 : World}, Keep2 br (w.heap.size + 1 + 1) W1 w2 → w.grownBy w2 (some br) := fun k => ⟨k.os.trans hb1.os, k.tape.trans hb1.tape, k.output.trans hb1.output, by have := k.size; omega, fun b hb hne => (k.block b (by omega) (by simpa using hne) (by omega)).trans (hb1.block b hb)⟩
  rcases hp.split with ⟨f, hf, rfl, hr, hK⟩ | ⟨x, nodes, n, A, c, hf, rfl, hc, hk, hr, hrn, hK, hn⟩
  · exact ⟨rfl, RdPost.fails (by rw [treeP, hf]; rfl) hr (hgk hK)⟩
  · have hP : Hid (treeP B.l at_ = .ok x n) := Lib.hid (by rw [treeP, hf]; rfl)
    have hR2 := (hK.block (w.heap.size + 1) (by omega) (by omega) (by omega)).trans hRes
    have HG := Lib.hid (hgk hK)
    clear hf hp hgk
    obtain ⟨r0, r1, r2, r3, rz⟩ := blk4 hR2
    go_wp2
    obtain ⟨E, G⟩ := put4 hR2 (.int .i64 x.id) (.int .i64 x.kind) (.string x.text) (.slice A x.kids.length c)
    generalize (((w2.setCell ⟨w.heap.size + 1, 0, none⟩ (.int .i64 x.id)).setCell ⟨w.heap.size + 1, 1, none⟩ (.int .i64 x.kind)).setCell ⟨w.heap.size + 1, 2, none⟩ (.string x.text)).setCell ⟨w.heap.size + 1, 3, none⟩ (.slice A x.kids.length c) = Wf at E G ⊢
    obtain ⟨e0, e1, e2, e3, _⟩ := blk4 E
    refine bodyPost_ret (v := .agg #[.int .i64 x.id, .int .i64 x.kind, .string x.text, .slice A x.kids.length c]) (by simp [results, Try.results152, go_sem, e0, e1, e2, e3]) rfl ?_
    exact RdPost.oks hP.out ⟨A, c, rfl, hc, hk.move fun b hb hlt => ⟨by omega, G.block b hlt (by simp; omega)⟩⟩ (hr.grown G (fun b hb => by simp at hb; omega)) (grown_step HG.out G (.inr fun b hb => by simp at hb; omega))

theorem smallP_ok {B : List UInt8} {at_ m : Nat} {v : Int} (h : smallP B at_ = .ok v m) : m ≤ B.length := by
  rw [smallP] at h
  cases ht : takeP B at_ 1 with
  | fail f => rw [ht] at h; cases h
  | ok l n =>
    rw [ht] at h
    have := takeP_ok ht
    injection h with h1 h2
    omega
theorem nodeP_le {B : List UInt8} : ∀ {fuel at_ nodes m : Nat} {q : Nd × Nat}, nodeP B fuel at_ nodes = .ok q m → m ≤ B.length := by
  intro fuel
  induction fuel with
  | zero => intro at_ nodes m q h; rw [nodeP] at h; cases h
  | succ fuel ih =>
    intro at_ nodes m q h
    rw [nodeP] at h
    split at h
    · cases h
    · rename_i hn
      cases h1 : numberP B at_ with
      | fail f => rw [h1] at h; cases h
      | ok i a1 =>
      rw [h1, PR.bind_ok] at h
      cases h2 : numberP B a1 with
      | fail f => rw [h2] at h; cases h
      | ok k a2 =>
      rw [h2, PR.bind_ok] at h
      cases h3 : textP B a2 with
      | fail f => rw [h3] at h; cases h
      | ok t a3 =>
      rw [h3, PR.bind_ok] at h
      cases h4 : countP B a3 32 B.length with
      | fail f => rw [h4] at h; cases h
      | ok n a4 =>
      rw [h4, PR.bind_ok] at h
      have hl : ∀ k a s q m, a ≤ B.length → listP (fun a s => nodeP B fuel a s) k a s = .ok q m → m ≤ B.length := by
        intro k
        induction k with
        | zero => intro a s q m hs h; injection h with h5 h6; rw [← h6]; exact hs
        | succ k ihk =>
          intro a s q m hs h
          rw [listP] at h
          cases h5 : listP (fun a s => nodeP B fuel a s) k a s with
          | fail f => rw [h5] at h; cases h
          | ok r b =>
            rw [h5, PR.bind_ok] at h
            cases h6 : nodeP B fuel b r.2 with
            | fail f => simp only [h6] at h; cases h
            | ok r' b' =>
              simp only [h6, PR.bind_ok] at h
              injection h with h7 h8
              rw [← h8]
              exact ih h6
      cases h5 : listP (fun a s => nodeP B fuel a s) n a4 (nodes + 1) with
      | fail f => rw [h5] at h; cases h
      | ok r b =>
        rw [h5, PR.bind_ok] at h
        injection h with h6 h7
        rw [← h7]
        exact hl _ _ _ _ _ (countP_ok h4).2.1 h5
theorem treeP_ok {B : List UInt8} {at_ m : Nat} {x : Nd} (h : treeP B at_ = .ok x m) : m ≤ B.length := by
  rw [treeP] at h
  cases ht : nodeP B 40 at_ 0 with
  | fail f => rw [ht] at h; cases h
  | ok l n =>
    rw [ht] at h
    have := nodeP_le ht
    injection h with h1 h2
    omega

/-- A walk that reads into one new block. -/
structure RS (w W : World) (br : Nat) (B : Src) (at_ : Nat) (t : TypeId) (cells : List Value) : Prop where
  rd : RdAt W br B at_ (-1)
  X : W.heap[w.heap.size]? = some (.cells cells.toArray t (0, 0))
  K : w.grownBy W (some br)
  lt : br < w.heap.size
theorem RS.grown {w W W' : World} {br at_ at' : Nat} {B : Src} {t : TypeId} {cells : List Value} (h : RS w W br B at_ t cells) (k : W.grownBy W' (some br)) (hr : RdAt W' br B at' (-1)) : RS w W' br B at' t cells :=
  ⟨hr, (k.block _ (Array.getElem?_eq_some_iff.1 h.X).1 (by have := h.lt; simp; omega)).trans h.X, grown_step h.K k (.inl rfl), h.lt⟩
theorem RS.set {w W : World} {br at_ : Nat} {B : Src} {t : TypeId} {cells : List Value} (h : RS w W br B at_ t cells) (i : Nat) (v : Value) : RS w (W.setCell ⟨w.heap.size, i, none⟩ v) br B at_ t (cells.set i v) := by
  have G : W.grownBy (W.setCell ⟨w.heap.size, i, none⟩ v) (some w.heap.size) := grown_set (grown_refl W _) i v
  refine ⟨h.rd.grown G (fun b hb => by have := h.lt; simp at hb; omega), ?_, grown_step h.K G (.inr fun b hb => by simp at hb; omega), h.lt⟩
  rw [setCell_blk h.X]
  simp
theorem blk9 {w : World} {b : Nat} {c0 c1 c2 c3 c4 c5 c6 c7 c8 : Value} {t : TypeId} (h : w.heap[b]? = some (.cells [c0, c1, c2, c3, c4, c5, c6, c7, c8].toArray t (0, 0))) :
    w.cell? ⟨b, 0, none⟩ = some c0 ∧ w.cell? ⟨b, 1, none⟩ = some c1 ∧ w.cell? ⟨b, 2, none⟩ = some c2 ∧ w.cell? ⟨b, 3, none⟩ = some c3 ∧ w.cell? ⟨b, 4, none⟩ = some c4 ∧ w.cell? ⟨b, 5, none⟩ = some c5 ∧ w.cell? ⟨b, 6, none⟩ = some c6 ∧ w.cell? ⟨b, 7, none⟩ = some c7 ∧ w.cell? ⟨b, 8, none⟩ = some c8 ∧ (∀ j, w.frozen? ⟨b, j, none⟩ = false) := by
  simp [World.cell?, World.frozen?, h]

def stepP (B : List UInt8) (at_ : Nat) : PR Stp := (smallP B at_).bind fun op a1 => (numberP B a1).bind fun i a2 => (numberP B a2).bind fun p a3 => (numberP B a3).bind fun q a4 => (textP B a4).bind fun t a5 => (treeP B a5).bind fun x a6 => .ok ⟨op, i, p, q, t, x⟩ a6
def goodSt (w : World) (s : Stp) (v : Value) (w' : World) : Prop := ∃ A c, v = .agg #[.int .i8 s.op, .int .i64 s.id, .int .i64 s.parent, .int .i64 s.place, .string s.text, .int .i64 s.sub.id, .int .i64 s.sub.kind, .string s.sub.text, .slice A s.sub.kids.length c] ∧ s.sub.kids.length ≤ c ∧ KidsIn (fun b => w.heap.size ≤ b) w' A s.sub.kids

set_option maxRecDepth 100000 in
set_option maxHeartbeats 2000000 in
theorem rstep_calls (br : Nat) (B : Src) (at_ : Nat) (w : World) (h : RdAt w br B at_ (-1)) (hat : at_ ≤ B.l.length) (hB : B.l.length ≤ 1099511627776) :
    Calls Try.prog 158 #[.pointer (some ⟨br, 0, none⟩)] w (RdPost w br B (goodSt w) (stepP B.l at_)) := by
  go_enter Try.func158, Try.ntmps158
  go_wp2_with fail
  have lr := h.lt
  have hS : RS w (w.alloc (.cells #[.int .i8 0, .int .i64 0, .int .i64 0, .int .i64 0, .string ⟨#[]⟩, .int .i64 0, .int .i64 0, .string ⟨#[]⟩, .slice none 0 0] 32)) br B at_ 32 [.int .i8 0, .int .i64 0, .int .i64 0, .int .i64 0, .string ⟨#[]⟩, .int .i64 0, .int .i64 0, .string ⟨#[]⟩, .slice none 0 0] :=
    ⟨h.later (by go_grown), alloc_new _ _, grown_of_below (by go_grown) _, lr⟩
  have HN : Hid (stepP B.l at_ = stepP B.l at_) := Lib.hid rfl
  generalize w.alloc _ = W0 at hS ⊢
  refine (rsmall_calls br B at_ W0 hS.rd hat hB).mono ?_
  rintro e w1 hp
  cases ht : smallP B.l at_ with
  | fail f =>
    rw [ht] at hp
    obtain ⟨rfl, hr, hg⟩ := hp
    exact ⟨rfl, RdPost.fails (HN.out.trans (by rw [stepP, ht]; rfl)) hr (grown_step hS.K hg (.inl rfl))⟩
  | ok op a1 =>
  have hb := smallP_ok ht
  replace HN : Hid (stepP B.l at_ = (numberP B.l a1).bind fun i a2 => (numberP B.l a2).bind fun p a3 => (numberP B.l a3).bind fun q a4 => (textP B.l a4).bind fun t a5 => (treeP B.l a5).bind fun x a6 => .ok ⟨op, i, p, q, t, x⟩ a6) := Lib.hid (HN.out.trans (by rw [stepP, ht]; rfl))
  rw [ht] at hp
  clear ht
  obtain ⟨_, rfl, rfl, hr, hg⟩ := hp
  replace hS := hS.grown hg hr
  clear hr hg
  obtain ⟨q0, q1, q2, q3, q4, q5, q6, q7, q8, qz⟩ := blk9 hS.X
  have hS2 := Lib.hid (hS.set 0 (.int .i8 op))
  go_wp2_with fail
  replace hS := hS2.out
  clear hS2 q0 q1 q2 q3 q4 q5 q6 q7 q8 qz
  simp only [List.set] at hS
  generalize w1.setCell ⟨w.heap.size, 0, none⟩ (.int .i8 op) = W1 at hS ⊢
  refine (rnumber_calls br B a1 W1 hS.rd hb hB).mono ?_
  clear hb
  rintro e w2 hp
  cases ht : numberP B.l a1 with
  | fail f =>
    rw [ht] at hp
    obtain ⟨rfl, hr, hg⟩ := hp
    exact ⟨rfl, RdPost.fails (HN.out.trans (by rw [ht]; rfl)) hr (grown_step hS.K hg (.inl rfl))⟩
  | ok i a2 =>
  have hb := (numberP_ok ht).2
  replace HN : Hid (stepP B.l at_ = (numberP B.l a2).bind fun p a3 => (numberP B.l a3).bind fun q a4 => (textP B.l a4).bind fun t a5 => (treeP B.l a5).bind fun x a6 => .ok ⟨op, i, p, q, t, x⟩ a6) := Lib.hid (HN.out.trans (by rw [ht]; rfl))
  rw [ht] at hp
  clear ht
  obtain ⟨_, rfl, rfl, hr, hg⟩ := hp
  replace hS := hS.grown hg hr
  clear hr hg
  obtain ⟨q0, q1, q2, q3, q4, q5, q6, q7, q8, qz⟩ := blk9 hS.X
  have hS2 := Lib.hid (hS.set 1 (.int .i64 i))
  go_wp2_with fail
  replace hS := hS2.out
  clear hS2 q0 q1 q2 q3 q4 q5 q6 q7 q8 qz
  simp only [List.set] at hS
  generalize w2.setCell ⟨w.heap.size, 1, none⟩ (.int .i64 i) = W2 at hS ⊢
  refine (rnumber_calls br B a2 W2 hS.rd hb hB).mono ?_
  clear hb
  rintro e w3 hp
  cases ht : numberP B.l a2 with
  | fail f =>
    rw [ht] at hp
    obtain ⟨rfl, hr, hg⟩ := hp
    exact ⟨rfl, RdPost.fails (HN.out.trans (by rw [ht]; rfl)) hr (grown_step hS.K hg (.inl rfl))⟩
  | ok p a3 =>
  have hb := (numberP_ok ht).2
  replace HN : Hid (stepP B.l at_ = (numberP B.l a3).bind fun q a4 => (textP B.l a4).bind fun t a5 => (treeP B.l a5).bind fun x a6 => .ok ⟨op, i, p, q, t, x⟩ a6) := Lib.hid (HN.out.trans (by rw [ht]; rfl))
  rw [ht] at hp
  clear ht
  obtain ⟨_, rfl, rfl, hr, hg⟩ := hp
  replace hS := hS.grown hg hr
  clear hr hg
  obtain ⟨q0, q1, q2, q3, q4, q5, q6, q7, q8, qz⟩ := blk9 hS.X
  have hS2 := Lib.hid (hS.set 2 (.int .i64 p))
  go_wp2_with fail
  replace hS := hS2.out
  clear hS2 q0 q1 q2 q3 q4 q5 q6 q7 q8 qz
  simp only [List.set] at hS
  generalize w3.setCell ⟨w.heap.size, 2, none⟩ (.int .i64 p) = W3 at hS ⊢
  refine (rnumber_calls br B a3 W3 hS.rd hb hB).mono ?_
  clear hb
  rintro e w4 hp
  cases ht : numberP B.l a3 with
  | fail f =>
    rw [ht] at hp
    obtain ⟨rfl, hr, hg⟩ := hp
    exact ⟨rfl, RdPost.fails (HN.out.trans (by rw [ht]; rfl)) hr (grown_step hS.K hg (.inl rfl))⟩
  | ok q a4 =>
  have hb := (numberP_ok ht).2
  replace HN : Hid (stepP B.l at_ = (textP B.l a4).bind fun t a5 => (treeP B.l a5).bind fun x a6 => .ok ⟨op, i, p, q, t, x⟩ a6) := Lib.hid (HN.out.trans (by rw [ht]; rfl))
  rw [ht] at hp
  clear ht
  obtain ⟨_, rfl, rfl, hr, hg⟩ := hp
  replace hS := hS.grown hg hr
  clear hr hg
  obtain ⟨q0, q1, q2, q3, q4, q5, q6, q7, q8, qz⟩ := blk9 hS.X
  have hS2 := Lib.hid (hS.set 3 (.int .i64 q))
  go_wp2_with fail
  replace hS := hS2.out
  clear hS2 q0 q1 q2 q3 q4 q5 q6 q7 q8 qz
  simp only [List.set] at hS
  generalize w4.setCell ⟨w.heap.size, 3, none⟩ (.int .i64 q) = W4 at hS ⊢
  refine (rtext_calls br B a4 W4 hS.rd hb hB).mono ?_
  clear hb
  rintro e w5 hp
  cases ht : textP B.l a4 with
  | fail f =>
    rw [ht] at hp
    obtain ⟨rfl, hr, hg⟩ := hp
    exact ⟨rfl, RdPost.fails (HN.out.trans (by rw [ht]; rfl)) hr (grown_step hS.K hg (.inl rfl))⟩
  | ok t a5 =>
  have hb := (textP_ok ht).1
  replace HN : Hid (stepP B.l at_ = (treeP B.l a5).bind fun x a6 => .ok ⟨op, i, p, q, t, x⟩ a6) := Lib.hid (HN.out.trans (by rw [ht]; rfl))
  rw [ht] at hp
  clear ht
  obtain ⟨_, rfl, rfl, hr, hg⟩ := hp
  replace hS := hS.grown hg hr
  clear hr hg
  obtain ⟨q0, q1, q2, q3, q4, q5, q6, q7, q8, qz⟩ := blk9 hS.X
  have hS2 := Lib.hid (hS.set 4 (.string t))
  go_wp2_with fail
  replace hS := hS2.out
  clear hS2 q0 q1 q2 q3 q4 q5 q6 q7 q8 qz
  simp only [List.set] at hS
  generalize w5.setCell ⟨w.heap.size, 4, none⟩ (.string t) = W5 at hS ⊢
  have lX := (Array.getElem?_eq_some_iff.1 hS.X).1
  refine (rnode_calls br B a5 W5 hS.rd hb hB).mono ?_
  clear hb
  rintro e w6 hp
  cases ht : treeP B.l a5 with
  | fail f =>
    rw [ht] at hp
    obtain ⟨rfl, hr, hg⟩ := hp
    exact ⟨rfl, RdPost.fails (HN.out.trans (by rw [ht]; rfl)) hr (grown_step hS.K hg (.inl rfl))⟩
  | ok x a6 =>
  have hb := treeP_ok ht
  replace HN : Hid (stepP B.l at_ = .ok ⟨op, i, p, q, t, x⟩ a6) := Lib.hid (HN.out.trans (by rw [ht]; rfl))
  rw [ht] at hp
  clear ht
  obtain ⟨_, rfl, ⟨A, c, rfl, hc, hk⟩, hr, hg⟩ := hp
  replace hS := hS.grown hg hr
  have lW := (Array.getElem?_eq_some_iff.1 hS.X).1
  clear hr hg
  obtain ⟨q0, q1, q2, q3, q4, q5, q6, q7, q8, qz⟩ := blk9 hS.X
  go_wp2
  have hG := (grown_set (grown_set (grown_set (grown_set (grown_set (grown_set (grown_set (grown_set (grown_set (grown_set (grown_set (grown_set (grown_set (grown_refl w6 (some w.heap.size)) 5 (.int .i64 x.id)) 6 (.int .i64 x.kind)) 7 (.string x.text)) 8 (.slice A x.kids.length c)) 0 (.int .i8 op)) 1 (.int .i64 i)) 2 (.int .i64 p)) 3 (.int .i64 q)) 4 (.string t)) 5 (.int .i64 x.id)) 6 (.int .i64 x.kind)) 7 (.string x.text)) 8 (.slice A x.kids.length c))
  have hF := (((((((((((((hS.set 5 (.int .i64 x.id)).set 6 (.int .i64 x.kind)).set 7 (.string x.text)).set 8 (.slice A x.kids.length c)).set 0 (.int .i8 op)).set 1 (.int .i64 i)).set 2 (.int .i64 p)).set 3 (.int .i64 q)).set 4 (.string t)).set 5 (.int .i64 x.id)).set 6 (.int .i64 x.kind)).set 7 (.string x.text)).set 8 (.slice A x.kids.length c))
  simp only [List.set] at hF
  generalize (((((((((((((w6.setCell ⟨w.heap.size, 5, none⟩ (.int .i64 x.id)).setCell ⟨w.heap.size, 6, none⟩ (.int .i64 x.kind)).setCell ⟨w.heap.size, 7, none⟩ (.string x.text)).setCell ⟨w.heap.size, 8, none⟩ (.slice A x.kids.length c)).setCell ⟨w.heap.size, 0, none⟩ (.int .i8 op)).setCell ⟨w.heap.size, 1, none⟩ (.int .i64 i)).setCell ⟨w.heap.size, 2, none⟩ (.int .i64 p)).setCell ⟨w.heap.size, 3, none⟩ (.int .i64 q)).setCell ⟨w.heap.size, 4, none⟩ (.string t)).setCell ⟨w.heap.size, 5, none⟩ (.int .i64 x.id)).setCell ⟨w.heap.size, 6, none⟩ (.int .i64 x.kind)).setCell ⟨w.heap.size, 7, none⟩ (.string x.text)).setCell ⟨w.heap.size, 8, none⟩ (.slice A x.kids.length c)) = Wf at hF hG ⊢
  have hk' : KidsIn (fun b => w.heap.size ≤ b) Wf A x.kids := hk.move fun b hb hlt => ⟨by omega, hG.block b hlt (by simp; omega)⟩
  obtain ⟨e0, e1, e2, e3, e4, e5, e6, e7, e8, ez⟩ := blk9 hF.X
  refine bodyPost_ret (v := .agg #[.int .i8 (Stp.mk op i p q t x).op, .int .i64 (Stp.mk op i p q t x).id, .int .i64 (Stp.mk op i p q t x).parent, .int .i64 (Stp.mk op i p q t x).place, .string (Stp.mk op i p q t x).text, .int .i64 (Stp.mk op i p q t x).sub.id, .int .i64 (Stp.mk op i p q t x).sub.kind, .string (Stp.mk op i p q t x).sub.text, .slice A (Stp.mk op i p q t x).sub.kids.length c]) (by simp [results, Try.results158, go_sem, e0, e1, e2, e3, e4, e5, e6, e7, e8]) rfl ?_
  exact RdPost.oks HN.out ⟨A, c, rfl, hc, hk'⟩ hF.rd hF.K
end Go.Proofs.Ytimjpkmdphccmaa

/- A row of steps under way. -/
namespace Go.Proofs.Ytimjpkmdphccmaa
open Go.RowKit

inductive StCells (S : Nat → Prop) (w : World) : List Stp → List Value → Prop where
  | nil : StCells S w [] []
  | cons {s : Stp} {ss : List Stp} {cs : List Value} {A : Option Addr} {c : Nat} (hc : s.sub.kids.length ≤ c) (hk : KidsIn S w A s.sub.kids) (h : StCells S w ss cs) :
      StCells S w (s :: ss) (.int .i8 s.op :: .int .i64 s.id :: .int .i64 s.parent :: .int .i64 s.place :: .string s.text :: .int .i64 s.sub.id :: .int .i64 s.sub.kind :: .string s.sub.text :: .slice A s.sub.kids.length c :: cs)
section
variable {S S' : Nat → Prop} {w w' : World} {l m : List Stp} {cs ds : List Value}
theorem StCells.len (h : StCells S w l cs) : cs.length = l.length * 9 := by
  induction h with
  | nil => rfl
  | cons hc hk h ih => simp only [List.length_cons, ih]; omega
theorem StCells.append (h : StCells S w l cs) (h' : StCells S w m ds) : StCells S w (l ++ m) (cs ++ ds) := by
  induction h with
  | nil => exact h'
  | cons hc hk h ih => exact .cons hc hk ih
theorem StCells.move (h : StCells S w l cs) (hs : ∀ b, S b → b < w.heap.size → S' b ∧ w'.heap[b]? = w.heap[b]?) : StCells S' w' l cs := by
  induction h with
  | nil => exact .nil
  | cons hc hk h ih => exact .cons hc (hk.move hs) ih
theorem StCells.mono (h : StCells S w l cs) (hs : ∀ b, S b → S' b) : StCells S' w l cs := h.move fun b hb _ => ⟨hs b hb, rfl⟩
theorem steps_of_cells {b : Nat} (h : StCells S w l cs) : ∀ {o : Nat}, (∀ j u, cs[j]? = some u → w.cell? ⟨b, o + j, none⟩ = some u) → ∀ i (hi : i < l.length), stIn S w b (o + i * 9) l[i] := by
  induction h with
  | nil => intro o _ i hi; simp at hi
  | @cons s ss cs A c hc hk h ih =>
    intro o hj i hi
    cases i with
    | zero =>
      have e : ∀ k, o + 0 * 9 + 5 + k = o + (5 + k) := by intro k; omega
      refine ⟨by simpa using hj 0 _ rfl, by simpa using hj 1 _ rfl, by simpa using hj 2 _ rfl, by simpa using hj 3 _ rfl, by simpa using hj 4 _ rfl, ndIn_iff.2 ⟨by simpa using hj 5 _ rfl, ?_, ?_, A, c, ?_, hc, hk⟩⟩
      · rw [e]; exact hj 6 _ rfl
      · rw [e]; exact hj 7 _ rfl
      · rw [e]; exact hj 8 _ rfl
    | succ i =>
      have := ih (o := o + 9) (fun j u hu => by rw [show o + 9 + j = o + (j + 9) by omega]; exact hj _ _ (by simpa using hu)) i (by simpa using hi)
      rw [show o + (i + 1) * 9 = o + 9 + i * 9 by omega]
      simpa using this
end
theorem StepsIn.of_row {S : Nat → Prop} {w : World} {base e n : Nat} {v : Value} {l : List Stp} {cs : List Value} (h : w.ownsRow base e 9 v n cs) (hc : StCells S w l cs) (hS : ∀ g, v.ownBlock = some g → S g) :
    ∃ A c, v = .slice A l.length c ∧ l.length ≤ c ∧ StepsIn S w A l := by
  have hn : n = l.length := by have := h.1; have := hc.len; omega
  subst hn
  rcases h.2 with ⟨rfl, h0⟩ | ⟨g, cap, cur, rfl, hb, hg, hle, hcap, hsz, htk⟩
  · rw [h0]; exact ⟨none, 0, rfl, Nat.le_refl _, .inl (List.eq_nil_of_length_eq_zero h0)⟩
  · refine ⟨_, cap, rfl, hle, .inr ⟨g, 0, rfl, hS g rfl, ?_⟩⟩
    exact steps_of_cells hc fun j u hu => by
      have := h.cells (g := g) rfl j u hu
      rwa [addr_add] at this
theorem st_append2 {wr w2 w3 : World} {base k g cap n : Nat} {e : TypeId} {u : Value} {cells : List Value} {l : List Stp} {s : Stp} {A : Option Addr} {c : Nat} {o : Obj} (hown : wr.ownsRow base e 9 u k cells) (hbase : base ≤ wr.heap.size)
    (hcells : StCells (fun b => base ≤ b ∧ some b ≠ u.ownBlock) wr l cells) (hs : wr.heap.size ≤ w2.heap.size) (hbr : ∀ b, base ≤ b → b < wr.heap.size → w2.heap[b]? = wr.heap[b]?) (hc : s.sub.kids.length ≤ c) (hk : KidsIn (fun b => wr.heap.size ≤ b) w2 A s.sub.kids)
    (hgrow : (w2.alloc o).grownBy w3 u.ownBlock) (hat : u.ownBlock = some g ∨ g = w2.heap.size + 1) :
    StCells (fun b => base ≤ b ∧ some b ≠ (Value.slice (some ⟨g, 0, none⟩) n cap).ownBlock) w3 (l ++ [s]) (cells ++ [.int .i8 s.op, .int .i64 s.id, .int .i64 s.parent, .int .i64 s.place, .string s.text, .int .i64 s.sub.id, .int .i64 s.sub.kind, .string s.sub.text, .slice A s.sub.kids.length c]) := by
  have h23 : ∀ b, b < w2.heap.size → some b ≠ u.ownBlock → w3.heap[b]? = w2.heap[b]? := fun b hb hne => (hgrow.block b (by simp; omega) hne).trans (Below.heap_alloc w2 o b hb)
  have hn : ∀ b, wr.heap.size ≤ b → some b ≠ u.ownBlock := fun b hb hk => by have := (hown.lt b hk.symm).2; omega
  refine StCells.append (hcells.move fun b hS hlt => ⟨⟨hS.1, ?_⟩, (h23 b (by omega) hS.2).trans (hbr b hS.1 hlt)⟩) (.cons hc (hk.move fun b hS hlt => ⟨⟨by omega, ?_⟩, h23 b hlt (hn b hS)⟩) .nil)
  · simp only [Value.ownBlock]
    rcases hat with h | h
    · rw [← h]; exact hS.2
    · simp; omega
  · simp only [Value.ownBlock]
    rcases hat with h | h
    · rw [← h]; exact hn b hS
    · simp; omega
end Go.Proofs.Ytimjpkmdphccmaa

/- code's reader: the steps: walks. -/
namespace Go.Proofs.Ytimjpkmdphccmaa
open Go.RowKit
attribute [local go_sem ↓] Go.wp_at_zero Go.wp_at_succ
set_option linter.unusedVariables false
set_option linter.unusedSimpArgs false

theorem stepP_ok {B : List UInt8} {at_ m : Nat} {s : Stp} (h : stepP B at_ = .ok s m) : m ≤ B.length := by
  rw [stepP] at h
  cases h1 : smallP B at_ with
  | fail f => rw [h1] at h; cases h
  | ok op a1 =>
  rw [h1, PR.bind_ok] at h
  cases h2 : numberP B a1 with
  | fail f => rw [h2] at h; cases h
  | ok i a2 =>
  rw [h2, PR.bind_ok] at h
  cases h3 : numberP B a2 with
  | fail f => rw [h3] at h; cases h
  | ok p a3 =>
  rw [h3, PR.bind_ok] at h
  cases h4 : numberP B a3 with
  | fail f => rw [h4] at h; cases h
  | ok q a4 =>
  rw [h4, PR.bind_ok] at h
  cases h5 : textP B a4 with
  | fail f => rw [h5] at h; cases h
  | ok t a5 =>
  rw [h5, PR.bind_ok] at h
  cases h6 : treeP B a5 with
  | fail f => rw [h6] at h; cases h
  | ok x a6 =>
  rw [h6, PR.bind_ok] at h
  injection h with h7 h8
  have := treeP_ok h6
  omega

def oneStep (B : List UInt8) (a : Nat) (_ : Unit) : PR (Stp × Unit) := (stepP B a).bind fun s m => .ok (s, ()) m
def goodSts (w : World) (l : List Stp × Unit) (v : Value) (w' : World) : Prop := ∃ A c, v = .slice A l.1.length c ∧ l.1.length ≤ c ∧ StepsIn (fun b => w.heap.size ≤ b) w' A l.1

set_option maxRecDepth 100000 in
set_option maxHeartbeats 2000000 in
theorem listSteps_calls (br : Nat) (B : Src) (n at_ : Nat) (w : World) (hr : RdAt w br B at_ (-1)) (hat : at_ ≤ B.l.length) (hB : B.l.length ≤ 1099511627776) (hnn : n ≤ 1099511627776) :
    Calls Try.prog 156 #[.int .i64 n, .func (.func 158) #[.pointer (some ⟨br, 0, none⟩)] #[]] w (RdPost w br B (goodSts w) (listP (oneStep B.l) n at_ ())) := by
  obtain ⟨iN, jN, jN0, jN1, jN2⟩ := info_parts info_Step
  go_enter Try.func156, Try.ntmps156
  go_wp2
  go_loopw [4, 6] (fun v4 v6 wr => ∃ (k : Nat) (cells : List Value) (l : List Stp) (m : Nat), v6 = .int .i64 k ∧ k ≤ n ∧ wr.ownsRow w.heap.size 32 9 v4 k cells ∧
      StCells (fun b => w.heap.size ≤ b ∧ some b ≠ v4.ownBlock) wr l cells ∧ w.grownBy wr (some br) ∧ RdAt wr br B m (-1) ∧ listP (oneStep B.l) k at_ () = .ok (l, ()) m ∧ m ≤ B.l.length) (fun _ v6 _ => n - (intOf v6).toNat)
  case atStart => exact ⟨0, [], [], at_, rfl, Nat.zero_le _, World.ownsRow_nil _ _ _ _, .nil, grown_refl _ _, hr, rfl, hat⟩
  case round =>
    obtain ⟨k, cells, l, m, rfl, hk, hown, hcells, hK, hrk, hl, hm⟩ := hrel
    have HL := Lib.hid hl
    clear hl
    have lr := hr.lt
    by_cases hlt : k < n
    · have i2 : (k : Int) < (n : Int) := by omega
      go_wp2_with fail
      refine (rstep_calls br B m wr hrk hm hB).mono ?_
      rintro e w2 hp
      rcases hp.split with ⟨f, hf, rfl, hr2, hg⟩ | ⟨s, m', x, hf, rfl, ⟨A', c', rfl, hc', hk'⟩, hr2, hg⟩
      · have hF : listP (oneStep B.l) n at_ () = .fail f := listP_fail (k := k + 1) (by rw [listP, HL.out, PR.bind_ok]; simp only [oneStep]; rw [hf]; rfl) n (by omega)
        exact ⟨rfl, RdPost.fails hF hr2 (grown_step hK hg (.inl rfl))⟩
      · have HP : Hid (listP (oneStep B.l) (k + 1) at_ () = .ok (l ++ [s], ()) m') := Lib.hid (by rw [listP, HL.out, PR.bind_ok]; simp only [oneStep]; rw [hf]; rfl)
        have hm' := stepP_ok hf
        clear hf hp
        have hz3 : w.heap.size ≤ wr.heap.size := hK.size
        have hz4 : wr.heap.size ≤ w2.heap.size := hg.size
        have hbl : ∀ b, w.heap.size ≤ b → b < wr.heap.size → w2.heap[b]? = wr.heap[b]? := fun b hb hlt => hg.block b hlt (by simp; omega)
        have hown2 : w2.ownsRow w.heap.size 32 9 u4 k cells := own_keep hown hbl
        have HB := Lib.hid hbl
        clear hbl
        go_wp2_with (at_builtin; go_loud (refine wpList_append_lies _ rfl _ _ _ rfl w.heap.size 32 iN _ 9 104 Try.underlying25 jN jN0 jN1 jN2 rfl (by omega) u4 k cells rfl (hown2.alloc _) ⟨w2.heap.size, 0, none⟩ 1 1 [.int .i8 s.op, .int .i64 s.id, .int .i64 s.parent, .int .i64 s.place, .string s.text, .int .i64 s.sub.id, .int .i64 s.sub.kind, .string s.sub.text, .slice A' s.sub.kids.length c'] rfl rfl (World.news_of_block (heap_alloc_new w2 _)) (by simp [Value.oneCell']) (by omega) (by unfold maxLen; omega) (by omega) (by simp; omega) (w2.heap.size + 1) (by simp) ?_); intro g cap w3 hown3 hgrow hat hlt3)
        have hro : ∀ b, u4.ownBlock = some b → w.heap.size ≤ b := fun b hb => (hown.lt b hb).1
        go_roundw
        case rel =>
          refine ⟨k + 1, _, l ++ [s], m', by go_num, by omega, hown3, ?_, ?_, ?_, HP.out, hm'⟩
          · exact st_append2 hown hz3 hcells hz4 HB.out hc' hk' hgrow hat
          · exact grown_step (grown_step (grown_step hK hg (.inl rfl)) (grown_of_below (by go_grown) none) (.inr fun b hb => by simp at hb)) hgrow (.inr hro)
          · exact (hr2.later (by go_grown)).grown hgrow (fun b hb => by have := hro b hb; omega)
        case measure => simp [intOf]; omega
    · have g5 : decide (k < n) = false := by simpa using hlt
      have hkn : k = n := by omega
      obtain ⟨A9, c9, rfl, hc9, hk9⟩ := StepsIn.of_row hown (hcells.mono (S' := fun b => w.heap.size ≤ b) fun b hb => hb.1) (fun g hg => (hown.lt g hg).1)
      go_wp2
      go_ret
      rw [← hkn]
      exact RdPost.oks HL.out ⟨A9, c9, rfl, hc9, hk9⟩ hrk hK

def stepsP (B : List UInt8) (at_ : Nat) : PR (List Stp × Unit) := (countP B at_ 57 60).bind fun n a1 => listP (oneStep B) n a1 ()

set_option maxRecDepth 100000 in
set_option maxHeartbeats 2000000 in
theorem steps1_calls (br bR : Nat) (B : Src) (at_ : Nat) (w : World) (h : RdAt w br B at_ (-1)) (hat : at_ ≤ B.l.length) (hB : B.l.length ≤ 1099511627776) (hR : w.cell? ⟨bR, 0, none⟩ = some (.pointer (some ⟨br, 0, none⟩))) (hbr : br < bR) :
    Calls Try.prog 155 #[.pointer (some ⟨bR, 0, none⟩)] w (RdPost w br B (goodSts w) (stepsP B.l at_)) := by
  have HN : Hid (stepsP B.l at_ = (countP B.l at_ 57 60).bind fun n a1 => listP (oneStep B.l) n a1 ()) := Lib.hid rfl
  go_enter Try.func155, Try.ntmps155
  go_wp2
  go_region_held2 (fun w' => w'.cell? ⟨bR, 0, none⟩ = some (.pointer (some ⟨br, 0, none⟩)))
    (first | go_keep | exact hRk)
    (first
      | (go_at_call 157; refine (count_calls br B at_ 57 60 _ h.drew hat hB (by omega) (by omega) (by omega)).mono ?_; rintro e w5 hp
         rcases hp.split with ⟨f, hf, rfl, hr, hg⟩ | ⟨n, a4, x, hf, rfl, rfl, hr, hg⟩
         focus (exact ⟨rfl, RdPost.fails (HN.out.trans (by rw [hf]; rfl)) hr (grown_undrew hg)⟩)
         replace HN : Hid (stepsP B.l at_ = listP (oneStep B.l) n a4 ()) := Lib.hid (HN.out.trans (by rw [hf]; rfl))
         obtain ⟨_, ha4, hn60, _⟩ := countP_ok hf
         have hRk := (World.cell?_of_block (a := ⟨bR, 0, none⟩) (hg.block bR (World.block_lt_of_cell? w _ hR) (by simp; omega))).trans hR
         have hg5 := grown_undrew hg
         clear hf hp)
      | (go_at_call 156
         refine (listSteps_calls br B n a4 _ hr ha4 hB (by omega)).mono ?_
         rintro e w6 hp
         rcases hp.split with ⟨f, hf, rfl, hr6, hg6⟩ | ⟨l, a5, x, hf, rfl, ⟨A6, c6, rfl, hc6, hk6⟩, hr6, hg6⟩
         focus (exact ⟨rfl, RdPost.fails (HN.out.trans hf) hr6 (grown_step hg5 hg6 (.inl rfl))⟩)
         replace HN : Hid (stepsP B.l at_ = .ok l a5) := Lib.hid (HN.out.trans hf)
         have hRk := (World.cell?_of_block (a := ⟨bR, 0, none⟩) (hg6.block bR (World.block_lt_of_cell? _ _ hRk) (by simp; omega))).trans hRk
         clear hf hp))
  all_goals
    go_wp2
    go_ret
    exact RdPost.oks HN.out ⟨A6, c6, rfl, hc6, hk6.mono fun b hb => Nat.le_trans hg5.size hb⟩ hr6 (grown_step hg5 hg6 (.inl rfl))
end Go.Proofs.Ytimjpkmdphccmaa
