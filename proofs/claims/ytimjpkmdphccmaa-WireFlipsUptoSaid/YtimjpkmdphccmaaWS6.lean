/- A range over a function whose elements lead to memory that the iterator has made: what the iterator owes, what the caller owes. Plain laws over the library's two laws of the statement; no program in sight. -/
import Derived.Test.YtimjpkmdphccmaaWS5
import Derived.Test.YtimjpkmdphccmaaProg
import Derived.RangeFuncOwn
import Derived.Shelf.Abstract
import Derived.Below
import Derived.RangeFuncBound
import Derived.RangeFuncCalls
import Derived.RangeFuncLeaves
import Derived.Shelf.RegionOpen
import Derived.WalkKit
import Derived.OwnWalkIn
import Derived.TacticsInMore
import Derived.LoopNIn
import Derived.LoopIn
import Derived.Laws.EntriesVeiled
import Derived.Tactics
import Derived.Tactics2
import Derived.Handy
import Derived.Deep.RegionHeld3
import Derived.Deep.DrawnRows
import Derived.Deep.DeepCutAuto
import Derived.KernelRfl
import Derived.BigRegion
import Derived.BigQuiet
import Derived.Deep.QuietTactic
import Derived.Outline
import Derived.Lib.Hide

namespace Go.Proofs.Ytimjpkmdphccmaa
open Go.RowKit

/-- Blocks of p have not turned. -/
structure Keep (p : Nat → Prop) (X Y : World) : Prop where
  os : Y.os = X.os
  tape : Y.tape = X.tape
  output : Y.output = X.output
  size : X.heap.size ≤ Y.heap.size
  block : ∀ b, b < X.heap.size → p b → Y.heap[b]? = X.heap[b]?
theorem Keep.of_below {p : Nat → Prop} {X Y : World} (h : Below X.heap.size X Y) : Keep p X Y := ⟨h.os, h.tape, h.output, h.size, fun b hb _ => h.block b hb⟩
theorem Keep.putObj {p : Nat → Prop} (X : World) (l : Nat) (o : Obj) (h : ¬ p l) : Keep p X (X.putObj l o) := ⟨rfl, rfl, rfl, by simp, fun b _ hb => World.putObj_heap_other (fun e => h (e ▸ hb))⟩
theorem Keep.trans {p : Nat → Prop} {X Y Z : World} (h : Keep p X Y) (k : Keep p Y Z) : Keep p X Z :=
  ⟨k.os.trans h.os, k.tape.trans h.tape, k.output.trans h.output, Nat.le_trans h.size k.size, fun b hb hp => (k.block b (Nat.lt_of_lt_of_le hb h.size) hp).trans (h.block b hb hp)⟩

theorem Keep.below {p : Nat → Prop} {B : Nat} {w X Y : World} (h : Keep p X Y) (hb : Below B w X) (hB : B ≤ w.heap.size) (hp : ∀ b, b < B → p b) : Below B w Y :=
  ⟨h.os.trans hb.os, h.tape.trans hb.tape, h.output.trans hb.output, Nat.le_trans hb.size h.size, fun b hlt => (h.block b (by have := hb.size; omega) (hp b hlt)).trans (hb.block b hlt)⟩
theorem Keep.get {p : Nat → Prop} {X Y : World} {b : Nat} {o : Obj} (h : Keep p X Y) (hb : X.heap[b]? = some o) (hp : p b) : Y.heap[b]? = some o := (h.block b (Array.getElem?_eq_some_iff.1 hb).1 hp).trans hb
theorem putObj_get {X : World} {b l : Nat} {o : Obj} (o' : Obj) (h : X.heap[b]? = some o) (hne : b ≠ l) : (X.putObj l o').heap[b]? = some o := (World.putObj_heap_other hne).trans h
theorem below_putObj {B : Nat} {w X : World} (h : Below B w X) {l : Nat} (hl : B ≤ l) (o : Obj) : Below B w (X.putObj l o) := ⟨h.os, h.tape, h.output, by have := h.size; simpa using this, fun b hb => (World.putObj_heap_other (by omega)).trans (h.block b hb)⟩
section
variable {α : Type}
/-- WHAT AN ITERATOR PROMISES. It tells which blocks are its own (O): a round leaves them; it takes but new blocks to its own. R: what may be known of an element. -/
def SeqR (P : Program) (gf : Nat) (lb : Array Value) (encs : α → Array Value) (R : Nat → α → World → Prop) (S Sp : List α → Prop) (w : World) : Prop :=
  ∀ (l : Nat) (J : (Nat → Prop) → List α → World → Prop) (Jx : List α → World → Prop) (W : World), Below w.heap.size w W →
    (∀ (O O' : Nat → Prop) s X Y, J O s X → Below X.heap.size X Y → (∀ b, O' b → O b ∨ X.heap.size ≤ b) → J O' s Y) → (∀ s X Y, Jx s X → Below X.heap.size X Y → Jx s Y) →
    (∀ (O : Nat → Prop) pre x W1, (∀ b, O b → W.heap.size ≤ b ∧ b < W1.heap.size) → J O pre W1 → R W.heap.size x W1 → YieldAt Fence.wide 0 P l (encs x) W1 fun e W' =>
      (e = .returned (.bool true) ∧ J O (pre ++ [x]) W' ∧ W1.heap.size ≤ W'.heap.size ∧ ∀ b, O b → W'.heap[b]? = W1.heap[b]?) ∨
      (e = .returned (.bool false) ∧ Jx (pre ++ [x]) W')) →
    (∀ (O : Nat → Prop) X, (∀ b, O b → W.heap.size ≤ b) → Below W.heap.size W X → J O [] X) →
    CallsIn Fence.wide 0 P gf (#[.func (.yield l) #[] #[]] ++ lb) W fun e W' => (∃ v, e = .returned v) ∧ ((∃ O xs, S xs ∧ J O xs W') ∨ (∃ pre, Sp pre ∧ Jx pre W'))

/-- What a round leaves: the loop's own two blocks (from B on), the iterator's. -/
def Leaves2 (B : Nat) (O : Nat → Prop) (W W' : World) : Prop := W'.heap[B]? = W.heap[B]? ∧ W'.heap[B + 1]? = W.heap[B + 1]? ∧ ∀ b, O b → W'.heap[b]? = W.heap[b]?
theorem Leaves2.refl (B : Nat) (O : Nat → Prop) (W : World) : Leaves2 B O W W := ⟨rfl, rfl, fun _ _ => rfl⟩
theorem Leaves2.setCell {B : Nat} {O : Nat → Prop} {W X : World} (h : Leaves2 B O W X) (hO : ∀ b, O b → B ≤ b) {b : Nat} (hb : b < B) (i : Nat) (v : Value) : Leaves2 B O W (X.setCell ⟨b, i, none⟩ v) :=
  ⟨(Below.heap_setCell _ _ _ _ (by simp only; omega)).trans h.1, (Below.heap_setCell _ _ _ _ (by simp only; omega)).trans h.2.1, fun k hk => (Below.heap_setCell _ _ _ _ (by have := hO k hk; simp only; omega)).trans (h.2.2 k hk)⟩
theorem Leaves2.below {B : Nat} {O : Nat → Prop} {W X Y : World} (h : Leaves2 B O W X) (hb : Below X.heap.size X Y) (hB : B + 1 < X.heap.size) (hO : ∀ b, O b → b < X.heap.size) : Leaves2 B O W Y :=
  ⟨(hb.block _ (by omega)).trans h.1, (hb.block _ hB).trans h.2.1, fun k hk => (hb.block _ (hO k hk)).trans (h.2.2 k hk)⟩
/-- How the body of a round may be left: B: the caller's heap where the loop begins. -/
def roundEnd (B : Nat) (O : Nat → Prop) (I : (Nat → Prop) → List α → World → Prop) (Ix : Code → List α → World → Prop) (xs : List α) (W : World) : Exit → Act → World → Prop
  | .normal, _, W' => W.heap.size ≤ W'.heap.size ∧ Leaves2 B O W W' ∧ I O xs W'
  | .ret, _, W' => Leaves2 B O W W' ∧ Ix .ret xs W'
  | .exit id, _, W' => Leaves2 B O W W' ∧ Ix (.exit id) xs W'
  | .goto t, _, W' => Leaves2 B O W W' ∧ Ix (.goto t) xs W'
  | .panic _, _, _ => False
  | .outgrown, _, _ => False

/-- What the caller's words must bear: turns of the two blocks of the loop's own. -/
abbrev Bears (B : Nat) (T : World → Prop) : Prop := ∀ X Y, T X → Keep (fun b => b ≠ B ∧ b ≠ B + 1) X Y → T Y

theorem wp_range {P : Program} {g : Operand} {ps : Array Tmp} {assign body : Code} {Q : Exit → Act → World → Prop} {a : Act} {w : World} {gf : Nat} {lb : Array Value}
    (hg : a.eval g = .func (.func gf) #[] lb) (eg : ∀ args w, (callFunc gf args).run P w = .ok (.enter gf args) w)
    {encs : α → Array Value} {R : Nat → α → World → Prop} {S Sp : List α → Prop} (hseq : SeqR P gf lb encs R S Sp w) (hps : ∀ x, (encs x).size = ps.size)
    (I : (Nat → Prop) → List α → World → Prop) (Ix : Code → List α → World → Prop) (Ax : α → Act → World → Prop)
    (hI : ∀ (O O' : Nat → Prop) s X Y, I O s X → Keep (fun b => b ≠ w.heap.size ∧ b ≠ w.heap.size + 1) X Y → (∀ b, O' b → O b ∨ X.heap.size ≤ b) → I O' s Y)
    (hIx : ∀ c s, Bears w.heap.size (Ix c s)) (hAx : ∀ x a₁, Bears w.heap.size (Ax x a₁)) (hR : ∀ x, Bears w.heap.size (R (w.heap.size + 2) x))
    (h0 : ∀ (O : Nat → Prop) X, (∀ b, O b → w.heap.size + 2 ≤ b) → Below w.heap.size w X → I O [] X)
    (hassign : ∀ (l : Nat) (x : α) (W : World), w.heap.size + 2 ≤ W.heap.size → assign.wpIn (Fence.wide.inRound l) 0 P (Exit.then (fun a₁ W₁ => Below W.heap.size W W₁ ∧ Ax x a₁ W₁) (fun _ _ _ => False))
      { tmps := (ps.zip (encs x)).foldl (fun t (p, v) => t.setIfInBounds p v) a.tmps, defers := [] } W)
    (hbody : ∀ (l : Nat) (O : Nat → Prop) (pre : List α) (x : α) (a₁ : Act) (W : World), w.heap.size + 2 ≤ W.heap.size → (∀ b, O b → w.heap.size + 2 ≤ b ∧ b < W.heap.size) → I O pre W → R (w.heap.size + 2) x W → Ax x a₁ W →
      body.wpIn (Fence.wide.inRound l) 0 P (roundEnd w.heap.size O I Ix (pre ++ [x]) W) a₁ W)
    (hdone : ∀ (O : Nat → Prop) (xs : List α) (W : World), S xs → I O xs W → W.heap[w.heap.size]? = some (.deferred (some [])) →
      Q .normal { a with defers := { target := .collected w.heap.size, args := #[] } :: a.defers } W)
    (hstop : ∀ (c : Code) (pre : List α) (W : World), Sp pre → Ix c pre W → W.heap[w.heap.size]? = some (.deferred (some [])) →
      c.wpIn Fence.wide 0 P Q { a with defers := { target := .collected w.heap.size, args := #[] } :: a.defers } W) :
    (Code.rangeFunc g ps assign body).wpIn Fence.wide 0 P Q a w := by
  have hdep : ∀ k : Nat, (Fence.wide.depth.isSome = true → 1 ≤ k) := fun k h => by cases h
  refine wpIn_rangeFunc fun fn hfn => ?_
  obtain ⟨rec, hrec⟩ : ∃ rec : LoopState → Option Code → Loop, rec = fun st pe => { state := st, pending := pe, fn, tmps := a.tmps, params := ps, assign, body, defers := w.heap.size } := ⟨_, rfl⟩
  obtain ⟨W1, hW1⟩ : ∃ W1, (w.alloc (.deferred (some []))).alloc (.loop (rec .ready none)) = W1 := ⟨_, rfl⟩
  have hsz : W1.heap.size = w.heap.size + 2 := by rw [← hW1]; simp
  have hL1 : W1.heap[w.heap.size + 1]? = some (.loop (rec .ready none)) := by
    rw [← hW1]; have := World.alloc_heap_new (w.alloc (.deferred (some []))) (.loop (rec .ready none)); rwa [World.size_alloc] at this
  have hK1 : W1.heap[w.heap.size]? = some (.deferred (some [])) := by
    rw [← hW1]; exact (Below.heap_alloc _ _ _ (by simp)).trans (World.alloc_heap_new w _)
  have hb1 : Below w.heap.size w W1 := by rw [← hW1]; exact ((Below.refl _ w).alloc (Nat.le_refl _) _).alloc (by simp) _
  refine ⟨w.heap.size + 1, [{ target := .collected w.heap.size, args := #[] }], W1, { target := .fn (.func gf) lb, args := #[.func (.yield (w.heap.size + 1)) #[] #[]] }, W1, gf,
    #[.func (.yield (w.heap.size + 1)) #[] #[]] ++ lb, W1, ?_, ?_, ?_, ?_, hdep _, ?_⟩
  · rw [← hW1, hrec]; exact run_enterLoop_outer _ _ _ _ _
  · simp only [resolve, hg]
    simp [go_sem]
  · intro f' _; trivial
  · simp [invoke, go_sem, eg]
  · have ext : ∀ {X Y : World} {b : Nat} {o : Obj}, Below X.heap.size X Y → X.heap[b]? = some o → Y.heap[b]? = some o := fun hb h => (hb.block _ (Array.getElem?_eq_some_iff.1 h).1).trans h
    have hp : ∀ (X : World) (o : Obj), Keep (fun b => b ≠ w.heap.size ∧ b ≠ w.heap.size + 1) X (X.putObj (w.heap.size + 1) o) := fun X o => Keep.putObj X _ o (by simp)
    refine (hseq (w.heap.size + 1)
      (fun O pre W => I O pre W ∧ W.heap[w.heap.size + 1]? = some (.loop (rec .ready none)) ∧ W.heap[w.heap.size]? = some (.deferred (some [])))
      (fun pre W => ∃ c, Ix c pre W ∧ W.heap[w.heap.size + 1]? = some (.loop (rec .done (some c))) ∧ W.heap[w.heap.size]? = some (.deferred (some [])))
      W1 hb1
      (fun O O' s X Y hs hb hO => ⟨hI O O' s X Y hs.1 (Keep.of_below hb) hO, ext hb hs.2.1, ext hb hs.2.2⟩)
      (fun s X Y hs hb => by
        obtain ⟨c, hc, hl, hk⟩ := hs
        exact ⟨c, hIx c s X Y hc (Keep.of_below hb), ext hb hl, ext hb hk⟩)
      ?_ (fun O X hO hb => ⟨h0 O X (fun b hb' => by have := hO b hb'; omega) (hb1.trans (hb.mono (by omega))), (hb.block _ (by omega)).trans hL1, (hb.block _ (by omega)).trans hK1⟩)).mono ?_
    · -- one round
      rintro O pre x W hO ⟨hi, hl, hk⟩ hRx
      have hy := run_yield (P := P) (args := encs x) hl (by rw [hrec]; exact hps x)
      rw [hrec] at hy
      refine ⟨fn, _, assign, body, hy, roundIn_of_wpIn hfn (wpIn_mono (hassign _ x W (Array.getElem?_eq_some_iff.1 hl).1) ?_)⟩
      intro ex a₁ Wa hq
      cases ex with
      | normal =>
        obtain ⟨hba, hax⟩ := hq
        have hla := ext hba hl
        have hka := ext hba hk
        refine ⟨_, run_beginRound hla (by rw [hrec]), ?_⟩
        have hlt : w.heap.size + 1 < Wa.heap.size := (Array.getElem?_eq_some_iff.1 hla).1
        have hl2 : (Wa.putObj (w.heap.size + 1) (.loop { rec .ready none with state := .busy })).heap[w.heap.size + 1]? = some (.loop { rec .ready none with state := .busy }) := World.putObj_heap_same hlt
        have hk2 : (Wa.putObj (w.heap.size + 1) (.loop { rec .ready none with state := .busy })).heap[w.heap.size]? = some (.deferred (some [])) := (World.putObj_heap_other (by omega)).trans hka
        have hia := hI O O pre W Wa hi (Keep.of_below hba) (fun b hb => .inl hb)
        rw [hsz] at hRx
        refine wpIn_mono (hbody _ O pre x a₁ _ (by simp; omega) (fun b hb => by have := hO b hb; have := hba.size; simp; omega) (hI O O pre _ _ hia (hp _ _) (fun b hb => .inl hb)) (hR x _ _ (hR x _ _ hRx (Keep.of_below hba)) (hp _ _)) (hAx x a₁ _ _ hax (hp _ _))) ?_
        have fin : ∀ (jump : Option Code) (W3 : World), Leaves2 w.heap.size O (Wa.putObj (w.heap.size + 1) (.loop { rec .ready none with state := .busy })) W3 →
            (Instr.endRound (w.heap.size + 1) jump).run P W3 = .ok (.bool jump.isNone) (W3.putObj (w.heap.size + 1) (.loop (rec (if jump.isNone then .ready else .done) jump))) ∧
            (W3.putObj (w.heap.size + 1) (.loop (rec (if jump.isNone then .ready else .done) jump))).heap[w.heap.size + 1]? = some (.loop (rec (if jump.isNone then .ready else .done) jump)) ∧
            (W3.putObj (w.heap.size + 1) (.loop (rec (if jump.isNone then .ready else .done) jump))).heap[w.heap.size]? = some (.deferred (some [])) := fun jump W3 hk3 => by
          have hl3 := hk3.2.1.trans hl2
          have := run_endRound (P := P) jump hl3
          rw [hrec] at this ⊢
          exact ⟨this, World.putObj_heap_same (Array.getElem?_eq_some_iff.1 hl3).1, (World.putObj_heap_other (by omega)).trans (hk3.1.trans hk2)⟩
        rintro e a3 W3 hq3
        cases e with
        | normal =>
          obtain ⟨hs3, hk3, hi3⟩ := hq3
          obtain ⟨hr, hl4, hk4⟩ := fin none W3 hk3
          refine ⟨_, _, hr, .inl ⟨rfl, ⟨hI _ _ _ _ _ hi3 (hp _ _) (fun b hb => .inl hb), hl4, hk4⟩, ?_, ?_⟩⟩
          · have := hba.size; simp at hs3 ⊢; omega
          · intro b hb
            have hbo := hO b hb
            rw [World.putObj_heap_other (by omega), hk3.2.2 b hb, World.putObj_heap_other (by omega)]
            exact hba.block b (by omega)
        | ret =>
          obtain ⟨hk3, hi3⟩ := hq3
          obtain ⟨hr, hl4, hk4⟩ := fin (some .ret) W3 hk3
          exact ⟨_, _, hr, .inr ⟨rfl, .ret, hIx _ _ _ _ hi3 (hp _ _), hl4, hk4⟩⟩
        | exit id =>
          obtain ⟨hk3, hi3⟩ := hq3
          obtain ⟨hr, hl4, hk4⟩ := fin (some (.exit id)) W3 hk3
          exact ⟨_, _, hr, .inr ⟨rfl, .exit id, hIx _ _ _ _ hi3 (hp _ _), hl4, hk4⟩⟩
        | goto t =>
          obtain ⟨hk3, hi3⟩ := hq3
          obtain ⟨hr, hl4, hk4⟩ := fin (some (.goto t)) W3 hk3
          exact ⟨_, _, hr, .inr ⟨rfl, .goto t, hIx _ _ _ _ hi3 (hp _ _), hl4, hk4⟩⟩
        | panic ch => exact hq3.elim
        | outgrown => exact hq3.elim
      | exit id => exact hq.elim
      | goto t => exact hq.elim
      | ret => exact hq.elim
      | panic ch => exact hq.elim
      | outgrown => exact hq.elim
    · -- behind the iterator
      rintro e W2 ⟨⟨v, rfl⟩, (⟨O, xs, hS, hi, hl, hk⟩ | ⟨pre, hSp, c, hi, hl, hk⟩)⟩
      · exact ⟨none, _, by have := run_endLoop (P := P) hl (by rw [hrec]; simp); rw [hrec] at this; exact this, hdone O xs _ hS (hI _ _ _ _ _ hi (hp _ _) (fun b hb => .inl hb)) ((World.putObj_heap_other (by omega)).trans hk)⟩
      · exact ⟨some c, _, by have := run_endLoop (P := P) hl (by rw [hrec]; simp); rw [hrec] at this; exact this, hstop c pre _ hSp (hIx _ _ _ _ hi (hp _ _)) ((World.putObj_heap_other (by omega)).trans hk)⟩
end
end Go.Proofs.Ytimjpkmdphccmaa

/- tree.Walk: the iterator over a tree's copy: its promise. -/
namespace Go.Proofs.Ytimjpkmdphccmaa
open Go.RowKit
attribute [local go_sem ↓] Go.wp_at_zero Go.wp_at_succ
set_option linter.unusedVariables false
set_option linter.unusedSimpArgs false
open Go.Shelf
attribute [local go_sem] Oper.semAt_some

mutual
/-- All nodes with their depths, each ahead of its kids. -/
def Nd.flat : Nd → Int → List (Nd × Int)
  | .mk i k t ks, d => (.mk i k t ks, d) :: Nd.flats ks (d + 1)
def Nd.flats : List Nd → Int → List (Nd × Int)
  | [], _ => []
  | x :: xs, d => Nd.flat x d ++ Nd.flats xs d
end
theorem Nd.flat_eq (x : Nd) (d : Int) : Nd.flat x d = (x, d) :: Nd.flats x.kids (d + 1) := by cases x; rw [Nd.flat]; rfl
theorem Nd.flats_append : ∀ (xs ys : List Nd) (d : Int), Nd.flats (xs ++ ys) d = Nd.flats xs d ++ Nd.flats ys d
  | [], ys, d => by simp [Nd.flats]
  | x :: xs, ys, d => by rw [List.cons_append, Nd.flats, Nd.flats, Nd.flats_append xs ys, List.append_assoc]

/-- What yield is handed: a depth, a node's value. -/
structure Yd where
  d : Int
  x : Nd
  A : Option Addr
  c : Nat
def Yd.out (y : Yd) : Nd × Int := (y.x, y.d)
def Yd.encs (y : Yd) : Array Value := #[.int .i64 y.d, .agg #[.int .i64 y.x.id, .int .i64 y.x.kind, .string y.x.text, .slice y.A y.x.kids.length y.c]]
/-- What may be known of it: the node can be read. -/
def Yd.R (t : Nd) (B : Nat) (y : Yd) (w : World) : Prop := KidsIn (fun b => B ≤ b) w y.A y.x.kids ∧ y.x.kids.length ≤ y.c ∧ y.x.bulk ≤ t.bulk ∧ 1 ≤ y.d ∧ y.d ≤ t.bulk

theorem oneCell_frozen {w : World} {b : Nat} {v : Value} {t : TypeId} (h : w.heap[b]? = some (.cells #[v] t (0, 0))) : w.cell? ⟨b, 0, none⟩ = some v ∧ w.frozen? ⟨b, 0, none⟩ = false := by simp [World.cell?, World.frozen?, h]

section
variable (t : Nd) (l B bY bD : Nat) (J : (Nat → Prop) → List Yd → World → Prop) (Jx : List Yd → World → Prop)
def DownPost (O : Nat → Prop) (pre : List Yd) (out : List (Nd × Int)) (W : World) (e : Ending) (W' : World) : Prop :=
  (e = .returned (.bool true) ∧ ∃ (O' : Nat → Prop) (ys : List Yd), ys.map Yd.out = out ∧ J O' (pre ++ ys) W' ∧ W.heap.size ≤ W'.heap.size ∧ (∀ b, O b → O' b ∧ W'.heap[b]? = W.heap[b]?) ∧ (∀ b, O' b → B ≤ b ∧ b < W'.heap.size)) ∨
  (e = .returned (.bool false) ∧ ∃ q : List Yd, q.map Yd.out <+: out ∧ Jx (pre ++ q) W')

set_option maxRecDepth 100000 in
set_option maxHeartbeats 2000000 in
theorem down_in (hJ : ∀ (O O' : Nat → Prop) s X Y, J O s X → Below X.heap.size X Y → (∀ b, O' b → O b ∨ X.heap.size ≤ b) → J O' s Y)
    (hY : ∀ (O : Nat → Prop) pre x W1, (∀ b, O b → B ≤ b ∧ b < W1.heap.size) → J O pre W1 → Yd.R t B x W1 → YieldAt Fence.wide 0 Try.prog l (Yd.encs x) W1 fun e W' =>
      (e = .returned (.bool true) ∧ J O (pre ++ [x]) W' ∧ W1.heap.size ≤ W'.heap.size ∧ ∀ b, O b → W'.heap[b]? = W1.heap[b]?) ∨ (e = .returned (.bool false) ∧ Jx (pre ++ [x]) W'))
    (htb : t.bulk ≤ 1099511627776) (x : Nd) : ∀ (d : Int) (A : Option Addr) (c : Nat) (O : Nat → Prop) (pre : List Yd) (W : World), (∀ b, O b → B ≤ b ∧ b < W.heap.size) → B ≤ W.heap.size → J O pre W → O bY → O bD →
      W.heap[bY]? = some (.cells #[.func (.yield l) #[] #[]] 140 (0, 0)) →
      W.heap[bD]? = some (.cells #[.func (.func 94) #[] #[.pointer (some ⟨bY, 0, none⟩), .pointer (some ⟨bD, 0, none⟩)]] 140 (0, 0)) →
      KidsIn O W A x.kids → x.kids.length ≤ c → 1 ≤ d → d + x.bulk ≤ t.bulk + 1 →
      CallsIn Fence.wide 0 Try.prog 94 #[.int .i64 d, .agg #[.int .i64 x.id, .int .i64 x.kind, .string x.text, .slice A x.kids.length c], .pointer (some ⟨bY, 0, none⟩), .pointer (some ⟨bD, 0, none⟩)] W (DownPost B J Jx O pre (Nd.flat x d) W) := by
  induction x using Nd.induct with
  | h x ih =>
  intro d A c O pre W hO hBW hj oY oD hbY hbD ha hc hd hdN
  have hdd : ∀ k : Nat, (Fence.wide.depth.isSome = true → 1 ≤ k) := fun k h => by cases h
  have hlen := x.kids_le
  have hpos := x.bulk_pos
  obtain ⟨yc, yf⟩ := oneCell_frozen hbY
  have lY := (hO _ oY).2
  have lD := (hO _ oD).2
  -- the box of x is the iterator's own
  obtain ⟨O1, hO1⟩ : ∃ O1 : Nat → Prop, O1 = fun b => O b ∨ b = W.heap.size := ⟨_, rfl⟩
  have hj1 : J O1 pre (W.alloc (.cells #[.int .i64 x.id, .int .i64 x.kind, .string x.text, .slice A x.kids.length c] 24)) := hJ O O1 pre W _ hj (by go_grown) (fun b hb => by rw [hO1] at hb; rcases hb with hb | hb; exact .inl hb; exact .inr (by omega))
  have hy := hY O1 pre ⟨d, x, A, c⟩ (W.alloc (.cells #[.int .i64 x.id, .int .i64 x.kind, .string x.text, .slice A x.kids.length c] 24)) (fun b hb => by rw [hO1] at hb; simp; rcases hb with hb | hb; (have := hO b hb; omega); omega) hj1
    ⟨(ha.mono fun b hb => (hO b hb).1).alloc _, hc, by simp only; omega, hd, by simp only; omega⟩
  refine callsIn_of_wp Try.func94 rfl trivial ?_ rfl
  simp only [Try.ntmps94, List.size_toArray, List.length_cons, List.length_nil, Nat.reduceAdd, Nat.reduceSub, Array.replicate_succ, Array.replicate_zero, List.push_toArray, List.append_toArray, List.nil_append, List.cons_append]
  obtain ⟨fn, tmps, assign, body, hy, hR⟩ := hy
  dsimp only [Yd.encs] at hy
  have HR := Lib.hid hR
  have IH := Lib.hid ih
  clear hR ih
  gi_wp2
  refine ⟨rfl, HR.out.mono ?_⟩
  clear HR
  rintro e W2 (⟨rfl, hJ2, hs2, hk2⟩ | ⟨rfl, hx2⟩)
  rotate_left
  · gi_wp2
    go_ret
    exact .inr ⟨rfl, [⟨d, x, A, c⟩], by rw [Nd.flat_eq]; exact ⟨_, rfl⟩, hx2⟩
  · have hbx := (hk2 W.heap.size (by rw [hO1]; exact .inr rfl)).trans (alloc_new _ _)
    obtain ⟨f0, f1, f2, f3, fz⟩ := blk4 hbx
    have hb1 : O1 W.heap.size := by rw [hO1]; exact .inr rfl
    have hO1b : ∀ b, O1 b → B ≤ b ∧ b < W2.heap.size := fun b hb => by
      simp at hs2
      rw [hO1] at hb
      rcases hb with hb | hb
      · have := hO b hb; omega
      · omega
    have hOO1 : ∀ b, O b → O1 b := fun b hb => by rw [hO1]; exact .inl hb
    have hW2 : ∀ b, O b → W2.heap[b]? = W.heap[b]? := fun b hb => (hk2 b (hOO1 b hb)).trans (Below.heap_alloc _ _ _ (hO b hb).2)
    have hbY2 := (hW2 _ oY).trans hbY
    have hbD2 := (hW2 _ oD).trans hbD
    have ha2 : KidsIn O1 W2 A x.kids := ha.move fun b hb _ => ⟨hOO1 b hb, hW2 b hb⟩
    have HW2 := Lib.hid hW2
    have HO := Lib.hid hO
    have HO1 := Lib.hid hO1b
    have HOO := Lib.hid hOO1
    clear hW2 hO hO1b hOO1 hk2 hj1 hy hb1 fz
    gi_wp2
    gi_loopw [17] (fun v17 wr => ∃ (k : Nat) (Ok : Nat → Prop) (ys : List Yd), v17 = .int .i64 k ∧ k ≤ x.kids.length ∧ ys.map Yd.out = Nd.flats (x.kids.take k) (d + 1) ∧ J Ok (pre ++ [⟨d, x, A, c⟩] ++ ys) wr ∧ W2.heap.size ≤ wr.heap.size ∧
      (∀ b, O1 b → Ok b ∧ wr.heap[b]? = W2.heap[b]?) ∧ (∀ b, Ok b → B ≤ b ∧ b < wr.heap.size)) (fun v17 _ => x.kids.length - (intOf v17).toNat)
    case atStart => exact ⟨0, O1, [], rfl, Nat.zero_le _, by simp [Nd.flats], by simpa using hJ2, Nat.le_refl _, fun b hb => ⟨hb, rfl⟩, HO1.out⟩
    case round =>
      obtain ⟨k, Ok, ys, rfl, hk, hys, hJk, hsk, hOk, hOkb⟩ := hrel
      have hkY := (hOk _ (HOO.out _ oY)).2.trans hbY2
      have hkD := (hOk _ (HOO.out _ oD)).2.trans hbD2
      have qY := (hOk _ (HOO.out _ oY)).1
      have qD := (hOk _ (HOO.out _ oD)).1
      obtain ⟨dc, df⟩ := oneCell_frozen hkD
      have lDk := (hOkb _ qD).2
      have lYk := (hOkb _ qY).2
      by_cases hlt : k < x.kids.length
      · obtain ⟨ba, oa, rfl, hba, na⟩ := (ha2.move (w' := wr) (S' := Ok) fun b hb _ => hOk b hb).get k hlt
        obtain ⟨x0, x1, x2, A1, q1, x3, hq1, ka⟩ := ndIn_open na
        have hkb := Nd.kid_bulk (List.getElem_mem hlt)
        have i1 : (0 : Int) ≤ (k : Int) := Int.natCast_nonneg _
        have i2 : (k : Int) < (x.kids.length : Int) := by omega
        have HC := Lib.hid (IH.out _ (List.getElem_mem hlt) (d + 1) A1 q1 Ok _ (wr.alloc (.cells #[.int .i64 x.kids[k].id, .int .i64 x.kids[k].kind, .string x.kids[k].text, .slice A1 x.kids[k].kids.length q1] 24)) (fun b hb => by have := hOkb b hb; simp; omega) (by have := HO1.out; simp; have := (hOkb _ qD); omega) (hJ Ok Ok _ wr _ hJk (by go_grown) (fun b hb => .inl hb)) qY qD (alloc_old hkY _) (alloc_old hkD _) (ka.alloc _) hq1 (by omega) (by omega))
        have HOk := Lib.hid hOk
        have HOkb := Lib.hid hOkb
        clear hOk hOkb hJk ha
        gi_wp2
        refine ⟨trivial, rfl, HC.out.mono ?_⟩
        clear HC
        rintro e W3 (⟨rfl, O3, ys3, hys3, hJ3, hs3, hk3, hO3⟩ | ⟨rfl, q, hq, hx3⟩)
        · gi_wp2
          go_roundw
          case rel =>
            refine ⟨k + 1, O3, ys ++ ys3, by go_num, by omega, ?_, by simpa [List.append_assoc] using hJ3, by simp at hs3; omega, ?_, hO3⟩
            · rw [take_snoc hlt, Nd.flats_append, List.map_append, hys, hys3]; simp [Nd.flats]
            · intro b hb
              have h1 := HOk.out b hb
              have h2 := hk3 b h1.1
              have h3 := HOkb.out b h1.1
              exact ⟨h2.1, (h2.2.trans (Below.heap_alloc _ _ _ h3.2)).trans h1.2⟩
          case measure => simp [intOf]; omega
        · gi_wp2
          go_ret
          refine .inr ⟨rfl, ⟨d, x, some ⟨ba, oa, none⟩, c⟩ :: ys ++ q, ?_, by simpa [List.append_assoc] using hx3⟩
          obtain ⟨r, hr⟩ := hq
          refine ⟨r ++ Nd.flats (x.kids.drop (k + 1)) (d + 1), ?_⟩
          have e : x.kids = x.kids.take k ++ x.kids[k] :: x.kids.drop (k + 1) := by simp
          have e2 : Nd.flats x.kids (d + 1) = Nd.flats (x.kids.take k) (d + 1) ++ (Nd.flat x.kids[k] (d + 1) ++ Nd.flats (x.kids.drop (k + 1)) (d + 1)) := by
            rw [← Nd.flats.eq_2, ← Nd.flats_append, ← e]
          rw [Nd.flat_eq x, e2, ← hr, List.map_append, List.map_cons, hys]
          simp [Yd.out]
      · have g5 : decide (k < x.kids.length) = false := by simpa using hlt
        gi_wp2
        go_ret
        have hkx : x.kids.take k = x.kids := List.take_of_length_le (by omega)
        rw [hkx] at hys
        refine .inl ⟨rfl, Ok, ⟨d, x, A, c⟩ :: ys, ?_, by simpa using hJk, ?_, ?_, hOkb⟩
        · rw [Nd.flat_eq, List.map_cons, hys]; rfl
        · simp at hs2; omega
        · intro b hb
          exact ⟨(hOk b (HOO.out b hb)).1, (hOk b (HOO.out b hb)).2.trans (HW2.out b hb)⟩
end

set_option maxRecDepth 100000 in
set_option maxHeartbeats 2000000 in
/-- tree.Walk's closure: it copies the tree, and goes over the copy. -/
theorem Walk1_seq (t : Nd) (htb : t.bulk ≤ 1099511627776) (A : Option Addr) (c : Nat) (w : World) (bT : Nat) (hT : w.heap[bT]? = some (.cells #[.int .i64 t.id, .int .i64 t.kind, .string t.text, .slice A t.kids.length c] 24 (0, 0))) (ha : KidsAt w A t.kids) (hc : t.kids.length ≤ c) :
    SeqR Try.prog 93 #[.pointer (some ⟨bT, 0, none⟩)] Yd.encs (Yd.R t) (fun ys => ys.map Yd.out = Nd.flat t 1) (fun q => q.map Yd.out <+: Nd.flat t 1) w := by
  intro l J Jx W hW hJ hJx hY h0
  have hTW := (hW.block bT (Array.getElem?_eq_some_iff.1 hT).1).trans hT
  have haW := ha.below hW
  have lT := (Array.getElem?_eq_some_iff.1 hTW).1
  obtain ⟨f0, f1, f2, f3, fz⟩ := blk4 hTW
  refine callsIn_of_wp Try.func93 rfl trivial ?_ rfl
  simp only [Try.ntmps93, List.size_toArray, List.length_cons, List.length_nil, Nat.reduceAdd, Nat.reduceSub, Array.replicate_succ, Array.replicate_zero, List.push_toArray, List.append_toArray, List.nil_append, List.cons_append]
  have hmo : Try.prog.follows .mixedOrders = true := by kernel_rfl
  gi_wp2
  generalize hW0 : (W.alloc _).alloc _ = W0
  have hB : Below W.heap.size W W0 := by rw [← hW0]; go_grown
  have hz : W0.heap.size = W.heap.size + 2 := by rw [← hW0]; simp
  have hb0 : W0.heap[W.heap.size]? = some (.cells #[.func (.yield l) #[] #[]] 140 (0, 0)) := by rw [← hW0]; exact alloc_old (alloc_new _ _) _
  have hb1 : W0.heap[W.heap.size + 1]? = some (.cells #[.func (.func 94) #[] #[.pointer (some ⟨W.heap.size, 0, none⟩), .pointer (some ⟨W.heap.size + 1, 0, none⟩)]] 140 (0, 0)) := by rw [← hW0]; exact alloc_new1 _ _ _
  clear hW0
  have ha0 := haW.below hB
  obtain ⟨e0, e1, e2, e3, ez⟩ := blk4 ((hB.block bT lT).trans hTW)
  obtain ⟨dc, df⟩ := oneCell_frozen hb1
  have HD : ∀ (W3 : World) (A' : Option Addr) (c' : Nat), Below W0.heap.size W0 W3 → KidsIn (fun b => W0.heap.size ≤ b) W3 A' t.kids → t.kids.length ≤ c' →
      CallsIn Fence.wide 0 Try.prog 94 #[.int .i64 1, .agg #[.int .i64 t.id, .int .i64 t.kind, .string t.text, .slice A' t.kids.length c'], .pointer (some ⟨W.heap.size, 0, none⟩), .pointer (some ⟨W.heap.size + 1, 0, none⟩)] W3 (fun e W' => (∃ v, e = .returned v) ∧ ((∃ (O : Nat → Prop) (xs : List Yd), xs.map Yd.out = Nd.flat t 1 ∧ J O xs W') ∨ (∃ pre : List Yd, pre.map Yd.out <+: Nd.flat t 1 ∧ Jx pre W'))) := fun W3 A' c' hb' hk' hc' => by
    have hs := hb'.size
    refine (down_in t l W.heap.size W.heap.size (W.heap.size + 1) J Jx hJ hY htb t 1 A' c' (fun b => W.heap.size ≤ b ∧ b < W3.heap.size) [] W3 (fun b hb => hb) (by omega) (h0 _ _ (fun b hb => hb.1) (hB.trans (hb'.mono (by omega)))) ⟨by omega, by omega⟩ ⟨by omega, by omega⟩ ((hb'.block _ (by omega)).trans hb0) ((hb'.block _ (by omega)).trans hb1) (hk'.lt.mono fun b hb => ⟨by omega, hb.2⟩) hc' (by omega) (by omega)).mono ?_
    rintro e W4 (⟨rfl, O', ys, hys, hj, _⟩ | ⟨rfl, q, hq, hj⟩)
    · exact ⟨⟨_, rfl⟩, .inl ⟨O', ys, hys, by simpa using hj⟩⟩
    · exact ⟨⟨_, rfl⟩, .inr ⟨q, hq, by simpa using hj⟩⟩
  have HH := Lib.hid HD
  clear HD
  gi_region_with_o (first
    | (refine ⟨trivial, rfl, ?_⟩; gi_at_call 91; refine (callsIn_wide.2 (treeCopy_calls t A c _ ha0.drew hc htb)).mono ?_; rintro e W3 ⟨A', c', rfl, hc', hk', hb'⟩; replace hb' := below_undrew hb'; have dc3 := cell_keep hb' dc)
    | (refine ⟨trivial, rfl, ?_⟩; gi_at_call 94; refine (HH.out _ _ _ hb' hk' hc').mono ?_; rintro e W4 ⟨⟨v, rfl⟩, hpost⟩))
  all_goals
    go_end0
    exact ⟨⟨_, rfl⟩, hpost⟩

theorem treeWalk_calls (t : Nd) (A : Option Addr) (c : Nat) (w : World) :
    Calls Try.prog 57 #[.agg #[.int .i64 t.id, .int .i64 t.kind, .string t.text, .slice A t.kids.length c]] w fun e w' => e = .returned (.func (.func 93) #[] #[.pointer (some ⟨w.heap.size, 0, none⟩)]) ∧ w' = w.alloc (.cells #[.int .i64 t.id, .int .i64 t.kind, .string t.text, .slice A t.kids.length c] 24) := by
  go_enter Try.func57, Try.ntmps57
  go_wp2
  go_ret
  exact ⟨rfl, rfl⟩
theorem Yd.R_bears (t : Nd) (B : Nat) (y : Yd) : Bears B (Yd.R t (B + 2) y) := fun X Y h hk => ⟨h.1.move fun b hb hlt => ⟨hb, hk.block b hlt ⟨by omega, by omega⟩⟩, h.2⟩
end Go.Proofs.Ytimjpkmdphccmaa

/- wire.least, wire.Tree: walks. -/
namespace Go.Proofs.Ytimjpkmdphccmaa
open Go.RowKit
attribute [local go_sem ↓] Go.wp_at_zero Go.wp_at_succ
set_option linter.unusedVariables false
set_option linter.unusedSimpArgs false
open Go.Shelf
attribute [local go_sem] Oper.semAt_some

/-- May a number be, from so much on? -/
def leastB (n m : Int) : Bool := decide (m ≤ n) && decide (n ≤ 1125899906842624)
theorem least_calls (n m : Int) (w : World) : Calls Try.prog 54 #[.int .i64 n, .int .i64 m] w fun e w' => e = .returned (.bool (leastB n m)) ∧ w = w' := by
  have HL : Hid (leastB n m = (decide (m ≤ n) && decide (n ≤ 1125899906842624))) := Lib.hid rfl
  go_enter Try.func54, Try.ntmps54
  go_wp2
  all_goals
    go_ret
    refine ⟨ret_bool ?_, rfl⟩
    rw [HL.out]
    first | (simp [*]; done) | (simp [*]; omega)

def okNode (n : Nat) (x : Nd) (d : Int) : Bool := decide (n ≤ 200) && decide (d ≤ 32) && leastB x.id 1 && decide (0 ≤ x.kind) && decide (x.kind ≤ 32) && decide (x.text.size ≤ 40)
def okRow : Nat → List (Nd × Int) → Bool
  | _, [] => true
  | n, (x, d) :: r => okNode (n + 1) x d && okRow (n + 1) r
theorem okRow_append : ∀ (l m : List (Nd × Int)) (n : Nat), okRow n (l ++ m) = (okRow n l && okRow (n + l.length) m)
  | [], m, n => by simp [okRow]
  | (x, d) :: l, m, n => by rw [List.cons_append, okRow, okRow, okRow_append l m, List.length_cons, Bool.and_assoc, show n + 1 + l.length = n + (l.length + 1) by omega]
theorem okRow_len : ∀ (l : List (Nd × Int)) (n : Nat), n ≤ 200 → okRow n l = true → n + l.length ≤ 200
  | [], n, hn, _ => by simpa using hn
  | (x, d) :: l, n, hn, h => by
    rw [okRow, Bool.and_eq_true] at h
    have h1 : n + 1 ≤ 200 := by
      have := h.1
      simp only [okNode, Bool.and_eq_true, decide_eq_true_eq] at this
      omega
    have := okRow_len l (n + 1) h1 h.2
    rw [List.length_cons]; omega
/-- May a tree be sent? -/
def okTree (t : Nd) : Bool := okRow 0 (Nd.flat t 1)

set_option maxRecDepth 100000 in
set_option maxHeartbeats 2000000 in
theorem wireTree_calls (t : Nd) (htb : t.bulk ≤ 1099511627776) (A : Option Addr) (c : Nat) (w : World) (ha : KidsAt w A t.kids) (hc : t.kids.length ≤ c) :
    Calls Try.prog 26 #[.agg #[.int .i64 t.id, .int .i64 t.kind, .string t.text, .slice A t.kids.length c]] w fun e w' => e = .returned (.bool (okTree t)) ∧ Below w.heap.size w w' := by
  refine (callsIn_wide (n := 0)).1 ?_
  refine callsIn_of_wp_marks Try.func26 rfl trivial ?_
  simp only [Try.ntmps26, List.size_toArray, List.length_cons, List.length_nil, Nat.reduceAdd, Nat.reduceSub, Array.replicate_succ, Array.replicate_zero, List.push_toArray, List.append_toArray, List.nil_append, List.cons_append]
  gi_wp2_with (refine ⟨trivial, rfl, ?_⟩; gi_at_call 57; refine (callsIn_wide.2 (treeWalk_calls t A c _)).mono ?_; rintro e w' ⟨rfl, rfl⟩)
  generalize hW0 : (((w.alloc _).alloc _).alloc _).alloc _ = W0
  have hB : Below w.heap.size w W0 := by rw [← hW0]; go_grown
  have hz1 : W0.heap.size ≤ w.heap.size + 4 := by rw [← hW0]; simp
  have hz2 : w.heap.size + 4 ≤ W0.heap.size := by rw [← hW0]; simp
  have hb1 : W0.heap[w.heap.size + 1]? = some (.cells #[.bool false] 4 (0, 0)) := by rw [← hW0]; exact alloc_old (alloc_old (alloc_new1 _ _ _) _) _
  have hb2 : W0.heap[w.heap.size + 2]? = some (.cells #[.int .i64 0] 3 (0, 0)) := by rw [← hW0]; exact alloc_old (alloc_new2 _ _ _ _) _
  have hb3 : W0.heap[w.heap.size + 3]? = some (.cells #[.int .i64 t.id, .int .i64 t.kind, .string t.text, .slice A t.kids.length c] 24 (0, 0)) := by rw [← hW0]; exact alloc_new3 _ _ _ _ _
  clear hW0
  refine wp_range (gf := 93) (lb := #[.pointer (some ⟨w.heap.size + 3, 0, none⟩)]) rfl (enters_of Try.func93 (by kernel_rfl) rfl) (Walk1_seq t htb A c W0 (w.heap.size + 3) hb3 (ha.below hB) hc) (fun _ => rfl)
    (fun O pre W => W.heap[w.heap.size + 1]? = some (.cells #[.bool false] 4 (0, 0)) ∧ W.heap[w.heap.size + 2]? = some (.cells #[.int .i64 pre.length] 3 (0, 0)) ∧ okRow 0 (pre.map Yd.out) = true ∧ Below w.heap.size w W)
    (fun cd pre W => cd = .ret ∧ W.heap[w.heap.size + 1]? = some (.cells #[.bool false] 4 (0, 0)) ∧ okRow 0 (pre.map Yd.out) = false ∧ Below w.heap.size w W)
    (fun y a₁ W => ∃ bx, W.heap[bx]? = some (.cells #[.int .i64 y.x.id, .int .i64 y.x.kind, .string y.x.text, .slice y.A y.x.kids.length y.c] 24 (0, 0)) ∧ W0.heap.size + 2 ≤ bx ∧ a₁ = { tmps := #[.agg #[.int .i64 t.id, .int .i64 t.kind, .string t.text, .slice A t.kids.length c], .pointer (some ⟨w.heap.size, 0, none⟩), .pointer (some ⟨w.heap.size + 1, 0, none⟩), .pointer (some ⟨w.heap.size + 2, 0, none⟩), .int .i64 y.d, .pointer (some ⟨bx, 0, none⟩), .agg #[.int .i64 t.id, .int .i64 t.kind, .string t.text, .slice A t.kids.length c], .func (.func 93) #[] #[.pointer (some ⟨w.heap.size + 3, 0, none⟩)], .int .i64 y.d, .agg #[.int .i64 y.x.id, .int .i64 y.x.kind, .string y.x.text, .slice y.A y.x.kids.length y.c], undef, undef, undef, undef, undef, undef, undef, undef, undef, undef, undef, undef, undef, undef, undef, undef, undef, undef, undef, undef, undef, undef, undef, undef, undef, undef, undef, undef, undef, undef], defers := [] })
    ?hI ?hIx ?hAx (fun y => Yd.R_bears t _ y) ?h0 ?assign ?body ?done ?stop
  case hI =>
    rintro O O' s X Y ⟨h1, h2, h3, h4⟩ hk _
    exact ⟨hk.get h1 ⟨by omega, by omega⟩, hk.get h2 ⟨by omega, by omega⟩, h3, hk.below h4 (Nat.le_refl _) fun b hb => ⟨by omega, by omega⟩⟩
  case hIx =>
    rintro cd s X Y ⟨h0, h1, h3, h4⟩ hk
    exact ⟨h0, hk.get h1 ⟨by omega, by omega⟩, h3, hk.below h4 (Nat.le_refl _) fun b hb => ⟨by omega, by omega⟩⟩
  case hAx =>
    rintro y a₁ X Y ⟨bx, h1, h2, h3⟩ hk
    exact ⟨bx, hk.get h1 ⟨by omega, by omega⟩, h2, h3⟩
  case h0 =>
    intro O X hO hb
    exact ⟨(hb.block _ (by omega)).trans hb1, (hb.block _ (by omega)).trans hb2, rfl, hB.trans (hb.mono (by omega))⟩
  case assign =>
    intro l y W hW2
    simp only [Yd.encs]
    gi_wp2
    exact ⟨by go_grown, W.heap.size, alloc_new _ _, hW2, rfl⟩
  case body =>
    rintro l O pre y a₁ W hWs hO ⟨h1, h2, h3, h4⟩ hR ⟨bx, hx, hbx, rfl⟩
    obtain ⟨c1, r1⟩ := oneCell_frozen h1
    obtain ⟨c2, r2⟩ := oneCell_frozen h2
    obtain ⟨f0, f1, f2, f3, fz⟩ := blk4 hx
    have hlen := okRow_len _ 0 (by omega) h3
    simp only [List.length_map] at hlen
    have HR := Lib.hid h3
    have HOb : Hid (∀ b, O b → W0.heap.size ≤ b) := Lib.hid (fun b hb => by have := (hO b hb).1; omega)
    have HF : Hid ((¬ ((pre.length : Int) + 1 ≤ 200 ∧ y.d ≤ 32 ∧ leastB y.x.id 1 = true ∧ 0 ≤ y.x.kind ∧ y.x.kind ≤ 32 ∧ (y.x.text.size : Int) ≤ 40)) → okRow 0 ((pre ++ [y]).map Yd.out) = false) := Lib.hid (fun hne => by
      rw [List.map_append, okRow_append, h3]
      simp only [List.map_cons, List.map_nil, Yd.out, okRow, List.length_map, okNode, Bool.true_and, Bool.and_true]
      rw [Bool.eq_false_iff]
      intro h
      simp only [Bool.and_eq_true, decide_eq_true_eq] at h
      exact hne ⟨by omega, by omega, h.1.1.1.2, by omega, by omega, by omega⟩)
    have HT : Hid (((pre.length : Int) + 1 ≤ 200 ∧ y.d ≤ 32 ∧ leastB y.x.id 1 = true ∧ 0 ≤ y.x.kind ∧ y.x.kind ≤ 32 ∧ (y.x.text.size : Int) ≤ 40) → okRow 0 ((pre ++ [y]).map Yd.out) = true) := Lib.hid (fun ht => by
      rw [List.map_append, okRow_append, h3]
      simp only [List.map_cons, List.map_nil, Yd.out, okRow, List.length_map, okNode, Bool.true_and, Bool.and_true, Bool.and_eq_true, decide_eq_true_eq]
      exact ⟨⟨⟨⟨⟨by omega, ht.2.1⟩, ht.2.2.1⟩, by omega⟩, by omega⟩, by omega⟩)
    clear h3 hO hB hb1 hb2 hb3 ha fz
    gi_wp2_with (refine ⟨trivial, rfl, ?_⟩; gi_at_call 54; refine (callsIn_wide.2 (least_calls _ _ _)).mono ?_; rintro e w' ⟨rfl, rfl⟩)
    all_goals (try (refine ⟨trivial, ?_⟩; gi_wp2_with (refine ⟨trivial, rfl, ?_⟩; gi_at_call 54; refine (callsIn_wide.2 (least_calls _ _ _)).mono ?_; rintro e w' ⟨rfl, rfl⟩)))
    all_goals have hne1 : w.heap.size + 1 ≠ w.heap.size + 2 := by omega
    all_goals have hne2 : w.heap.size + 2 ≠ w.heap.size + 1 := by omega
    all_goals first
      | exact ⟨by simp [World.setCell], (Leaves2.refl _ _ _).setCell HOb.out (by omega) 0 _, setCell_ne h1 hne1 0 _, by have := setCell_blk h2 0 (.int .i64 ((pre.length : Int) + 1)); simpa using this, HT.out ⟨by omega, by omega, by assumption, by omega, by omega, by omega⟩, h4.setCell (by simp only; omega) _⟩
      | exact ⟨((Leaves2.refl _ _ _).setCell HOb.out (by omega) 0 _).setCell HOb.out (by omega) 0 _, rfl, by have := setCell_blk (setCell_ne h1 hne1 0 (.int .i64 ((pre.length : Int) + 1))) 0 (.bool false); simpa using this, HF.out (fun hc => by obtain ⟨g1, g2, g3, g4, g5, g6⟩ := hc; first | omega | contradiction), (h4.setCell (by simp only; omega) _).setCell (by simp only; omega) _⟩
  case done =>
    rintro O xs W hS ⟨h1, h2, h3, h4⟩ hD
    obtain ⟨c1, r1⟩ := oneCell_frozen h1
    have HR := Lib.hid h3
    clear h3
    gi_wp2
    have hE := setCell_blk h1 0 (.bool true)
    simp only [List.setIfInBounds_toArray, List.set] at hE
    have hD2 := setCell_ne hD (show W0.heap.size ≠ w.heap.size + 1 by omega) 0 (.bool true)
    refine ⟨by simp, .inl ⟨_, _, rfl, run_takeDeferred hD2, ?_⟩⟩
    obtain ⟨c9, _⟩ := oneCell_frozen (putObj_get (.deferred none) hE (show w.heap.size + 1 ≠ W0.heap.size by omega))
    refine ⟨.bool true, by simp [results, Try.results26, go_sem, c9], ret_bool ?_, below_putObj (h4.setCell (by simp only; omega) _) (by omega) _⟩
    rw [okTree, ← hS, HR.out]
  case stop =>
    rintro cd pre W hS ⟨rfl, h1, h3, h4⟩ hD
    obtain ⟨c1, r1⟩ := oneCell_frozen h1
    have HR := Lib.hid h3
    clear h3
    gi_wp2
    refine ⟨by simp, .inl ⟨_, _, rfl, run_takeDeferred hD, ?_⟩⟩
    obtain ⟨c9, _⟩ := oneCell_frozen (putObj_get (.deferred none) h1 (show w.heap.size + 1 ≠ W0.heap.size by omega))
    refine ⟨.bool false, by simp [results, Try.results26, go_sem, c9], ret_bool ?_, below_putObj h4 (by omega) _⟩
    obtain ⟨r, hr⟩ := hS
    rw [okTree, ← hr, okRow_append, HR.out]; rfl
end Go.Proofs.Ytimjpkmdphccmaa

/- What was written is read as it was: plain laws of the reader. -/
namespace Go.Proofs.Ytimjpkmdphccmaa
open Go.RowKit

theorem takeP_at (p l r : List UInt8) : takeP (p ++ (l ++ r)) p.length l.length = .ok l (p.length + l.length) := by
  rw [takeP, if_pos (by simp only [List.length_append]; omega)]
  simp
theorem takeP_at' {p l r : List UInt8} {n : Nat} (h : l.length = n) : takeP (p ++ (l ++ r)) p.length n = .ok l (p.length + n) := by subst h; exact takeP_at p l r
theorem numberP_at (p r : List UInt8) (n : Int) (h0 : -9223372036854775808 ≤ n) (h1 : n ≤ 9223372036854775807) : numberP (p ++ (numB n ++ r)) p.length = .ok n (p.length + 8) := by
  rw [numberP, takeP_at' (numB_length n), PR.bind_ok, fold_numB n h0 h1]
theorem countP_at (p r : List UInt8) (n size most : Nat) (h0 : n ≤ 1099511627776) (h1 : n ≤ most) (hs : 1 ≤ size) (h2 : n * size ≤ r.length) : countP (p ++ (numB (n : Int) ++ r)) p.length size most = .ok n (p.length + 8) := by
  rw [countP, numberP_at p r n (by omega) (by omega), PR.bind_ok]
  have e : (p ++ (numB (n : Int) ++ r)).length - (p.length + 8) = r.length := by simp only [List.length_append, numB_length]; omega
  rw [e]
  have h3 : (n : Int) ≤ (r.length : Int) / (size : Int) := by
    rw [Int.le_ediv_iff_mul_le (by omega)]
    exact_mod_cast h2
  rw [if_neg (by omega)]
  simp
theorem textP_at (p r : List UInt8) (s : ByteArray) (h : s.size ≤ 1099511627776) : textP (p ++ (textB s ++ r)) p.length = .ok s (p.length + (textB s).length) := by
  have hz : s.data.toList.length = s.size := by rw [Array.length_toList]; rfl
  have hs : (⟨s.data.toList.toArray⟩ : ByteArray) = s := by cases s; simp only [Array.toArray_toList]
  generalize hn : s.size = n at *
  generalize hl : s.data.toList = l at *
  rw [textP, textB, hn, hl, List.append_assoc, countP_at p _ n 1 _ h (by simp only [List.length_append]; omega) (by omega) (by simp only [List.length_append]; omega), PR.bind_ok]
  have e : p ++ (numB (n : Int) ++ (l ++ r)) = (p ++ numB (n : Int)) ++ (l ++ r) := by simp only [List.append_assoc]
  rw [e, show p.length + 8 = (p ++ numB (n : Int)).length by simp only [List.length_append, numB_length], takeP_at' hz, PR.bind_ok, hs]
  congr 1
  simp only [List.length_append, numB_length]
  omega

theorem Nd.bytes_min (x : Nd) : 32 ≤ x.bytes.length := by
  rw [Nd.bytes_eq]; simp only [List.length_append, numB_length, textB_length]; omega
theorem Nd.bytess_min : ∀ l : List Nd, l.length * 32 ≤ (Nd.bytess l).length
  | [] => by simp
  | x :: xs => by have := Nd.bytess_min xs; have := x.bytes_min; rw [Nd.bytess, List.length_append, List.length_cons]; omega
theorem Nd.cnt_pos (x : Nd) : 1 ≤ x.cnt := by rw [Nd.cnt_eq]; omega
theorem Nd.cnts_take {l : List Nd} {k : Nat} (h : k < l.length) : Nd.cnts (l.take (k + 1)) = Nd.cnts (l.take k) + (l[k]).cnt := by
  rw [take_snoc h, Nd.cnts_append]; simp [Nd.cnts]
theorem Nd.cnts_mem {l : List Nd} {x : Nd} (h : x ∈ l) : x.cnt ≤ Nd.cnts l := by
  induction l with
  | nil => simp at h
  | cons y ys ih =>
    rw [Nd.cnts]
    rcases List.mem_cons.1 h with rfl | h
    · omega
    · have := ih h; omega
theorem Nd.cnts_take_le (l : List Nd) (k : Nat) : Nd.cnts (l.take k) ≤ Nd.cnts l := by
  have : Nd.cnts l = Nd.cnts (l.take k) + Nd.cnts (l.drop k) := by rw [← Nd.cnts_append, List.take_append_drop]
  omega

theorem nodeP_at : ∀ (fuel : Nat) (x : Nd) (p r : List UInt8) (s : Nat), Nd.deep fuel x → s + x.cnt ≤ 200 → x.wf → x.bulk ≤ 1099511627776 → nodeP (p ++ (x.bytes ++ r)) fuel p.length s = .ok (x, s + x.cnt) (p.length + x.bytes.length) := by
  intro fuel
  induction fuel with
  | zero => intro x p r s hd; exact hd.elim
  | succ fuel ih =>
    intro x p r s hd hc hw hb
    rw [Nd.deep] at hd
    obtain ⟨w1, w2, w3, w4, w5⟩ := x.wf_eq.1 hw
    have w5' := (Nd.wfs_iff _).1 w5
    have hce := x.cnt_eq
    have hbe := x.bulk_eq
    have hkl := x.kids_le
    have hmin := Nd.bytess_min x.kids
    have e0 : p ++ (x.bytes ++ r) = p ++ (numB x.id ++ (numB x.kind ++ (textB x.text ++ (numB (x.kids.length : Int) ++ (Nd.bytess x.kids ++ r))))) := by
      rw [Nd.bytes_eq]; simp only [List.append_assoc]
    have e1 : p ++ (x.bytes ++ r) = (p ++ numB x.id) ++ (numB x.kind ++ (textB x.text ++ (numB (x.kids.length : Int) ++ (Nd.bytess x.kids ++ r)))) := by
      rw [e0]; simp only [List.append_assoc]
    have e2 : p ++ (x.bytes ++ r) = (p ++ numB x.id ++ numB x.kind) ++ (textB x.text ++ (numB (x.kids.length : Int) ++ (Nd.bytess x.kids ++ r))) := by
      rw [e0]; simp only [List.append_assoc]
    have e3 : p ++ (x.bytes ++ r) = (p ++ numB x.id ++ numB x.kind ++ textB x.text) ++ (numB (x.kids.length : Int) ++ (Nd.bytess x.kids ++ r)) := by
      rw [e0]; simp only [List.append_assoc]
    have e4 : p ++ (x.bytes ++ r) = (p ++ numB x.id ++ numB x.kind ++ textB x.text ++ numB (x.kids.length : Int)) ++ (Nd.bytess x.kids ++ r) := by
      rw [e0]; simp only [List.append_assoc]
    have l1 : p.length + 8 = (p ++ numB x.id).length := by simp [numB_length]
    have l2 : (p ++ numB x.id).length + 8 = (p ++ numB x.id ++ numB x.kind).length := by simp only [List.length_append, numB_length]
    have l3 : (p ++ numB x.id ++ numB x.kind).length + (textB x.text).length = (p ++ numB x.id ++ numB x.kind ++ textB x.text).length := by simp only [List.length_append]
    have l4 : (p ++ numB x.id ++ numB x.kind ++ textB x.text).length + 8 = (p ++ numB x.id ++ numB x.kind ++ textB x.text ++ numB (x.kids.length : Int)).length := by simp only [List.length_append, numB_length]
    have n1 : numberP (p ++ (x.bytes ++ r)) p.length = .ok x.id (p.length + 8) := by rw [e0]; exact numberP_at _ _ _ w1 w2
    have n2 : numberP (p ++ (x.bytes ++ r)) (p.length + 8) = .ok x.kind ((p ++ numB x.id).length + 8) := by rw [e1, l1]; exact numberP_at _ _ _ w3 w4
    have n3 : textP (p ++ (x.bytes ++ r)) ((p ++ numB x.id).length + 8) = .ok x.text ((p ++ numB x.id ++ numB x.kind).length + (textB x.text).length) := by rw [e2, l2]; exact textP_at _ _ _ (by omega)
    have n4 : countP (p ++ (x.bytes ++ r)) ((p ++ numB x.id ++ numB x.kind).length + (textB x.text).length) 32 (p ++ (x.bytes ++ r)).length = .ok x.kids.length ((p ++ numB x.id ++ numB x.kind ++ textB x.text).length + 8) := by
      rw [l3, e3]; exact countP_at _ _ _ _ _ (by omega) (by simp only [List.length_append]; omega) (by omega) (by simp only [List.length_append]; omega)
    have n5 : ∀ k, k ≤ x.kids.length → listP (fun a s => nodeP (p ++ (x.bytes ++ r)) fuel a s) k ((p ++ numB x.id ++ numB x.kind ++ textB x.text).length + 8) (s + 1) = .ok (x.kids.take k, s + 1 + Nd.cnts (x.kids.take k)) ((p ++ numB x.id ++ numB x.kind ++ textB x.text ++ numB (x.kids.length : Int)).length + (Nd.bytess (x.kids.take k)).length) := by
      intro k
      induction k with
      | zero => intro _; rw [l4]; simp [listP, Nd.cnts, Nd.bytess]
      | succ k ihk =>
        intro hk
        have hlt : k < x.kids.length := by omega
        have hm : x.kids[k] ∈ x.kids := List.getElem_mem hlt
        have hcs := Nd.cnts_take hlt
        have hcl := Nd.cnts_take_le x.kids (k + 1)
        rw [listP, ihk (by omega), PR.bind_ok]
        simp only
        have e5 : p ++ (x.bytes ++ r) = (p ++ numB x.id ++ numB x.kind ++ textB x.text ++ numB (x.kids.length : Int) ++ Nd.bytess (x.kids.take k)) ++ ((x.kids[k]).bytes ++ (Nd.bytess (x.kids.drop (k + 1)) ++ r)) := by
          rw [e4]
          have : Nd.bytess x.kids = Nd.bytess (x.kids.take k) ++ ((x.kids[k]).bytes ++ Nd.bytess (x.kids.drop (k + 1))) := by
            conv => lhs; rw [← List.take_append_drop k x.kids, List.drop_eq_getElem_cons hlt]
            rw [Nd.bytess_append, Nd.bytess]
          rw [this]; simp only [List.append_assoc]
        have l5 : (p ++ numB x.id ++ numB x.kind ++ textB x.text ++ numB (x.kids.length : Int)).length + (Nd.bytess (x.kids.take k)).length = (p ++ numB x.id ++ numB x.kind ++ textB x.text ++ numB (x.kids.length : Int) ++ Nd.bytess (x.kids.take k)).length := by simp; omega
        have hbk := Nd.kid_bulk hm
        have := ih x.kids[k] (p ++ numB x.id ++ numB x.kind ++ textB x.text ++ numB (x.kids.length : Int) ++ Nd.bytess (x.kids.take k)) (Nd.bytess (x.kids.drop (k + 1)) ++ r) (s + 1 + Nd.cnts (x.kids.take k)) (hd _ hm) (by omega) (w5' _ hm) (by omega)
        rw [← e5] at this
        rw [l5, this, PR.bind_ok]
        simp only
        have t1 : x.kids.take k ++ [x.kids[k]] = x.kids.take (k + 1) := (take_snoc hlt).symm
        rw [t1, hcs, Nat.add_assoc (s + 1)]
        congr 1
        rw [take_snoc hlt, Nd.bytess_append]
        simp [Nd.bytess]
        omega
    rw [nodeP, if_neg (by have := x.cnt_pos; omega), n1, PR.bind_ok, n2, PR.bind_ok, n3, PR.bind_ok, n4, PR.bind_ok, n5 x.kids.length (Nat.le_refl _), PR.bind_ok]
    simp only [List.take_length]
    rw [Nd.eta, hce, Nat.add_assoc]
    congr 1
    rw [Nd.bytes_eq]
    simp [numB_length]
    omega
theorem treeP_at (x : Nd) (p r : List UInt8) (hd : Nd.deep 40 x) (hc : x.cnt ≤ 200) (hw : x.wf) (hb : x.bulk ≤ 1099511627776) : treeP (p ++ (x.bytes ++ r)) p.length = .ok x (p.length + x.bytes.length) := by
  rw [treeP, nodeP_at 40 x p r 0 hd (by omega) hw hb, PR.bind_ok]
theorem toI8_opB (n : Int) (h0 : -128 ≤ n) (h1 : n ≤ 127) : toI8 (foldB [opB n]) = n := by
  have e : foldB [opB n] = ((opB n).toNat : Int) := by simp [foldB]
  rw [e, opB_val, toI8]
  split <;> omega
theorem smallP_at (p r : List UInt8) (n : Int) (h0 : -128 ≤ n) (h1 : n ≤ 127) : smallP (p ++ ([opB n] ++ r)) p.length = .ok n (p.length + 1) := by
  rw [smallP, takeP_at' (by simp), PR.bind_ok, toI8_opB n h0 h1]
/-- A step that can be read back. -/
def Stp.fits (s : Stp) : Prop := s.wf ∧ Nd.deep 40 s.sub ∧ s.sub.cnt ≤ 200 ∧ s.bulk ≤ 1099511627776
theorem stepP_at (s : Stp) (p r : List UInt8) (h : s.fits) : stepP (p ++ (s.bytes ++ r)) p.length = .ok s (p.length + s.bytes.length) := by
  obtain ⟨⟨w1, w2, w3, w4, w5, w6, w7, w8, w9⟩, hd, hc, hb⟩ := h
  rw [Stp.bulk] at hb
  have e0 : p ++ (s.bytes ++ r) = p ++ ([opB s.op] ++ (numB s.id ++ (numB s.parent ++ (numB s.place ++ (textB s.text ++ (s.sub.bytes ++ r)))))) := by rw [Stp.bytes]; simp only [List.append_assoc]
  have e1 : p ++ (s.bytes ++ r) = (p ++ [opB s.op]) ++ (numB s.id ++ (numB s.parent ++ (numB s.place ++ (textB s.text ++ (s.sub.bytes ++ r))))) := by rw [e0]; simp only [List.append_assoc]
  have e2 : p ++ (s.bytes ++ r) = (p ++ [opB s.op] ++ numB s.id) ++ (numB s.parent ++ (numB s.place ++ (textB s.text ++ (s.sub.bytes ++ r)))) := by rw [e0]; simp only [List.append_assoc]
  have e3 : p ++ (s.bytes ++ r) = (p ++ [opB s.op] ++ numB s.id ++ numB s.parent) ++ (numB s.place ++ (textB s.text ++ (s.sub.bytes ++ r))) := by rw [e0]; simp only [List.append_assoc]
  have e4 : p ++ (s.bytes ++ r) = (p ++ [opB s.op] ++ numB s.id ++ numB s.parent ++ numB s.place) ++ (textB s.text ++ (s.sub.bytes ++ r)) := by rw [e0]; simp only [List.append_assoc]
  have e5 : p ++ (s.bytes ++ r) = (p ++ [opB s.op] ++ numB s.id ++ numB s.parent ++ numB s.place ++ textB s.text) ++ (s.sub.bytes ++ r) := by rw [e0]; simp only [List.append_assoc]
  have l1 : p.length + 1 = (p ++ [opB s.op]).length := by simp
  have l2 : (p ++ [opB s.op]).length + 8 = (p ++ [opB s.op] ++ numB s.id).length := by simp only [List.length_append, numB_length]
  have l3 : (p ++ [opB s.op] ++ numB s.id).length + 8 = (p ++ [opB s.op] ++ numB s.id ++ numB s.parent).length := by simp only [List.length_append, numB_length]
  have l4 : (p ++ [opB s.op] ++ numB s.id ++ numB s.parent).length + 8 = (p ++ [opB s.op] ++ numB s.id ++ numB s.parent ++ numB s.place).length := by simp only [List.length_append, numB_length]
  have l5 : (p ++ [opB s.op] ++ numB s.id ++ numB s.parent ++ numB s.place).length + (textB s.text).length = (p ++ [opB s.op] ++ numB s.id ++ numB s.parent ++ numB s.place ++ textB s.text).length := by simp only [List.length_append]
  have n0 : smallP (p ++ (s.bytes ++ r)) p.length = .ok s.op (p.length + 1) := by rw [e0]; exact smallP_at _ _ _ w1 w2
  have n1 : numberP (p ++ (s.bytes ++ r)) (p.length + 1) = .ok s.id ((p ++ [opB s.op]).length + 8) := by rw [e1, l1]; exact numberP_at _ _ _ w3 w4
  have n2 : numberP (p ++ (s.bytes ++ r)) ((p ++ [opB s.op]).length + 8) = .ok s.parent ((p ++ [opB s.op] ++ numB s.id).length + 8) := by rw [e2, l2]; exact numberP_at _ _ _ w5 w6
  have n3 : numberP (p ++ (s.bytes ++ r)) ((p ++ [opB s.op] ++ numB s.id).length + 8) = .ok s.place ((p ++ [opB s.op] ++ numB s.id ++ numB s.parent).length + 8) := by rw [e3, l3]; exact numberP_at _ _ _ w7 w8
  have n4 : textP (p ++ (s.bytes ++ r)) ((p ++ [opB s.op] ++ numB s.id ++ numB s.parent).length + 8) = .ok s.text ((p ++ [opB s.op] ++ numB s.id ++ numB s.parent ++ numB s.place).length + (textB s.text).length) := by rw [e4, l4]; exact textP_at _ _ _ (by omega)
  have n5 : treeP (p ++ (s.bytes ++ r)) ((p ++ [opB s.op] ++ numB s.id ++ numB s.parent ++ numB s.place).length + (textB s.text).length) = .ok s.sub ((p ++ [opB s.op] ++ numB s.id ++ numB s.parent ++ numB s.place ++ textB s.text).length + s.sub.bytes.length) := by rw [e5, l5]; exact treeP_at _ _ _ hd hc w9 (by omega)
  rw [stepP, n0, PR.bind_ok, n1, PR.bind_ok, n2, PR.bind_ok, n3, PR.bind_ok, n4, PR.bind_ok, n5, PR.bind_ok]
  congr 1
  simp [Stp.bytes]
  omega
theorem Stp.bytes_min (s : Stp) : 57 ≤ s.bytes.length := by
  have := s.sub.bytes_min
  simp only [Stp.bytes, List.length_append, numB_length, textB_length, List.length_singleton]; omega
theorem stepsBs_min : ∀ l : List Stp, l.length * 57 ≤ (stepsBs l).length
  | [] => by simp
  | s :: r => by have := stepsBs_min r; have := s.bytes_min; rw [stepsBs, List.length_append, List.length_cons]; omega
theorem listSteps_at (l : List Stp) (p r : List UInt8) (h : ∀ s ∈ l, s.fits) : ∀ k, k ≤ l.length → listP (oneStep (p ++ (stepsBs l ++ r))) k p.length () = .ok (l.take k, ()) (p.length + (stepsBs (l.take k)).length) := by
  intro k
  induction k with
  | zero => intro _; simp [listP, stepsBs]
  | succ k ih =>
    intro hk
    have hlt : k < l.length := by omega
    rw [listP, ih (by omega), PR.bind_ok]
    simp only [oneStep]
    have e5 : p ++ (stepsBs l ++ r) = (p ++ stepsBs (l.take k)) ++ ((l[k]).bytes ++ (stepsBs (l.drop (k + 1)) ++ r)) := by
      have : stepsBs l = stepsBs (l.take k) ++ ((l[k]).bytes ++ stepsBs (l.drop (k + 1))) := by
        conv => lhs; rw [← List.take_append_drop k l, List.drop_eq_getElem_cons hlt]
        rw [stepsBs_append, stepsBs]
      rw [this]; simp only [List.append_assoc]
    have := stepP_at l[k] (p ++ stepsBs (l.take k)) (stepsBs (l.drop (k + 1)) ++ r) (h _ (List.getElem_mem hlt))
    rw [← e5, List.length_append] at this
    rw [this, PR.bind_ok, PR.bind_ok]
    simp only
    rw [← take_snoc hlt]
    congr 1
    rw [take_snoc hlt, stepsBs_append]
    simp [stepsBs]
    omega
theorem stepsP_at (l : List Stp) (p r : List UInt8) (hl : l.length ≤ 60) (h : ∀ s ∈ l, s.fits) : stepsP (p ++ (stepsB l ++ r)) p.length = .ok (l, ()) (p.length + (stepsB l).length) := by
  have hm := stepsBs_min l
  rw [stepsP, stepsB, List.append_assoc, countP_at p _ l.length 57 60 (by omega) hl (by omega) (by simp only [List.length_append]; omega), PR.bind_ok]
  have e : p ++ (numB (l.length : Int) ++ (stepsBs l ++ r)) = (p ++ numB (l.length : Int)) ++ (stepsBs l ++ r) := by simp
  rw [e, show p.length + 8 = (p ++ numB (l.length : Int)).length by simp [numB_length], listSteps_at l _ r h l.length (Nat.le_refl _)]
  rw [List.take_length]
  congr 1
  simp [numB_length]
  omega

/-- What may be sent can be read back. -/
theorem flat_len : ∀ (x : Nd) (d : Int), (Nd.flat x d).length = x.cnt := by
  intro x
  induction x using Nd.induct with
  | h x ih =>
    intro d
    rw [Nd.flat_eq, Nd.cnt_eq, List.length_cons]
    have : ∀ (l : List Nd), (∀ y ∈ l, ∀ d, (Nd.flat y d).length = y.cnt) → (Nd.flats l (d + 1)).length = Nd.cnts l := by
      intro l
      induction l with
      | nil => intro _; simp [Nd.flats, Nd.cnts]
      | cons y ys ihl => intro h; rw [Nd.flats, Nd.cnts, List.length_append, h y (by simp), ihl fun z hz => h z (by simp [hz])]
    rw [this x.kids ih]; omega
theorem okRow_all : ∀ (l : List (Nd × Int)) (n : Nat), okRow n l = true → ∀ q ∈ l, q.2 ≤ 32 ∧ 1 ≤ q.1.id ∧ q.1.id ≤ 1125899906842624 ∧ 0 ≤ q.1.kind ∧ q.1.kind ≤ 32 ∧ q.1.text.size ≤ 40
  | [], _, _, q, hq => by simp at hq
  | (x, d) :: r, n, h, q, hq => by
    rw [okRow, Bool.and_eq_true] at h
    rcases List.mem_cons.1 hq with rfl | hq
    · have := h.1
      simp only [okNode, leastB, Bool.and_eq_true, decide_eq_true_eq] at this
      simp only
      omega
    · exact okRow_all r (n + 1) h.2 q hq
theorem flat_mem : ∀ (x : Nd) (d : Int), (x, d) ∈ Nd.flat x d := fun x d => by rw [Nd.flat_eq]; simp
theorem flats_mem {l : List Nd} {y : Nd} (h : y ∈ l) (d : Int) : ∀ q ∈ Nd.flat y d, q ∈ Nd.flats l d := by
  induction l with
  | nil => simp at h
  | cons z zs ih =>
    intro q hq
    rw [Nd.flats]
    rcases List.mem_cons.1 h with rfl | h
    · exact List.mem_append_left _ hq
    · exact List.mem_append_right _ (ih h q hq)
theorem deep_of_flat : ∀ (fuel : Nat) (x : Nd) (d : Int), (∀ q ∈ Nd.flat x d, q.2 ≤ d + fuel - 1) → 1 ≤ fuel → Nd.deep fuel x := by
  intro fuel
  induction fuel with
  | zero => intro x d _ h; omega
  | succ fuel ih =>
    intro x d h _
    rw [Nd.deep]
    intro k hk
    have hin : ∀ q ∈ Nd.flat k (d + 1), q ∈ Nd.flat x d := fun q hq => by rw [Nd.flat_eq]; exact List.mem_cons_of_mem _ (flats_mem hk _ q hq)
    have h1 := h _ (hin _ (flat_mem k (d + 1)))
    simp only at h1
    exact ih k (d + 1) (fun q hq => by have := h q (hin q hq); omega) (by omega)
theorem wf_of_flat : ∀ (x : Nd) (d : Int), (∀ q ∈ Nd.flat x d, -9223372036854775808 ≤ q.1.id ∧ q.1.id ≤ 9223372036854775807 ∧ -9223372036854775808 ≤ q.1.kind ∧ q.1.kind ≤ 9223372036854775807) → x.wf := by
  intro x
  induction x using Nd.induct with
  | h x ih =>
    intro d h
    rw [Nd.wf_eq]
    obtain ⟨h1, h2, h3, h4⟩ := h _ (flat_mem x d)
    refine ⟨h1, h2, h3, h4, (Nd.wfs_iff _).2 fun y hy => ih y hy (d + 1) fun q hq => h q ?_⟩
    rw [Nd.flat_eq]; exact List.mem_cons_of_mem _ (flats_mem hy _ q hq)
theorem bulk_of_flat : ∀ (x : Nd) (d : Int) (m : Nat), (∀ q ∈ Nd.flat x d, q.1.text.size ≤ m) → x.bulk ≤ x.cnt * (m + 1) := by
  intro x
  induction x using Nd.induct with
  | h x ih =>
    intro d m h
    have hs : ∀ (l : List Nd), (∀ y ∈ l, y.bulk ≤ y.cnt * (m + 1)) → Nd.bulks l ≤ Nd.cnts l * (m + 1) := by
      intro l
      induction l with
      | nil => intro _; simp [Nd.bulks]
      | cons y ys ihl =>
        intro h
        rw [Nd.bulks, Nd.cnts, Nat.add_mul]
        have := h y (by simp)
        have := ihl fun z hz => h z (by simp [hz])
        omega
    have h1 := h _ (flat_mem x d)
    have h2 := hs x.kids fun y hy => ih y hy (d + 1) m fun q hq => h q (by rw [Nd.flat_eq]; exact List.mem_cons_of_mem _ (flats_mem hy _ q hq))
    rw [Nd.bulk_eq, Nd.cnt_eq, Nat.add_mul]
    simp only at h1
    omega
theorem bytes_of_flat : ∀ (x : Nd) (d : Int) (m : Nat), (∀ q ∈ Nd.flat x d, q.1.text.size ≤ m) → x.bytes.length ≤ x.cnt * (32 + m) := by
  intro x
  induction x using Nd.induct with
  | h x ih =>
    intro d m h
    have hs : ∀ (l : List Nd), (∀ y ∈ l, y.bytes.length ≤ y.cnt * (32 + m)) → (Nd.bytess l).length ≤ Nd.cnts l * (32 + m) := by
      intro l
      induction l with
      | nil => intro _; simp [Nd.bytess]
      | cons y ys ihl =>
        intro h
        rw [Nd.bytess, Nd.cnts, Nat.add_mul, List.length_append]
        have := h y (by simp)
        have := ihl fun z hz => h z (by simp [hz])
        omega
    have h1 := h _ (flat_mem x d)
    have h2 := hs x.kids fun y hy => ih y hy (d + 1) m fun q hq => h q (by rw [Nd.flat_eq]; exact List.mem_cons_of_mem _ (flats_mem hy _ q hq))
    rw [Nd.bytes_eq, Nd.cnt_eq, Nat.add_mul]
    simp only [List.length_append, numB_length, textB_length]
    simp only at h1
    omega
theorem bytes_of_ok {x : Nd} (h : okTree x = true) : x.bytes.length ≤ 72 * x.cnt := by
  have ha := okRow_all _ 0 h
  have := bytes_of_flat x 1 40 fun q hq => (ha q hq).2.2.2.2.2
  omega
theorem okTree_fits {x : Nd} (h : okTree x = true) : x.cnt ≤ 200 ∧ Nd.deep 32 x ∧ x.wf ∧ x.bulk ≤ 8200 := by
  have hl := okRow_len _ 0 (by omega) h
  rw [flat_len] at hl
  have ha := okRow_all _ 0 h
  have hc : x.cnt ≤ 200 := by omega
  refine ⟨hc, deep_of_flat 32 x 1 (fun q hq => by have := ha q hq; omega) (by omega), wf_of_flat x 1 fun q hq => by have := ha q hq; omega, ?_⟩
  have := bulk_of_flat x 1 40 fun q hq => (ha q hq).2.2.2.2.2
  omega
end Go.Proofs.Ytimjpkmdphccmaa
