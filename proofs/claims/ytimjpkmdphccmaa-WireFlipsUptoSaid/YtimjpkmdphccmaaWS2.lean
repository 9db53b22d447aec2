/- Steps and messages as data, and how they lie in memory. -/
import Derived.Test.YtimjpkmdphccmaaWS1

namespace Go.Proofs.Ytimjpkmdphccmaa
open Go.RowKit

structure Stp where
  op : Int
  id : Int
  parent : Int
  place : Int
  text : ByteArray
  sub : Nd
structure Msg where
  kind : Int
  from_ : Int
  to_ : Int
  boot : Int
  server : Int
  number : Int
  node : Int
  lease : Int
  epoch : Int
  version : Int
  e : Int
  steps : List Stp
  tree : Nd
def Stp.bulk (s : Stp) : Nat := 1 + s.text.size + s.sub.bulk
def stepsBulk : List Stp → Nat
  | [] => 0
  | s :: r => s.bulk + stepsBulk r
theorem stepsBulk_append : ∀ l m : List Stp, stepsBulk (l ++ m) = stepsBulk l + stepsBulk m
  | [], m => by simp [stepsBulk]
  | s :: r, m => by rw [List.cons_append, stepsBulk, stepsBulk, stepsBulk_append r m]; omega
theorem stepsBulk_len : ∀ l : List Stp, l.length ≤ stepsBulk l
  | [] => by simp
  | s :: r => by have := stepsBulk_len r; rw [stepsBulk, List.length_cons, Stp.bulk]; omega
theorem stepsBulk_mem {l : List Stp} {s : Stp} (h : s ∈ l) : s.bulk ≤ stepsBulk l := by
  induction l with
  | nil => simp at h
  | cons y ys ih =>
    rw [stepsBulk]
    rcases List.mem_cons.1 h with rfl | h
    · omega
    · have := ih h; omega
def Msg.bulk (m : Msg) : Nat := 1 + stepsBulk m.steps + m.tree.bulk

/-- The nine cells of a step. -/
def stIn (S : Nat → Prop) (w : World) (b o : Nat) (s : Stp) : Prop :=
  w.cell? ⟨b, o, none⟩ = some (.int .i8 s.op) ∧ w.cell? ⟨b, o + 1, none⟩ = some (.int .i64 s.id) ∧ w.cell? ⟨b, o + 2, none⟩ = some (.int .i64 s.parent) ∧ w.cell? ⟨b, o + 3, none⟩ = some (.int .i64 s.place) ∧ w.cell? ⟨b, o + 4, none⟩ = some (.string s.text) ∧ ndIn S w b (o + 5) s.sub
theorem stIn_open {S : Nat → Prop} {w : World} {b o : Nat} {s : Stp} (h : stIn S w b o s) : ∃ A c, (w.cell? ⟨b, o, none⟩ = some (.int .i8 s.op) ∧ w.cell? ⟨b, o + 1, none⟩ = some (.int .i64 s.id) ∧ w.cell? ⟨b, o + 2, none⟩ = some (.int .i64 s.parent) ∧ w.cell? ⟨b, o + 3, none⟩ = some (.int .i64 s.place) ∧ w.cell? ⟨b, o + 4, none⟩ = some (.string s.text) ∧ w.cell? ⟨b, o + 5, none⟩ = some (.int .i64 s.sub.id) ∧ w.cell? ⟨b, o + 6, none⟩ = some (.int .i64 s.sub.kind) ∧ w.cell? ⟨b, o + 7, none⟩ = some (.string s.sub.text) ∧ w.cell? ⟨b, o + 8, none⟩ = some (.slice A s.sub.kids.length c)) ∧ s.sub.kids.length ≤ c ∧ KidsIn S w A s.sub.kids := by
  obtain ⟨h0, h1, h2, h3, h4, h5⟩ := h
  obtain ⟨g0, g1, g2, A, c, g3, hc, hk⟩ := ndIn_open h5
  exact ⟨A, c, ⟨h0, h1, h2, h3, h4, g0, g1, g2, g3⟩, hc, hk⟩
/-- A slice's address leads to these steps. -/
def StepsIn (S : Nat → Prop) (w : World) (A : Option Addr) (l : List Stp) : Prop := l = [] ∨ ∃ b o, A = some ⟨b, o, none⟩ ∧ S b ∧ ∀ i (h : i < l.length), stIn S w b (o + i * 9) l[i]
abbrev StepsAt (w : World) (A : Option Addr) (l : List Stp) : Prop := StepsIn (fun _ => True) w A l
section
variable {S S' : Nat → Prop} {w w' : World} {A : Option Addr} {l : List Stp}
theorem stIn.move {b o : Nat} {s : Stp} (h : stIn S w b o s) (hs : ∀ b, S b → b < w.heap.size → S' b ∧ w'.heap[b]? = w.heap[b]?) (hb : w'.heap[b]? = w.heap[b]?) : stIn S' w' b o s := by
  obtain ⟨h0, h1, h2, h3, h4, h5⟩ := h
  have hc : ∀ k, w'.cell? ⟨b, k, none⟩ = w.cell? ⟨b, k, none⟩ := fun k => World.cell?_of_block (a := ⟨b, k, none⟩) hb
  exact ⟨(hc _).trans h0, (hc _).trans h1, (hc _).trans h2, (hc _).trans h3, (hc _).trans h4, ndIn_move hs _ hb h5⟩
theorem stIn.lt {b o : Nat} {s : Stp} (h : stIn S w b o s) : b < w.heap.size := World.block_lt_of_cell? w _ h.1
theorem StepsIn.move (h : StepsIn S w A l) (hs : ∀ b, S b → b < w.heap.size → S' b ∧ w'.heap[b]? = w.heap[b]?) : StepsIn S' w' A l := by
  rcases h with h | ⟨b, o, hA, hS, h⟩
  · exact .inl h
  · cases hl : l with
    | nil => exact .inl rfl
    | cons y ys =>
      rw [← hl]
      have hlt : b < w.heap.size := (h 0 (by rw [hl]; simp)).lt
      exact .inr ⟨b, o, hA, (hs b hS hlt).1, fun i hi => (h i hi).move hs (hs b hS hlt).2⟩
theorem StepsIn.mono (h : StepsIn S w A l) (hs : ∀ b, S b → S' b) : StepsIn S' w A l := h.move fun b hb _ => ⟨hs b hb, rfl⟩
theorem StepsIn.lt (h : StepsIn S w A l) : StepsIn (fun b => S b ∧ b < w.heap.size) w A l := h.move fun _ hb hlt => ⟨⟨hb, hlt⟩, rfl⟩
theorem StepsIn.later (h : StepsIn S w A l) (hb : Below w.heap.size w w') : StepsIn S w' A l := h.move fun b hS hlt => ⟨hS, hb.block b hlt⟩
theorem StepsIn.drew (h : StepsIn S w A l) : StepsIn S w.drew A l := h.later (Below.refl _ _).drew
theorem StepsIn.alloc (h : StepsIn S w A l) (o : Obj) : StepsIn S (w.alloc o) A l := h.later ((Below.refl _ _).alloc (Nat.le_refl _) o)
theorem StepsIn.get (h : StepsIn S w A l) (i : Nat) (hi : i < l.length) : ∃ b o, A = some ⟨b, o, none⟩ ∧ S b ∧ stIn S w b (o + i * 9) l[i] := by
  rcases h with h | ⟨b, o, hA, hS, h⟩
  · subst h; simp at hi
  · exact ⟨b, o, hA, hS, h i hi⟩
theorem StepsIn.at_ (h : StepsIn S w A l) : StepsAt w A l := h.mono fun _ _ => trivial
end

/-- A step that its numbers fit. -/
def Stp.wf (s : Stp) : Prop := -128 ≤ s.op ∧ s.op ≤ 127 ∧ -9223372036854775808 ≤ s.id ∧ s.id ≤ 9223372036854775807 ∧ -9223372036854775808 ≤ s.parent ∧ s.parent ≤ 9223372036854775807 ∧ -9223372036854775808 ≤ s.place ∧ s.place ≤ 9223372036854775807 ∧ s.sub.wf
end Go.Proofs.Ytimjpkmdphccmaa
