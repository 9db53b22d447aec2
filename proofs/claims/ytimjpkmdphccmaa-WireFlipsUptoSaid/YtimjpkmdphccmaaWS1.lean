/- Trees as data, and how they lie in memory: plain definitions, no program in sight. -/
import Derived.Test.YtimjpkmdphccmaaProg
import Derived.WalkKit
import Derived.Lib.Hide
import Derived.Deep.AppendLies
import Derived.Deep.Draws
import Derived.Lib.AppendStr
import Derived.Laws.BytesArg
import Derived.OwnWalk
import Derived.Tactics
import Derived.KernelRfl
import Derived.Tactics2
import Derived.Handy
import Derived.Deep.RegionHeld3
import Derived.Deep.DrawnRows
import Derived.Deep.DeepCutAuto
import Derived.BigRegion
import Derived.BigQuiet
import Derived.Deep.QuietTactic
import Derived.Outline

namespace Go.Proofs.Ytimjpkmdphccmaa
open Go.RowKit

/-- A tree's node: id, kind, text, kids. -/
inductive Nd where
  | mk (id kind : Int) (text : ByteArray) (kids : List Nd)

namespace Nd
def id : Nd → Int | .mk i _ _ _ => i
def kind : Nd → Int | .mk _ k _ _ => k
def text : Nd → ByteArray | .mk _ _ t _ => t
def kids : Nd → List Nd | .mk _ _ _ ks => ks
end Nd
instance : Inhabited Nd := ⟨.mk 0 0 ⟨#[]⟩ []⟩
theorem Nd.eta (x : Nd) : Nd.mk x.id x.kind x.text x.kids = x := by cases x; rfl

/-- Induction on trees: the kids first. -/
theorem Nd.induct {P : Nd → Prop} (h : ∀ x, (∀ y ∈ x.kids, P y) → P x) (x : Nd) : P x :=
  @Nd.rec P (fun l => ∀ y ∈ l, P y) (fun i k t ks ih => h (.mk i k t ks) ih) (fun _ hy => by simp at hy)
    (fun x xs hx hxs y hy => by
      rcases List.mem_cons.1 hy with hy | hy
      · rw [hy]; exact hx
      · exact hxs y hy) x

mutual
/-- How much a tree holds: nodes and letters. -/
def Nd.bulk : Nd → Nat
  | .mk _ _ t ks => 1 + t.size + Nd.bulks ks
def Nd.bulks : List Nd → Nat
  | [] => 0
  | x :: xs => Nd.bulk x + Nd.bulks xs
end
theorem Nd.bulk_eq (x : Nd) : x.bulk = 1 + x.text.size + Nd.bulks x.kids := by cases x; rw [Nd.bulk]; rfl
theorem Nd.bulk_pos (x : Nd) : 1 ≤ x.bulk := by rw [Nd.bulk_eq]; omega
theorem Nd.length_le_bulks : ∀ l : List Nd, l.length ≤ Nd.bulks l
  | [] => by simp
  | x :: xs => by have := Nd.length_le_bulks xs; have := x.bulk_pos; rw [Nd.bulks, List.length_cons]; omega
theorem Nd.bulk_le_bulks {l : List Nd} {x : Nd} (h : x ∈ l) : x.bulk ≤ Nd.bulks l := by
  induction l with
  | nil => simp at h
  | cons y ys ih =>
    rw [Nd.bulks]
    rcases List.mem_cons.1 h with rfl | h
    · omega
    · have := ih h; omega
theorem Nd.kids_le (x : Nd) : x.kids.length < x.bulk := by have := Nd.length_le_bulks x.kids; rw [Nd.bulk_eq]; omega
theorem Nd.kid_bulk {x y : Nd} (h : y ∈ x.kids) : y.bulk < x.bulk := by have := Nd.bulk_le_bulks h; rw [Nd.bulk_eq x]; omega
theorem Nd.text_le (x : Nd) : x.text.size < x.bulk := by rw [Nd.bulk_eq]; omega

theorem Nd.bulks_append : ∀ l m : List Nd, Nd.bulks (l ++ m) = Nd.bulks l + Nd.bulks m
  | [], m => by simp [Nd.bulks]
  | x :: xs, m => by rw [List.cons_append, Nd.bulks, Nd.bulks, Nd.bulks_append xs m]; omega
theorem Nd.bulks_take {l : List Nd} {k : Nat} (h : k < l.length) : Nd.bulks (l.take k) + (l[k]).bulk ≤ Nd.bulks l := by
  have e : l = l.take k ++ l[k] :: l.drop (k + 1) := by simp
  have := congrArg Nd.bulks e
  rw [Nd.bulks_append, Nd.bulks] at this
  omega

mutual
/-- All numbers in it are Go's ints. -/
def Nd.wf : Nd → Prop
  | .mk i k _ ks => -9223372036854775808 ≤ i ∧ i ≤ 9223372036854775807 ∧ -9223372036854775808 ≤ k ∧ k ≤ 9223372036854775807 ∧ Nd.wfs ks
def Nd.wfs : List Nd → Prop
  | [] => True
  | x :: xs => Nd.wf x ∧ Nd.wfs xs
end
theorem Nd.wf_eq (x : Nd) : x.wf ↔ -9223372036854775808 ≤ x.id ∧ x.id ≤ 9223372036854775807 ∧ -9223372036854775808 ≤ x.kind ∧ x.kind ≤ 9223372036854775807 ∧ Nd.wfs x.kids := by cases x; rw [Nd.wf]; rfl
theorem Nd.wfs_iff : ∀ l : List Nd, Nd.wfs l ↔ ∀ x ∈ l, x.wf
  | [] => by simp [Nd.wfs]
  | x :: xs => by rw [Nd.wfs, Nd.wfs_iff xs]; simp


mutual
/-- The four cells of a node lie at block b from o on, with all that is below it; what is below lies in blocks of S. -/
def ndIn (S : Nat → Prop) (w : World) (b o : Nat) : Nd → Prop
  | .mk id kind text kids => w.cell? ⟨b, o, none⟩ = some (.int .i64 id) ∧ w.cell? ⟨b, o + 1, none⟩ = some (.int .i64 kind) ∧ w.cell? ⟨b, o + 2, none⟩ = some (.string text) ∧
      ∃ A c, w.cell? ⟨b, o + 3, none⟩ = some (.slice A kids.length c) ∧ kids.length ≤ c ∧ (kids = [] ∨ ∃ b' o', A = some ⟨b', o', none⟩ ∧ S b' ∧ ndsIn S w b' o' kids)
/-- A row of nodes. -/
def ndsIn (S : Nat → Prop) (w : World) (b o : Nat) : List Nd → Prop
  | [] => True
  | x :: xs => ndIn S w b o x ∧ ndsIn S w b (o + 4) xs
end

/-- A slice's address leads to these nodes, all in blocks of S. -/
def KidsIn (S : Nat → Prop) (w : World) (A : Option Addr) (l : List Nd) : Prop := l = [] ∨ ∃ b o, A = some ⟨b, o, none⟩ ∧ S b ∧ ndsIn S w b o l
abbrev KidsAt (w : World) (A : Option Addr) (l : List Nd) : Prop := KidsIn (fun _ => True) w A l

theorem ndsIn_get {S : Nat → Prop} {w : World} {b : Nat} : ∀ {l : List Nd} {o : Nat}, ndsIn S w b o l → ∀ i (h : i < l.length), ndIn S w b (o + i * 4) l[i]
  | x :: xs, o, h, 0, _ => by simpa using (by rw [ndsIn] at h; exact h.1)
  | x :: xs, o, h, i + 1, hi => by
    rw [ndsIn] at h
    have := ndsIn_get h.2 i (by simpa using hi)
    rw [show o + (i + 1) * 4 = o + 4 + i * 4 by omega]
    simpa using this
theorem ndsIn_of_get {S : Nat → Prop} {w : World} {b : Nat} : ∀ {l : List Nd} {o : Nat}, (∀ i (h : i < l.length), ndIn S w b (o + i * 4) l[i]) → ndsIn S w b o l
  | [], o, h => by rw [ndsIn]; trivial
  | x :: xs, o, h => by
    rw [ndsIn]
    refine ⟨h 0 (by simp), ndsIn_of_get fun i hi => ?_⟩
    have := h (i + 1) (by simpa using hi)
    rw [show o + (i + 1) * 4 = o + 4 + i * 4 by omega] at this
    simpa using this

theorem ndIn_iff {S : Nat → Prop} {w : World} {b o : Nat} {x : Nd} : ndIn S w b o x ↔ w.cell? ⟨b, o, none⟩ = some (.int .i64 x.id) ∧ w.cell? ⟨b, o + 1, none⟩ = some (.int .i64 x.kind) ∧ w.cell? ⟨b, o + 2, none⟩ = some (.string x.text) ∧
      ∃ A c, w.cell? ⟨b, o + 3, none⟩ = some (.slice A x.kids.length c) ∧ x.kids.length ≤ c ∧ KidsIn S w A x.kids := by
  cases x with
  | mk i k t ks => rw [ndIn]; exact Iff.rfl
theorem ndIn_open {S : Nat → Prop} {w : World} {b o : Nat} {x : Nd} (h : ndIn S w b o x) : w.cell? ⟨b, o, none⟩ = some (.int .i64 x.id) ∧ w.cell? ⟨b, o + 1, none⟩ = some (.int .i64 x.kind) ∧ w.cell? ⟨b, o + 2, none⟩ = some (.string x.text) ∧
      ∃ A c, w.cell? ⟨b, o + 3, none⟩ = some (.slice A x.kids.length c) ∧ x.kids.length ≤ c ∧ KidsIn S w A x.kids := ndIn_iff.1 h

mutual
/-- What lies in blocks that have not turned lies there still. -/
theorem ndIn_move {S S' : Nat → Prop} {w w' : World} (hs : ∀ b, S b → b < w.heap.size → S' b ∧ w'.heap[b]? = w.heap[b]?) : ∀ (x : Nd) {b o : Nat}, w'.heap[b]? = w.heap[b]? → ndIn S w b o x → ndIn S' w' b o x
  | .mk id kind text kids, b, o, hb, h => by
    rw [ndIn] at h ⊢
    obtain ⟨h0, h1, h2, A, c, h3, hc, hk⟩ := h
    have hc' : ∀ k, w'.cell? ⟨b, k, none⟩ = w.cell? ⟨b, k, none⟩ := fun k => World.cell?_of_block (a := ⟨b, k, none⟩) hb
    refine ⟨(hc' _).trans h0, (hc' _).trans h1, (hc' _).trans h2, A, c, (hc' _).trans h3, hc, ?_⟩
    rcases hk with hk | ⟨b', o', hA, hS, hk⟩
    · exact .inl hk
    · cases kids with
      | nil => exact .inl rfl
      | cons y ys =>
        have hlt : b' < w.heap.size := by
          rw [ndsIn] at hk
          exact World.block_lt_of_cell? w _ (ndIn_open hk.1).1
        exact .inr ⟨b', o', hA, (hs b' hS hlt).1, ndsIn_move hs (y :: ys) (hs b' hS hlt).2 hk⟩
theorem ndsIn_move {S S' : Nat → Prop} {w w' : World} (hs : ∀ b, S b → b < w.heap.size → S' b ∧ w'.heap[b]? = w.heap[b]?) : ∀ (l : List Nd) {b o : Nat}, w'.heap[b]? = w.heap[b]? → ndsIn S w b o l → ndsIn S' w' b o l
  | [], _, _, _, _ => by rw [ndsIn]; trivial
  | x :: xs, b, o, hb, h => by
    rw [ndsIn] at h ⊢
    exact ⟨ndIn_move hs x hb h.1, ndsIn_move hs xs hb h.2⟩
end

section
variable {S S' : Nat → Prop} {w w' : World} {A : Option Addr} {l : List Nd}
theorem KidsIn.move (h : KidsIn S w A l) (hs : ∀ b, S b → b < w.heap.size → S' b ∧ w'.heap[b]? = w.heap[b]?) : KidsIn S' w' A l := by
  rcases h with h | ⟨b, o, hA, hS, h⟩
  · exact .inl h
  · cases l with
    | nil => exact .inl rfl
    | cons y ys =>
      have hlt : b < w.heap.size := by
        have h' := h
        rw [ndsIn] at h'
        exact World.block_lt_of_cell? w _ (ndIn_open h'.1).1
      exact .inr ⟨b, o, hA, (hs b hS hlt).1, ndsIn_move hs _ (hs b hS hlt).2 h⟩
theorem KidsIn.mono (h : KidsIn S w A l) (hs : ∀ b, S b → S' b) : KidsIn S' w A l := h.move fun b hb _ => ⟨hs b hb, rfl⟩
theorem KidsIn.at_ (h : KidsIn S w A l) : KidsAt w A l := h.mono fun _ _ => trivial
theorem KidsIn.lt (h : KidsIn S w A l) : KidsIn (fun b => S b ∧ b < w.heap.size) w A l := h.move fun _ hb hlt => ⟨⟨hb, hlt⟩, rfl⟩
theorem KidsIn.below (h : KidsIn S w A l) (hb : Below w.heap.size w w') : KidsIn S w' A l := h.move fun b hS hlt => ⟨hS, hb.block b hlt⟩
theorem KidsIn.drew (h : KidsIn S w A l) : KidsIn S w.drew A l := h.below (Below.refl _ _).drew
theorem KidsIn.alloc (h : KidsIn S w A l) (o : Obj) : KidsIn S (w.alloc o) A l := h.below ((Below.refl _ _).alloc (Nat.le_refl _) o)
theorem KidsIn.nil (S : Nat → Prop) (w : World) (A : Option Addr) : KidsIn S w A [] := .inl rfl
theorem KidsIn.get (h : KidsIn S w A l) (i : Nat) (hi : i < l.length) : ∃ b o, A = some ⟨b, o, none⟩ ∧ S b ∧ ndIn S w b (o + i * 4) l[i] := by
  rcases h with h | ⟨b, o, hA, hS, h⟩
  · subst h; simp at hi
  · exact ⟨b, o, hA, hS, ndsIn_get h i hi⟩
theorem ndIn.below {b o : Nat} {x : Nd} (h : ndIn S w b o x) (hb : Below w.heap.size w w') : ndIn S w' b o x :=
  ndIn_move (fun b' hS hlt => ⟨hS, hb.block b' hlt⟩) x (hb.block b (World.block_lt_of_cell? w _ (ndIn_open h).1)) h
end

/-- The cells of a row of nodes that is under way. -/
inductive NdCells (S : Nat → Prop) (w : World) : List Nd → List Value → Prop where
  | nil : NdCells S w [] []
  | cons {x : Nd} {xs : List Nd} {cs : List Value} {A : Option Addr} {c : Nat} (hc : x.kids.length ≤ c) (hk : KidsIn S w A x.kids) (h : NdCells S w xs cs) :
      NdCells S w (x :: xs) (.int .i64 x.id :: .int .i64 x.kind :: .string x.text :: .slice A x.kids.length c :: cs)
section
variable {S S' : Nat → Prop} {w w' : World} {l m : List Nd} {cs ds : List Value}
theorem NdCells.length (h : NdCells S w l cs) : cs.length = l.length * 4 := by
  induction h with
  | nil => rfl
  | cons hc hk h ih => simp only [List.length_cons, ih]; omega
theorem NdCells.append (h : NdCells S w l cs) (h' : NdCells S w m ds) : NdCells S w (l ++ m) (cs ++ ds) := by
  induction h with
  | nil => exact h'
  | cons hc hk h ih => exact .cons hc hk ih
theorem NdCells.one {x : Nd} {A : Option Addr} {c : Nat} (hc : x.kids.length ≤ c) (hk : KidsIn S w A x.kids) : NdCells S w [x] [.int .i64 x.id, .int .i64 x.kind, .string x.text, .slice A x.kids.length c] := .cons hc hk .nil
theorem NdCells.move (h : NdCells S w l cs) (hs : ∀ b, S b → b < w.heap.size → S' b ∧ w'.heap[b]? = w.heap[b]?) : NdCells S' w' l cs := by
  induction h with
  | nil => exact .nil
  | cons hc hk h ih => exact .cons hc (hk.move hs) ih
theorem NdCells.later (h : NdCells S w l cs) (hb : Below w.heap.size w w') : NdCells S w' l cs := h.move fun b hS hlt => ⟨hS, hb.block b hlt⟩
theorem NdCells.mono (h : NdCells S w l cs) (hs : ∀ b, S b → S' b) : NdCells S' w l cs := h.move fun b hb _ => ⟨hs b hb, rfl⟩
theorem ndsIn_of_cells {b : Nat} (h : NdCells S w l cs) : ∀ {o : Nat}, (∀ j u, cs[j]? = some u → w.cell? ⟨b, o + j, none⟩ = some u) → ndsIn S w b o l := by
  induction h with
  | nil => intro o _; rw [ndsIn]; trivial
  | cons hc hk h ih =>
    intro o hj
    rw [ndsIn]
    refine ⟨ndIn_iff.2 ⟨hj 0 _ rfl, hj 1 _ rfl, hj 2 _ rfl, _, _, hj 3 _ rfl, hc, hk⟩, ih fun j u hu => ?_⟩
    rw [show o + 4 + j = o + (j + 4) by omega]
    exact hj _ _ (by simpa using hu)
end

theorem addr_add (b o n : Nat) : (⟨b, o, none⟩ : Addr).add n = ⟨b, o + n, none⟩ := by
  unfold Addr.add; split <;> simp_all
/-- A row of the call's own whose cells are nodes leads to these nodes. -/
theorem KidsIn.of_row {S : Nat → Prop} {w : World} {base e n : Nat} {v : Value} {l : List Nd} {cs : List Value} (h : w.ownsRow base e 4 v n cs) (hc : NdCells S w l cs) (hS : ∀ g, v.ownBlock = some g → S g) :
    ∃ A c, v = .slice A l.length c ∧ l.length ≤ c ∧ KidsIn S w A l := by
  have hn : n = l.length := by have := h.1; have := hc.length; omega
  subst hn
  rcases h.2 with ⟨rfl, h0⟩ | ⟨g, cap, cur, rfl, hb, hg, hle, hcap, hsz, htk⟩
  · rw [h0]; exact ⟨none, 0, rfl, Nat.le_refl _, .inl (List.eq_nil_of_length_eq_zero h0)⟩
  · refine ⟨_, cap, rfl, hle, ?_⟩
    cases hl : l with
    | nil => exact .inl rfl
    | cons y ys =>
      refine .inr ⟨g, 0, rfl, hS g rfl, ?_⟩
      rw [← hl]
      exact ndsIn_of_cells hc fun j u hu => by
        have := h.cells (g := g) rfl j u hu
        rwa [addr_add] at this

theorem ret_bool {a b : Bool} (h : a = b) : Ending.returned (.bool a) = Ending.returned (.bool b) := by rw [h]
theorem ret_int {k : IntKind} {a b : Int} (h : a = b) : Ending.returned (.int k a) = Ending.returned (.int k b) := by rw [h]
theorem bytes_toList_inj {a b : ByteArray} (h : a.toList = b.toList) : a = b := by
  rw [ByteArray.toList_eq, ByteArray.toList_eq] at h
  cases a; cases b; congr; exact Array.ext' h
theorem below_drewN {B : Nat} {w W : World} (h : Below B w W) (n : Nat) : Below B w (W.drewN n) := ⟨h.os, h.tape, h.output, h.size, h.block⟩
theorem below_undrew {w w' : World} (h : Below w.drew.heap.size w.drew w') : Below w.heap.size w w' := ⟨h.os, h.tape, h.output, h.size, h.block⟩
theorem cell_keep {w w' : World} {a : Addr} {v : Value} (h : Below w.heap.size w w') (hc : w.cell? a = some v) : w'.cell? a = some v := (h.cell (World.block_lt_of_cell? w a hc)).trans hc
theorem below_then {w w1 w2 : World} (h : Below w.heap.size w w1) (k : Below w1.heap.size w1 w2) : Below w.heap.size w w2 := h.trans (k.mono h.size)
theorem below_from {B : Nat} {w w1 w2 : World} (h : Below B w w1) (hB : B ≤ w1.heap.size) (k : Below w1.heap.size w1 w2) : Below B w w2 := h.trans (k.mono hB)

theorem own_below {w w' : World} {base : Nat} {e : TypeId} {size n : Nat} {v : Value} {xs : List Value} (h : w.ownsRow base e size v n xs) (hb : Below w.heap.size w w') : w'.ownsRow base e size v n xs :=
  h.kept (row := none) ⟨hb.os, hb.tape, hb.output, hb.size, fun i hi _ => hb.block i hi⟩ (by cases v.ownBlock <;> simp)
theorem below_alloc {B : Nat} {w w' : World} (h : Below B w w') (hB : B ≤ w'.heap.size) (o : Obj) : Below B w (w'.alloc o) := h.alloc hB o
theorem below_of_grown {B : Nat} {w w' w'' : World} {e : TypeId} {size n base : Nat} {v : Value} {xs : List Value} (h : Below B w w') (hg : w'.grownBy w'' v.ownBlock) (ho : w'.ownsRow base e size v n xs) (hB : B ≤ base) (hw : B ≤ w'.heap.size) : Below B w w'' :=
  h.grown hg hw fun k hk => Nat.le_trans hB (ho.lt k hk).1

theorem own_block_lt {w : World} {base : Nat} {e : TypeId} {size n : Nat} {v : Value} {xs : List Value} (h : w.ownsRow base e size v n xs) {b : Nat} (hb : w.heap.size ≤ b) : some b ≠ v.ownBlock := fun hk => by
  have := (h.lt b hk.symm).2; omega
/-- One more node behind a row of nodes: what lies below the elder ones, and below the new one, lies there still. -/
theorem nd_append {wr w2 w3 : World} {base k g cap n : Nat} {e : TypeId} {u : Value} {cells : List Value} {l : List Nd} {x : Nd} {A : Option Addr} {c : Nat} {o : Obj} (hown : wr.ownsRow base e 4 u k cells) (hbase : base ≤ wr.heap.size)
    (hcells : NdCells (fun b => base ≤ b ∧ some b ≠ u.ownBlock) wr l cells) (hbr : Below wr.heap.size wr w2) (hc : x.kids.length ≤ c) (hk : KidsIn (fun b => wr.heap.size ≤ b) w2 A x.kids)
    (hgrow : (w2.alloc o).grownBy w3 u.ownBlock) (hat : u.ownBlock = some g ∨ g = w2.heap.size + 1) :
    NdCells (fun b => base ≤ b ∧ some b ≠ (Value.slice (some ⟨g, 0, none⟩) n cap).ownBlock) w3 (l ++ [x]) (cells ++ [.int .i64 x.id, .int .i64 x.kind, .string x.text, .slice A x.kids.length c]) := by
  have h23 : ∀ b, b < w2.heap.size → some b ≠ u.ownBlock → w3.heap[b]? = w2.heap[b]? := fun b hb hne => (hgrow.block b (by simp; omega) hne).trans (Below.heap_alloc w2 o b hb)
  have hs := hbr.size
  refine NdCells.append (hcells.move fun b hS hlt => ⟨⟨hS.1, ?_⟩, (h23 b (by omega) hS.2).trans (hbr.block b hlt)⟩) (.one hc (hk.move fun b hS hlt => ⟨⟨by omega, ?_⟩, h23 b hlt (own_block_lt hown hS)⟩))
  · simp only [Value.ownBlock]
    rcases hat with h | h
    · rw [← h]; exact hS.2
    · simp; omega
  · simp only [Value.ownBlock]
    rcases hat with h | h
    · rw [← h]; exact own_block_lt hown hS
    · simp; omega
theorem alloc_new (w : World) (o : Obj) : (w.alloc o).heap[w.heap.size]? = some o := heap_alloc_new w o
theorem alloc_new1 (w : World) (o o' : Obj) : ((w.alloc o).alloc o').heap[w.heap.size + 1]? = some o' := by have := heap_alloc_new (w.alloc o) o'; rwa [World.size_alloc] at this
theorem alloc_new2 (w : World) (o o' o'' : Obj) : (((w.alloc o).alloc o').alloc o'').heap[w.heap.size + 2]? = some o'' := by have := heap_alloc_new ((w.alloc o).alloc o') o''; rwa [World.size_alloc, World.size_alloc] at this
theorem alloc_new3 (w : World) (o o' o'' o3 : Obj) : ((((w.alloc o).alloc o').alloc o'').alloc o3).heap[w.heap.size + 3]? = some o3 := by have := heap_alloc_new (((w.alloc o).alloc o').alloc o'') o3; rwa [World.size_alloc, World.size_alloc, World.size_alloc] at this
theorem alloc_old {w : World} {i : Nat} {o : Obj} (h : w.heap[i]? = some o) (o' : Obj) : (w.alloc o').heap[i]? = some o := (Below.heap_alloc w o' i (Array.getElem?_eq_some_iff.1 h).1).trans h
theorem setCell_blk {w : World} {b : Nat} {cs : Array Value} {t : TypeId} {fr : Nat × Nat} (h : w.heap[b]? = some (.cells cs t fr)) (i : Nat) (v : Value) : (w.setCell ⟨b, i, none⟩ v).heap[b]? = some (.cells (cs.setIfInBounds i v) t fr) := by
  obtain ⟨hlt, hk⟩ := Array.getElem?_eq_some_iff.1 h
  show (w.heap.modify b _)[b]? = _
  rw [Array.getElem?_eq_getElem (by rw [Array.size_modify]; exact hlt), Array.getElem_modify_self, hk]
  rfl
theorem setCell_ne {w : World} {b b' : Nat} {o : Obj} (h : w.heap[b]? = some o) (hne : b ≠ b') (i : Nat) (v : Value) : (w.setCell ⟨b', i, none⟩ v).heap[b]? = some o := (Below.heap_setCell w ⟨b', i, none⟩ v b hne).trans h
theorem blk4 {w : World} {b : Nat} {c0 c1 c2 c3 : Value} {t : TypeId} (h : w.heap[b]? = some (.cells #[c0, c1, c2, c3] t (0, 0))) :
    w.cell? ⟨b, 0, none⟩ = some c0 ∧ w.cell? ⟨b, 1, none⟩ = some c1 ∧ w.cell? ⟨b, 2, none⟩ = some c2 ∧ w.cell? ⟨b, 3, none⟩ = some c3 ∧ (∀ j, w.frozen? ⟨b, j, none⟩ = false) := by
  simp [World.cell?, World.frozen?, h]
theorem take_snoc {α : Type} {l : List α} {k : Nat} (h : k < l.length) : l.take (k + 1) = l.take k ++ [l[k]] := by rw [List.take_succ_eq_append_getElem h]

/-- A step that writes the one row, or what is new since, and no other. -/
theorem grown_step {w w1 w2 : World} {row row1 : Option Nat} (h : w.grownBy w1 row) (k : w1.grownBy w2 row1) (hr : row1 = row ∨ ∀ b, row1 = some b → w.heap.size ≤ b) : w.grownBy w2 row :=
  ⟨k.os.trans h.os, k.tape.trans h.tape, k.output.trans h.output, Nat.le_trans h.size k.size, fun b hb hne => by
    refine (k.block b (Nat.lt_of_lt_of_le hb h.size) fun he => ?_).trans (h.block b hb hne)
    rcases hr with hr | hr
    · exact hne (he.trans hr)
    · have := hr b he.symm; omega⟩
theorem grown_of_below {w w1 : World} (h : Below w.heap.size w w1) (row : Option Nat) : w.grownBy w1 row := ⟨h.os, h.tape, h.output, h.size, fun i hi _ => h.block i hi⟩
/-- A row's block is the elder one's, or new since w. -/
def RowOf (w : World) (row : Option Nat) (v : Value) : Prop := v.ownBlock = row ∨ ∀ b, v.ownBlock = some b → w.heap.size ≤ b
theorem RowOf.then_ {w w1 : World} {row : Option Nat} {v1 v2 : Value} (h : RowOf w row v1) (hs : w.heap.size ≤ w1.heap.size) (k : RowOf w1 v1.ownBlock v2) : RowOf w row v2 := by
  rcases k with k | k
  · rw [RowOf, k]; exact h
  · exact .inr fun b hb => Nat.le_trans hs (k b hb)
theorem grown_undrew {w w' : World} {row : Option Nat} (h : w.drew.grownBy w' row) : w.grownBy w' row := ⟨h.os, h.tape, h.output, h.size, h.block⟩
theorem RowOf.undrew {w : World} {row : Option Nat} {v : Value} (h : RowOf w.drew row v) : RowOf w row v := h
theorem KidsIn.grown {base : Nat} {w w' : World} {A : Option Addr} {l : List Nd} {row : Option Nat} (h : KidsIn (fun b => b < base) w A l) (hg : w.grownBy w' row) (hr : ∀ b, row = some b → base ≤ b) : KidsIn (fun b => b < base) w' A l :=
  h.move fun b hb hlt => ⟨hb, hg.block b hlt fun he => by have := hr b he.symm; omega⟩

/-- What a call that makes a tree hands back. -/
def MadeNd (x : Nd) (w : World) (e : Ending) (w' : World) : Prop :=
  ∃ A c, e = .returned (.agg #[.int .i64 x.id, .int .i64 x.kind, .string x.text, .slice A x.kids.length c]) ∧ x.kids.length ≤ c ∧ KidsIn (fun b => w.heap.size ≤ b) w' A x.kids ∧ Below w.heap.size w w'

end Go.Proofs.Ytimjpkmdphccmaa

/- Bytes as data. -/
namespace Go.Proofs.Ytimjpkmdphccmaa
open Go.RowKit

/-- The cells of bytes. -/
def bv (l : List UInt8) : List Value := l.map fun x => .int .u8 (x.toNat : Int)
theorem bv_length (l : List UInt8) : (bv l).length = l.length := by simp [bv]
theorem bv_append (l m : List UInt8) : bv (l ++ m) = bv l ++ bv m := by simp [bv]
theorem bv_one (l : List UInt8) : ∀ u ∈ bv l, u.oneCell' = true := by
  intro u hu
  obtain ⟨x, _, rfl⟩ := List.mem_map.1 hu
  rfl
/-- A number's eight bytes, the highest first. -/
def numBit (n : Int) (i : Nat) : UInt8 := UInt8.ofNat ((n % 18446744073709551616).toNat / 2 ^ (56 - 8 * i))
def numB (n : Int) : List UInt8 := (List.range 8).map (numBit n)
theorem numB_length (n : Int) : (numB n).length = 8 := by simp [numB]
theorem numB_take (n : Int) (k : Nat) (h : k < 8) : (numB n).take (k + 1) = (numB n).take k ++ [numBit n k] := by
  rw [take_snoc (by rw [numB_length]; exact h)]
  simp [numB]
theorem numBit_val (n : Int) (k : Nat) : ((numBit n k).toNat : Int) = IntKind.u64.wrap n / 2 ^ (56 - 8 * k) % 256 := by
  have e : IntKind.u64.wrap n = n % 18446744073709551616 := by simp [IntKind.wrap, IntKind.signed, IntKind.bits]
  have h0 : 0 ≤ n % 18446744073709551616 := Int.emod_nonneg _ (by decide)
  rw [e, numBit, UInt8.toNat_ofNat']
  generalize n % 18446744073709551616 = m at h0 ⊢
  obtain ⟨q, rfl⟩ := Int.eq_ofNat_of_zero_le h0
  simp
def textB (s : ByteArray) : List UInt8 := numB s.size ++ s.data.toList
mutual
def Nd.bytes : Nd → List UInt8
  | .mk i k t ks => numB i ++ numB k ++ textB t ++ numB ks.length ++ Nd.bytess ks
def Nd.bytess : List Nd → List UInt8
  | [] => []
  | x :: xs => Nd.bytes x ++ Nd.bytess xs
end
theorem Nd.bytes_eq (x : Nd) : x.bytes = numB x.id ++ numB x.kind ++ textB x.text ++ numB x.kids.length ++ Nd.bytess x.kids := by cases x; rw [Nd.bytes]; rfl
theorem Nd.bytess_append : ∀ (xs ys : List Nd), Nd.bytess (xs ++ ys) = Nd.bytess xs ++ Nd.bytess ys
  | [], ys => by simp [Nd.bytess]
  | x :: xs, ys => by rw [List.cons_append, Nd.bytess, Nd.bytess, Nd.bytess_append xs ys, List.append_assoc]
theorem textB_length (s : ByteArray) : (textB s).length = 8 + s.size := by simp [textB, numB_length]
mutual
theorem Nd.bytes_le : ∀ x : Nd, x.bytes.length ≤ 32 * x.bulk
  | .mk i k t ks => by
    have h := Nd.bytess_le ks
    have hb := Nd.bulk_eq (.mk i k t ks)
    rw [Nd.bytes_eq]
    simp only [Nd.kids, Nd.text, List.length_append, numB_length, textB_length] at *
    omega
theorem Nd.bytess_le : ∀ l : List Nd, (Nd.bytess l).length ≤ 32 * Nd.bulks l
  | [] => by simp [Nd.bytess]
  | x :: xs => by
    have h1 := Nd.bytes_le x
    have h2 := Nd.bytess_le xs
    rw [Nd.bytess, Nd.bulks, List.length_append]; omega
end

/-- A row of bytes of the call's own. -/
def ByRow (base : Nat) (w : World) (v : Value) (l : List UInt8) : Prop := base ≤ w.heap.size ∧ w.ownsRow base 5 1 v l.length (bv l)
theorem ByRow.nil (w : World) : ByRow w.heap.size w (.slice none 0 0) [] := ⟨Nat.le_refl _, World.ownsRow_nil _ _ _ _⟩
theorem ByRow.later {base : Nat} {w w' : World} {v : Value} {l : List UInt8} (h : ByRow base w v l) (hb : Below w.heap.size w w') : ByRow base w' v l := ⟨Nat.le_trans h.1 hb.size, own_below h.2 hb⟩
theorem ByRow.drew {base : Nat} {w : World} {v : Value} {l : List UInt8} (h : ByRow base w v l) : ByRow base w.drew v l := h
theorem ByRow.slice {base : Nat} {w : World} {v : Value} {l : List UInt8} (h : ByRow base w v l) : ∃ A c, v = .slice A l.length c ∧ l.length ≤ c := by
  rcases h.2.2 with ⟨rfl, h0⟩ | ⟨g, cap, cur, rfl, _, _, hc, _⟩
  · exact ⟨none, 0, by rw [h0], by omega⟩
  · exact ⟨_, cap, rfl, hc⟩
/-- One row more behind a row of bytes. -/
theorem ByRow.appended {base g cap : Nat} {wr wa w3 : World} {u : Value} {l m : List UInt8} {cs : List Value} (h : ByRow base wr u l) (hcs : cs = bv m) (hw : wr.heap.size ≤ wa.heap.size)
    (hown : w3.ownsRow base 5 1 (.slice (some ⟨g, 0, none⟩) (l.length + m.length) cap) (l.length + m.length) (bv l ++ cs)) (hgrow : wa.grownBy w3 u.ownBlock) : ByRow base w3 (.slice (some ⟨g, 0, none⟩) (l.length + m.length) cap) (l ++ m) := by
  refine ⟨by have := hgrow.size; have := h.1; omega, ?_⟩
  rw [hcs, ← bv_append] at hown
  rwa [List.length_append]
theorem RowOf.appended {w : World} {row : Option Nat} {u : Value} {g H n cap : Nat} (h : RowOf w row u) (hat : u.ownBlock = some g ∨ g = H) (hH : w.heap.size ≤ H) : RowOf w row (.slice (some ⟨g, 0, none⟩) n cap) := by
  rcases hat with hat | hat
  · have e : (Value.slice (some ⟨g, 0, none⟩) n cap).ownBlock = u.ownBlock := hat.symm
    rcases h with h | h
    · exact .inl (e.trans h)
    · exact .inr fun b hb => h b (e ▸ hb)
  · exact .inr fun b hb => by simp [Value.ownBlock] at hb; omega
/-- What a call that appends bytes hands back. -/
def Appended (base : Nat) (w : World) (v : Value) (l : List UInt8) (e : Ending) (w' : World) : Prop :=
  ∃ v', e = .returned v' ∧ ByRow base w' v' l ∧ w.grownBy w' v.ownBlock ∧ RowOf w v.ownBlock v'
theorem bv_str (s : ByteArray) : Lib.strCells s = bv s.data.toList := rfl
/-- append(b, s...), and where the new slice lies. -/
theorem run_append_str_at {P : Program} (w : World) (base : Nat) (t u ty e : TypeId) (i : TypeInfo) (ht : P.underlying t = some (.slice e)) (hu : P.underlying u = some .string) (hi : P.info? e = some i) (hz : i.zero = some (.int .u8 0))
    (hsize : i.size = 1) (hby : i.bytes = 1) (v : Value) (n : Nat) (xs : List Value) (hown : w.ownsRow base e 1 v n xs) (s : ByteArray) (h63 : n + s.size ≤ maxLen) (hbytes : n + s.size ≤ 140737488355328) (hbase : base ≤ w.heap.size) :
    ∃ v' w', (Builtin.append_ #[t, u] ty #[v, .string s]).run P w = .ok v' w' ∧ w'.ownsRow base e 1 v' (n + s.size) (xs ++ Lib.strCells s) ∧ w.grownBy w' v.ownBlock ∧ RowOf w v.ownBlock v' := by
  obtain ⟨v', w', hr, h2, h3, h4⟩ := Lib.run_append_own_string (P := P) w base t u ty e i ht hu hi hz hsize hby v n xs hown s h63 hbytes hbase
  refine ⟨v', w', hr, h2, h3, ?_⟩
  have hsmall : n + s.size ≤ 9223372036854775807 := by simp only [maxLen] at h63; omega
  have hxl : xs.length = n := by simpa using hown.1
  rcases hown.2 with ⟨rfl, rfl⟩ | ⟨g, cap, cur, rfl, hbg, hg, hnc, hcm, hcs, htake⟩
  · by_cases hm : s.size = 0
    · exact .inl (by rw [h4.2 ⟨rfl, hm⟩])
    · have hr' := run_append_nil_string (P := P) w t u ty e i (.int .u8 0) ht hu hi hz s (by omega) (by omega) (by rw [hby]; omega)
      rw [hr] at hr'
      injection hr' with hv hw
      exact .inr fun b hb => by rw [hv] at hb; simp [Value.ownBlock] at hb; omega
  · by_cases hroom : n + s.size ≤ cap
    · have hr' := Lib.run_append_room_string (P := P) w t u ty e i ht hu hi hsize g n cap cur hg s hroom (by omega)
      rw [hr] at hr'
      injection hr' with hv hw
      exact .inl (by rw [hv]; rfl)
    · have hr' := Lib.run_append_grow_string (P := P) w t u ty e i (.int .u8 0) ht hu hi hz ⟨g, 0, none⟩ n cap xs (by rw [hsize]; simpa using hxl) (hown.cells (g := g) rfl) s (by omega) (by omega) (by rw [hby]; exact growslice_fits (by omega) (by omega))
      rw [hr] at hr'
      injection hr' with hv hw
      exact .inr fun b hb => by rw [hv] at hb; simp [Value.ownBlock] at hb; omega
theorem wpList_append_str_at {P : Program} (w : World) {ops : Array Oper} {rest : List Oper} {o : Oper} {a : Act} {Q : Exit → Act → World → Prop} (hgd : o.guard = none) (sl x : Operand) (t u : TypeId)
    (ho : o.op = .call { callee := .builtin .append, args := #[sl, x], argTypes := #[t, u] })
    (base : Nat) (e : TypeId) (i : TypeInfo) (ht : P.underlying t = some (.slice e)) (hu : P.underlying u = some .string) (hi : P.info? e = some i) (hz : i.zero = some (.int .u8 0)) (hsize : i.size = 1) (hby : i.bytes = 1)
    (v : Value) (n : Nat) (xs : List Value) (hs : a.eval sl = v) (hown : w.ownsRow base e 1 v n xs) (s : ByteArray) (hx : a.eval x = .string s) (h63 : n + s.size ≤ maxLen) (hbytes : n + s.size ≤ 140737488355328) (hbase : base ≤ w.heap.size)
    (h : ∀ v' w', w'.ownsRow base e 1 v' (n + s.size) (xs ++ Lib.strCells s) → w.grownBy w' v.ownBlock → RowOf w v.ownBlock v' → wpList P ops Q rest (a.put o.dst v') w') : wpList P ops Q (o :: rest) a w := by
  refine wpList_plain hgd fun K hK => ?_
  obtain ⟨v', w', hr, h2, h3, h4⟩ := run_append_str_at (P := P) w base t u o.type e i ht hu hi hz hsize hby v n xs hown s h63 hbytes hbase
  unfold Oper.wp execOp
  simp only [ho, resolve, invoke, builtin, Sem.run_bind, Sem.run_pure, Result.andThen_ok, List.map_toArray, List.map_cons, List.map_nil, hs, hx, hr]
  exact hK _ _ (h v' w' h2 h3 h4)
/-- A slice that comes in reads as these bytes. -/
def BytesAt (w : World) (A : Option Addr) (l : List UInt8) : Prop := l = [] ∨ ∃ b o, A = some ⟨b, o, none⟩ ∧ ∀ i (h : i < l.length), w.cell? ⟨b, o + i, none⟩ = some (.int .u8 (l[i].toNat : Int))
theorem BytesAt.below {w w' : World} {A : Option Addr} {l : List UInt8} (h : BytesAt w A l) (hb : Below w.heap.size w w') : BytesAt w' A l := by
  rcases h with h | ⟨b, o, hA, h⟩
  · exact .inl h
  · exact .inr ⟨b, o, hA, fun i hi => cell_keep hb (h i hi)⟩
theorem BytesAt.alloc {w : World} {A : Option Addr} {l : List UInt8} (h : BytesAt w A l) (o : Obj) : BytesAt (w.alloc o) A l := h.below ((Below.refl _ _).alloc (Nat.le_refl _) o)
theorem BytesAt.drew {w : World} {A : Option Addr} {l : List UInt8} (h : BytesAt w A l) : BytesAt w.drew A l := h.below (Below.refl _ _).drew
theorem ByRow.reads {base : Nat} {w : World} {v : Value} {l : List UInt8} (h : ByRow base w v l) : ∃ A c, v = .slice A l.length c ∧ l.length ≤ c ∧ BytesAt w A l := by
  rcases h.2.2 with ⟨rfl, h0⟩ | ⟨g, cap, cur, rfl, _, hg, hc, hm, hs, ht⟩
  · exact ⟨none, 0, by rw [h0], by omega, .inl (List.eq_nil_of_length_eq_zero h0)⟩
  · refine ⟨_, cap, rfl, hc, .inr ⟨g, 0, rfl, fun i hi => ?_⟩⟩
    have := h.2.cells (g := g) rfl i (.int .u8 (l[i].toNat : Int)) (by simp [bv, hi])
    rwa [addr_add] at this
theorem BytesAt.news {w : World} {b o : Nat} {l : List UInt8} (h : ∀ i (h : i < l.length), w.cell? ⟨b, o + i, none⟩ = some (.int .u8 (l[i].toNat : Int))) : ∀ j u, (bv l)[j]? = some u → w.cell? ((⟨b, o, none⟩ : Addr).add j) = some u := by
  intro j u hu
  rw [addr_add]
  obtain ⟨hj, rfl⟩ := List.getElem?_eq_some_iff.1 hu
  rw [h j (by simpa [bv] using hj)]
  simp [bv]
end Go.Proofs.Ytimjpkmdphccmaa

/- The types' rows in the program's table. -/
namespace Go.Proofs.Ytimjpkmdphccmaa
theorem info_Node : (Try.prog.info? 24).map (fun i => (i.zero, i.size, i.bytes)) = some (some (.agg #[.int .i64 0, .int .i64 0, .string ⟨#[]⟩, .slice none 0 0]), 4, 56) := by kernel_rfl
theorem info_Spot : (Try.prog.info? 72).map (fun i => (i.zero, i.size, i.bytes)) = some (some (.agg #[.int .i64 0, .int .i64 0, .string ⟨#[]⟩, .slice none 0 0, .int .i64 0]), 5, 64) := by kernel_rfl
theorem info_byte : (Try.prog.info? 5).map (fun i => (i.zero, i.size, i.bytes)) = some (some (.int .u8 0), 1, 1) := by kernel_rfl
theorem info_int : (Try.prog.info? 3).map (fun i => (i.zero, i.size, i.bytes)) = some (some (.int .i64 0), 1, 8) := by kernel_rfl
theorem info_Step : (Try.prog.info? 32).map (fun i => (i.zero, i.size, i.bytes)) = some (some (.agg #[.int .i8 0, .int .i64 0, .int .i64 0, .int .i64 0, .string ⟨#[]⟩, .int .i64 0, .int .i64 0, .string ⟨#[]⟩, .slice none 0 0]), 9, 104) := by kernel_rfl
end Go.Proofs.Ytimjpkmdphccmaa

/- code's writers: walks. -/
namespace Go.Proofs.Ytimjpkmdphccmaa
open Go.RowKit
attribute [local go_sem ↓] Go.wp_at_zero Go.wp_at_succ
set_option linter.unusedVariables false
set_option linter.unusedSimpArgs false

set_option maxRecDepth 100000 in
set_option maxHeartbeats 1000000 in
theorem number_calls (base : Nat) (v : Value) (l : List UInt8) (n : Int) (w : World) (hrow : ByRow base w v l) (hn0 : -9223372036854775808 ≤ n) (hn1 : n ≤ 9223372036854775807) (hl : l.length ≤ 70368744177664) :
    Calls Try.prog 123 #[v, .int .i64 n] w (Appended base w v (l ++ numB n)) := by
  obtain ⟨iY, jY, jY0, jY1, jY2⟩ := info_parts info_byte
  go_enter Try.func123, Try.ntmps123
  go_wp2
  go_loopw [0, 6] (fun v0 v6 wr => ∃ k : Nat, v6 = .int .i64 k ∧ k ≤ 8 ∧ ByRow base wr v0 (l ++ (numB n).take k) ∧ w.grownBy wr v.ownBlock ∧ RowOf w v.ownBlock v0) (fun _ v6 _ => 8 - (intOf v6).toNat)
  case atStart => exact ⟨0, rfl, by omega, by simpa using hrow, World.grownBy.refl _ _, .inl rfl⟩
  case round =>
    obtain ⟨k, rfl, hk, hr, hg, ho⟩ := hrel
    by_cases hlt : k < 8
    · have i1 : (0 : Int) ≤ (k : Int) := Int.natCast_nonneg _
      have i2 : (k : Int) < 8 := by omega
      have hlk : (l ++ (numB n).take k).length ≤ l.length + 8 := by simp; omega
      have hb := hr.1
      go_wp2_with (at_builtin; go_loud (refine wpList_append_lies _ rfl _ _ _ rfl base 5 iY _ 1 1 Try.underlying46 jY jY0 jY1 jY2 rfl (by omega) u0 (l ++ (numB n).take k).length (bv (l ++ (numB n).take k)) rfl (hr.2.alloc _) ⟨wr.heap.size, 0, none⟩ 1 1 [_] rfl rfl (World.news_of_block (heap_alloc_new wr _)) (by simp [Value.oneCell']) (by omega) (by unfold maxLen; omega) (by omega) (by simp; omega) (wr.heap.size + 1) (by simp) ?_); intro g cap w3 hown3 hgrow hat hlt3)
      go_roundw
      case rel =>
        refine ⟨k + 1, by go_num, by omega, ?_, ?_, ?_⟩
        · rw [numB_take n k hlt, ← List.append_assoc]
          have := ByRow.appended (m := [numBit n k]) hr (by simp [bv, numBit_val]) (by simp) hown3 hgrow
          simpa using this
        · exact grown_step hg (World.grownBy.trans (World.grownBy_alloc _ _ _) hgrow) ho
        · exact ho.appended hat (by have := hg.size; omega)
      case measure => simp [intOf]; omega
    · obtain rfl : k = 8 := by omega
      go_wp2
      go_ret
      refine ⟨_, rfl, ?_, hg, ho⟩
      rwa [List.take_of_length_le (by rw [numB_length]; omega)] at hr

set_option maxRecDepth 100000 in
theorem own_calls (l : List UInt8) (A : Option Addr) (c : Nat) (w : World) (h : BytesAt w A l) (hl : l.length ≤ 70368744177664) :
    Calls Try.prog 96 #[.slice A l.length c] w fun e w' => ∃ v', e = .returned v' ∧ ByRow w.heap.size w' v' l ∧ Below w.heap.size w w' := by
  obtain ⟨iY, jY, jY0, jY1, jY2⟩ := info_parts info_byte
  rcases h with rfl | ⟨b, o, rfl, h⟩
  · cases A
    all_goals
      go_enter Try.func96, Try.ntmps96
      go_wp2
      go_ret
      exact ⟨_, rfl, ByRow.nil w, Below.refl _ _⟩
  · by_cases h0 : l.length = 0
    · obtain rfl := List.eq_nil_of_length_eq_zero h0
      go_enter Try.func96, Try.ntmps96
      go_wp2
      go_ret
      exact ⟨_, rfl, ByRow.nil w, Below.refl _ _⟩
    · have h0' : 0 < l.length := by omega
      clear h0
      have HN := Lib.hid (BytesAt.news h)
      clear h
      go_enter Try.func96, Try.ntmps96
      go_wp2_with (at_builtin; go_loud (refine wpList_append_lies _ rfl _ _ _ rfl w.heap.size 5 iY _ 1 1 Try.underlying46 jY jY0 jY1 jY2 rfl (by omega) (.slice none 0 0) 0 [] rfl (World.ownsRow_nil _ _ _ _) ⟨b, o, none⟩ l.length c (bv l) rfl (by simp [bv]) HN.out (bv_one l) (by omega) (by unfold maxLen; omega) (by omega) (by omega) w.heap.size rfl ?_); intro g cap w3 hown3 hgrow hat hlt3)
      go_ret
      refine ⟨_, rfl, ⟨hgrow.size, by simpa using hown3⟩, (Below.refl _ _).grown hgrow (Nat.le_refl _) (by simp [Value.ownBlock])⟩

/-- code.Number: the bytes in new memory, the number behind them. -/
def MadeBy (w : World) (l : List UInt8) (e : Ending) (w' : World) : Prop := ∃ v', e = .returned v' ∧ ByRow w.heap.size w' v' l ∧ Below w.heap.size w w'
theorem MadeBy.of {w w1 : World} {v : Value} {l : List UInt8} {e : Ending} {w' : World} (hr : ByRow w.heap.size w1 v l) (hb : Below w.heap.size w w1) {m : List UInt8} (h : Appended w.heap.size w1 v m e w') : MadeBy w m e w' := by
  obtain ⟨v', he, h1, h2, h3⟩ := h
  exact ⟨v', he, h1, hb.grown h2 hb.size fun k hk => (hr.2.lt k hk).1⟩

set_option maxRecDepth 100000 in
theorem Number_calls (l : List UInt8) (A : Option Addr) (c : Nat) (n : Int) (w : World) (h : BytesAt w A l) (hl : l.length ≤ 1099511627776) (hn0 : -9223372036854775808 ≤ n) (hn1 : n ≤ 9223372036854775807) :
    Calls Try.prog 87 #[.slice A l.length c, .int .i64 n] w (MadeBy w (l ++ numB n)) := by
  go_enter Try.func87, Try.ntmps87
  go_wp2_with fail
  refine (own_calls l A c w h (by omega)).mono ?_
  rintro e w1 ⟨v1, rfl, hr1, hb1⟩
  go_wp2_with fail
  refine (number_calls w.heap.size v1 l n w1 hr1 hn0 hn1 (by omega)).mono ?_
  rintro e w2 hp
  have hm := MadeBy.of hr1 hb1 hp
  obtain ⟨v2, rfl, _⟩ := hp
  have HM := Lib.hid hm
  clear hm
  go_wp2
  go_ret
  exact HM.out

set_option maxRecDepth 100000 in
theorem text_calls (base : Nat) (v : Value) (l : List UInt8) (s : ByteArray) (w : World) (hrow : ByRow base w v l) (hl : l.length ≤ 35184372088832) (hs : s.size ≤ 35184372088832) :
    Calls Try.prog 161 #[v, .string s] w (Appended base w v (l ++ textB s)) := by
  obtain ⟨iY, jY, jY0, jY1, jY2⟩ := info_parts info_byte
  go_enter Try.func161, Try.ntmps161
  go_wp2_with fail
  refine (number_calls base v l s.size w hrow (by omega) (by omega) (by omega)).mono ?_
  rintro e w1 ⟨v1, rfl, hr1, hg1, ho1⟩
  go_wp2_with (at_builtin; go_loud (refine wpList_append_str_at _ rfl _ _ _ _ rfl base 5 iY Try.underlying46 Try.underlying9 jY jY0 jY1 jY2 v1 _ _ rfl hr1.2 s rfl (by simp [numB_length]; unfold maxLen; omega) (by simp [numB_length]; omega) hr1.1 ?_); intro v2 w2 hown2 hg2 ho2)
  go_ret
  refine ⟨v2, rfl, ⟨by have := hg2.size; have := hr1.1; omega, ?_⟩, grown_step hg1 hg2 ho1, ho1.then_ hg1.size ho2⟩
  rw [bv_str, ← bv_append] at hown2
  have e : (l ++ textB s).length = (l ++ numB (s.size : Int)).length + s.size := by simp [textB, numB_length]; omega
  rw [e]
  simpa [textB, List.append_assoc] using hown2

/-- A node's cells abide what writes the row alone. -/
theorem cell_grown {base : Nat} {w w' : World} {row : Option Nat} {a : Addr} {v : Value} (h : w.cell? a = some v) (hg : w.grownBy w' row) (hr : ∀ b, row = some b → base ≤ b) (hb : a.block < base) : w'.cell? a = some v :=
  (World.cell?_of_block (hg.block a.block (World.block_lt_of_cell? w a h) fun he => by have := hr _ he.symm; omega)).trans h
theorem ndIn_grown {base b o : Nat} {w w' : World} {x : Nd} {row : Option Nat} (h : ndIn (fun b => b < base) w b o x) (hb : b < base) (hg : w.grownBy w' row) (hr : ∀ b, row = some b → base ≤ b) : ndIn (fun b => b < base) w' b o x :=
  ndIn_move (fun b' hS hlt => ⟨hS, hg.block b' hlt fun he => by have := hr _ he.symm; omega⟩) x (hg.block b (World.block_lt_of_cell? w _ (ndIn_open h).1) fun he => by have := hr _ he.symm; omega) h
theorem ByRow.rows {base : Nat} {w : World} {v : Value} {l : List UInt8} (h : ByRow base w v l) : ∀ b, v.ownBlock = some b → base ≤ b := fun b hb => (h.2.lt b hb).1

set_option maxRecDepth 100000 in
set_option maxHeartbeats 2000000 in
theorem node_calls (base : Nat) (x : Nd) : ∀ (v : Value) (l : List UInt8) (b o : Nat) (w : World), ByRow base w v l → ndIn (fun b => b < base) w b o x → b < base → x.wf → x.bulk ≤ 1099511627776 → l.length + 32 * x.bulk ≤ 35184372088832 →
    Calls Try.prog 153 #[v, .pointer (some ⟨b, o, none⟩)] w (Appended base w v (l ++ x.bytes)) := by
  induction x using Nd.induct with
  | h x ih =>
  intro v l b o w hrow hx hb hwf hN hlN
  have hlen := x.kids_le
  have hbl := x.bytes_le
  obtain ⟨w1, w2, w3, w4, w5⟩ := x.wf_eq.1 hwf
  obtain ⟨f0, f1, f2, A1, q1, f3, hq1, ka⟩ := ndIn_open hx
  have htx := x.text_le
  have HX := Lib.hid hx
  have HI := Lib.hid ih
  have HE := Lib.hid x.bytes_eq
  clear ih
  go_enter Try.func153, Try.ntmps153
  go_wp2_with fail
  go_region_held3 (fun w' => w'.cell? ⟨b, o, none⟩ = some (.int .i64 x.id) ∧ w'.cell? ⟨b, o + 1, none⟩ = some (.int .i64 x.kind) ∧ w'.cell? ⟨b, o + 2, none⟩ = some (.string x.text) ∧ w'.cell? ⟨b, o + 3, none⟩ = some (.slice A1 x.kids.length q1))
    (first | go_keep | (go_split_ands; (repeat' apply And.intro) <;> exact cell_grown (by assumption) hgr hrr hb))
    (first
      | (go_at_call_of 123 v; refine (number_calls base v l x.id _ hrow.drew (by omega) (by omega) (by omega)).mono ?_; rintro e wa ⟨va, rfl, hra, hgr, hoa⟩; have hrr := hrow.rows; have hga := hgr)
      | (go_at_call_of 123 va; refine (number_calls base va _ x.kind _ hra (by omega) (by omega) (by simp [numB_length]; omega)).mono ?_; rintro e wb ⟨vb, rfl, hrb, hgr, hob⟩; have hrr := hra.rows; have hgb := hgr)
      | (go_at_call 161; refine (text_calls base vb _ x.text _ hrb (by simp [numB_length]; omega) (by omega)).mono ?_; rintro e wc ⟨vc, rfl, hrc, hgr, hoc⟩; have hrr := hrb.rows; have hgc := hgr))
  have hg3 : w.grownBy wc v.ownBlock := grown_step (grown_step (grown_undrew hga) hgb hoa.undrew) hgc (hoa.undrew.then_ hga.size hob)
  have ho3 : RowOf w v.ownBlock vc := (hoa.undrew.then_ hga.size hob).then_ (Nat.le_trans hga.size hgb.size) hoc
  have hx3 := ndIn_grown hx hb hg3 hrow.rows
  clear hgr hrr hga hgb hgc hoa hob hoc hra hrb hx f0 f1 f2 f3 ka
  obtain ⟨f0, f1, f2, A2, q2, f3, hq2, ka⟩ := ndIn_open hx3
  have HR := Lib.hid hrow.rows
  go_wp2_with fail
  refine (number_calls base vc _ x.kids.length _ hrc (by omega) (by omega) (by simp [numB_length, textB_length]; omega)).mono ?_
  rintro e wd ⟨vd, rfl, hrd, hgd, hod⟩
  have hg4 := grown_step hg3 hgd ho3
  have ho4 := ho3.then_ hg3.size hod
  have hx4 := ndIn_grown hx3 hb hgd hrc.rows
  clear hg3 hgd ho3 hod hrc f0 f1 f2 f3 ka hx3
  obtain ⟨f0, f1, f2, A3, q3, f3, hq3, ka⟩ := ndIn_open hx4
  have hb0 := hrd.1
  have hbt0 : ∀ k, k ≤ x.kids.length → (l ++ numB x.id ++ numB x.kind ++ textB x.text ++ numB (x.kids.length : Int) ++ Nd.bytess (x.kids.take k)).length + 32 * Nd.bulks (x.kids.drop k) ≤ l.length + 32 * x.bulk := fun k hk => by
    have e1 := Nd.bytess_le (x.kids.take k)
    have e2 : Nd.bulks x.kids = Nd.bulks (x.kids.take k) + Nd.bulks (x.kids.drop k) := by rw [← Nd.bulks_append, List.take_append_drop]
    have e3 := Nd.bulk_eq x
    simp only [List.length_append, numB_length, textB_length]
    omega
  have HBT := Lib.hid hbt0
  clear hbt0
  go_wp2
  go_loopw [0, 34] (fun v0 v34 wr => ∃ k : Nat, v34 = .int .i64 k ∧ k ≤ x.kids.length ∧ ByRow base wr v0 (l ++ numB x.id ++ numB x.kind ++ textB x.text ++ numB (x.kids.length : Int) ++ Nd.bytess (x.kids.take k)) ∧ w.grownBy wr v.ownBlock ∧ RowOf w v.ownBlock v0) (fun _ v34 _ => x.kids.length - (intOf v34).toNat)
  case atStart => exact ⟨0, rfl, Nat.zero_le _, by simpa [Nd.bytess] using hrd, hg4, ho4⟩
  case round =>
    obtain ⟨k, rfl, hk, hrk, hgk, hok⟩ := hrel
    by_cases hlt : k < x.kids.length
    · have hxk := ndIn_grown HX.out hb hgk HR.out
      obtain ⟨e0, e1, e2, A4, q4, e3, hq4, ka4⟩ := ndIn_open hxk
      obtain ⟨ba, oa, rfl, hba, na⟩ := ka4.get k hlt
      have i1 : (0 : Int) ≤ (k : Int) := Int.natCast_nonneg _
      have i2 : (k : Int) < (x.kids.length : Int) := by omega
      have hkb := Nd.kid_bulk (List.getElem_mem hlt)
      have hbt := HBT.out k hk
      have e4 : Nd.bulks (x.kids.drop k) = (x.kids[k]).bulk + Nd.bulks (x.kids.drop (k + 1)) := by rw [List.drop_eq_getElem_cons hlt, Nd.bulks]
      have HC := Lib.hid (HI.out _ (List.getElem_mem hlt) u0 _ ba (oa + k * 4) wr hrk na hba ((Nd.wfs_iff _).1 w5 _ (List.getElem_mem hlt)) (by omega) (by omega))
      clear e4 hbt
      go_wp2_with fail
      refine HC.out.mono ?_
      rintro e w2 ⟨v2, rfl, hr2, hg2, ho2⟩
      go_wp2
      go_roundw
      case rel =>
        refine ⟨k + 1, by go_num, by omega, ?_, grown_step hgk hg2 hok, hok.then_ hgk.size ho2⟩
        rw [take_snoc hlt, Nd.bytess_append]
        simpa [Nd.bytess, List.append_assoc] using hr2
      case measure => simp [intOf]; omega
    · have g5 : decide (k < x.kids.length) = false := by simpa using hlt
      go_wp2
      go_ret
      have hkx : x.kids.take k = x.kids := List.take_of_length_le (by omega)
      rw [hkx] at hrk
      refine ⟨_, rfl, ?_, hgk, hok⟩
      rw [HE.out]
      simpa [List.append_assoc] using hrk
end Go.Proofs.Ytimjpkmdphccmaa
