/- What is read is written as it stood; where a reading stops; what a part of the bytes comes to: plain laws of messages. -/
import Derived.Test.YtimjpkmdphccmaaWS15
import Derived.Test.YtimjpkmdphccmaaWS13
import Derived.Test.YtimjpkmdphccmaaWS16
import Derived.Test.YtimjpkmdphccmaaProg
import Derived.WalkLawsBesides
import Derived.WalkSpells
import Derived.Tactics
import Derived.Tactics2
import Derived.WalkKit
import Derived.Handy
import Derived.Deep.RegionHeld3
import Derived.Deep.DrawnRows
import Derived.Deep.DeepCutAuto
import Derived.KernelRfl
import Derived.BigRegion
import Derived.BigQuiet
import Derived.Deep.QuietTactic
import Derived.Outline
import Derived.Lib.Hide
import Derived.Laws.EntriesVeiled
import Derived.Laws.Pointers

namespace Go.Proofs.Ytimjpkmdphccmaa
open Go.RowKit
set_option linter.unusedSimpArgs false
set_option linter.unusedVariables false

/- Where a reading stops. -/
def Fle {α : Type} (n : Nat) (p : PR α) : Prop := ∀ f, p = .fail f → f ≤ n
theorem Fle.bind {α β : Type} {n : Nat} {p : PR α} {g : α → Nat → PR β} (h : Fle n p) (k : ∀ v m, p = .ok v m → Fle n (g v m)) : Fle n (p.bind g) := by
  intro f hf
  cases hp : p with
  | fail e => rw [hp] at hf; injection hf with hf; rw [← hf]; exact h e hp
  | ok v m => rw [hp] at hf; exact k v m hp f hf
theorem Fle.ok {α : Type} (n : Nat) (v : α) (m : Nat) : Fle n (PR.ok v m) := fun f h => by cases h
theorem Fle.fail {α : Type} {n f : Nat} (h : f ≤ n) : Fle n (PR.fail f : PR α) := fun e he => by injection he with he; omega
theorem takeP_fle (B : List UInt8) (a n : Nat) : Fle B.length (takeP B a n) := by
  rw [takeP]; split
  · exact Fle.ok _ _ _
  · exact Fle.fail (Nat.le_refl _)
theorem numberP_fle (B : List UInt8) (a : Nat) : Fle B.length (numberP B a) := (takeP_fle B a 8).bind fun _ _ _ => Fle.ok _ _ _
theorem smallP_fle (B : List UInt8) (a : Nat) : Fle B.length (smallP B a) := (takeP_fle B a 1).bind fun _ _ _ => Fle.ok _ _ _
theorem countP_fle {B : List UInt8} {a : Nat} (h : a ≤ B.length) (size most : Nat) : Fle B.length (countP B a size most) := (numberP_fle B a).bind fun v m _ => by
  split
  · exact Fle.fail h
  · exact Fle.ok _ _ _
theorem textP_fle {B : List UInt8} {a : Nat} (h : a ≤ B.length) : Fle B.length (textP B a) := (countP_fle h 1 _).bind fun v m _ => (takeP_fle B m v).bind fun _ _ _ => Fle.ok _ _ _
theorem listP_fle {α σ : Type} {B : List UInt8} {one : Nat → σ → PR (α × σ)} (h1 : ∀ a s, a ≤ B.length → Fle B.length (one a s)) (h2 : ∀ a s q m, a ≤ B.length → one a s = .ok q m → m ≤ B.length) : ∀ (n a : Nat) (s : σ), a ≤ B.length → Fle B.length (listP one n a s) ∧ ∀ q m, listP one n a s = .ok q m → m ≤ B.length
  | 0, a, s, ha => ⟨Fle.ok _ _ _, fun q m h => by injection h with _ h; omega⟩
  | n + 1, a, s, ha => by
    obtain ⟨g1, g2⟩ := listP_fle h1 h2 n a s ha
    refine ⟨g1.bind fun q m hq => (h1 m q.2 (g2 q m hq)).bind fun _ _ _ => Fle.ok _ _ _, fun q m h => ?_⟩
    rw [listP] at h
    cases e1 : listP one n a s with
    | fail f => rw [e1] at h; cases h
    | ok q1 m1 =>
      rw [e1, PR.bind_ok] at h
      cases e2 : one m1 q1.2 with
      | fail f => rw [e2] at h; cases h
      | ok q2 m2 =>
        rw [e2, PR.bind_ok] at h
        injection h with _ h
        rw [← h]
        exact h2 m1 q1.2 q2 m2 (g2 q1 m1 e1) e2
theorem nodeP_fle {B : List UInt8} : ∀ (fuel a s : Nat), a ≤ B.length → Fle B.length (nodeP B fuel a s) := by
  intro fuel
  induction fuel with
  | zero => intro a s h; rw [nodeP]; exact Fle.fail h
  | succ fuel ih =>
    intro a s h
    rw [nodeP]
    split
    · exact Fle.fail h
    · refine (numberP_fle B a).bind fun i a1 e1 => (numberP_fle B a1).bind fun k a2 e2 => (textP_fle (numberP_ok e2).2).bind fun t a3 e3 => (countP_fle (textP_ok e3).1 32 _).bind fun n a4 e4 => ?_
      exact (listP_fle (one := fun a s => nodeP B fuel a s) (fun a s ha => ih a s ha) (fun a s q m ha h => nodeP_le h) n a4 (s + 1) (countP_ok e4).2.1).1.bind fun _ _ _ => Fle.ok _ _ _
theorem treeP_fle {B : List UInt8} {a : Nat} (h : a ≤ B.length) : Fle B.length (treeP B a) := (nodeP_fle 40 a 0 h).bind fun _ _ _ => Fle.ok _ _ _
theorem stepP_fle {B : List UInt8} (a : Nat) : Fle B.length (stepP B a) :=
  (smallP_fle B a).bind fun _ a1 _ => (numberP_fle B a1).bind fun _ a2 _ => (numberP_fle B a2).bind fun _ a3 _ => (numberP_fle B a3).bind fun _ a4 e4 => (textP_fle (numberP_ok e4).2).bind fun _ a5 e5 => (treeP_fle (textP_ok e5).1).bind fun _ _ _ => Fle.ok _ _ _
theorem stepsP_fle {B : List UInt8} {a : Nat} (h : a ≤ B.length) : Fle B.length (stepsP B a) :=
  (countP_fle h 57 60).bind fun n a1 e1 => (listP_fle (one := oneStep B) (fun a s _ => (stepP_fle a).bind fun _ _ _ => Fle.ok _ _ _) (fun a s q m _ h => by
    rw [oneStep] at h
    cases e : stepP B a with
    | fail f => rw [e] at h; cases h
    | ok v k => rw [e, PR.bind_ok] at h; injection h with _ h; rw [← h]; exact stepP_ok e) n a1 () (countP_ok e1).2.1).1
/-- A reader's place is one of the bytes', or the end. -/
def stLe (B : List UInt8) : Rst → Prop
  | .at n => n ≤ B.length
  | .bad f => f ≤ B.length
theorem askP_le {α : Type} {B : List UInt8} {P : Nat → PR α} {z : α} {st : Rst} (h : stLe B st) (h1 : ∀ a, a ≤ B.length → Fle B.length (P a)) (h2 : ∀ a v m, a ≤ B.length → P a = .ok v m → m ≤ B.length) : stLe B (askP P z st).2 := by
  cases st with
  | bad f => exact h
  | «at» n =>
    rw [askP]
    cases e : P n with
    | fail f => exact h1 n h f e
    | ok v m => exact h2 n v m h e
theorem read_le {B : List UInt8} (f : Fld) {q : Msg × Rst} (h : stLe B q.2) : stLe B (f.read B q).2 := by
  have hn : stLe B (askP (numberP B) 0 q.2).2 := askP_le h (fun a _ => numberP_fle B a) (fun a v m _ e => (numberP_ok e).2)
  cases f
  case steps => exact askP_le h (fun a ha => stepsP_fle ha) (fun a v m _ e => stepsP_ok e)
  case tree => exact askP_le h (fun a ha => treeP_fle ha) (fun a v m _ e => treeP_ok e)
  all_goals exact hn
theorem readFlds_le {B : List UInt8} : ∀ (l : List Fld) {q : Msg × Rst}, stLe B q.2 → stLe B (readFlds B q l).2
  | [], _, h => h
  | f :: r, _, h => readFlds_le r (read_le f h)
theorem head_le (B : List UInt8) : stLe B (readHead B).2 := by
  have h0 : stLe B (.at 0) := Nat.zero_le _
  have h1 : stLe B (askP (smallP B) 0 (.at 0)).2 := askP_le h0 (fun a _ => smallP_fle B a) (fun a v m _ e => smallP_ok e)
  have h2 : stLe B (askP (numberP B) 0 (askP (smallP B) 0 (.at 0)).2).2 := askP_le h1 (fun a _ => numberP_fle B a) (fun a v m _ e => (numberP_ok e).2)
  exact askP_le h2 (fun a _ => numberP_fle B a) (fun a v m _ e => (numberP_ok e).2)
theorem parse_le (B : List UInt8) : stLe B (parseP B).2 := readFlds_le _ (head_le B)
theorem endP_le {B : List UInt8} {st : Rst} (h : stLe B st) : 0 ≤ (endP B st).1 ∧ (endP B st).1 ≤ B.length := by
  cases st with
  | bad f => simp only [endP]; simp only [stLe] at h; omega
  | «at» n => simp only [stLe] at h; rw [endP]; split <;> simp only <;> omega
/-- What Read refuses it refuses at one of the bytes, and hands back nothing. -/
theorem readP_no {b : List UInt8} (h : (readP b).2.2 ≠ 0) : (readP b).1 = Msg.zero ∧ 0 ≤ (readP b).2.1 ∧ (readP b).2.1 ≤ b.length := by
  rw [readP] at h ⊢
  split
  · exact ⟨rfl, by simp only; omega, by simp only; omega⟩
  · rename_i hl
    rw [if_neg hl] at h
    cases ho : openP b with
    | none => exact ⟨rfl, by simp only; omega, by simp only; omega⟩
    | some B =>
      simp only [ho] at h ⊢
      have hlen : B.length ≤ b.length := by have := congrArg List.length (openP_some ho); rw [sealB_len] at this; omega
      have he := endP_le (parse_le B)
      rw [readOwn] at h ⊢
      split
      · exact ⟨rfl, by simp only; omega, by simp only; omega⟩
      · rename_i h1
        rw [if_neg h1] at h
        split
        · exact ⟨rfl, he.1, by simp only; omega⟩
        · rename_i h2
          rw [if_neg h2] at h
          split
          · rename_i h3
            rw [if_pos h3] at h
            exact absurd rfl h
          · exact ⟨rfl, by simp only; omega, by simp only; omega⟩

/- What is read is what stood there. -/
def Fld.tgt : Fld → Nat
  | .boot => 0 | .known => 1 | .server => 1 | .count => 2 | .node => 3 | .lease => 4 | .epoch => 5 | .version => 6 | .fault => 7 | .steps => 8 | .tree => 9
theorem bytes_keep (B : List UInt8) (f g : Fld) (h : f.tgt ≠ g.tgt) (q : Msg × Rst) : f.bytes (g.read B q).1 = f.bytes q.1 := by
  cases f <;> cases g <;> first | rfl | exact absurd rfl h
theorem bytes_keeps (B : List UInt8) (f : Fld) : ∀ (l : List Fld), (∀ g ∈ l, f.tgt ≠ g.tgt) → ∀ q : Msg × Rst, f.bytes (readFlds B q l).1 = f.bytes q.1
  | [], _, q => rfl
  | g :: r, h, q => by
    show f.bytes (readFlds B (g.read B q) r).1 = _
    rw [bytes_keeps B f r (fun x hx => h x (by simp [hx])), bytes_keep B f g (h g (by simp))]
theorem read_bad {B : List UInt8} {q : Msg × Rst} {e : Nat} (f : Fld) (h : q.2 = .bad e) : (f.read B q).2 = .bad e := by
  cases f <;> simp only [Fld.read, h, askP]
theorem readFlds_bad {B : List UInt8} {e : Nat} : ∀ (l : List Fld) {q : Msg × Rst}, q.2 = .bad e → (readFlds B q l).2 = .bad e
  | [], _, h => h
  | f :: r, _, h => readFlds_bad r (read_bad f h)
theorem askNum_seg {B : List UInt8} {a b : Nat} {v : Int} (h : askP (numberP B) 0 (.at a) = (v, .at b)) : a ≤ b ∧ b ≤ B.length ∧ seg B a b = numB v := by
  rw [askP] at h
  cases e : numberP B a with
  | fail f => rw [e] at h; injection h with _ h; cases h
  | ok x m =>
    rw [e] at h
    simp only [Prod.mk.injEq, Rst.at.injEq] at h
    obtain ⟨rfl, rfl⟩ := h
    obtain ⟨h1, h2, h3, _⟩ := numberP_seg e
    exact ⟨by omega, h2, h3⟩
theorem read_seg {B : List UInt8} (f : Fld) {q : Msg × Rst} {a b : Nat} (ha : a ≤ B.length) (hq : q.2 = .at a) (h : (f.read B q).2 = .at b) : a ≤ b ∧ b ≤ B.length ∧ seg B a b = f.bytes (f.read B q).1 := by
  have hn : (askP (numberP B) 0 q.2).2 = .at b → a ≤ b ∧ b ≤ B.length ∧ seg B a b = numB (askP (numberP B) 0 q.2).1 := fun h => by
    rw [hq] at h ⊢
    exact askNum_seg (by rw [← h])
  cases f
  case steps =>
    simp only [Fld.read, hq, askP] at h ⊢
    cases e : stepsP B a with
    | fail f => rw [e] at h; cases h
    | ok x m =>
      obtain ⟨l, u⟩ := x
      rw [e] at h
      injection h with h
      subst h
      obtain ⟨h1, h2, h3, _⟩ := stepsP_seg e
      exact ⟨h1, h2, h3⟩
  case tree =>
    simp only [Fld.read, hq, askP] at h ⊢
    cases e : treeP B a with
    | fail f => rw [e] at h; cases h
    | ok x m =>
      rw [e] at h
      injection h with h
      subst h
      obtain ⟨h1, h2, h3, _⟩ := treeP_seg ha e
      exact ⟨h1, h2, h3⟩
  all_goals exact hn h
theorem readFlds_seg {B : List UInt8} : ∀ (l : List Fld) (q : Msg × Rst) (a b : Nat), a ≤ B.length → l.Pairwise (fun f g => f.tgt ≠ g.tgt) → q.2 = .at a → (readFlds B q l).2 = .at b → a ≤ b ∧ b ≤ B.length ∧ seg B a b = l.flatMap (Fld.bytes (readFlds B q l).1)
  | [], q, a, b, ha, _, hq, h => by
    have : a = b := by
      have h' : q.2 = .at b := h
      rw [hq] at h'
      injection h'
    subst this
    exact ⟨Nat.le_refl _, ha, by rw [seg_self]; rfl⟩
  | f :: r, q, a, b, ha, hp, hq, h => by
    have h' : (readFlds B (f.read B q) r).2 = .at b := h
    cases hs : (f.read B q).2 with
    | bad e => rw [readFlds_bad r hs] at h'; cases h'
    | «at» c =>
      obtain ⟨g1, g2, g3⟩ := read_seg f ha hq hs
      obtain ⟨k1, k2, k3⟩ := readFlds_seg r (f.read B q) c b g2 (List.pairwise_cons.1 hp).2 hs h'
      refine ⟨by omega, k2, ?_⟩
      show seg B a b = (f :: r).flatMap (Fld.bytes (readFlds B (f.read B q) r).1)
      rw [List.flatMap_cons, bytes_keeps B f r (List.pairwise_cons.1 hp).1, ← g3, ← k3, seg_app g1 k1]
theorem kindFlds_apart (k : Int) : (kindFlds k).Pairwise (fun f g => f.tgt ≠ g.tgt) := by
  unfold kindFlds
  repeat' split
  all_goals simp [Fld.tgt]
theorem read_keep (B : List UInt8) (f : Fld) (q : Msg × Rst) : (f.read B q).1.kind = q.1.kind ∧ (f.read B q).1.from_ = q.1.from_ ∧ (f.read B q).1.to_ = q.1.to_ := by cases f <;> exact ⟨rfl, rfl, rfl⟩
theorem readFlds_keep (B : List UInt8) : ∀ (l : List Fld) (q : Msg × Rst), (readFlds B q l).1.kind = q.1.kind ∧ (readFlds B q l).1.from_ = q.1.from_ ∧ (readFlds B q l).1.to_ = q.1.to_
  | [], q => ⟨rfl, rfl, rfl⟩
  | f :: r, q => by
    obtain ⟨h1, h2, h3⟩ := readFlds_keep B r (f.read B q)
    obtain ⟨k1, k2, k3⟩ := read_keep B f q
    exact ⟨h1.trans k1, h2.trans k2, h3.trans k3⟩
theorem head_seg {B : List UInt8} {a : Nat} (h : (readHead B).2 = .at a) : a = 17 ∧ 17 ≤ B.length ∧ seg B 0 17 = [opB (readHead B).1.kind] ++ numB (readHead B).1.from_ ++ numB (readHead B).1.to_ := by
  simp only [readHead] at h ⊢
  cases e0 : smallP B 0 with
  | fail f => simp only [askP, e0] at h; cases h
  | ok k m0 =>
    have q0 : askP (smallP B) 0 (.at 0) = (k, .at m0) := by rw [askP, e0]
    rw [q0] at h ⊢
    cases e1 : numberP B m0 with
    | fail f => simp only [askP, e1] at h; cases h
    | ok f m1 =>
      have q1 : askP (numberP B) 0 (.at m0) = (f, .at m1) := by rw [askP, e1]
      simp only [q1] at h ⊢
      cases e2 : numberP B m1 with
      | fail f => simp only [askP, e2] at h; cases h
      | ok t m2 =>
        have q2 : askP (numberP B) 0 (.at m1) = (t, .at m2) := by rw [askP, e2]
        simp only [q2] at h ⊢
        obtain ⟨g1, g2, g3, _⟩ := smallP_seg e0
        obtain ⟨k1, k2, k3, _⟩ := numberP_seg e1
        obtain ⟨l1, l2, l3, _⟩ := numberP_seg e2
        injection h with h
        subst g1; subst k1; subst l1
        refine ⟨h.symm, l2, ?_⟩
        rw [← g3, ← k3, ← l3, seg_app (by omega) (by omega), seg_app (by omega) (by omega)]
theorem parse_seg {B : List UInt8} {n : Msg} (h : parseP B = (n, .at B.length)) : msgB n = B := by
  have h1 : (parseP B).2 = .at B.length := by rw [h]
  rw [parseP] at h1
  cases hs : (readHead B).2 with
  | bad e => rw [readFlds_bad _ hs] at h1; cases h1
  | «at» a =>
    obtain ⟨rfl, g2, g3⟩ := head_seg hs
    obtain ⟨k1, k2, k3⟩ := readFlds_seg (kindFlds (readHead B).1.kind) (readHead B) 17 B.length g2 (kindFlds_apart _) hs h1
    have hn : (readFlds B (readHead B) (kindFlds (readHead B).1.kind)).1 = n := by
      have : (parseP B).1 = n := by rw [h]
      rw [← this, parseP]
    rw [hn] at k3
    obtain ⟨p1, p2, p3⟩ := readFlds_keep B (kindFlds (readHead B).1.kind) (readHead B)
    rw [hn] at p1 p2 p3
    rw [msgB, bytesK, p1, p2, p3, ← k3, ← g3, seg_app (by omega) g2]
    simp [seg]
theorem readOwn_yes {B : List UInt8} {n : Msg} {at_ : Int} (h : readOwn B = (n, at_, 0)) : okMsg n = true ∧ parseP B = (n, .at B.length) ∧ at_ = 0 := by
  rw [readOwn] at h
  split at h
  · injection h with _ h; injection h with _ h; cases h
  · split at h
    · rename_i h2
      injection h with _ h; injection h with _ h
      exact absurd h h2
    · rename_i h2
      split at h
      · rename_i h3
        injection h with e1 h; injection h with e2 h
        refine ⟨by rw [← e1]; exact h3, ?_, e2.symm⟩
        have h4 : (endP B (parseP B).2).2 = 0 := by simpa using h2
        have h5 : (parseP B).2 = .at B.length := by
          have hle := parse_le B
          cases hs : (parseP B).2 with
          | bad f => rw [hs] at h4; simp [endP] at h4
          | «at» m =>
            rw [hs] at h4 hle
            rw [endP] at h4
            split at h4
            · simp at h4
            · simp only [stLe] at hle
              congr 1
              omega
        rw [← e1, ← h5]
      · injection h with _ h; injection h with _ h; cases h
/-- What is read is written as it stood. -/
theorem readP_yes {b : List UInt8} {n : Msg} {at_ : Int} (h : readP b = (n, at_, 0)) : okMsg n = true ∧ sealB (msgB n) = b ∧ at_ = 0 := by
  rw [readP] at h
  split at h
  · injection h with _ h; injection h with _ h; cases h
  · cases ho : openP b with
    | none => rw [ho] at h; injection h with _ h; injection h with _ h; cases h
    | some B =>
      rw [ho] at h
      obtain ⟨h1, h2, h3⟩ := readOwn_yes h
      exact ⟨h1, by rw [parse_seg h2]; exact (openP_some ho).symm, h3⟩

/- What a part of the bytes comes to the whole comes to. -/
def Mono {α : Type} (p p' : PR α) : Prop := ∀ v m, p = .ok v m → p' = .ok v m
theorem Mono.bind {α β : Type} {p p' : PR α} {g g' : α → Nat → PR β} (h : Mono p p') (k : ∀ v m, p = .ok v m → Mono (g v m) (g' v m)) : Mono (p.bind g) (p'.bind g') := by
  intro v m hv
  cases hp : p with
  | fail e => rw [hp] at hv; cases hv
  | ok x a =>
    rw [h x a hp]
    rw [hp] at hv
    exact k x a hp v m hv
theorem Mono.refl {α : Type} (p : PR α) : Mono p p := fun _ _ h => h
theorem takeP_mono (B r : List UInt8) (a n : Nat) : Mono (takeP B a n) (takeP (B ++ r) a n) := by
  intro v m h
  rw [takeP] at h ⊢
  split at h
  · rename_i hl
    rw [if_pos (by rw [List.length_append]; omega), List.drop_append_of_le_length (by omega), List.take_append_of_le_length (by rw [List.length_drop]; omega)]
    exact h
  · cases h
theorem numberP_mono (B r : List UInt8) (a : Nat) : Mono (numberP B a) (numberP (B ++ r) a) := (takeP_mono B r a 8).bind fun _ _ _ => Mono.refl _
theorem smallP_mono (B r : List UInt8) (a : Nat) : Mono (smallP B a) (smallP (B ++ r) a) := (takeP_mono B r a 1).bind fun _ _ _ => Mono.refl _
theorem countP_mono (B r : List UInt8) (a size most most' : Nat) (h : most ≤ most') : Mono (countP B a size most) (countP (B ++ r) a size most') := (numberP_mono B r a).bind fun n m _ v k hv => by
  split at hv
  · cases hv
  · rename_i hn
    have hd : ((B.length - m : Nat) : Int) / (size : Int) ≤ (((B ++ r).length - m : Nat) : Int) / (size : Int) := by
      rcases Nat.eq_zero_or_pos size with h0 | h0
      · rw [h0]; simp
      · exact Int.ediv_le_ediv (by omega) (by rw [List.length_append]; omega)
    rw [if_neg (by omega)]
    exact hv
theorem textP_mono (B r : List UInt8) (a : Nat) : Mono (textP B a) (textP (B ++ r) a) := (countP_mono B r a 1 _ _ (by rw [List.length_append]; omega)).bind fun n m _ => (takeP_mono B r m n).bind fun _ _ _ => Mono.refl _
theorem listP_mono {α σ : Type} {one one' : Nat → σ → PR (α × σ)} (h : ∀ a s, Mono (one a s) (one' a s)) : ∀ (n a : Nat) (s : σ), Mono (listP one n a s) (listP one' n a s)
  | 0, a, s => Mono.refl _
  | n + 1, a, s => (listP_mono h n a s).bind fun q m _ => (h m q.2).bind fun _ _ _ => Mono.refl _
theorem nodeP_mono (B r : List UInt8) : ∀ (fuel a s : Nat), Mono (nodeP B fuel a s) (nodeP (B ++ r) fuel a s) := by
  intro fuel
  induction fuel with
  | zero => intro a s v m h; rw [nodeP] at h; cases h
  | succ fuel ih =>
    intro a s
    rw [nodeP, nodeP]
    split
    · exact Mono.refl _
    · exact (numberP_mono B r a).bind fun i a1 _ => (numberP_mono B r a1).bind fun k a2 _ => (textP_mono B r a2).bind fun t a3 _ => (countP_mono B r a3 32 _ _ (by rw [List.length_append]; omega)).bind fun n a4 _ =>
        (listP_mono (fun a s => ih a s) n a4 (s + 1)).bind fun _ _ _ => Mono.refl _
theorem treeP_mono (B r : List UInt8) (a : Nat) : Mono (treeP B a) (treeP (B ++ r) a) := (nodeP_mono B r 40 a 0).bind fun _ _ _ => Mono.refl _
theorem stepP_mono (B r : List UInt8) (a : Nat) : Mono (stepP B a) (stepP (B ++ r) a) :=
  (smallP_mono B r a).bind fun _ a1 _ => (numberP_mono B r a1).bind fun _ a2 _ => (numberP_mono B r a2).bind fun _ a3 _ => (numberP_mono B r a3).bind fun _ a4 _ => (textP_mono B r a4).bind fun _ a5 _ => (treeP_mono B r a5).bind fun _ _ _ => Mono.refl _
theorem stepsP_mono (B r : List UInt8) (a : Nat) : Mono (stepsP B a) (stepsP (B ++ r) a) :=
  (countP_mono B r a 57 60 60 (Nat.le_refl _)).bind fun n a1 _ => listP_mono (fun a s => (stepP_mono B r a).bind fun _ _ _ => Mono.refl _) n a1 ()
theorem askP_mono {α : Type} {P P' : Nat → PR α} (h : ∀ a, Mono (P a) (P' a)) (z : α) {st : Rst} {m : Nat} (k : (askP P z st).2 = .at m) : askP P' z st = askP P z st := by
  cases st with
  | bad f => rfl
  | «at» n =>
    rw [askP] at k ⊢
    cases e : P n with
    | fail f => rw [e] at k; cases k
    | ok v a => rw [askP, h n v a e, e]
theorem read_mono (B r : List UInt8) (f : Fld) {q : Msg × Rst} {m : Nat} (h : (f.read B q).2 = .at m) : f.read (B ++ r) q = f.read B q := by
  have hn : (askP (numberP B) 0 q.2).2 = .at m → askP (numberP (B ++ r)) 0 q.2 = askP (numberP B) 0 q.2 := fun h => askP_mono (fun a => numberP_mono B r a) 0 h
  cases f
  case steps => simp only [Fld.read] at h ⊢; rw [askP_mono (fun a => stepsP_mono B r a) ([], ()) h]
  case tree => simp only [Fld.read] at h ⊢; rw [askP_mono (fun a => treeP_mono B r a) Nd.zero h]
  all_goals
    simp only [Fld.read] at h ⊢
    rw [hn h]
theorem readFlds_mono (B r : List UInt8) : ∀ (l : List Fld) {q : Msg × Rst} {m : Nat}, (readFlds B q l).2 = .at m → readFlds (B ++ r) q l = readFlds B q l
  | [], _, _, _ => rfl
  | f :: l, q, m, h => by
    have h' : (readFlds B (f.read B q) l).2 = .at m := h
    cases hs : (f.read B q).2 with
    | bad e => rw [readFlds_bad l hs] at h'; cases h'
    | «at» c =>
      show readFlds (B ++ r) (f.read (B ++ r) q) l = readFlds B (f.read B q) l
      rw [read_mono B r f hs, readFlds_mono B r l h']
theorem head_mono (B r : List UInt8) {m : Nat} (h : (readHead B).2 = .at m) : readHead (B ++ r) = readHead B := by
  simp only [readHead] at h ⊢
  cases e0 : (askP (smallP B) 0 (.at 0)).2 with
  | bad f => rw [e0] at h; simp only [askP] at h; cases h
  | «at» m0 =>
    have q0 := askP_mono (fun a => smallP_mono B r a) 0 e0
    rw [q0]
    cases e1 : (askP (numberP B) 0 (askP (smallP B) 0 (.at 0)).2).2 with
    | bad f => rw [e1] at h; simp only [askP] at h; cases h
    | «at» m1 =>
      have q1 := askP_mono (fun a => numberP_mono B r a) 0 e1
      rw [q1]
      have q2 := askP_mono (fun a => numberP_mono B r a) 0 h
      rw [q2, e0]
theorem parse_mono (B r : List UInt8) {m : Nat} (h : (parseP B).2 = .at m) : parseP (B ++ r) = parseP B := by
  rw [parseP] at h
  cases hs : (readHead B).2 with
  | bad e => rw [readFlds_bad _ hs] at h; cases h
  | «at» a => rw [parseP, head_mono B r hs, readFlds_mono B r _ h, parseP]
theorem readP_codes (b : List UInt8) (h : b.length ≤ 65536) : (readP b).2.2 = 0 ∨ (readP b).2.2 = 30 := by
  rw [readP, if_neg (by omega)]
  cases openP b with
  | none => exact .inr rfl
  | some B =>
    simp only
    rw [readOwn]
    split
    · exact .inr rfl
    · split
      · cases (parseP B).2 with
        | bad f => exact .inr rfl
        | «at» n => simp only [endP]; split <;> simp
      · split
        · exact .inl rfl
        · exact .inr rfl
/-- One byte that is another one. -/
theorem readP_flip {m : Msg} (h : okMsg m = true) (i : Nat) (hi : i < (sealB (msgB m)).length) (y : UInt8) (hy : y ≠ (sealB (msgB m))[i]) : readP ((sealB (msgB m)).set i y) = (Msg.zero, 0, 30) := by
  have := msgB_short h
  rw [readP, if_neg (by rw [List.length_set, sealB_len]; omega), openP_flip (msgB m) i hi y hy]
/-- Some bytes at the end missing. -/
theorem readP_cut {m : Msg} (h : okMsg m = true) (k : Nat) (hk : k < (sealB (msgB m)).length) : (readP ((sealB (msgB m)).take k)).2.2 = 30 ∧ (readP ((sealB (msgB m)).take k)).1 = Msg.zero := by
  have hs := msgB_short h
  have hl : ((sealB (msgB m)).take k).length ≤ 65536 := by rw [List.length_take]; rw [sealB_len] at hk ⊢; omega
  have h0 : (readP ((sealB (msgB m)).take k)).2.2 ≠ 0 := by
    intro h0
    obtain ⟨n, at_, e, hr⟩ : ∃ n at_ e, readP ((sealB (msgB m)).take k) = (n, at_, e) := ⟨_, _, _, rfl⟩
    rw [hr] at h0
    simp only at h0
    subst h0
    have hr' := hr
    rw [readP, if_neg (by omega)] at hr'
    rcases openP_cut (msgB m) k hk with ho | ⟨h4, ho, hlt⟩
    · rw [ho] at hr'; injection hr' with _ hr'; injection hr' with _ hr'; cases hr'
    · rw [ho] at hr'
      obtain ⟨_, hp, _⟩ := readOwn_yes hr'
      have hm := parse_mono ((msgB m).take (k - 4)) ((msgB m).drop (k - 4)) (m := ((msgB m).take (k - 4)).length) (by rw [hp])
      have hw := parse_msg h []
      rw [List.append_nil] at hw
      rw [List.take_append_drop, hw, hp] at hm
      injection hm with _ hm
      injection hm with hm
      rw [List.length_take] at hm
      omega
  exact ⟨(readP_codes _ hl).resolve_left h0, (readP_no h0).1⟩
end Go.Proofs.Ytimjpkmdphccmaa

/- allotmentlaw14.great: a walk. -/
namespace Go.Proofs.Ytimjpkmdphccmaa
open Go.RowKit
attribute [local go_sem ↓] Go.wp_at_zero Go.wp_at_succ
set_option linter.unusedVariables false
set_option linter.unusedSimpArgs false

/-- A message of more than 100 steps, or of too great trees. -/
def Msg.great (m : Msg) : Bool := decide (100 < m.steps.length) || m.tree.great || m.steps.any fun s => s.sub.great

set_option maxRecDepth 100000 in
set_option maxHeartbeats 4000000 in
theorem great14_calls (m : Msg) (As At : Option Addr) (cs ct : Nat) (w : World) (hrows : MsgAt (fun _ => True) w m As cs At ct) (hbk : m.bulk ≤ 1073741824) :
    Calls Try.prog 17 #[.agg #[.int .i8 m.kind, .int .i64 m.from_, .int .i64 m.to_, .int .i64 m.boot, .int .i64 m.server, .int .i64 m.number, .int .i64 m.node, .int .i64 m.lease, .int .i64 m.epoch, .int .i64 m.version, .int .i64 m.e, .slice As m.steps.length cs, .int .i64 m.tree.id, .int .i64 m.tree.kind, .string m.tree.text, .slice At m.tree.kids.length ct]] w fun e w' => e = .returned (.bool (Msg.great m)) ∧ Below w.heap.size w w' := by
  obtain ⟨h1, h2, h3, h4⟩ := hrows
  rw [Msg.bulk] at hbk
  have hlen := stepsBulk_len m.steps
  have HG : Hid (Msg.great m = (decide (100 < m.steps.length) || m.tree.great || m.steps.any fun s => s.sub.great)) := Lib.hid rfl
  have GT := Lib.hid fun W (h : Below w.heap.size w W) => Great_calls m.tree At ct W (h4.below h) h3 (by omega)
  go_enter Try.func17, Try.ntmps17
  go_upto_region 1 with (fail)
  generalize hW : w.alloc _ = W0
  have hB : Below w.heap.size w W0 := by rw [← hW]; go_grown
  have hx : W0.heap[w.heap.size]? = some (.cells [.int .i8 m.kind, .int .i64 m.from_, .int .i64 m.to_, .int .i64 m.boot, .int .i64 m.server, .int .i64 m.number, .int .i64 m.node, .int .i64 m.lease, .int .i64 m.epoch, .int .i64 m.version, .int .i64 m.e, .slice As m.steps.length cs, .int .i64 m.tree.id, .int .i64 m.tree.kind, .string m.tree.text, .slice At m.tree.kids.length ct].toArray 41 (0, 0)) := by rw [← hW]; exact alloc_new w _
  clear hW
  obtain ⟨_, _, _, _, _, _, _, _, _, _, _, x11, x12, x13, x14, x15, xz⟩ := blk16 hx
  by_cases h100 : 100 < m.steps.length
  · have d1 : decide ((100 : Int) < (m.steps.length : Int)) = true := by simp; omega
    go_wp2
    go_ret
    exact ⟨ret_bool (by rw [HG.out]; simp [h100]), hB⟩
  · have d1 : decide ((100 : Int) < (m.steps.length : Int)) = false := by simp; omega
    go_wp2_with fail
    refine (GT.out _ hB).mono ?_
    rintro e W1 ⟨rfl, hb1⟩
    have hB1 := below_from hB hB.size hb1
    have hx1 := (hb1.block _ (Array.getElem?_eq_some_iff.1 hx).1).trans hx
    clear x11 x12 x13 x14 x15 xz hx GT
    cases ht : m.tree.great with
    | true =>
      go_wp2
      go_ret
      exact ⟨ret_bool (by rw [HG.out, ht]; simp), hB1⟩
    | false =>
      go_wp2
      go_loopw [3] (fun v3 wr => ∃ k : Nat, v3 = .int .i64 k ∧ k ≤ m.steps.length ∧ (∀ i (h : i < k) (h1 : i < m.steps.length), m.steps[i].sub.great = false) ∧ Below w.heap.size w wr ∧ wr.heap[w.heap.size]? = some (.cells [.int .i8 m.kind, .int .i64 m.from_, .int .i64 m.to_, .int .i64 m.boot, .int .i64 m.server, .int .i64 m.number, .int .i64 m.node, .int .i64 m.lease, .int .i64 m.epoch, .int .i64 m.version, .int .i64 m.e, .slice As m.steps.length cs, .int .i64 m.tree.id, .int .i64 m.tree.kind, .string m.tree.text, .slice At m.tree.kids.length ct].toArray 41 (0, 0))) (fun v3 _ => m.steps.length - (intOf v3).toNat)
      case atStart => exact ⟨0, rfl, Nat.zero_le _, fun i h => absurd h (by omega), hB1, hx1⟩
      case round =>
        obtain ⟨k, rfl, hk, hs, hbw, hxw⟩ := hrel
        have HS := Lib.hid hs
        have HX := Lib.hid hxw
        clear hs
        obtain ⟨_, _, _, _, _, _, _, _, _, _, _, x11, _, _, _, _, xz⟩ := blk16 hxw
        clear hxw
        by_cases hlt : k < m.steps.length
        · have g5 : decide (k < m.steps.length) = true := by simpa using hlt
          obtain ⟨ba, oa, rfl, _, na⟩ := h2.get k hlt
          have na' : stIn (fun _ => True) wr ba (oa + k * 9) m.steps[k] := na.move (fun b hS hlt => ⟨hS, hbw.block b hlt⟩) (hbw.block _ na.lt)
          obtain ⟨_, _, _, _, _, nd⟩ := na'
          obtain ⟨f0, f1, f2, A1, q1, f3, hq1, kk⟩ := ndIn_open nd
          have i1 : (0 : Int) ≤ (k : Int) := Int.natCast_nonneg _
          have i2 : (k : Int) < (m.steps.length : Int) := by omega
          have hsb := stepsBulk_mem (List.getElem_mem hlt)
          rw [Stp.bulk] at hsb
          clear nd na
          go_wp2_with fail
          refine (Great_calls m.steps[k].sub A1 q1 _ kk hq1 (by omega)).mono ?_
          rintro e w2 ⟨rfl, hb2⟩
          have hbw2 := below_from hbw hbw.size hb2
          have hxw2 := (hb2.block _ (Array.getElem?_eq_some_iff.1 HX.out).1).trans HX.out
          have HX2 := Lib.hid hxw2
          clear hxw2 x11 xz f0 f1 f2 f3
          cases hg : m.steps[k].sub.great with
          | false =>
            go_wp2
            go_roundw
            case rel =>
              refine ⟨k + 1, by go_num, by omega, fun i h h1 => ?_, hbw2, HX2.out⟩
              by_cases hik : i = k
              · subst hik; exact hg
              · exact HS.out i (by omega) h1
            case measure => simp [intOf]; omega
          | true =>
            go_wp2
            go_ret
            refine ⟨ret_bool ?_, hbw2⟩
            have : (m.steps.any fun s => s.sub.great) = true := List.any_eq_true.2 ⟨m.steps[k], List.getElem_mem hlt, hg⟩
            rw [HG.out, this]; simp
        · have g5 : decide (k < m.steps.length) = false := by simpa using hlt
          go_wp2
          go_ret
          refine ⟨ret_bool ?_, hbw⟩
          have : (m.steps.any fun s => s.sub.great) = false := by
            rw [List.any_eq_false]
            intro s hs'
            obtain ⟨i, hi, rfl⟩ := List.getElem_of_mem hs'
            have := HS.out i (by omega) hi
            simp [this]
          rw [HG.out, ht, this]; simp; omega
end Go.Proofs.Ytimjpkmdphccmaa

/- What allotmentlaw14.WireBack and WireFlips lean on. -/
namespace Go.Proofs.Ytimjpkmdphccmaa
open Go.RowKit

theorem MsgAt.later {S : Nat → Prop} {w w' : World} {m : Msg} {As At : Option Addr} {cs ct : Nat} (h : MsgAt S w m As cs At ct) (hb : Below w.heap.size w w') : MsgAt S w' m As cs At ct :=
  ⟨h.1, h.2.1.later hb, h.2.2.1, h.2.2.2.move fun b hS hlt => ⟨hS, hb.block b hlt⟩⟩
theorem zero_wf : Msg.zero.wf ∧ Msg.zero.bulk ≤ 1099511627776 := by
  have := ex_wf (m := Msg.zero) (by simp [Msg.zero]) (by simp [Msg.zero]) rfl rfl
  exact ⟨this.1, by omega⟩
set_option maxRecDepth 10000 in
theorem WireSame0_calls (a : Msg) (As At : Option Addr) (cs ct : Nat) (w : World) (ha : MsgAt (fun _ => True) w a As cs At ct) (hN : a.bulk ≤ 1099511627776) (hka : -128 ≤ a.kind ∧ a.kind ≤ 127) :
    Calls Try.prog 21 #[.agg #[.int .i8 a.kind, .int .i64 a.from_, .int .i64 a.to_, .int .i64 a.boot, .int .i64 a.server, .int .i64 a.number, .int .i64 a.node, .int .i64 a.lease, .int .i64 a.epoch, .int .i64 a.version, .int .i64 a.e, .slice As a.steps.length cs, .int .i64 a.tree.id, .int .i64 a.tree.kind, .string a.tree.text, .slice At a.tree.kids.length ct], .agg #[.int .i8 0, .int .i64 0, .int .i64 0, .int .i64 0, .int .i64 0, .int .i64 0, .int .i64 0, .int .i64 0, .int .i64 0, .int .i64 0, .int .i64 0, .slice none 0 0, .int .i64 0, .int .i64 0, .string ⟨#[]⟩, .slice none 0 0]] w fun e w' => e = .returned (.bool (Msg.same a Msg.zero)) ∧ Below w.heap.size w w' :=
  WireSame_calls a Msg.zero As At none none cs ct 0 0 w ha ⟨Nat.le_refl _, .inl rfl, Nat.le_refl _, .inl rfl⟩ hN hka (by simp [Msg.zero])
theorem back_no {b : List UInt8} {n : Msg} {at_ f : Int} (h : readP b = (n, at_, f)) (hf : ¬ f = 0) : n = Msg.zero ∧ 0 ≤ at_ ∧ at_ ≤ b.length := by
  have := readP_no (b := b) (by rw [h]; exact hf)
  rw [h] at this
  exact this
theorem back_yes {b : List UInt8} {n : Msg} {at_ : Int} (h : readP b = (n, at_, 0)) (hl : b.length ≤ 1048576) : okMsg n = true ∧ sealB (msgB n) = b ∧ n.wf ∧ n.bulk ≤ 1073741824 := by
  have h' := h
  rw [readP] at h'
  split at h'
  · injection h' with _ h'; injection h' with _ h'; cases h'
  · cases ho : openP b with
    | none => rw [ho] at h'; injection h' with _ h'; injection h' with _ h'; cases h'
    | some B =>
      rw [ho] at h'
      obtain ⟨h1, h2, h3⟩ := readOwn_yes h'
      have hlen := congrArg List.length (openP_some ho)
      rw [sealB_len] at hlen
      obtain ⟨k1, k2, k3, k4⟩ := parse_ok B
      rw [h2] at k1 k2 k3
      refine ⟨h1, (readP_yes h).2.1, k1, ?_⟩
      rw [Msg.bulk]
      simp only at k2 k3
      omega
end Go.Proofs.Ytimjpkmdphccmaa

/- allotmentlaw14.WireFlips: a walk. -/
namespace Go.Proofs.Ytimjpkmdphccmaa
open Go.RowKit
attribute [local go_sem ↓] Go.wp_at_zero Go.wp_at_succ
set_option linter.unusedVariables false
set_option linter.unusedSimpArgs false

/-- A byte turned by another one. -/
theorem flip_byte (x : UInt8) (y : Int) (h0 : 0 ≤ y) (h1 : y ≤ 255) : ∃ z : UInt8, bits .xor .u8 (x.toNat : Int) y = (z.toNat : Int) ∧ (z = x ↔ y = 0) := by
  have hx := x.toNat_lt
  obtain ⟨n, rfl⟩ := Int.eq_ofNat_of_zero_le h0
  have hlt : x.toNat ^^^ n < 256 := Nat.xor_lt_two_pow (n := 8) (by omega) (by omega)
  have e : (UInt8.ofNat (x.toNat ^^^ n)).toNat = x.toNat ^^^ n := by rw [UInt8.toNat_ofNat']; exact Nat.mod_eq_of_lt hlt
  refine ⟨UInt8.ofNat (x.toNat ^^^ n), ?_, ?_⟩
  · rw [u8_xor _ _ (by omega) (by omega) (by omega) (by omega), e]
    simp
  · constructor
    · intro h
      have h2 : x.toNat ^^^ n = x.toNat ^^^ 0 := by rw [← e, h]; simp
      have := xor_left h2
      omega
    · intro h
      have hn : n = 0 := by omega
      subst hn
      simp
/-- The place that an index comes to. -/
theorem wheel (i : Int) (n : Nat) (h : 5 ≤ n) (h2 : n ≤ 20804) : ∃ k : Nat, (wrap64 (i.tmod n + n)).tmod n = (k : Int) ∧ k < n := by
  have a1 : i.tmod n < n := Int.tmod_lt_of_pos i (by omega)
  have a2 : -(n : Int) < i.tmod n := Int.lt_tmod_of_pos i (by omega)
  have e : wrap64 (i.tmod n + n) = i.tmod n + n := by unfold wrap64; omega
  have b1 : 0 ≤ (i.tmod n + n).tmod n := Int.tmod_nonneg _ (by omega)
  have b2 : (i.tmod n + n).tmod n < n := Int.tmod_lt_of_pos _ (by omega)
  exact ⟨((i.tmod n + n).tmod n).toNat, by rw [e]; omega, by omega⟩

set_option maxRecDepth 100000 in
set_option maxHeartbeats 4000000 in
theorem lawFlips_calls (m : Msg) (As At : Option Addr) (cs ct : Nat) (i y cut : Int) (w : World) (hrows : MsgAt (fun _ => True) w m As cs At ct) (hwf : m.wf) (hbk : m.bulk ≤ 1048576) (hi0 : -9223372036854775808 ≤ i) (hi1 : i ≤ 9223372036854775807) (hy0 : 0 ≤ y) (hy1 : y ≤ 255) (hc0 : -9223372036854775808 ≤ cut) (hc1 : cut ≤ 9223372036854775807) :
    Calls Try.prog 7 #[.agg #[.int .i8 m.kind, .int .i64 m.from_, .int .i64 m.to_, .int .i64 m.boot, .int .i64 m.server, .int .i64 m.number, .int .i64 m.node, .int .i64 m.lease, .int .i64 m.epoch, .int .i64 m.version, .int .i64 m.e, .slice As m.steps.length cs, .int .i64 m.tree.id, .int .i64 m.tree.kind, .string m.tree.text, .slice At m.tree.kids.length ct], .int .i64 i, .int .u8 y, .int .i64 cut] w fun e w' => e = .returned (.bool true) ∧ Below w.heap.size w w' := by
  have GR := Lib.hid fun W (h : Below w.heap.size w W) => great14_calls m As At cs ct W (hrows.later h) (by omega)
  have BY : Hid (∀ W, Below w.heap.size w W → Calls Try.prog 28 #[.agg #[.int .i8 m.kind, .int .i64 m.from_, .int .i64 m.to_, .int .i64 m.boot, .int .i64 m.server, .int .i64 m.number, .int .i64 m.node, .int .i64 m.lease, .int .i64 m.epoch, .int .i64 m.version, .int .i64 m.e, .slice As m.steps.length cs, .int .i64 m.tree.id, .int .i64 m.tree.kind, .string m.tree.text, .slice At m.tree.kids.length ct]] W (BytesPost m W)) := Lib.hid fun W h => WBytes_calls ⟨m, As, cs, At, ct⟩ W (hrows.later h) hwf (by show m.bulk ≤ _; omega)
  have RI : Hid (∀ W, Below w.heap.size w W → Calls Try.prog 19 #[.agg #[.int .i8 m.kind, .int .i64 m.from_, .int .i64 m.to_, .int .i64 m.boot, .int .i64 m.server, .int .i64 m.number, .int .i64 m.node, .int .i64 m.lease, .int .i64 m.epoch, .int .i64 m.version, .int .i64 m.e, .slice As m.steps.length cs, .int .i64 m.tree.id, .int .i64 m.tree.kind, .string m.tree.text, .slice At m.tree.kids.length ct]] W fun e w' => e = .returned (.bool (okMsg m)) ∧ Below W.heap.size W w') := Lib.hid fun W h => Right_calls ⟨m, As, cs, At, ct⟩ W (hrows.later h) hwf (by show m.bulk ≤ _; omega)
  obtain ⟨iY, jY, jY0, jY1, jY2⟩ := info_parts info_byte
  clear hrows hwf hbk
  go_enter Try.func7, Try.ntmps7
  go_upto_region 1 with (fail)
  generalize hW : w.alloc _ = W0
  have hB : Below w.heap.size w W0 := by rw [← hW]; go_grown
  have hx : W0.heap[w.heap.size]? = some (.cells [.int .i8 m.kind, .int .i64 m.from_, .int .i64 m.to_, .int .i64 m.boot, .int .i64 m.server, .int .i64 m.number, .int .i64 m.node, .int .i64 m.lease, .int .i64 m.epoch, .int .i64 m.version, .int .i64 m.e, .slice As m.steps.length cs, .int .i64 m.tree.id, .int .i64 m.tree.kind, .string m.tree.text, .slice At m.tree.kids.length ct].toArray 41 (0, 0)) := by rw [← hW]; exact alloc_new w _
  clear hW
  obtain ⟨x0, x1, x2, x3, x4, x5, x6, x7, x8, x9, x10, x11, x12, x13, x14, x15, xz⟩ := blk16 hx
  go_wp2_with fail
  refine (GR.out _ hB).mono ?_
  rintro e W1 ⟨rfl, hb1⟩
  have hB1 := below_from hB hB.size hb1
  have hx1 := (hb1.block _ (Array.getElem?_eq_some_iff.1 hx).1).trans hx
  clear x0 x1 x2 x3 x4 x5 x6 x7 x8 x9 x10 x11 x12 x13 x14 x15 xz
  clear hx GR
  cases Msg.great m with
  | true =>
    as_aux_lemma =>
    go_wp2_with fail
    refine (wakes14_calls W1).mono ?_
    rintro e W2 ⟨rfl, hb2⟩
    have hB2 := below_from hB1 hB1.size hb2
    go_wp2
    go_ret
    exact ⟨rfl, hB2⟩
  | false =>
    obtain ⟨x0, x1, x2, x3, x4, x5, x6, x7, x8, x9, x10, x11, x12, x13, x14, x15, xz⟩ := blk16 hx1
    go_wp2_with fail
    refine (BY.out _ hB1).mono ?_
    rintro e W2 hp
    clear x0 x1 x2 x3 x4 x5 x6 x7 x8 x9 x10 x11 x12 x13 x14 x15 xz
    cases ho : okMsg m with
    | false =>
      as_aux_lemma =>
      rw [ho] at RI
      obtain ⟨hb2, rfl⟩ := hp.no ho
      clear hp
      have hB2 := below_from hB1 hB1.size hb2
      have hx2 := (hb2.block _ (Array.getElem?_eq_some_iff.1 hx1).1).trans hx1
      clear hx1 ho BY
      obtain ⟨x0, x1, x2, x3, x4, x5, x6, x7, x8, x9, x10, x11, x12, x13, x14, x15, xz⟩ := blk16 hx2
      go_wp2_with fail
      refine (RI.out _ hB2).mono ?_
      rintro e W3 ⟨rfl, hb3⟩
      have hB3 := below_from hB2 hB2.size hb3
      clear x0 x1 x2 x3 x4 x5 x6 x7 x8 x9 x10 x11 x12 x13 x14 x15 xz
      go_wp2_with fail
      refine (wakes14_calls _).mono ?_
      rintro e W4 ⟨rfl, hb4⟩
      have hB4 := below_from hB3 hB3.size hb4
      go_wp2
      go_ret
      exact ⟨rfl, hB4⟩
    | true =>
      as_aux_lemma =>
      clear RI BY
      obtain ⟨hb2, L, A2, c2, HL, rfl, hc2, hcm2, hA2⟩ := hp.ok ho
      clear hp
      have HO := Lib.hid ho
      have hB2 := below_from hB1 hB1.size hb2
      have hlong : 5 ≤ L.length ∧ L.length ≤ 20804 := by
        rw [HL.out, sealB_len]
        have := msgB_short ho
        have : 17 ≤ (msgB m).length := by rw [msgB, bytesK]; simp only [List.length_append, List.length_singleton, numB_length]; omega
        omega
      have d5 : decide ((L.length : Int) < 5) = false := by simp; omega
      have HLL := Lib.hid hlong
      clear hx1 ho hlong
      have hA2' : BytesAt (W2.alloc (.cells #[] 5)) A2 L := hA2.below (by go_grown)
      obtain ⟨bb, ob, rfl, hcell⟩ : ∃ b o, A2 = some ⟨b, o, none⟩ ∧ ∀ i (h : i < L.length), (W2.alloc (.cells #[] 5)).cell? ⟨b, o + i, none⟩ = some (.int .u8 (L[i].toNat : Int)) := by
        rcases hA2' with h | h
        · rw [h] at HLL; have := HLL.out; simp at this
        · exact h
      have HNW := Lib.hid (BytesAt.news hcell)
      have hown := World.ownsRow_lit (base := W2.heap.size) (e := 5) (size := 1) W2 #[] 0 (Nat.le_refl _) (by unfold maxLen; omega) rfl
      have hl1 := HLL.out.1
      have hl2 := HLL.out.2
      obtain ⟨k, hk, hkL⟩ := wheel i L.length hl1 hl2
      obtain ⟨k2, hk2, hkL2⟩ := wheel cut L.length hl1 hl2
      obtain ⟨z, hz, hz0⟩ : ∃ z : UInt8, bits .xor .u8 ((L[k]'hkL).toNat : Int) y = (z.toNat : Int) ∧ (z = L[k]'hkL ↔ y = 0) := flip_byte (L[k]'hkL) y hy0 hy1
      clear hcell hA2'
      go_upto_region 10 with (at_builtin; go_loud (refine wpList_append_lies _ rfl _ _ _ rfl W2.heap.size 5 iY _ 1 1 Try.underlying46 jY jY0 jY1 jY2 rfl (by omega) (.slice (some ⟨W2.heap.size, 0, none⟩) 0 0) 0 [] rfl hown ⟨bb, ob, none⟩ L.length c2 (bv L) rfl (by simp [bv]) HNW.out (bv_one _) (by omega) (by unfold maxLen; omega) (by omega) (by first | omega | (simp; done) | (simp; omega)) _ rfl ?_); intro g cap w3 hown3 hgrow hat hlt3)
      simp only [Nat.zero_add, List.nil_append] at hown3 ⊢
      have p1 : w3.cell? ⟨g, k, none⟩ = some (.int .u8 ((L[k]'hkL).toNat : Int)) := by
        rw [hown3.cellAt k (by omega)]; simp [bv, hkL]
      have p2 := fun j => hown3.frozenAt j
      obtain ⟨hown4, hg4⟩ := hown3.stored k (.int .u8 (z.toNat : Int))
      have j1 : (0 : Int) ≤ (k : Int) := Int.natCast_nonneg _
      have j2 : (k : Int) < (L.length : Int) := by omega
      have hzz : (z = L[k]'hkL ↔ y = 0) := hz0
      go_upto_region 11 with (fail)
      generalize hW4 : w3.setCell ⟨g, k, none⟩ (.int .u8 (z.toNat : Int)) = W4 at hown4 hg4 ⊢
      clear hW4 p1 p2
      have hgb := hown3.lt g rfl
      have hB24 : Below W2.heap.size W2 W4 := (((Below.refl W2.heap.size W2).alloc (Nat.le_refl _) (.cells #[] 5)).grown hgrow (by simp) (by simp [Value.ownBlock])).grown hg4 (by have := hgrow.size; simp at this; omega) (by intro b hb; injection hb with hb; omega)
      have hrow : ByRow W2.heap.size W4 (.slice (some ⟨g, 0, none⟩) (L.set k z).length cap) (L.set k z) := ⟨hB24.size, by simpa [bv, List.map_set] using hown4⟩
      obtain ⟨Ax, cx, hex, hx1, hx2, hx3⟩ := hrow.bytes2
      have hex1 : Ax = some ⟨g, 0, none⟩ := by cases hex; rfl
      have hex3 : cap = cx := by injection hex
      subst hex1
      subst hex3
      clear hex
      have hB4 := below_from hB2 hB2.size hB24
      have HA4 := Lib.hid (hA2.below hB24)
      have R1 := WRead_calls (L.set k z) (some ⟨g, 0, none⟩) cap W4 hx3 hx1 hx2 (by rw [List.length_set]; omega)
      obtain ⟨n0, at_, f, hR⟩ : ∃ n0 at_ f, readP (L.set k z) = (n0, at_, f) := ⟨_, _, _, rfl⟩
      have HF : Hid ((y = 0 ∧ f = 0) ∨ (¬ y = 0 ∧ f = 30 ∧ n0 = Msg.zero)) := Lib.hid (by
        by_cases hy : y = 0
        · have e : L.set k z = L := by rw [hzz.2 hy, List.set_getElem_self]
          rw [e, HL.out, readP_msg HO.out] at hR
          injection hR with _ hR; injection hR with _ hR
          exact .inl ⟨hy, hR.symm⟩
        · have hne : z ≠ L[k]'hkL := fun h => hy (hzz.1 h)
          have hr := readP_flip HO.out k (by rw [← HL.out]; exact hkL) z (by have := HL.out; subst this; exact hne)
          rw [← HL.out, hR] at hr
          injection hr with h1 hr; injection hr with _ h3
          exact .inr ⟨hy, h3, h1⟩)
      rw [List.length_set] at R1
      have HR1 := Lib.hid R1
      have HR := Lib.hid hR
      clear R1 hR hx1 hx2 hx3 hrow hown4 hg4 hown3 hgrow hat hlt3 hown hzz hz0 hgb
      go_wp2_with fail
      refine HR1.out.mono ?_
      rintro e W5 ⟨hb5, ⟨n, As5, cs5, At5, ct5⟩, hn, hrn, rfl⟩
      rw [HR.out] at hn ⊢
      simp only [MsgV.cells]
      have hn' : n0 = n := hn.symm
      subst hn'
      clear hn HR1
      have hB5 := below_from hB4 hB4.size hb5
      have hrn' : MsgAt (fun _ => True) W5 n0 As5 cs5 At5 ct5 := hrn
      have HA5 := Lib.hid (HA4.out.below hb5)
      clear hrn HA4
      go_upto_region 12 with (fail)
      generalize hW : W5.alloc _ = W6
      have hg6 : Below W5.heap.size W5 W6 := by rw [← hW]; go_grown
      have hy6 : W6.heap[W5.heap.size]? = some (.cells [.int .i8 n0.kind, .int .i64 n0.from_, .int .i64 n0.to_, .int .i64 n0.boot, .int .i64 n0.server, .int .i64 n0.number, .int .i64 n0.node, .int .i64 n0.lease, .int .i64 n0.epoch, .int .i64 n0.version, .int .i64 n0.e, .slice As5 n0.steps.length cs5, .int .i64 n0.tree.id, .int .i64 n0.tree.kind, .string n0.tree.text, .slice At5 n0.tree.kids.length ct5].toArray 41 (0, 0)) := by rw [← hW]; exact alloc_new W5 _
      have hB6 := below_from hB5 hB5.size hg6
      have HA6 := Lib.hid (HA5.out.below hg6)
      have hrn6 := hrn'.later hg6
      clear hW hg6 hrn' HA5
      have R2 := WRead_calls (L.take k2) (some ⟨bb, ob, none⟩) c2 W6 (HA6.out.take k2) (by rw [List.length_take]; omega) hcm2 (by rw [List.length_take]; omega)
      have hcut : (readP (L.take k2)).2.2 = 30 ∧ (readP (L.take k2)).1 = Msg.zero := by
        have := readP_cut HO.out k2 (by rw [← HL.out]; exact hkL2)
        rwa [← HL.out] at this
      have hlt2 : (L.take k2).length = k2 := by rw [List.length_take]; omega
      rw [hlt2] at R2
      have HR2 := Lib.hid R2
      have HCUT := Lib.hid hcut
      have j3 : (0 : Int) ≤ (k2 : Int) := Int.natCast_nonneg _
      have j4 : (k2 : Int) ≤ (c2 : Int) := by omega
      have j5 : (k2 : Int) ≤ (L.length : Int) := by omega
      clear R2 hcut hlt2
      go_wp2_with fail
      refine HR2.out.mono ?_
      rintro e W7 ⟨hb7, ⟨q, As7, cs7, At7, ct7⟩, hq, hrq, rfl⟩
      obtain ⟨q0, at2, f2, hR2⟩ : ∃ n0 at_ f, readP (L.take k2) = (n0, at_, f) := ⟨_, _, _, rfl⟩
      rw [hR2] at hq ⊢
      simp only [MsgV.cells]
      have hq' : q0 = q := hq.symm
      subst hq'
      have hf2 : f2 = 30 ∧ q0 = Msg.zero := by have := HCUT.out; rw [hR2] at this; exact this
      obtain ⟨rfl, hq0⟩ := hf2
      have HQ0 := Lib.hid hq0
      clear hq0
      clear hq hR2 HR2 HCUT
      have hB7 := below_from hB6 hB6.size hb7
      have hy7 := (hb7.block _ (Array.getElem?_eq_some_iff.1 hy6).1).trans hy6
      have hrn7 := hrn6.later hb7
      have hrq' : MsgAt (fun _ => True) W7 q0 As7 cs7 At7 ct7 := hrq
      clear hrn6 hy6 hrq
      go_upto_region 13 with (fail)
      generalize hW : W7.alloc _ = W8
      have hg8 : Below W7.heap.size W7 W8 := by rw [← hW]; go_grown
      have hq8 : W8.heap[W7.heap.size]? = some (.cells [.int .i8 q0.kind, .int .i64 q0.from_, .int .i64 q0.to_, .int .i64 q0.boot, .int .i64 q0.server, .int .i64 q0.number, .int .i64 q0.node, .int .i64 q0.lease, .int .i64 q0.epoch, .int .i64 q0.version, .int .i64 q0.e, .slice As7 q0.steps.length cs7, .int .i64 q0.tree.id, .int .i64 q0.tree.kind, .string q0.tree.text, .slice At7 q0.tree.kids.length ct7].toArray 41 (0, 0)) := by rw [← hW]; exact alloc_new W7 _
      have hB8 := below_from hB7 hB7.size hg8
      have hy8 := (hg8.block _ (Array.getElem?_eq_some_iff.1 hy7).1).trans hy7
      have hrn8 := hrn7.later hg8
      have hrq8 := hrq'.later hg8
      clear hW hg8 hrn7 hrq' hy7
      have ez : Msg.same q0 Msg.zero = true := (Msg.same_eq_iff _ _).2 HQ0.out
      have SQ := Lib.hid fun W (h : Below W8.heap.size W8 W) => WireSame0_calls q0 As7 At7 cs7 ct7 W (hrq8.later h) (by rw [HQ0.out]; exact zero_wf.2) (by rw [HQ0.out]; exact zero_wf.1.1)
      rw [ez] at SQ
      clear ez hrq8
      rcases HF.out with ⟨rfl, rfl⟩ | ⟨hy, rfl, hn0⟩
      · as_aux_lemma =>
        obtain ⟨r0, r1, r2, r3, r4, r5, r6, r7, r8, r9, r10, r11, r12, r13, r14, r15, rz⟩ := blk16 hq8
        go_wp2_with fail
        refine (SQ.out _ (Below.refl _ _)).mono ?_
        rintro e W9 ⟨rfl, hb9⟩
        have hB9 := below_from hB8 hB8.size hb9
        clear r0 r1 r2 r3 r4 r5 r6 r7 r8 r9 r10 r11 r12 r13 r14 r15 rz
        go_wp2_with fail
        refine (wakes14_calls _).mono ?_
        rintro e W10 ⟨rfl, hb10⟩
        have hB10 := below_from hB9 hB9.size hb10
        go_wp2
        go_ret
        exact ⟨rfl, hB10⟩
      · as_aux_lemma =>
        have d1 : (y == (0 : Int)) = false := by simpa using hy
        have HN0 := Lib.hid hn0
        clear hn0
        have ez : Msg.same n0 Msg.zero = true := (Msg.same_eq_iff _ _).2 HN0.out
        have SN := Lib.hid fun W (h : Below W8.heap.size W8 W) => WireSame0_calls n0 As5 At5 cs5 ct5 W (hrn8.later h) (by rw [HN0.out]; exact zero_wf.2) (by rw [HN0.out]; exact zero_wf.1.1)
        rw [ez] at SN
        clear ez hrn8 hy
        obtain ⟨y0, y1, y2, y3, y4, y5, y6, y7, y8, y9, y10, y11, y12, y13, y14, y15, yz⟩ := blk16 hy8
        go_wp2_with fail
        refine (SN.out _ (Below.refl _ _)).mono ?_
        rintro e W9 ⟨rfl, hb9⟩
        have hB9 := below_from hB8 hB8.size hb9
        have hq9 := (hb9.block _ (Array.getElem?_eq_some_iff.1 hq8).1).trans hq8
        clear y0 y1 y2 y3 y4 y5 y6 y7 y8 y9 y10 y11 y12 y13 y14 y15 yz
        obtain ⟨r0, r1, r2, r3, r4, r5, r6, r7, r8, r9, r10, r11, r12, r13, r14, r15, rz⟩ := blk16 hq9
        go_wp2_with fail
        refine (SQ.out _ hb9).mono ?_
        rintro e W10 ⟨rfl, hb10⟩
        have hB10 := below_from hB9 hB9.size hb10
        clear r0 r1 r2 r3 r4 r5 r6 r7 r8 r9 r10 r11 r12 r13 r14 r15 rz
        go_wp2_with fail
        refine (wakes14_calls _).mono ?_
        rintro e W11 ⟨rfl, hb11⟩
        have hB11 := below_from hB10 hB10.size hb11
        go_wp2
        go_ret
        exact ⟨rfl, hB11⟩
end Go.Proofs.Ytimjpkmdphccmaa
