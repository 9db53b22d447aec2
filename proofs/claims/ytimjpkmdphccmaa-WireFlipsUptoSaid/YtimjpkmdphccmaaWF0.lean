/- For every message whose values and letters are at most 1048576, and for every three numbers, allotmentlaw14.WireFlips answers true: a message's bytes of which one byte is another one, or of which some at the end are missing, are refused. Conditions: the arguments' bulk is at most 1048576 (the given second form). -/
import Derived.Test.YtimjpkmdphccmaaWF1
import Derived.Test.YtimjpkmdphccmaaWS16

namespace Go.Proofs.Ytimjpkmdphccmaa.claimFlips
open Go.ChangeShapes Go.WideShapes Go.ChangeAt Go.RowKit
set_option linter.unusedVariables false

theorem own : ownKnob Try.prog.godebug = none := by kernel_rfl
theorem agg_of_cells {v : Value} {l : List Value} (h : v.cells.toList = l) (hl : l.length ≠ 1) : v = .agg l.toArray := by
  subst h
  cases v <;> first | (simp [Value.cells] at hl; done) | simp [Value.cells]
theorem trod_u8 {H : Type} {enc : TypeId × Value → H} {w : World} {t : TypeId} {fuel : Nat} {cs : List Value} {x : DataW H × List MemPlace} (ht : Try.prog.underlying t = some (.int .u8)) (h : DataW.trod enc Try.prog w 0 (fun _ => true) true fuel t cs = some x) :
    ∃ n, cs = [.int .u8 n] ∧ x.1 = .lit (.int .u8 n) ∧ 0 ≤ n ∧ n ≤ 255 := by
  obtain ⟨n, rfl, rfl, hw⟩ := DataW.trod_int ht h
  exact ⟨n, rfl, rfl, by simpa [Lit.wf, IntKind.min, IntKind.max, IntKind.signed, IntKind.bits] using hw⟩
theorem rec_Msg : Try.prog.readableRec 41 = true := by kernel_rfl
theorem rec_Int : Try.prog.readableRec 3 = true := by kernel_rfl
theorem rec_Byte : Try.prog.readableRec 5 = true := by kernel_rfl
theorem rowed : ∀ t ∈ [41, 3, 5, 3], Try.prog.readableRec t = true ∧ t < Try.prog.types.size := by
  intro t ht
  simp only [List.mem_cons, List.mem_nil_iff, or_false] at ht
  rcases ht with rfl | rfl | rfl | rfl
  · exact ⟨rec_Msg, of_decide_eq_true (by kernel_rfl)⟩
  · exact ⟨rec_Int, of_decide_eq_true (by kernel_rfl)⟩
  · exact ⟨rec_Byte, of_decide_eq_true (by kernel_rfl)⟩
  · exact ⟨rec_Int, of_decide_eq_true (by kernel_rfl)⟩

set_option maxRecDepth 100000 in
theorem contract (H : Type) (enc : TypeId × Value → H) (W : World) (base : Nat) (args : Array Value) (ds gs : List (DataW H)) (before : List MemPlace)
    (hval : ∀ (j : Nat) t v, Try.f7.params[j]? = some t → args[j]? = some v → Value.okWide Try.prog W .any base t v)
    (hW : DataW.Whole enc Try.prog Try.f7.params.toList Rows.wireFlipsSpec.vars false W args.toList ds gs before) (hk : Rows.uptoSmall H (ds ++ gs) = true) :
    Calls Try.prog 7 args W fun e W' => ∃ v, e = .returned v ∧ Rows.wireFlipsSpec.post enc Try.prog Try.f7 false true false false W args v W' := by
  have hW' := hW
  obtain ⟨p, q, hA0, hV, rfl, hfz, hnd⟩ := hW
  have hA : DataW.TrodAll enc Try.prog W 0 (fun _ => true) true Try.f7.params.toList args.toList ds p := hA0
  have hall := hA
  rw [Try.params7] at hA hall
  obtain ⟨v0, vs0, d0, ds0, p0, q0, hargs, rfl, rfl, h0, r0⟩ := trodAll_cons hA
  obtain ⟨v1, vs1, d1, ds1, p1, q1, rfl, rfl, rfl, h1, r1⟩ := trodAll_cons r0
  obtain ⟨v2, vs2, d2, ds2, p2, q2, rfl, rfl, rfl, h2, r2⟩ := trodAll_cons r1
  obtain ⟨v3, vs3, d3, ds3, p3, q3, rfl, rfl, rfl, h3, r3⟩ := trodAll_cons r2
  obtain ⟨rfl, rfl, rfl⟩ := trodAll_nil r3
  obtain rfl : args = #[v0, v1, v2, v3] := by cases args; simp_all
  obtain ⟨rfl, rfl⟩ := trodVars_none hV
  have hb : Rows.uptoBulk d0 ≤ 1048576 := by
    have := of_decide_eq_true hk
    simp only [List.append_nil, Rows.uptoBulkAll] at this
    omega
  obtain ⟨f0, g0⟩ := h0
  obtain ⟨f1, g1⟩ := h1
  obtain ⟨f2, g2⟩ := h2
  obtain ⟨f3, g3⟩ := h3
  obtain ⟨⟨m, As, cs, At, ct⟩, e0, a1, a2, a3⟩ := open_msg f0 _ _ g0
  obtain ⟨n1, e1, _, b1, b1'⟩ := trod_i64 Try.underlying3 g1
  obtain ⟨n2, e2, _, b2, b2'⟩ := trod_u8 Try.underlying5 g2
  obtain ⟨n3, e3, _, b3, b3'⟩ := trod_i64 Try.underlying3 g3
  have k0 := agg_of_cells e0 (by simp [MsgV.cells])
  obtain ⟨m1, k1⟩ := okWide_int Try.underlying3 (hval 1 _ _ (by rw [Try.params7]; rfl) rfl)
  obtain ⟨m2, k2⟩ := okWide_int Try.underlying5 (hval 2 _ _ (by rw [Try.params7]; rfl) rfl)
  obtain ⟨m3, k3⟩ := okWide_int Try.underlying3 (hval 3 _ _ (by rw [Try.params7]; rfl) rfl)
  subst k0
  subst k1
  subst k2
  subst k3
  have l1 : [Value.int .i64 m1] = [Value.int .i64 n1] := e1
  have l2 : [Value.int .u8 m2] = [Value.int .u8 n2] := e2
  have l3 : [Value.int .i64 m3] = [Value.int .i64 n3] := e3
  injection l1 with l1 _
  injection l1 with _ l1
  injection l2 with l2 _
  injection l2 with _ l2
  injection l3 with l3 _
  injection l3 with _ l3
  subst l1
  subst l2
  subst l3
  clear hA0 hA
  simp only [List.append_nil] at hall
  simp only [List.append_nil] at hW'
  refine (lawFlips_calls m As At cs ct m1 m2 m3 W a1 a2 (by simp only at a3; omega) b1 b1' b2 b2' b3 b3').mono fun e W' ⟨he, hg⟩ => ?_
  subst he
  refine ⟨_, rfl, post_below (pa := p0 ++ (p1 ++ (p2 ++ p3))) (pv := []) hW' (fun _ _ _ => (trodAll_cons_mk (shut_bool Try.underlying4 _) trodAll_mk0)) (fun sp hsp => ?_) (fun _ _ => rfl) (List.append_nil _).symm hg (ok_one (by kernel_rfl) rfl (okWide_bool_mk Try.underlying4 _))⟩
  rw [Try.params7]
  exact trodAll_later rowed hall (fun x hx => hg.same (hW'.lt x hx)) (fun x hx => hsp x hx)

set_option maxRecDepth 100000 in
theorem lifted (os : Os) (started : os.Started) (H : Type) (enc : TypeId × Value → H) (F : Stop.Interp) :
    ReturnsInHanded {} Try.checked os 7 .any ((Rows.OpenSpec.upto Rows.wireFlipsSpec).pre6 enc Try.prog Try.f7 Rows.wireFlipsUptoRow.domain false) (((Rows.OpenSpec.upto Rows.wireFlipsSpec).at F).post enc Try.prog Try.f7 false true false false) := by
  refine returnsInHanded_of_cond (C := Try.checked) (s := Rows.OpenSpec.upto Rows.wireFlipsSpec) (k := Rows.uptoSmall) rfl own started (by kernel_rfl) Try.func7
    (OpenSpec.witness (enc := enc) (C := Try.checked) (s := Rows.OpenSpec.upto Rows.wireFlipsSpec) (k := Rows.uptoSmall) rfl false
      ⟨#[], #[.agg #[.int .i8 0, .int .i64 0, .int .i64 0, .int .i64 0, .int .i64 0, .int .i64 0, .int .i64 0, .int .i64 0, .int .i64 0, .int .i64 0, .int .i64 0, .slice none 0 0, .int .i64 0, .int .i64 0, .string ⟨#[]⟩, .slice none 0 0], .int .i64 0, .int .u8 0, .int .i64 0], []⟩ 8 (by kernel_rfl) (by kernel_rfl) (by kernel_rfl)
      (x := ([.agg [.lit (.int .i8 0), .lit (.int .i64 0), .lit (.int .i64 0), .lit (.int .i64 0), .lit (.int .i64 0), .lit (.int .i64 0), .lit (.int .i64 0), .lit (.int .i64 0), .lit (.int .i64 0), .lit (.int .i64 0), .lit (.int .i64 0), .nil, .agg [.lit (.int .i64 0), .lit (.int .i64 0), .lit (.string []), .nil]], .lit (.int .i64 0), .lit (.int .u8 0), .lit (.int .i64 0)], [], [])) (by kernel_rfl) rfl (by kernel_rfl)) ?_
  intro W base args ds gs before hval hW _ hk _
  exact contract H enc W base args ds gs before hval hW hk

theorem over : Rows.wireFlipsUptoRow.holds Try.pinned (Rows.OpenSpec.upto Rows.wireFlipsSpec) :=
  OpenClaim.holds_of_cond 7 Try.f7 rfl rfl rfl rfl rfl rfl rfl ⟨rfl, rfl, rfl, rfl, rfl⟩ rfl rfl rfl rfl rfl (by kernel_rfl) Try.func7 (by kernel_rfl)
    (of_decide_eq_true (by kernel_rfl)) (by unfold Func.isWrapper; first | (rw [if_pos (by decide +kernel)]; kernel_rfl) | (rw [if_neg (by decide +kernel)]; exact ⟨rfl, rfl⟩))
    (fun os started H enc _ F => lifted os started H enc F)

theorem proved : Rows.WireFlipsUptoSaid := over
end Go.Proofs.Ytimjpkmdphccmaa.claimFlips
