/- For all questions and records of bulk at most 1048576 the law nameplatelaw10.RecordBack answers true, and its arguments read as they did. -/
import Derived.Test.YtkpinncakbnikaaK3
namespace Go.Proofs.Ytkpinncakbnikaa
open Go Np Go.Proofs Go.ChangeShapes Go.WideShapes Go.ChangeAt Go.RowKit Go.Deep
set_option linter.all false
set_option maxRecDepth 100000
namespace recordBack
theorem contract (H : Type) (enc : TypeId × Value → H) (W : World) (base : Nat) (args : Array Value) (ds gs : List (DataW H)) (before : List MemPlace)
    (hval : ∀ (j : Nat) t v, Try.f7.params[j]? = some t → args[j]? = some v → Value.okWide Try.prog W .any base t v)
    (hW : DataW.Whole enc Try.prog Try.f7.params.toList Rows.recordBackSpec.vars false W args.toList ds gs before) (hk : Rows.uptoSmall H (ds ++ gs) = true) :
    Calls Try.prog 7 args W fun e W' => ∃ v, e = .returned v ∧ Rows.recordBackSpec.post enc Try.prog Try.f7 false true false false W args v W' := by
  have hW' := hW
  have hb : Rows.uptoBulkAll (ds ++ gs) ≤ 1048576 := of_decide_eq_true hk
  obtain ⟨p, q, hA, hV, rfl, hfz, hnd⟩ := hW
  rw [Try.params7] at hA
  obtain ⟨v0, vs0, d0, ds0, p0, q0, hargs, rfl, rfl, h0, r0⟩ := trodAll_cons hA
  obtain ⟨v1, vs1, d1, ds1, p1, q1, rfl, rfl, rfl, h1, r1⟩ := trodAll_cons r0
  obtain ⟨rfl, rfl, rfl⟩ := trodAll_nil r1
  obtain rfl : args = #[v0, v1] := by cases args; simp_all
  obtain ⟨rfl, rfl⟩ := trodVars_none hV
  simp only [List.append_nil, Rows.uptoBulkAll] at hb
  obtain ⟨ql, hq1, hq2, hq3⟩ := arg_rows (e := Y_api_Question) (by kernel_rfl) (by kernel_rfl) (by decide) inferInstance opn_qn (hval 0 _ v0 rfl rfl) h0
  obtain ⟨rl, hr1, hr2, hr3⟩ := arg_rows (e := Y_api_Record) (by kernel_rfl) (by kernel_rfl) (by decide) inferInstance opn_rc (hval 1 _ v1 rfl rfl) h1
  obtain ⟨sp0, hAt0⟩ := At.addTx (At.init' W) rl (fun p hp => (hr2 p hp).1.1)
  rw [List.append_nil] at hAt0
  obtain ⟨sp1, hAt1⟩ := At.addS 1 hAt0 hr1
  obtain ⟨sp, hAt⟩ := At.addS 0 hAt1 hq1
  have hoq : ∀ q ∈ ql, OkQ q := fun q hq => ⟨by have := (hq2 q hq).2; omega⟩
  have hor : ∀ p ∈ rl, OkR p.1 := fun p hp => ⟨by have := (hr2 p hp).2; omega, (hr2 p hp).1.2.2, okD_of (hr2 p hp).1.2.1 (by have := (hr2 p hp).2; omega)⟩
  refine (law_RBack hoq hor hAt).2.mono fun e W' ⟨u, he, hu, hA'⟩ => ⟨u, he, ?_⟩
  exact law_post (sp := _) (L := _) hW' rfl (by rw [Try.params7]; intro t ht; simp at ht; (try (rcases ht with rfl | rfl)) <;> subst_vars <;> exact ⟨by kernel_rfl, of_decide_eq_true (by kernel_rfl)⟩) rfl rfl rfl rfl hA' hu
theorem lifted (os : Os) (started : os.Started) (H : Type) (enc : TypeId × Value → H) (F : Stop.Interp) :
    ReturnsInHanded {} Try.checked os 7 .any ((Rows.OpenSpec.upto Rows.recordBackSpec).pre6 enc Try.prog Try.f7 Rows.recordBackUptoRow.domain false) (((Rows.OpenSpec.upto Rows.recordBackSpec).at F).post enc Try.prog Try.f7 false true false false) := by
  refine returnsInHanded_of_cond (C := Try.checked) (s := Rows.OpenSpec.upto Rows.recordBackSpec) (k := Rows.uptoSmall) rfl ownKn started (by kernel_rfl) Try.func7
    (OpenSpec.witness (enc := enc) (C := Try.checked) (s := Rows.OpenSpec.upto Rows.recordBackSpec) (k := Rows.uptoSmall) rfl false ⟨#[], #[.slice none 0 0, .slice none 0 0], []⟩ 9 (by kernel_rfl) (by kernel_rfl) (by kernel_rfl)
      (x := ([.nil, .nil], [], [])) (by kernel_rfl) rfl (by kernel_rfl)) ?_
  intro W base args ds gs before hval hW _ hk _
  exact contract H enc W base args ds gs before hval hW hk
theorem over : Rows.recordBackUptoRow.holds Try.pinned (Rows.OpenSpec.upto Rows.recordBackSpec) :=
  OpenClaim.holds_of_cond 7 Try.f7 rfl rfl rfl rfl rfl rfl rfl ⟨rfl, rfl, rfl, rfl, rfl⟩ rfl rfl rfl rfl rfl (by kernel_rfl) Try.func7 (by kernel_rfl)
    (of_decide_eq_true (by kernel_rfl)) (by unfold Func.isWrapper; first | (rw [if_pos (by decide +kernel)]; kernel_rfl) | (rw [if_neg (by decide +kernel)]; exact ⟨rfl, rfl⟩))
    (fun os started H enc _ F => lifted os started H enc F)
theorem proved : Rows.RecordBackUptoSaid := over
end recordBack
end Go.Proofs.Ytkpinncakbnikaa
