/-
  WheelAnew is proved: the law answers true at every input.
-/
import Derived.Test.YtdlalkhnppahfaaXHold
import Derived.Test.YtdlalkhnppahfaaXWheelI
namespace Go.Proofs.Ytdlalkhnppahfaa
open Go.ChangeShapes Go.WideShapes Go.ChangeAt Go.RowKit
open Go.X (Has Vw)

theorem ic_flat : ∀ l : List Int, l.flatMap (fun n : Int => [Value.int .i64 n]) = X.ic l
  | [] => rfl
  | x :: l => by rw [List.flatMap_cons, ic_flat l]; rfl

theorem wheelAnew_contract (H : Type) (enc : TypeId × Value → H) (W : World) (base : Nat) (args : Array Value) (ds gs : List (DataW H)) (before : List MemPlace)
    (hval : ∀ (j : Nat) t v, Try.f4.params[j]? = some t → args[j]? = some v → Value.okWide Try.prog W .any base t v)
    (hW : DataW.Whole enc Try.prog Try.f4.params.toList Rows.wheelAnewSpec.vars false W args.toList ds gs before) :
    Calls Try.prog 4 args W fun e W' => ∃ v, e = .returned v ∧ Rows.wheelAnewSpec.post enc Try.prog Try.f4 false true false false W args v W' := by
  have hW' := hW
  obtain ⟨p, q, hA0, hV, rfl, hfz, hnd⟩ := hW
  have hA : DataW.TrodAll enc Try.prog W 0 (fun _ => true) true Try.f4.params.toList args.toList ds p := hA0
  rw [Try.params4] at hA hval
  obtain ⟨v0, v1, d0, d1, p0, p1, rfl, rfl, rfl, h0, h1⟩ := trodAll_two hA
  obtain ⟨rfl, rfl⟩ := trodVars_none hV
  obtain ⟨a0, len, cap, rfl⟩ := okWide_slice Try.underlying27 (hval 0 27 v0 rfl rfl)
  obtain ⟨q, rfl, rfl, rfl⟩ := open_bool Try.underlying4 (hval 1 4 v1 rfl rfl) h1
  have h0k := h0
  obtain ⟨fuel, hf⟩ := h0
  clear hA0 hval
  simp only [List.append_nil] at hW'
  have hlt : ∀ x ∈ p0, x.block < W.heap.size := fun x hx => by simpa using hW'.lt x hx
  obtain ⟨⟨a, c, l⟩, hcs, ⟨hv, ho⟩, hb⟩ := (X.reads_slice (e := 3) Try.underlying27 (X.reads_int (k := .i64) Try.underlying3) (fun _ => (show 1 = Try.prog.cellsOf 3 by kernel_rfl))).run hf
  simp only [Value.cells, List.cons.injEq, Value.slice.injEq, and_true] at hcs
  obtain ⟨rfl, rfl, rfl⟩ := hcs
  dsimp only at hv ho hb
  rw [ic_flat] at hv
  have hw := WheelAnew_spec (w := W) (la := a0) (lc := cap) (l := l) (stop := q) hv
  refine hw.mono fun e W' => ?_
  rintro ⟨v, rfl, rfl, HH⟩
  have hb := below_of HH
  refine ⟨_, rfl, _, _, _, [], p0 ++ [], [], hW', ?_, ?_, rfl, hb.frame _, fun h => by cases h⟩
  · exact trodAll_mk1 (shut_bool Try.underlying4 true)
  · exact trodAll_mk2 (Below.trod Try.laidOut (by kernel_rfl) (of_decide_eq_true (by kernel_rfl)) h0k hb hlt) (shut_bool Try.underlying4 q)

set_option maxRecDepth 100000 in
theorem wheelAnew_lifted (os : Os) (started : os.Started) (H : Type) (enc : TypeId × Value → H) :
    ReturnsInHanded {} Try.checked os 4 .any (Rows.wheelAnewSpec.pre6 enc Try.prog Try.f4 Rows.wheelAnewRow.domain false) (Rows.wheelAnewSpec.post enc Try.prog Try.f4 false true false false) := by
  refine returnsInHanded_of_change (C := Try.checked) Try.own started (by kernel_rfl) Try.func4
    (ChangeSpec.witness6 (enc := enc) (C := Try.checked) false ⟨#[], #[.slice none 0 0, .bool false], []⟩ 8 (by kernel_rfl) (by kernel_rfl) (by kernel_rfl) (by kernel_rfl)) ?_
  intro W base args ds gs before hval hW _ _
  exact wheelAnew_contract H enc W base args ds gs before hval hW

theorem wheelAnew_holds : Rows.WheelAnewSaid :=
  OpenClaim.holds_of_wide 4 Try.f4 rfl rfl rfl rfl rfl rfl rfl ⟨rfl, rfl, rfl, rfl, rfl⟩ rfl rfl rfl rfl rfl (by kernel_rfl) Try.func4 (by kernel_rfl)
    (of_decide_eq_true (by kernel_rfl)) (by unfold Func.isWrapper; first | (rw [if_pos (by decide +kernel)]; kernel_rfl) | (rw [if_neg (by decide +kernel)]; exact ⟨rfl, rfl⟩))
    (fun os started H enc _ => wheelAnew_lifted os started H enc)

#print axioms wheelAnew_holds

end Go.Proofs.Ytdlalkhnppahfaa
