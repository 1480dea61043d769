/-
  StoreOpens is proved: the law answers true at every input, and the input reads as it did.
-/
import Derived.Test.YtbcepafeiocobaaRows
import Derived.Test.YtbcepafeiocobaaXLaw1
import Derived.ProofKit
import Derived.SizedLaws
namespace Go.X
open Go

theorem weightsAll_in {H : Type} {P : Program} {e : TypeId} : ∀ {l : List (DataW H)} {d : DataW H}, d ∈ l → ∀ n ∈ d.weights P e, n ∈ DataW.weightsAll P e l
  | d' :: r, d, hd, n, hn => by
    simp only [DataW.weightsAll, List.mem_append]
    rcases List.mem_cons.1 hd with rfl | h
    · exact Or.inl hn
    · exact Or.inr (weightsAll_in h n hn)

/-- A text inside a slice of texts is within the form's reach. -/
theorem sized_elem {H : Type} {P : Program} {ts : List TypeId} {ds : List (DataW H)} (h : (DataW.weightsEach P ts ds).all (· ≤ reachBytes) = true) {j : Nat} {t e : TypeId} {elems spare : List (DataW H)} {b : List UInt8}
    (ht : ts[j]? = some t) (hd : ds[j]? = some (.slice elems spare)) (hu : P.underlying t = some (.slice e)) (hx : DataW.lit (.string b) ∈ elems) : b.length ≤ reachBytes := by
  refine of_decide_eq_true (List.all_eq_true.1 h _ (DataW.weights_mem_each ht hd _ ?_))
  simp only [DataW.weights, hu, List.mem_cons, List.mem_append]
  exact Or.inr (Or.inl (weightsAll_in hx _ (by simp [DataW.weights])))

end Go.X
namespace Go.Proofs.Ytbcepafeiocobaa
open Go.ChangeShapes Go.WideShapes Go.ChangeAt Go.RowKit
open Go.X (Has Vw ss bs ls)

theorem Try.own : ownKnob Try.prog.godebug = none := by kernel_rfl
theorem Try.laidOut : laidOutB Try.prog = true := by kernel_rfl
theorem Try.cellsStr : Try.prog.cellsOf 9 = 1 := by kernel_rfl
theorem Try.bytesStr : Try.prog.bytesOf 9 = 16 := by kernel_rfl
theorem reach_is : reachBytes = 140737488351232 := rfl

theorem below_of {w w' : World} {l : List X.A} (H : Has w w' l) : Below w.heap.size w w' := ⟨H.base.os, H.base.tape, H.base.output, H.base.size, H.base.block⟩

set_option maxRecDepth 100000 in
theorem opens_lifted (os : Os) (started : os.Started) (H : Type) (enc : TypeId × Value → H) :
    ReturnsInHanded {} Try.checked os 3 .any (Rows.storeOpensSpec.pre6 enc Try.prog Try.f3 Rows.storeOpensRow.domain false) (Rows.storeOpensSpec.post enc Try.prog Try.f3 false true false false) := by
  refine returnsInHanded_of_change_sized (C := Try.checked) Try.own started (by kernel_rfl) Try.func3
    (ChangeSpec.witness6 (enc := enc) (C := Try.checked) false ⟨#[], #[.slice none 0 0, .string ⟨#[]⟩, .int .u64 0], []⟩ 8 (by kernel_rfl) (by kernel_rfl) (by kernel_rfl) (by kernel_rfl)) ?_
  intro W base args ds gs before hval0 hW _ hsz0 _
  have hsz : (DataW.weightsEach Try.prog (Try.f3.params.toList ++ Rows.storeOpensSpec.plain.varTypes Try.prog) (ds ++ gs)).all (· ≤ reachBytes) = true := hsz0
  clear hsz0
  have hval : ∀ (j : Nat) t v, Try.f3.params[j]? = some t → args[j]? = some v → Value.okWide Try.prog W .any base t v := hval0
  have hW' := hW
  obtain ⟨p, q, hA0, hV, rfl, hfz, hnd⟩ := hW
  have hA : DataW.TrodAll enc Try.prog W 0 (fun _ => true) true Try.f3.params.toList args.toList ds p := hA0
  rw [Try.params3] at hA hval hsz
  obtain ⟨v0, v1, v2, d0, d1, d2, p0, p1, p2, rfl, rfl, rfl, h0, h1, h2⟩ := trodAll_three hA
  obtain ⟨rfl, rfl⟩ := trodVars_none hV
  obtain ⟨a0, len, cap, rfl⟩ := okWide_slice Try.underlying22 (hval 0 22 v0 rfl rfl)
  obtain ⟨tail, rfl, rfl, rfl, htail⟩ := Go.ChangeMaps.open_string Try.underlying9 (hval 1 9 v1 rfl rfl) h1
  obtain ⟨m, rfl, rfl, rfl, wm⟩ := open_int Try.underlying23 (hval 2 23 v2 rfl rfl) h2
  have h0k := h0
  obtain ⟨fuel, hf⟩ := h0
  clear hA0 hval0
  simp only [List.append_nil] at hW'
  have hlt : ∀ x ∈ p0, x.block < W.heap.size := fun x hx => by simpa using hW'.lt x hx
  have hts : tail.size ≤ reachBytes := sized_string hsz (j := 1) (t := 9) rfl rfl
  obtain ⟨m, rfl⟩ : ∃ k : Nat, m = (k : Int) := ⟨m.toNat, by simp [Lit.wf, IntKind.min, IntKind.max, IntKind.bits, IntKind.signed] at wm; omega⟩
  have hm : m < 18446744073709551616 := by simp [Lit.wf, IntKind.min, IntKind.max, IntKind.bits, IntKind.signed] at wm; omega
  have fin : ∀ (l : List (List UInt8)), l.length = len → (∀ x ∈ l, x.length ≤ 1125899906842624) → len ≤ 1125899906842624 → Vw W a0 (ss l) →
      Calls Try.prog 3 #[.slice a0 len cap, .string tail, .int .u64 (m : Int)] W fun e W' => ∃ v, e = .returned v ∧ Rows.storeOpensSpec.post enc Try.prog Try.f3 false true false false W #[.slice a0 len cap, .string tail, .int .u64 (m : Int)] v W' := by
    intro l hl hx hln hv
    subst hl
    have hw := StoreOpens_spec (w := W) (la := a0) (lc := cap) (l := l) (t := ls tail) (m := m) hln hx (by rw [reach_is] at hts; show tail.data.toList.length ≤ _; simp; show tail.size ≤ _; omega) hm hv
    rw [X.bs_ls] at hw
    refine hw.mono fun e W' => ?_
    rintro ⟨v, rfl, rfl, HH⟩
    have hb := below_of HH
    refine ⟨_, rfl, _, _, _, [], p0 ++ ([] ++ []), [], hW', ?_, ?_, rfl, hb.frame _, fun h => by cases h⟩
    · exact trodAll_mk1 (shut_bool Try.underlying4 true)
    · exact trodAll_mk3 (Below.trod Try.laidOut (by kernel_rfl) (of_decide_eq_true (by kernel_rfl)) h0k hb hlt) (Go.ChangeMaps.shut_string Try.underlying9 htail) (shut_int Try.underlying23 wm)
  rcases open_strings Try.underlying22 Try.underlying9 Try.cellsStr hf with ⟨hcs, hx⟩ | ⟨a, len', cap', xs, hcs, _, hl, hmx, hz, hx, hcell, hws⟩
  · simp [Value.cells] at hcs
    obtain ⟨rfl, rfl, rfl⟩ := hcs
    exact fin [] rfl (by simp) (by omega) Vw.nil
  · simp [Value.cells] at hcs
    obtain ⟨rfl, rfl, rfl⟩ := hcs
    simp only [Prod.mk.injEq] at hx
    obtain ⟨rfl, rfl⟩ := hx
    simp only [if_true] at hz
    have hreach : len * 16 ≤ 140737488351232 := by
      have := sized_slice hsz (j := 0) (t := 22) (e := 9) rfl rfl Try.underlying22
      rw [Try.bytesStr] at this
      simp only [strs, List.length_map, List.length_take, List.length_drop, reachBytes] at this
      omega
    have hel : ∀ x ∈ (xs.take len).map ls, x.length ≤ 1125899906842624 := by
      intro x hx
      obtain ⟨s, hs, rfl⟩ := List.mem_map.1 hx
      have := X.sized_elem hsz (j := 0) (t := 22) (e := 9) (b := s.data.toList) rfl rfl Try.underlying22 (List.mem_map.2 ⟨s, hs, rfl⟩)
      rw [reach_is] at this
      show s.data.toList.length ≤ _
      omega
    refine fin ((xs.take len).map ls) (by simp; omega) hel (by omega) ?_
    by_cases hl0 : len = 0
    · subst hl0
      exact .inl (by simp [ss])
    · obtain ⟨b, off, spot⟩ := a
      have hspot : spot = none := by simpa [Addr.add] using World.cell?_spot (hcell 0 (by omega))
      subst hspot
      refine .inr ⟨b, off, rfl, fun j v hj => ?_⟩
      rw [X.ss_get?, List.getElem?_map, List.getElem?_take] at hj
      split at hj
      · rename_i hjl
        have hc := hcell j (by omega)
        rw [Addr.add_lit] at hc
        rw [hc]
        have hjx : j < xs.length := by omega
        rw [List.getElem?_eq_getElem hjx] at hj
        simp only [Option.map_some, X.bs_ls] at hj
        have hgd : xs.getD j ByteArray.empty = xs[j] := by simp [List.getD, List.getElem?_eq_getElem hjx]
        rw [hgd]
        exact hj
      · cases hj

theorem storeOpens_holds : Rows.StoreOpensSaid :=
  OpenClaim.holds_of_wide 3 Try.f3 rfl rfl rfl rfl rfl rfl rfl ⟨rfl, rfl, rfl, rfl, rfl⟩ rfl rfl rfl rfl rfl (by kernel_rfl) Try.func3 (by kernel_rfl)
    (of_decide_eq_true (by kernel_rfl)) (by unfold Func.isWrapper; first | (rw [if_pos (by decide +kernel)]; kernel_rfl) | (rw [if_neg (by decide +kernel)]; exact ⟨rfl, rfl⟩))
    (fun os started H enc _ => opens_lifted os started H enc)

#print axioms storeOpens_holds

end Go.Proofs.Ytbcepafeiocobaa
