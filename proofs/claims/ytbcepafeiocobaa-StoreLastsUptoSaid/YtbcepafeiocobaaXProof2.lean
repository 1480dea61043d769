/-
  StoreLasts is proved where what comes in is of bulk at most 1048576: the law answers true, and the input reads as it did.
-/
import Derived.Test.YtbcepafeiocobaaXLaw2
import Derived.Test.YtbcepafeiocobaaXReads
import Derived.JoinedCond
set_option maxRecDepth 8000
namespace Go.Proofs.Ytbcepafeiocobaa
open Go.ChangeShapes Go.WideShapes Go.ChangeAt Go.RowKit
open Go.X (Has Vw bs ls Reads reads_nat reads_int reads_str reads_bool reads_slice reads_struct rf_cons rf_nil Ent Snp St Cl ccs ecs wt wts dw sumB)

theorem Try.own : ownKnob Try.prog.godebug = none := by kernel_rfl
theorem Try.laidOut : laidOutB Try.prog = true := by kernel_rfl

theorem below_of {w w' : World} {l : List X.A} (H : Has w w' l) : Below w.heap.size w w' := ⟨H.base.os, H.base.tape, H.base.output, H.base.size, H.base.block⟩

theorem reads_ent : Reads Try.prog 72 Ent.cells (fun _ e => e.term < 18446744073709551616 ∧ e.index < 18446744073709551616 ∧ -9223372036854775808 ≤ e.kind ∧ e.kind ≤ 9223372036854775807) (fun e => e.data.length + 1) := by
  have rf_ent := rf_cons (P := Try.prog) (t := 23) 0 1 (reads_nat (k := .u64) (by kernel_rfl) rfl) (by kernel_rfl) (fun _ => rfl) <| rf_cons (t := 23) 1 1 (reads_nat (k := .u64) (by kernel_rfl) rfl) (by kernel_rfl) (fun _ => rfl) <|
    rf_cons (t := 3) 2 1 (reads_int (k := .i64) (by kernel_rfl)) (by kernel_rfl) (fun _ => rfl) <| rf_cons (t := 9) 3 1 (reads_str (by kernel_rfl)) (by kernel_rfl) (fun _ => rfl) <| rf_nil _ 4
  exact Reads.imp (reads_struct Try.underlying72 rfl 4 (by kernel_rfl) rf_ent (fun _ => rfl))
    fun w ⟨t, i, k, d, _⟩ ⟨h1, h2, h3, _, _⟩ => ⟨⟨t, i, k, d⟩, rfl, ⟨by simp [IntKind.max, IntKind.bits, IntKind.signed] at h1; dsimp only; omega, by simp [IntKind.max, IntKind.bits, IntKind.signed] at h2; dsimp only; omega, by simpa [IntKind.min, IntKind.max, IntKind.bits, IntKind.signed] using h3⟩, by dsimp only; omega⟩

theorem reads_hard : Reads Try.prog 37 (fun v : Nat × Int => [.int .u64 (v.1 : Int), .int .i64 v.2]) (fun _ v => v.1 < 18446744073709551616 ∧ -9223372036854775808 ≤ v.2 ∧ v.2 ≤ 9223372036854775807) (fun _ => 1) := by
  have rf_hard := rf_cons (P := Try.prog) (t := 23) 0 1 (reads_nat (k := .u64) (by kernel_rfl) rfl) (by kernel_rfl) (fun _ => rfl) <| rf_cons (t := 3) 1 1 (reads_int (k := .i64) (by kernel_rfl)) (by kernel_rfl) (fun _ => rfl) <| rf_nil _ 2
  exact Reads.imp (reads_struct Try.underlying37 rfl 2 (by kernel_rfl) rf_hard (fun _ => rfl))
    fun w ⟨t, k, _⟩ ⟨h1, h3, _⟩ => ⟨(t, k), rfl, ⟨by simp [IntKind.max, IntKind.bits, IntKind.signed] at h1; dsimp only; omega, by simpa [IntKind.min, IntKind.max, IntKind.bits, IntKind.signed] using h3⟩, by omega⟩

theorem reads_snap : Reads Try.prog 39 Snp.cells (fun _ s => s.index < 18446744073709551616 ∧ s.term < 18446744073709551616 ∧ s.config < 18446744073709551616) (fun s => s.data.length + 1) := by
  have rf_snap := rf_cons (P := Try.prog) (t := 23) 0 1 (reads_nat (k := .u64) (by kernel_rfl) rfl) (by kernel_rfl) (fun _ => rfl) <| rf_cons (t := 23) 1 1 (reads_nat (k := .u64) (by kernel_rfl) rfl) (by kernel_rfl) (fun _ => rfl) <|
    rf_cons (t := 23) 2 1 (reads_nat (k := .u64) (by kernel_rfl) rfl) (by kernel_rfl) (fun _ => rfl) <| rf_cons (t := 9) 3 1 (reads_str (by kernel_rfl)) (by kernel_rfl) (fun _ => rfl) <| rf_nil _ 4
  exact Reads.imp (reads_struct Try.underlying39 rfl 4 (by kernel_rfl) rf_snap (fun _ => rfl))
    fun w ⟨i, t, c, d, _⟩ ⟨h1, h2, h3, _, _⟩ => ⟨⟨i, t, c, d⟩, rfl, ⟨by simp [IntKind.max, IntKind.bits, IntKind.signed] at h1; dsimp only; omega, by simp [IntKind.max, IntKind.bits, IntKind.signed] at h2; dsimp only; omega, by simp [IntKind.max, IntKind.bits, IntKind.signed] at h3; dsimp only; omega⟩, by dsimp only; omega⟩

/-- What a call bears. -/
def cb (x : Cl) : Nat := 1 + (x.s.snap.data.length + sumB (fun e : Ent => e.data.length + 1) x.s.l)
/-- What is known of a call that was read. -/
structure ClOk (w : World) (x : Cl) : Prop where
  term : x.s.term < 18446744073709551616
  vote : -9223372036854775808 ≤ x.s.vote ∧ x.s.vote ≤ 9223372036854775807
  snap : x.s.snap.index < 18446744073709551616 ∧ x.s.snap.term < 18446744073709551616 ∧ x.s.snap.config < 18446744073709551616
  l : ∀ e ∈ x.s.l, e.term < 18446744073709551616 ∧ e.index < 18446744073709551616 ∧ -9223372036854775808 ≤ e.kind ∧ e.kind ≤ 9223372036854775807
  vw : Vw w x.a (ecs x.s.l)

theorem reads_call : Reads Try.prog 61 Cl.cells ClOk cb := by
  have rf_call := rf_cons (P := Try.prog) (t := 4) 0 1 (reads_bool (by kernel_rfl)) (by kernel_rfl) (fun _ => rfl) <| rf_cons 1 2 reads_hard (by kernel_rfl) (fun _ => rfl) <|
    rf_cons 3 4 reads_snap (by kernel_rfl) (fun _ => rfl) <| rf_cons 7 1 (reads_slice Try.underlying40 reads_ent (fun _ => (show 4 = Try.prog.cellsOf 72 by kernel_rfl))) (by kernel_rfl) (fun _ => rfl) <| rf_nil _ 8
  exact Reads.imp (reads_struct Try.underlying61 rfl 8 (by kernel_rfl) rf_call (fun _ => rfl))
    fun w ⟨an, ⟨t, v⟩, s, ⟨a, c, l⟩, _⟩ ⟨_, h2, h3, ⟨h4, h5⟩, _⟩ => ⟨⟨an, ⟨t, v, s, l⟩, a, c⟩, rfl, ⟨h2.1, h2.2, h3, h5, h4⟩, by simp only [cb]; omega⟩

theorem dw_le : ∀ l : List Ent, l.length + dw l ≤ sumB (fun e : Ent => e.data.length + 1) l
  | [] => by simp [dw, sumB]
  | e :: l => by have := dw_le l; simp only [X.dw_cons, sumB, List.map_cons, List.sum_cons, List.length_cons] at this ⊢; omega
theorem wt_le (x : Cl) : wt x.s ≤ cb x := by
  have := dw_le x.s.l
  unfold wt cb; omega
theorem wts_le : ∀ l : List Cl, wts l ≤ sumB cb l
  | [] => by simp [wts, sumB]
  | x :: l => by have := wts_le l; have := wt_le x; simp only [wts, sumB, List.map_cons, List.sum_cons] at *; omega

theorem cls_of {w : World} {a : Option Addr} {l : List Cl} (hv : Vw w a (l.flatMap Cl.cells)) (ho : ∀ x ∈ l, ClOk w x) (hb : sumB cb l ≤ 1048576) : Cls w a l := by
  refine ⟨hv, fun x hx => ?_, ?_⟩
  · have h := ho x hx
    have hx2 := X.sumB_mem (bulk := cb) hx
    have hcb : 1 + (x.s.snap.data.length + sumB (fun e : Ent => e.data.length + 1) x.s.l) ≤ 1048576 := Nat.le_trans hx2 hb
    have hd := dw_le x.s.l
    refine ⟨⟨h.term, h.vote, ⟨h.snap.1, h.snap.2.1, h.snap.2.2, by omega⟩, fun e he => ?_, by omega⟩, h.vw⟩
    have h1 := h.l e he
    have h2 := X.sumB_mem (bulk := fun e : Ent => e.data.length + 1) he
    exact ⟨h1.1, h1.2.1, h1.2.2, by omega⟩
  · have h1 := wts_le l
    have h2 := X.sumB_len (bulk := cb) (fun x => by unfold cb; omega) l
    omega

theorem contract (H : Type) (enc : TypeId × Value → H) (W : World) (base : Nat) (args : Array Value) (ds gs : List (DataW H)) (before : List MemPlace)
    (hval : ∀ (j : Nat) t v, Try.f4.params[j]? = some t → args[j]? = some v → Value.okWide Try.prog W .any base t v)
    (hW : DataW.Whole enc Try.prog Try.f4.params.toList Rows.storeLastsSpec.vars false W args.toList ds gs before) (hk : Rows.uptoSmall H (ds ++ gs) = true) :
    Calls Try.prog 4 args W fun e W' => ∃ v, e = .returned v ∧ Rows.storeLastsSpec.post enc Try.prog Try.f4 false true false false W args v W' := by
  have hW' := hW
  obtain ⟨p, q, hA0, hV, rfl, hfz, hnd⟩ := hW
  have hA : DataW.TrodAll enc Try.prog W 0 (fun _ => true) true Try.f4.params.toList args.toList ds p := hA0
  rw [Try.params4] at hA hval
  obtain ⟨v0, v1, v2, d0, d1, d2, p0, p1, p2, rfl, rfl, rfl, h0, h1, h2⟩ := trodAll_three hA
  obtain ⟨rfl, rfl⟩ := trodVars_none hV
  obtain ⟨a0, len, cap, rfl⟩ := okWide_slice Try.underlying55 (hval 0 55 v0 rfl rfl)
  obtain ⟨n1, rfl, rfl, rfl, w1⟩ := open_int Try.underlying3 (hval 1 3 v1 rfl rfl) h1
  obtain ⟨n2, rfl, rfl, rfl, w2⟩ := open_int Try.underlying3 (hval 2 3 v2 rfl rfl) h2
  have h0k := h0
  obtain ⟨fuel, hf⟩ := h0
  clear hA0 hval
  simp only [List.append_nil] at hW' hk
  have hlt : ∀ x ∈ p0, x.block < W.heap.size := fun x hx => by simpa using hW'.lt x hx
  have hbk : Rows.uptoBulkAll [d0, .lit (.int .i64 n1), .lit (.int .i64 n2)] ≤ 1048576 := of_decide_eq_true hk
  simp only [Rows.uptoBulkAll, Rows.uptoBulk] at hbk
  obtain ⟨⟨a, c, l⟩, hcs, ⟨hv, ho⟩, hb⟩ := (reads_slice (e := 61) Try.underlying55 reads_call (fun _ => (show 8 = Try.prog.cellsOf 61 by kernel_rfl))).run hf
  simp only [Value.cells, List.cons.injEq, Value.slice.injEq, and_true] at hcs
  obtain ⟨rfl, rfl, rfl⟩ := hcs
  dsimp only at hv ho hb
  have hcls := cls_of hv ho (by omega)
  have hw := StoreLasts_spec (w := W) (la := a0) (lc := cap) hcls (fuel := n1) (keep := n2) (by simpa [Lit.wf, IntKind.min, IntKind.max, IntKind.bits, IntKind.signed] using w1) (by simpa [Lit.wf, IntKind.min, IntKind.max, IntKind.bits, IntKind.signed] using w2)
  refine hw.mono fun e W' => ?_
  rintro ⟨v, rfl, rfl, HH⟩
  have hb := below_of HH
  refine ⟨_, rfl, _, _, _, [], p0 ++ ([] ++ []), [], hW', ?_, ?_, rfl, hb.frame _, fun h => by cases h⟩
  · exact trodAll_mk1 (shut_bool Try.underlying4 true)
  · exact trodAll_mk3 (Below.trod Try.laidOut (by kernel_rfl) (of_decide_eq_true (by kernel_rfl)) h0k hb hlt) (shut_int Try.underlying3 w1) (shut_int Try.underlying3 w2)

set_option maxRecDepth 100000 in
theorem lasts_lifted (os : Os) (started : os.Started) (H : Type) (enc : TypeId × Value → H) (F : Stop.Interp) :
    ReturnsInHanded {} Try.checked os 4 .any ((Rows.OpenSpec.upto Rows.storeLastsSpec).pre6 enc Try.prog Try.f4 Rows.storeLastsUptoRow.domain false) (((Rows.OpenSpec.upto Rows.storeLastsSpec).at F).post enc Try.prog Try.f4 false true false false) := by
  refine returnsInHanded_of_cond (C := Try.checked) (s := Rows.OpenSpec.upto Rows.storeLastsSpec) (k := Rows.uptoSmall) rfl Try.own started (by kernel_rfl) Try.func4
    (OpenSpec.witness (enc := enc) (C := Try.checked) (s := Rows.OpenSpec.upto Rows.storeLastsSpec) (k := Rows.uptoSmall) rfl false ⟨#[], #[.slice none 0 0, .int .i64 0, .int .i64 0], []⟩ 8 (by kernel_rfl) (by kernel_rfl) (by kernel_rfl)
      (x := ([.nil, .lit (.int .i64 0), .lit (.int .i64 0)], [], [])) (by kernel_rfl) rfl (by kernel_rfl)) ?_
  intro W base args ds gs before hval hW _ hk _
  exact contract H enc W base args ds gs before hval hW hk

theorem storeLastsUpto_holds : Rows.StoreLastsUptoSaid :=
  OpenClaim.holds_of_cond 4 Try.f4 rfl rfl rfl rfl rfl rfl rfl ⟨rfl, rfl, rfl, rfl, rfl⟩ rfl rfl rfl rfl rfl (by kernel_rfl) Try.func4 (by kernel_rfl)
    (of_decide_eq_true (by kernel_rfl)) (by unfold Func.isWrapper; first | (rw [if_pos (by decide +kernel)]; kernel_rfl) | (rw [if_neg (by decide +kernel)]; exact ⟨rfl, rfl⟩))
    (fun os started H enc _ F => lasts_lifted os started H enc F)

#print axioms storeLastsUpto_holds

end Go.Proofs.Ytbcepafeiocobaa
