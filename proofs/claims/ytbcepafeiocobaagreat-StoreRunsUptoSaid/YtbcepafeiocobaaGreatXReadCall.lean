/-
  What a law of stores is handed: its calls, read.
-/
import Derived.Test.YtbcepafeiocobaaGreatXLight
import Derived.Test.YtbcepafeiocobaaGreatXReads
import Derived.JoinedCond
set_option maxRecDepth 8000
namespace Go.Proofs.YtbcepafeiocobaaGreat
open Go.ChangeShapes Go.WideShapes Go.ChangeAt Go.RowKit
open Go.X (Has Vw bs ls Reads reads_nat reads_int reads_str reads_bool reads_slice reads_struct rf_cons rf_nil Ent Snp St Cl ccs ecs wt wts dw sumB)

theorem Tryz.own : ownKnob Tryz.prog.godebug = none := by kernel_rfl
theorem Tryz.laidOut : laidOutB Tryz.prog = true := by kernel_rfl

theorem below_of {w w' : World} {l : List X.A} (H : Has w w' l) : Below w.heap.size w w' := ⟨H.base.os, H.base.tape, H.base.output, H.base.size, H.base.block⟩

theorem reads_ent : Reads Tryz.prog 69 Ent.cells (fun _ e => e.term < 18446744073709551616 ∧ e.index < 18446744073709551616 ∧ -9223372036854775808 ≤ e.kind ∧ e.kind ≤ 9223372036854775807) (fun e => e.data.length + 1) := by
  have rf_ent := rf_cons (P := Tryz.prog) (t := 38) 0 1 (reads_nat (k := .u64) (by kernel_rfl) rfl) (by kernel_rfl) (fun _ => rfl) <| rf_cons (t := 38) 1 1 (reads_nat (k := .u64) (by kernel_rfl) rfl) (by kernel_rfl) (fun _ => rfl) <|
    rf_cons (t := 3) 2 1 (reads_int (k := .i64) (by kernel_rfl)) (by kernel_rfl) (fun _ => rfl) <| rf_cons (t := 9) 3 1 (reads_str (by kernel_rfl)) (by kernel_rfl) (fun _ => rfl) <| rf_nil _ 4
  exact Reads.imp (reads_struct Tryz.underlying69 rfl 4 (by kernel_rfl) rf_ent (fun _ => rfl))
    fun w ⟨t, i, k, d, _⟩ ⟨h1, h2, h3, _, _⟩ => ⟨⟨t, i, k, d⟩, rfl, ⟨by simp [IntKind.max, IntKind.bits, IntKind.signed] at h1; dsimp only; omega, by simp [IntKind.max, IntKind.bits, IntKind.signed] at h2; dsimp only; omega, by simpa [IntKind.min, IntKind.max, IntKind.bits, IntKind.signed] using h3⟩, by dsimp only; omega⟩

theorem reads_hard : Reads Tryz.prog 40 (fun v : Nat × Int => [.int .u64 (v.1 : Int), .int .i64 v.2]) (fun _ v => v.1 < 18446744073709551616 ∧ -9223372036854775808 ≤ v.2 ∧ v.2 ≤ 9223372036854775807) (fun _ => 1) := by
  have rf_hard := rf_cons (P := Tryz.prog) (t := 38) 0 1 (reads_nat (k := .u64) (by kernel_rfl) rfl) (by kernel_rfl) (fun _ => rfl) <| rf_cons (t := 3) 1 1 (reads_int (k := .i64) (by kernel_rfl)) (by kernel_rfl) (fun _ => rfl) <| rf_nil _ 2
  exact Reads.imp (reads_struct Tryz.underlying40 rfl 2 (by kernel_rfl) rf_hard (fun _ => rfl))
    fun w ⟨t, k, _⟩ ⟨h1, h3, _⟩ => ⟨(t, k), rfl, ⟨by simp [IntKind.max, IntKind.bits, IntKind.signed] at h1; dsimp only; omega, by simpa [IntKind.min, IntKind.max, IntKind.bits, IntKind.signed] using h3⟩, by omega⟩

theorem reads_snap : Reads Tryz.prog 42 Snp.cells (fun _ s => s.index < 18446744073709551616 ∧ s.term < 18446744073709551616 ∧ s.config < 18446744073709551616) (fun s => s.data.length + 1) := by
  have rf_snap := rf_cons (P := Tryz.prog) (t := 38) 0 1 (reads_nat (k := .u64) (by kernel_rfl) rfl) (by kernel_rfl) (fun _ => rfl) <| rf_cons (t := 38) 1 1 (reads_nat (k := .u64) (by kernel_rfl) rfl) (by kernel_rfl) (fun _ => rfl) <|
    rf_cons (t := 38) 2 1 (reads_nat (k := .u64) (by kernel_rfl) rfl) (by kernel_rfl) (fun _ => rfl) <| rf_cons (t := 9) 3 1 (reads_str (by kernel_rfl)) (by kernel_rfl) (fun _ => rfl) <| rf_nil _ 4
  exact Reads.imp (reads_struct Tryz.underlying42 rfl 4 (by kernel_rfl) rf_snap (fun _ => rfl))
    fun w ⟨i, t, c, d, _⟩ ⟨h1, h2, h3, _, _⟩ => ⟨⟨i, t, c, d⟩, rfl, ⟨by simp [IntKind.max, IntKind.bits, IntKind.signed] at h1; dsimp only; omega, by simp [IntKind.max, IntKind.bits, IntKind.signed] at h2; dsimp only; omega, by simp [IntKind.max, IntKind.bits, IntKind.signed] at h3; dsimp only; omega⟩, by dsimp only; omega⟩

/-- What a call bears. -/
def cb (x : Cl) : Nat := 1 + (x.s.snap.data.length + sumB (fun e : Ent => e.data.length + 1) x.s.l)
/-- What is known of a call that was read. -/
structure ClOk (w : World) (x : Cl) : Prop where
  term : x.s.term < 18446744073709551616
  vote : -9223372036854775808 ≤ x.s.vote ∧ x.s.vote ≤ 9223372036854775807
  snap : x.s.snap.index < 18446744073709551616 ∧ x.s.snap.term < 18446744073709551616 ∧ x.s.snap.config < 18446744073709551616
  l : ∀ e ∈ x.s.l, e.term < 18446744073709551616 ∧ e.index < 18446744073709551616 ∧ -9223372036854775808 ≤ e.kind ∧ e.kind ≤ 9223372036854775807
  vw : Vw w x.a (ecs x.s.l)

theorem reads_call : Reads Tryz.prog 57 Cl.cells ClOk cb := by
  have rf_call := rf_cons (P := Tryz.prog) (t := 4) 0 1 (reads_bool (by kernel_rfl)) (by kernel_rfl) (fun _ => rfl) <| rf_cons 1 2 reads_hard (by kernel_rfl) (fun _ => rfl) <|
    rf_cons 3 4 reads_snap (by kernel_rfl) (fun _ => rfl) <| rf_cons 7 1 (reads_slice Tryz.underlying43 reads_ent (fun _ => (show 4 = Tryz.prog.cellsOf 69 by kernel_rfl))) (by kernel_rfl) (fun _ => rfl) <| rf_nil _ 8
  exact Reads.imp (reads_struct Tryz.underlying57 rfl 8 (by kernel_rfl) rf_call (fun _ => rfl))
    fun w ⟨an, ⟨t, v⟩, s, ⟨a, c, l⟩, _⟩ ⟨_, h2, h3, ⟨h4, h5⟩, _⟩ => ⟨⟨an, ⟨t, v, s, l⟩, a, c⟩, rfl, ⟨h2.1, h2.2, h3, h5, h4⟩, by simp only [cb]; omega⟩

theorem dw_le : ∀ l : List Ent, l.length + dw l ≤ sumB (fun e : Ent => e.data.length + 1) l
  | [] => by simp [dw, sumB]
  | e :: l => by have := dw_le l; simp only [X.dw_cons, sumB, List.map_cons, List.sum_cons, List.length_cons] at this ⊢; omega
theorem wt_le (x : Cl) : wt x.s ≤ cb x := by
  have := dw_le x.s.l
  unfold wt cb; omega
theorem wts_le : ∀ l : List Cl, wts l ≤ sumB cb l
  | [] => by simp [wts, sumB]
  | x :: l => by have := wts_le l; have := wt_le x; simp only [wts, sumB, List.map_cons, List.sum_cons] at *; omega

theorem cls_of {w : World} {a : Option Addr} {l : List Cl} (hv : Vw w a (l.flatMap Cl.cells)) (ho : ∀ x ∈ l, ClOk w x) (hb : sumB cb l ≤ 1048576) : Cls w a l := by
  refine ⟨hv, fun x hx => ?_, ?_⟩
  · have h := ho x hx
    have hx2 := X.sumB_mem (bulk := cb) hx
    have hcb : 1 + (x.s.snap.data.length + sumB (fun e : Ent => e.data.length + 1) x.s.l) ≤ 1048576 := Nat.le_trans hx2 hb
    have hd := dw_le x.s.l
    refine ⟨⟨h.term, h.vote, ⟨h.snap.1, h.snap.2.1, h.snap.2.2, by omega⟩, fun e he => ?_, by omega⟩, h.vw⟩
    have h1 := h.l e he
    have h2 := X.sumB_mem (bulk := fun e : Ent => e.data.length + 1) he
    exact ⟨h1.1, h1.2.1, h1.2.2, by omega⟩
  · have h1 := wts_le l
    have h2 := X.sumB_len (bulk := cb) (fun x => by unfold cb; omega) l
    omega

end Go.Proofs.YtbcepafeiocobaaGreat
