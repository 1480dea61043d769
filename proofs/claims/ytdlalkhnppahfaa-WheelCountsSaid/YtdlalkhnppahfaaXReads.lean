/-
  What an argument's reading says: its cells, that they can be read, and how much it bears; by the type's shape.
-/
import Derived.Test.YtdlalkhnppahfaaRows
import Derived.Test.YtdlalkhnppahfaaXView
import Derived.Deep.Slices
import Derived.ChangeArms
import Derived.OpenShut
import Derived.ProofKit
namespace Go.X
open Go Go.Proofs.Ytdlalkhnppahfaa

/-- Whatever is read at type t has the cells of a v of α, of which ok says the rest. -/
structure Reads (P : Program) (t : TypeId) {α : Type} (cells : α → List Value) (ok : World → α → Prop) (bulk : α → Nat) : Prop where
  run : ∀ {H : Type} {enc : TypeId × Value → H} {w : World} {base : Nat} {spare : Nat → Bool} {held : Bool} {fuel : Nat} {cs : List Value} {x : DataW H × List MemPlace},
    DataW.trod enc P w base spare held fuel t cs = some x → ∃ v : α, cs = cells v ∧ ok w v ∧ bulk v ≤ Rows.uptoBulk x.1

section
variable {P : Program} {t e : TypeId}

theorem Reads.imp {α β : Type} {cells : α → List Value} {ok : World → α → Prop} {bulk : α → Nat} {cells' : β → List Value} {ok' : World → β → Prop} {bulk' : β → Nat} (h : Reads P t cells ok bulk)
    (f : ∀ w v, ok w v → ∃ u, cells' u = cells v ∧ ok' w u ∧ bulk' u ≤ bulk v) : Reads P t cells' ok' bulk' := by
  constructor
  intro H enc w base spare held fuel cs x hx
  obtain ⟨v, rfl, h1, h2⟩ := h.run hx
  obtain ⟨u, h3, h4, h5⟩ := f w v h1
  exact ⟨u, h3.symm, h4, by omega⟩

theorem bulk_one {H : Type} (d : DataW H) : 1 ≤ Rows.uptoBulk d := by
  cases d with
  | lit l => cases l <;> simp [Rows.uptoBulk]
  | nil => simp [Rows.uptoBulk]
  | ptr d => simp [Rows.uptoBulk]
  | slice elems spare => simp [Rows.uptoBulk]
  | agg parts => simp [Rows.uptoBulk]
  | iface t d => simp [Rows.uptoBulk]
  | map entries => simp [Rows.uptoBulk]
  | held h => simp [Rows.uptoBulk]

theorem bulkAll_append {H : Type} (l r : List (DataW H)) : Rows.uptoBulkAll (l ++ r) = Rows.uptoBulkAll l + Rows.uptoBulkAll r := by
  induction l with
  | nil => simp [Rows.uptoBulkAll]
  | cons x l ih => simp only [List.cons_append, Rows.uptoBulkAll, ih]; omega

theorem reads_bool (ht : P.underlying t = some .bool) : Reads P t (fun b : Bool => [.bool b]) (fun _ _ => True) (fun _ => 1) := by
  constructor
  intro H enc w base spare held fuel cs x hx
  obtain ⟨b, rfl, rfl⟩ := DataW.trod_bool ht hx
  exact ⟨b, rfl, trivial, bulk_one _⟩

theorem reads_int {k : IntKind} (ht : P.underlying t = some (.int k)) : Reads P t (fun n : Int => [.int k n]) (fun _ n => k.min ≤ n ∧ n ≤ k.max) (fun _ => 1) := by
  constructor
  intro H enc w base spare held fuel cs x hx
  obtain ⟨n, rfl, rfl, hw⟩ := DataW.trod_int ht hx
  exact ⟨n, rfl, by simpa [Lit.wf] using hw, bulk_one _⟩

/-- A natural number. -/
theorem reads_nat {k : IntKind} (ht : P.underlying t = some (.int k)) (h0 : k.min = 0) : Reads P t (fun n : Nat => [.int k (n : Int)]) (fun _ n => (n : Int) ≤ k.max) (fun _ => 1) := by
  constructor
  intro H enc w base spare held fuel cs x hx
  obtain ⟨n, rfl, h1, h2⟩ := (reads_int ht).run hx
  have e : (n.toNat : Int) = n := Int.toNat_of_nonneg (by omega)
  exact ⟨n.toNat, by rw [e], by omega, h2⟩

theorem reads_str (ht : P.underlying t = some .string) : Reads P t (fun l : List UInt8 => [.string (bs l)]) (fun _ l => l.length ≤ maxLen) (fun l => l.length + 1) := by
  constructor
  intro H enc w base spare held fuel cs x hx
  obtain ⟨s, rfl, rfl, hw⟩ := DataW.trod_string ht hx
  refine ⟨ls s, rfl, ?_, ?_⟩
  · show s.data.toList.length ≤ _
    simpa using hw
  · simp [Rows.uptoBulk, ls]

/-- Elements, each with its bulk. -/
def sumB {α : Type} (bulk : α → Nat) (l : List α) : Nat := (l.map bulk).sum
theorem sumB_len {α : Type} {bulk : α → Nat} (h : ∀ x, 1 ≤ bulk x) : ∀ l : List α, l.length ≤ sumB bulk l
  | [] => by simp [sumB]
  | x :: l => by have := sumB_len h l; have := h x; simp only [sumB, List.map_cons, List.sum_cons, List.length_cons] at this ⊢; unfold sumB at *; omega
theorem sumB_mem {α : Type} {bulk : α → Nat} {x : α} : ∀ {l : List α}, x ∈ l → bulk x ≤ sumB bulk l
  | y :: l, h => by
    simp only [sumB, List.map_cons, List.sum_cons]
    rcases List.mem_cons.1 h with rfl | h
    · omega
    · have := sumB_mem (bulk := bulk) h; unfold sumB at this; omega

theorem reads_slice {α : Type} {cells : α → List Value} {ok : World → α → Prop} {bulk : α → Nat} (ht : P.underlying t = some (.slice e)) (h : Reads P e cells ok bulk) (hc : ∀ v, (cells v).length = P.cellsOf e) :
    Reads P t (fun v : Option Addr × Nat × List α => [.slice v.1 v.2.2.length v.2.1]) (fun w v => Vw w v.1 (v.2.2.flatMap cells) ∧ ∀ x ∈ v.2.2, ok w x) (fun v => sumB bulk v.2.2 + 1) := by
  constructor
  intro H enc w base spare held fuel cs x hx
  rcases Go.Deep.open_slice ht hx with ⟨rfl, rfl⟩ | ⟨a, len, cap, m, n, D, Pl, rfl, hb, hl, hm, rfl, rfl, hi⟩
  · exact ⟨(none, 0, []), rfl, ⟨Vw.nil, by simp⟩, by simp [Rows.uptoBulk, sumB]⟩
  · have hle : len ≤ (if spare a.block = true then cap else len) := by split <;> omega
    have hel : ∀ i, i < len → ∃ v, (∀ j u, (cells v)[j]? = some u → w.cell? (a.add (i * P.cellsOf e + j)) = some u) ∧ ok w v ∧ bulk v ≤ Rows.uptoBulk (D i) := by
      intro i hil
      obtain ⟨cs', h1, h2⟩ := hi i (by omega)
      obtain ⟨v, rfl, h3, h4⟩ := h.run h2
      obtain ⟨_, h5, h6⟩ := World.cells?_some h1
      refine ⟨v, fun j u hj => ?_, h3, h4⟩
      have hjl := (List.getElem?_eq_some_iff.1 hj).1
      rw [← hj, ← h6 j (by omega), Go.Deep.add_add]
    clear hi
    have hall : ∀ k, k ≤ len → ∃ vs : List α, vs.length = k ∧ (∀ j u, (vs.flatMap cells)[j]? = some u → w.cell? (a.add j) = some u) ∧ (∀ x ∈ vs, ok w x) ∧ sumB bulk vs ≤ Rows.uptoBulkAll ((List.range k).map D) := by
      intro k
      induction k with
      | zero => intro _; exact ⟨[], rfl, by simp, by simp, by simp [sumB]⟩
      | succ k ih =>
        intro hk
        obtain ⟨vs, h1, h2, h3, h4⟩ := ih (by omega)
        obtain ⟨v, h5, h6, h7⟩ := hel k (by omega)
        have hfl : (vs.flatMap cells).length = k * P.cellsOf e := by
          rw [← h1]
          clear h1 h2 h3 h4
          induction vs with
          | nil => simp
          | cons y vs ih => rw [List.flatMap_cons, List.length_append, ih, hc, List.length_cons, Nat.add_mul]; omega
        refine ⟨vs ++ [v], by simp [h1], fun j u hj => ?_, fun x hx => ?_, ?_⟩
        · rw [List.flatMap_append] at hj
          by_cases hjl : j < (vs.flatMap cells).length
          · rw [List.getElem?_append_left hjl] at hj
            exact h2 j u hj
          · rw [List.getElem?_append_right (by omega)] at hj
            simp only [List.flatMap_cons, List.flatMap_nil, List.append_nil] at hj
            have := h5 _ u hj
            rw [hfl] at this hjl
            rw [show k * P.cellsOf e + (j - k * P.cellsOf e) = j by omega] at this
            exact this
        · rcases List.mem_append.1 hx with hx | hx
          · exact h3 x hx
          · simp at hx; subst hx; exact h6
        · rw [List.range_succ, List.map_append, bulkAll_append]
          simp only [List.map_cons, List.map_nil, Rows.uptoBulkAll, sumB, List.map_append, List.sum_append, List.sum_cons, List.sum_nil] at h4 ⊢
          omega
    obtain ⟨vs, h1, h2, h3, h4⟩ := hall len (Nat.le_refl _)
    refine ⟨(some a, cap, vs), by subst h1; rfl, ⟨?_, h3⟩, ?_⟩
    · by_cases he : vs.flatMap cells = []
      · exact .inl he
      · obtain ⟨y, ys, hys⟩ := List.exists_cons_of_ne_nil he
        obtain ⟨b, off, spot⟩ := a
        have h0 := h2 0 y (by rw [hys]; rfl)
        have hspot : spot = none := by simpa [Addr.add] using World.cell?_spot h0
        subst hspot
        refine .inr ⟨b, off, rfl, fun j u hj => ?_⟩
        have := h2 j u hj
        rw [Addr.add_lit] at this
        exact this
    · simp only [Rows.uptoBulk]; omega

/-- Fields that stand one behind the other: types and places. -/
structure RF (P : Program) (fs : List (TypeId × Nat)) (off : Nat) {α : Type} (cells : α → List Value) (ok : World → α → Prop) (bulk : α → Nat) : Prop where
  run : ∀ {H : Type} {enc : TypeId × Value → H} {w : World} {base : Nat} {spare : Nat → Bool} {held : Bool} {fuel : Nat} {cs : List Value} {xs : List (DataW H × List MemPlace)},
    xs.length = fs.length → (∀ (i : Nat) (f : TypeId × Nat), fs[i]? = some f → DataW.trod enc P w base spare held fuel f.1 ((cs.drop f.2).take (P.cellsOf f.1)) = xs[i]?) →
    ∃ v : α, (cs.drop off).take (cells v).length = cells v ∧ ok w v ∧ bulk v ≤ Rows.uptoBulkAll (xs.map (·.1))

theorem rf_nil (P : Program) (off : Nat) : RF P [] off (fun _ : Unit => []) (fun _ _ => True) (fun _ => 0) := by
  constructor
  intro H enc w base spare held fuel cs xs hl hf
  exact ⟨(), rfl, trivial, Nat.zero_le _⟩

theorem rf_cons {α β : Type} {t : TypeId} {fs : List (TypeId × Nat)} (off n : Nat) {cells : α → List Value} {ok : World → α → Prop} {bulk : α → Nat} {cells' : β → List Value} {ok' : World → β → Prop} {bulk' : β → Nat}
    (h : Reads P t cells ok bulk) (hn : P.cellsOf t = n) (hc : ∀ v, (cells v).length = n) (r : RF P fs (off + n) cells' ok' bulk') :
    RF P ((t, off) :: fs) off (fun v : α × β => cells v.1 ++ cells' v.2) (fun w v => ok w v.1 ∧ ok' w v.2) (fun v => bulk v.1 + bulk' v.2) := by
  constructor
  intro H enc w base spare held fuel cs xs hl hf
  cases xs with
  | nil => simp at hl
  | cons x xs =>
    have h0 := hf 0 _ rfl
    dsimp only at h0
    rw [hn] at h0
    obtain ⟨v, h1, h2, h3⟩ := h.run h0
    obtain ⟨u, h4, h5, h6⟩ := r.run (enc := enc) (w := w) (base := base) (spare := spare) (held := held) (fuel := fuel) (cs := cs) (xs := xs) (by simpa using hl) fun i g hg => by
      have := hf (i + 1) g (by simpa using hg)
      simpa using this
    refine ⟨(v, u), ?_, ⟨h2, h5⟩, ?_⟩
    · rw [List.length_append, hc, List.take_add, h1, List.drop_drop, h4]
    · simp only [List.map_cons, Rows.uptoBulkAll]; omega

theorem reads_struct {α : Type} {fs : Array Field} {l : List (TypeId × Nat)} {cells : α → List Value} {ok : World → α → Prop} {bulk : α → Nat} (ht : P.underlying t = some (.struct fs)) (hl : fs.toList.map (fun f => (f.type, f.offset)) = l) (n : Nat) (hn : P.cellsOf t = n) (r : RF P l 0 cells ok bulk) (hc : ∀ v, (cells v).length = n) :
    Reads P t cells ok (fun v => bulk v + 1) := by
  constructor
  intro H enc w base spare held fuel cs x hx
  obtain ⟨xs, m, rfl, rfl, h1, h2, h3⟩ := DataW.trod_struct ht hx
  subst hl
  obtain ⟨v, h4, h5, h6⟩ := r.run (enc := enc) (w := w) (base := base) (spare := spare) (held := held) (fuel := m) (cs := cs) (xs := xs) (by simpa using h2) fun i f hf => by
    rw [List.getElem?_map] at hf
    obtain ⟨g, hg, rfl⟩ := Option.map_eq_some_iff.1 hf
    exact h3 i g (by simpa using hg)
  refine ⟨v, ?_, h5, ?_⟩
  · rw [List.drop_zero, hc, ← hn, ← h1, List.take_length] at h4
    exact h4
  · simp only [Rows.uptoBulk]; omega

end
end Go.X
