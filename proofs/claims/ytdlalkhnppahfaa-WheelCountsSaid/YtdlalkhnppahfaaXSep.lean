/-
  What a call owns, block by block, and what the steps of the engine do to it: over whatever program.
-/
import Derived.Test.YtdlalkhnppahfaaXDen
namespace Go.X
open Go

/-- What can be said of some blocks of a world. -/
structure A where
  Φ : World → (Nat → Prop) → Prop
  loc : ∀ {w w' : World} {D : Nat → Prop}, (∀ k, D k → w'.heap[k]? = w.heap[k]?) → Φ w D → Φ w' D
  inh : ∀ {w : World} {D : Nat → Prop}, Φ w D → ∀ k, D k → k < w.heap.size

def Sat (w : World) : List A → (Nat → Prop) → Prop
  | [], D => ∀ k, ¬ D k
  | a :: r, D => ∃ D1 D2 : Nat → Prop, (∀ k, D k ↔ (D1 k ∨ D2 k)) ∧ (∀ k, D1 k → ¬ D2 k) ∧ a.Φ w D1 ∧ Sat w r D2

/-- Nothing that was there in w0 has turned. -/
structure Base (w0 w : World) : Prop where
  os : w.os = w0.os
  tape : w.tape = w0.tape
  output : w.output = w0.output
  size : w0.heap.size ≤ w.heap.size
  block : ∀ k, k < w0.heap.size → w.heap[k]? = w0.heap[k]?

/-- Since w0 nothing old has turned; of what is new these blocks are ours. -/
def Has (w0 w : World) (l : List A) : Prop := Base w0 w ∧ ∃ D, Sat w l D ∧ ∀ k, D k → w0.heap.size ≤ k

theorem Base.refl (w : World) : Base w w := ⟨rfl, rfl, rfl, Nat.le_refl _, fun _ _ => rfl⟩
theorem Base.trans {a b c : World} (h : Base a b) (k : Base b c) : Base a c :=
  ⟨k.os.trans h.os, k.tape.trans h.tape, k.output.trans h.output, Nat.le_trans h.size k.size, fun i hi => (k.block i (Nat.lt_of_lt_of_le hi h.size)).trans (h.block i hi)⟩

theorem Sat.loc {w w' : World} : ∀ {l : List A} {D : Nat → Prop}, (∀ k, D k → w'.heap[k]? = w.heap[k]?) → Sat w l D → Sat w' l D
  | [], _, _, h => h
  | a :: r, D, hd, ⟨D1, D2, hu, hx, ha, hr⟩ => ⟨D1, D2, hu, hx, a.loc (fun k hk => hd k ((hu k).2 (.inl hk))) ha, Sat.loc (fun k hk => hd k ((hu k).2 (.inr hk))) hr⟩

theorem Sat.inh {w : World} : ∀ {l : List A} {D : Nat → Prop}, Sat w l D → ∀ k, D k → k < w.heap.size
  | [], _, h, k, hk => (h k hk).elim
  | a :: r, D, ⟨D1, D2, hu, hx, ha, hr⟩, k, hk => by
    rcases (hu k).1 hk with h | h
    · exact a.inh ha k h
    · exact hr.inh k h

theorem Has.start (w : World) : Has w w [] := ⟨Base.refl w, fun _ => False, fun _ h => h, fun _ h => h.elim⟩

theorem Has.base {w0 w : World} {l : List A} (h : Has w0 w l) : Base w0 w := h.1

theorem Has.drop {w0 w : World} {a : A} {r : List A} (h : Has w0 w (a :: r)) : Has w0 w r := by
  obtain ⟨hb, D, ⟨D1, D2, hu, hx, ha, hr⟩, hge⟩ := h
  exact ⟨hb, D2, hr, fun k hk => hge k ((hu k).2 (.inr hk))⟩

theorem Has.swap {w0 w : World} {a b : A} {r : List A} (h : Has w0 w (a :: b :: r)) : Has w0 w (b :: a :: r) := by
  obtain ⟨hb, D, ⟨D1, D2, hu, hx, ha, D3, D4, hu2, hx2, hb2, hr⟩, hge⟩ := h
  refine ⟨hb, D, ⟨D3, fun k => D1 k ∨ D4 k, fun k => ?_, fun k h3 h => ?_, hb2, D1, D4, fun k => Iff.rfl, fun k h1 h4 => hx k h1 ((hu2 k).2 (.inr h4)), ha, hr⟩, hge⟩
  · rw [hu, hu2]; constructor <;> (rintro (h | h | h) <;> simp [h])
  · rcases h with h | h
    · exact hx k h ((hu2 k).2 (.inl h3))
    · exact hx2 k h3 h

theorem Has.under {w0 w : World} {a : A} {r r' : List A} (h : Has w0 w (a :: r)) (f : ∀ w1, Has w1 w r → Has w1 w r') (hw : ∀ {D : Nat → Prop}, Sat w r D → Sat w r' D) : Has w0 w (a :: r') := by
  obtain ⟨hb, D, ⟨D1, D2, hu, hx, ha, hr⟩, hge⟩ := h
  exact ⟨hb, D, ⟨D1, D2, hu, hx, ha, hw hr⟩, hge⟩

theorem Sat.swap {w : World} {a b : A} {r : List A} {D : Nat → Prop} (h : Sat w (a :: b :: r) D) : Sat w (b :: a :: r) D := by
  obtain ⟨D1, D2, hu, hx, ha, D3, D4, hu2, hx2, hb2, hr⟩ := h
  refine ⟨D3, fun k => D1 k ∨ D4 k, fun k => ?_, fun k h3 h => ?_, hb2, D1, D4, fun k => Iff.rfl, fun k h1 h4 => hx k h1 ((hu2 k).2 (.inr h4)), ha, hr⟩
  · rw [hu, hu2]; constructor <;> (rintro (h | h | h) <;> simp [h])
  · rcases h with h | h
    · exact hx k h ((hu2 k).2 (.inl h3))
    · exact hx2 k h3 h

theorem Sat.perm {w : World} {l l' : List A} (p : l.Perm l') : ∀ {D : Nat → Prop}, Sat w l D → Sat w l' D := by
  induction p with
  | nil => exact fun h => h
  | cons a _ ih => rintro D ⟨D1, D2, hu, hx, ha, hr⟩; exact ⟨D1, D2, hu, hx, ha, ih hr⟩
  | swap a b l => exact fun h => h.swap
  | trans _ _ h1 h2 => exact fun h => h2 (h1 h)

theorem Has.perm {w0 w : World} {l l' : List A} (h : Has w0 w l) (p : l.Perm l') : Has w0 w l' := ⟨h.1, h.2.choose, h.2.choose_spec.1.perm p, h.2.choose_spec.2⟩

section
variable {w0 w : World} {a b c d e f g x : A} {r : List A}
/-- The so-many-th comes to the front. -/
theorem Has.f1 (h : Has w0 w (a :: x :: r)) : Has w0 w (x :: a :: r) := h.swap
theorem Has.f2 (h : Has w0 w (a :: b :: x :: r)) : Has w0 w (x :: a :: b :: r) := h.perm (List.perm_middle (l₁ := [a, b]))
theorem Has.f3 (h : Has w0 w (a :: b :: c :: x :: r)) : Has w0 w (x :: a :: b :: c :: r) := h.perm (List.perm_middle (l₁ := [a, b, c]))
theorem Has.f4 (h : Has w0 w (a :: b :: c :: d :: x :: r)) : Has w0 w (x :: a :: b :: c :: d :: r) := h.perm (List.perm_middle (l₁ := [a, b, c, d]))
theorem Has.f5 (h : Has w0 w (a :: b :: c :: d :: e :: x :: r)) : Has w0 w (x :: a :: b :: c :: d :: e :: r) := h.perm (List.perm_middle (l₁ := [a, b, c, d, e]))
theorem Has.f6 (h : Has w0 w (a :: b :: c :: d :: e :: f :: x :: r)) : Has w0 w (x :: a :: b :: c :: d :: e :: f :: r) := h.perm (List.perm_middle (l₁ := [a, b, c, d, e, f]))
theorem Has.f7 (h : Has w0 w (a :: b :: c :: d :: e :: f :: g :: x :: r)) : Has w0 w (x :: a :: b :: c :: d :: e :: f :: g :: r) := h.perm (List.perm_middle (l₁ := [a, b, c, d, e, f, g]))
/-- The first goes behind so many. -/
theorem Has.b1 (h : Has w0 w (x :: a :: r)) : Has w0 w (a :: x :: r) := h.swap
theorem Has.b2 (h : Has w0 w (x :: a :: b :: r)) : Has w0 w (a :: b :: x :: r) := h.perm (List.perm_middle (l₁ := [a, b])).symm
theorem Has.b3 (h : Has w0 w (x :: a :: b :: c :: r)) : Has w0 w (a :: b :: c :: x :: r) := h.perm (List.perm_middle (l₁ := [a, b, c])).symm
theorem Has.b4 (h : Has w0 w (x :: a :: b :: c :: d :: r)) : Has w0 w (a :: b :: c :: d :: x :: r) := h.perm (List.perm_middle (l₁ := [a, b, c, d])).symm
theorem Has.b5 (h : Has w0 w (x :: a :: b :: c :: d :: e :: r)) : Has w0 w (a :: b :: c :: d :: e :: x :: r) := h.perm (List.perm_middle (l₁ := [a, b, c, d, e])).symm
end

/-! ### The pieces -/

def blk (b : Nat) (o : Obj) : A where
  Φ := fun w D => (∀ k, D k ↔ k = b) ∧ w.heap[b]? = some o
  loc := fun hd h => ⟨h.1, (hd b ((h.1 b).2 rfl)).trans h.2⟩
  inh := fun h k hk => by
    rw [h.1] at hk; subst hk
    exact (Array.getElem?_eq_some_iff.1 h.2).1

/-- A block of cells. -/
def ca (b : Nat) (T : TypeId) (vs : List Value) : A := blk b (.cells vs.toArray T (0, 0))

def emp : A where
  Φ := fun _ D => ∀ k, ¬ D k
  loc := fun _ h => h
  inh := fun h k hk => (h k hk).elim

def pur' (p : Prop) : A where
  Φ := fun _ D => (∀ k, ¬ D k) ∧ p
  loc := fun _ h => h
  inh := fun h k hk => (h.1 k hk).elim

def star (a b : A) : A where
  Φ := fun w D => ∃ D1 D2 : Nat → Prop, (∀ k, D k ↔ (D1 k ∨ D2 k)) ∧ (∀ k, D1 k → ¬ D2 k) ∧ a.Φ w D1 ∧ b.Φ w D2
  loc := fun hd ⟨D1, D2, hu, hx, ha, hb⟩ => ⟨D1, D2, hu, hx, a.loc (fun k hk => hd k ((hu k).2 (.inl hk))) ha, b.loc (fun k hk => hd k ((hu k).2 (.inr hk))) hb⟩
  inh := fun ⟨D1, D2, hu, hx, ha, hb⟩ k hk => by
    rcases (hu k).1 hk with h | h
    · exact a.inh ha k h
    · exact b.inh hb k h

def ex {α : Type} (f : α → A) : A where
  Φ := fun w D => ∃ x, (f x).Φ w D
  loc := fun hd ⟨x, h⟩ => ⟨x, (f x).loc hd h⟩
  inh := fun ⟨x, h⟩ => (f x).inh h

theorem Has.star {w0 w : World} {a b : A} {r : List A} (h : Has w0 w (star a b :: r)) : Has w0 w (a :: b :: r) := by
  obtain ⟨hb, D, ⟨D1, D2, hu, hx, ⟨D3, D4, hu2, hx2, ha, hb2⟩, hr⟩, hge⟩ := h
  refine ⟨hb, D, ⟨D3, fun k => D4 k ∨ D2 k, fun k => ?_, fun k h3 h => ?_, ha, D4, D2, fun k => Iff.rfl, fun k h4 h2 => hx k ((hu2 k).2 (.inr h4)) h2, hb2, hr⟩, hge⟩
  · rw [hu, hu2]; exact or_assoc
  · rcases h with h | h
    · exact hx2 k h3 h
    · exact hx k ((hu2 k).2 (.inl h3)) h

theorem Has.unstar {w0 w : World} {a b : A} {r : List A} (h : Has w0 w (a :: b :: r)) : Has w0 w (X.star a b :: r) := by
  obtain ⟨hb, D, ⟨D3, D5, hu, hx, ha, D4, D2, hu2, hx2, hb2, hr⟩, hge⟩ := h
  refine ⟨hb, D, ⟨fun k => D3 k ∨ D4 k, D2, fun k => ?_, fun k h h2 => ?_, ⟨D3, D4, fun k => Iff.rfl, fun k h3 h4 => hx k h3 ((hu2 k).2 (.inl h4)), ha, hb2⟩, hr⟩, hge⟩
  · rw [hu, hu2]; exact or_assoc.symm
  · rcases h with h | h
    · exact hx k h ((hu2 k).2 (.inr h2))
    · exact hx2 k h h2

theorem Has.ex {w0 w : World} {α : Type} {f : α → A} {r : List A} (h : Has w0 w (ex f :: r)) : ∃ x, Has w0 w (f x :: r) := by
  obtain ⟨hb, D, ⟨D1, D2, hu, hx, ⟨x, ha⟩, hr⟩, hge⟩ := h
  exact ⟨x, hb, D, ⟨D1, D2, hu, hx, ha, hr⟩, hge⟩

theorem Has.mkex {w0 w : World} {α : Type} {f : α → A} {r : List A} (x : α) (h : Has w0 w (f x :: r)) : Has w0 w (X.ex f :: r) := by
  obtain ⟨hb, D, ⟨D1, D2, hu, hx, ha, hr⟩, hge⟩ := h
  exact ⟨hb, D, ⟨D1, D2, hu, hx, ⟨x, ha⟩, hr⟩, hge⟩

theorem Has.pur {w0 w : World} {p : Prop} {r : List A} (h : Has w0 w (pur' p :: r)) : p ∧ Has w0 w r := by
  refine ⟨?_, h.drop⟩
  obtain ⟨hb, D, ⟨D1, D2, hu, hx, ha, hr⟩, hge⟩ := h
  exact ha.2

theorem Has.mkpur {w0 w : World} {p : Prop} {r : List A} (hp : p) (h : Has w0 w r) : Has w0 w (pur' p :: r) := by
  obtain ⟨hb, D, hr, hge⟩ := h
  exact ⟨hb, D, ⟨fun _ => False, D, fun k => by simp, fun _ h => h.elim, ⟨fun _ h => h, hp⟩, hr⟩, hge⟩

theorem Has.mkemp {w0 w : World} {r : List A} (h : Has w0 w r) : Has w0 w (emp :: r) := by
  obtain ⟨hb, D, hr, hge⟩ := h
  exact ⟨hb, D, ⟨fun _ => False, D, fun k => by simp, fun _ h => h.elim, fun _ h => h, hr⟩, hge⟩

/-- What holds of one piece alone. -/
theorem Has.imp {w0 w : World} {a b : A} {r : List A} (h : Has w0 w (a :: r)) (f : ∀ D, a.Φ w D → b.Φ w D) : Has w0 w (b :: r) := by
  obtain ⟨hb, D, ⟨D1, D2, hu, hx, ha, hr⟩, hge⟩ := h
  exact ⟨hb, D, ⟨D1, D2, hu, hx, f _ ha, hr⟩, hge⟩

theorem Has.get {w0 w : World} {b : Nat} {o : Obj} {r : List A} (h : Has w0 w (blk b o :: r)) : w.heap[b]? = some o := by
  obtain ⟨hb, D, ⟨D1, D2, hu, hx, ha, hr⟩, hge⟩ := h
  exact ha.2

theorem Has.ge {w0 w : World} {b : Nat} {o : Obj} {r : List A} (h : Has w0 w (blk b o :: r)) : w0.heap.size ≤ b := by
  obtain ⟨hb, D, ⟨D1, D2, hu, hx, ha, hr⟩, hge⟩ := h
  exact hge b ((hu b).2 (.inl ((ha.1 b).2 rfl)))

theorem Has.ne {w0 w : World} {b b' : Nat} {o o' : Obj} {r : List A} (h : Has w0 w (blk b o :: blk b' o' :: r)) : b ≠ b' := by
  obtain ⟨hb, D, ⟨D1, D2, hu, hx, ha, D3, D4, hu2, hx2, ha2, hr⟩, hge⟩ := h
  rintro rfl
  exact hx b ((ha.1 b).2 rfl) ((hu2 b).2 (.inl ((ha2.1 b).2 rfl)))

theorem Has.cell {w0 w : World} {b i : Nat} {T : TypeId} {vs : List Value} {v : Value} {r : List A} (h : Has w0 w (ca b T vs :: r)) (hi : vs[i]? = some v) : w.cell? ⟨b, i, none⟩ = some v := by
  rw [cell_of_row w b i _ _ _ h.get]; simpa using hi

theorem Has.row {w0 w : World} {b o : Nat} {T : TypeId} {vs xs : List Value} {r : List A} (h : Has w0 w (ca b T vs :: r)) (hi : (vs.drop o).take xs.length = xs) : rdRow w b o xs := by
  intro j v hj
  refine h.cell ?_
  rw [← hi, List.getElem?_take] at hj
  split at hj
  · simpa using hj
  · cases hj

/-- A block below w0's end is as it was. -/
theorem Has.old {w0 w : World} {l : List A} (h : Has w0 w l) {a : Addr} {v : Value} (hc : w0.cell? a = some v) : w.cell? a = some v :=
  (World.cell?_of_block (h.base.block a.block (World.block_lt_of_cell? w0 a hc))).trans hc

/-! ### The engine's steps -/

/-- One block turns to another object, all else stays. -/
theorem Has.turn {w0 w w' : World} {b : Nat} {o o' : Obj} {r : List A} (h : Has w0 w (blk b o :: r)) (ho : w'.os = w.os) (ht : w'.tape = w.tape) (hp : w'.output = w.output) (hs : w'.heap.size = w.heap.size)
    (hb : w'.heap[b]? = some o') (hk : ∀ k, k ≠ b → w'.heap[k]? = w.heap[k]?) : Has w0 w' (blk b o' :: r) := by
  have hge := h.ge
  obtain ⟨hb0, D, ⟨D1, D2, hu, hx, ha, hr⟩, hge2⟩ := h
  refine ⟨⟨ho.trans hb0.os, ht.trans hb0.tape, hp.trans hb0.output, by rw [hs]; exact hb0.size, fun k hk0 => (hk k (by omega)).trans (hb0.block k hk0)⟩, D, ⟨D1, D2, hu, hx, ⟨ha.1, hb⟩, hr.loc fun k hk2 => hk k fun e => ?_⟩, hge2⟩
  subst e
  exact hx k ((ha.1 k).2 rfl) hk2

theorem Has.new {w0 w : World} {r : List A} (h : Has w0 w r) (o : Obj) : Has w0 (w.alloc o) (blk w.heap.size o :: r) := by
  obtain ⟨hb, D, hr, hge⟩ := h
  have hin := hr.inh
  refine ⟨⟨hb.os, hb.tape, hb.output, by simp; have := hb.size; omega, fun k hk => ?_⟩, fun k => k = w.heap.size ∨ D k, ⟨fun k => k = w.heap.size, D, fun k => Iff.rfl, fun k hk hd => ?_, ⟨fun k => Iff.rfl, heap_alloc_new w o⟩, hr.loc fun k hk => heap_alloc_old w o (hin k hk)⟩, fun k hk => ?_⟩
  · rw [heap_alloc_old w o (Nat.lt_of_lt_of_le hk hb.size)]; exact hb.block k hk
  · subst hk; exact absurd (hin _ hd) (Nat.lt_irrefl _)
  · rcases hk with rfl | hk
    · exact hb.size
    · exact hge k hk

theorem Has.al {w0 w : World} {r : List A} {o : Obj} {K : Nat → World → Prop} (h : Has w0 w r) (k : ∀ b w', Has w0 w' (blk b o :: r) → K b w') : alD w o K := by
  rintro b w' rfl rfl
  exact k _ _ (h.new o)

theorem Has.same {w0 w w' : World} {r : List A} (h : Has w0 w r) (ho : w'.os = w.os) (ht : w'.tape = w.tape) (hp : w'.output = w.output) (hh : w'.heap = w.heap) : Has w0 w' r := by
  obtain ⟨hb, D, hr, hge⟩ := h
  exact ⟨⟨ho.trans hb.os, ht.trans hb.tape, hp.trans hb.output, by rw [hh]; exact hb.size, fun k hk => by rw [hh]; exact hb.block k hk⟩, D, hr.loc fun k _ => by rw [hh], hge⟩

theorem Has.drew {w0 w : World} {r : List A} (h : Has w0 w r) : Has w0 w.drew r := h.same rfl rfl rfl rfl

theorem Has.dr {w0 w : World} {r : List A} {K : World → Prop} (h : Has w0 w r) (k : ∀ w', Has w0 w' r → K w') : drewD w K := by
  rintro w' rfl
  exact k _ h.drew

/-- A list with some of its elements set. -/
def wr : List Value → Nat → List Value → List Value
  | l, _, [] => l
  | l, o, v :: r => wr (l.set o v) (o + 1) r

theorem setCells_block (b : Nat) : ∀ (xs : List Value) (o : Nat) (w : World) (k : Nat), k ≠ b → (w.setCells b o xs).heap[k]? = w.heap[k]?
  | [], _, _, _, _ => rfl
  | x :: xs, o, w, k, h => by
    rw [World.setCells, setCells_block b xs (o + 1) _ k h]
    simp only [World.setCell, Array.getElem?_modify]
    rw [if_neg (fun e => h e.symm)]

theorem setCells_at (b : Nat) {T : TypeId} {mk : Nat × Nat} : ∀ (xs : List Value) (o : Nat) (w : World) (vs : List Value), w.heap[b]? = some (.cells vs.toArray T mk) →
    (w.setCells b o xs).heap[b]? = some (.cells (wr vs o xs).toArray T mk)
  | [], _, _, _, h => h
  | x :: xs, o, w, vs, h => by
    rw [World.setCells, wr]
    refine setCells_at b xs (o + 1) _ (vs.set o x) ?_
    simp only [World.setCell, Array.getElem?_modify, if_true, h, Option.map_some]
    simp

theorem setCells_rest (b : Nat) : ∀ (xs : List Value) (o : Nat) (w : World), (w.setCells b o xs).os = w.os ∧ (w.setCells b o xs).tape = w.tape ∧ (w.setCells b o xs).output = w.output ∧ (w.setCells b o xs).heap.size = w.heap.size
  | [], _, _ => ⟨rfl, rfl, rfl, rfl⟩
  | x :: xs, o, w => by
    rw [World.setCells]
    obtain ⟨h1, h2, h3, h4⟩ := setCells_rest b xs (o + 1) (w.setCell ⟨b, o, none⟩ x)
    exact ⟨h1, h2, h3, by rw [h4]; simp⟩

theorem wr_length : ∀ (xs : List Value) (l : List Value) (o : Nat), (wr l o xs).length = l.length
  | [], _, _ => rfl
  | x :: xs, l, o => by rw [wr, wr_length xs]; simp

/-- A store into a block of cells whose frozen part is not touched. -/
theorem Has.stm {w0 w : World} {b o : Nat} {T : TypeId} {vs xs : List Value} {mk : Nat × Nat} {r : List A} {K : World → Prop} (h : Has w0 w (blk b (.cells vs.toArray T mk) :: r))
    (hl : o + xs.length ≤ vs.length) (hm : ∀ j, o ≤ j → j < o + xs.length → ¬ (mk.1 ≤ j ∧ j < mk.2)) (h1 : ∀ x ∈ xs, x.oneCell' = true)
    (k : ∀ w', Has w0 w' (blk b (.cells (wr vs o xs).toArray T mk) :: r) → K w') : stD w b o xs K := by
  have hg := h.get
  refine ⟨fun j hj => ⟨?_, ?_⟩, h1, k _ ?_⟩
  · rw [cell_of_row w b (o + j) _ _ _ hg]
    have : o + j < vs.length := by omega
    simp [this]
  · unfold World.frozen?
    simp only [hg]
    have := hm (o + j) (by omega) (by omega)
    simpa using this
  · obtain ⟨e1, e2, e3, e4⟩ := setCells_rest b xs o w
    exact h.turn e1 e2 e3 e4 (setCells_at b xs o w vs hg) (fun j hj => setCells_block b xs o w j hj)

theorem Has.st {w0 w : World} {b o : Nat} {T : TypeId} {vs xs : List Value} {r : List A} {K : World → Prop} (h : Has w0 w (ca b T vs :: r))
    (hl : o + xs.length ≤ vs.length) (h1 : xs.all Value.oneCell' = true) (k : ∀ w', Has w0 w' (ca b T (wr vs o xs) :: r) → K w') : stD w b o xs K :=
  Has.stm h hl (fun j _ _ h => by omega) (fun x hx => List.all_eq_true.1 h1 x hx) k


/-! ### Slices -/

/-- A slice whose row is ours: its cells hold these values; there may be room behind them. -/
def ow (T : TypeId) (sz : Nat) (a : Option Addr) (n c : Nat) (xs : List Value) : A where
  Φ := fun w D => xs.length = n * sz ∧
    ((a = none ∧ n = 0 ∧ c = 0 ∧ ∀ k, ¬ D k) ∨
     ∃ b cur mk, a = some ⟨b, 0, none⟩ ∧ (∀ k, D k ↔ k = b) ∧ w.heap[b]? = some (.cells cur T mk) ∧ n ≤ c ∧ c ≤ maxLen ∧ c * sz ≤ cur.size ∧ cur.toList.take (n * sz) = xs ∧ (mk.2 ≤ mk.1 ∨ cur.size ≤ mk.1))
  loc := fun hd h => ⟨h.1, by
    rcases h.2 with h | ⟨b, cur, mk, h1, h2, h3, h4⟩
    · exact .inl h
    · exact .inr ⟨b, cur, mk, h1, h2, (hd b ((h2 b).2 rfl)).trans h3, h4⟩⟩
  inh := fun h k hk => by
    rcases h.2 with h | ⟨b, cur, mk, h1, h2, h3, h4⟩
    · exact (h.2.2.2 k hk).elim
    · rw [h2] at hk; subst hk; exact (Array.getElem?_eq_some_iff.1 h3).1

theorem Has.mkow0 {w0 w : World} {r : List A} (T : TypeId) (sz : Nat) (h : Has w0 w r) : Has w0 w (ow T sz none 0 0 [] :: r) := by
  obtain ⟨hb, D, hr, hge⟩ := h
  exact ⟨hb, D, ⟨fun _ => False, D, fun k => by simp, fun _ h => h.elim, ⟨by simp, .inl ⟨rfl, rfl, rfl, fun _ h => h⟩⟩, hr⟩, hge⟩

/-- A new block as a slice. -/
theorem Has.mkow {w0 w : World} {r : List A} {b : Nat} {T : TypeId} {sz n : Nat} {vs : List Value} (h : Has w0 w (ca b T vs :: r)) (hl : vs.length = n * sz) (hn : n ≤ maxLen) : Has w0 w (ow T sz (some ⟨b, 0, none⟩) n n vs :: r) :=
  h.imp fun D hd => ⟨hl, .inr ⟨b, vs.toArray, (0, 0), rfl, hd.1, hd.2, Nat.le_refl _, hn, by simp [hl], by simp [← hl], .inl (Nat.le_refl _)⟩⟩

theorem Has.owLen {w0 w : World} {r : List A} {T : TypeId} {sz n c : Nat} {a : Option Addr} {xs : List Value} (h : Has w0 w (ow T sz a n c xs :: r)) : xs.length = n * sz ∧ n ≤ c ∧ c ≤ maxLen := by
  obtain ⟨hb, D, ⟨D1, D2, hu, hx, ha, hr⟩, hge⟩ := h
  refine ⟨ha.1, ?_⟩
  rcases ha.2 with ⟨_, rfl, rfl, _⟩ | ⟨b, cur, mk, h1, h2, h3, h4, h5, _⟩
  · exact ⟨Nat.le_refl _, Nat.zero_le _⟩
  · exact ⟨h4, h5⟩

/-- The cells of a slice that is ours. -/
theorem Has.owCell {w0 w : World} {r : List A} {T : TypeId} {sz n c : Nat} {a : Option Addr} {xs : List Value} (h : Has w0 w (ow T sz a n c xs :: r)) (hn : 0 < n) :
    ∃ b, a = some ⟨b, 0, none⟩ ∧ ∀ j v, xs[j]? = some v → w.cell? ⟨b, j, none⟩ = some v := by
  obtain ⟨hb, D, ⟨D1, D2, hu, hx, ha, hr⟩, hge⟩ := h
  rcases ha.2 with ⟨_, rfl, _, _⟩ | ⟨b, cur, mk, rfl, h2, h3, h4, h5, h6, h7, _⟩
  · omega
  · refine ⟨b, rfl, fun j v hj => ?_⟩
    rw [cell_of_row w b j cur T mk h3]
    rw [← h7, List.getElem?_take] at hj
    split at hj
    · simpa using hj
    · cases hj

end Go.X
