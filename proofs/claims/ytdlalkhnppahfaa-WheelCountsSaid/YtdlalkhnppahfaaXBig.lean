/-
  Many pieces as one; pieces that hold cells alone, which a loop over a function leaves alone: over whatever program.
-/
import Derived.Test.YtdlalkhnppahfaaXRo
import Derived.Test.YtdlalkhnppahfaaXDenIn
import Derived.Test.YtdlalkhnppahfaaXPool
namespace Go.X
open Go

/-- All of these. -/
def big : List A → A
  | [] => emp
  | a :: l => star a (big l)

theorem Has.emp {w0 w : World} {r : List A} (H : Has w0 w (emp :: r)) : Has w0 w r := H.drop

theorem Has.big_pick {w0 w : World} : ∀ {l : List A} {r : List A} {i : Nat}, Has w0 w (big l :: r) → (h : i < l.length) → Has w0 w (l[i] :: big (l.eraseIdx i) :: r)
  | a :: l, r, 0, H, _ => H.star
  | a :: l, r, i + 1, H, h => by
    have h' : i < l.length := by simpa using h
    have H1 : Has w0 w (big l :: a :: r) := H.star.f1
    have H2 := Has.big_pick H1 h'
    have H3 : Has w0 w (a :: big (l.eraseIdx i) :: l[i] :: r) := H2.ro [2, 1, 0]
    exact (Has.unstar H3).f1

theorem Has.big_put {w0 w : World} {x : A} : ∀ {l : List A} {r : List A} {i : Nat}, Has w0 w (x :: big (l.eraseIdx i) :: r) → i < l.length → Has w0 w (big (l.set i x) :: r)
  | a :: l, r, 0, H, _ => H.unstar
  | a :: l, r, i + 1, H, h => by
    have h' : i < l.length := by simpa using h
    have H1 : Has w0 w (a :: big (l.eraseIdx i) :: x :: r) := H.f1.star
    have H2 : Has w0 w (x :: big (l.eraseIdx i) :: a :: r) := H1.ro [2, 1, 0]
    exact ((Has.big_put H2 h').f1).unstar

/-! ### Cells alone -/

def co1 (a : A) : Prop := ∀ w D, a.Φ w D → ∀ k, D k → ∃ o : Obj, w.heap[k]? = some o ∧ o.isCells = true
def CO : List A → Prop
  | [] => True
  | a :: l => co1 a ∧ CO l

@[simp] theorem CO_nil : CO [] := trivial
@[simp] theorem CO_cons (a : A) (l : List A) : CO (a :: l) ↔ co1 a ∧ CO l := Iff.rfl
@[simp] theorem co_blk (b : Nat) (vs : Array Value) (T : TypeId) (mk : Nat × Nat) : co1 (blk b (.cells vs T mk)) := fun w D h k hk => by
  rw [h.1] at hk; subst hk; exact ⟨_, h.2, rfl⟩
@[simp] theorem co_ca (b T : Nat) (vs : List Value) : co1 (ca b T vs) := co_blk _ _ _ _
@[simp] theorem co_ow (T sz : Nat) (a : Option Addr) (n c : Nat) (xs : List Value) : co1 (ow T sz a n c xs) := fun w D h k hk => by
  rcases h.2 with ⟨_, _, _, hD⟩ | ⟨b, cur, mk, _, hD, hc, _⟩
  · exact absurd hk (hD k)
  · rw [hD] at hk; subst hk; exact ⟨_, hc, rfl⟩
@[simp] theorem co_emp : co1 emp := fun w D h k hk => absurd hk (h k)
@[simp] theorem co_pur (p : Prop) : co1 (pur' p) := fun w D h k hk => absurd hk (h.1 k)
theorem co_star {a b : A} (ha : co1 a) (hb : co1 b) : co1 (star a b) := fun w D h k hk => by
  obtain ⟨D1, D2, hu, _, h1, h2⟩ := h
  rcases (hu k).1 hk with h | h
  · exact ha w D1 h1 k h
  · exact hb w D2 h2 k h
theorem co_ex {α : Type} {f : α → A} (h : ∀ x, co1 (f x)) : co1 (ex f) := fun w D hw k hk => by
  obtain ⟨x, hx⟩ := hw
  exact h x w D hx k hk
theorem co_big : ∀ {l : List A}, (∀ a ∈ l, co1 a) → co1 (big l)
  | [], _ => co_emp
  | a :: l, h => co_star (h a (.head _)) (co_big fun x hx => h x (.tail _ hx))

theorem CO.mem {l : List A} (h : CO l) : ∀ a ∈ l, co1 a := by
  induction l with
  | nil => intro a ha; cases ha
  | cons x l ih =>
    intro a ha
    rcases List.mem_cons.1 ha with rfl | ha
    · exact h.1
    · exact ih h.2 a ha

theorem Sat.co {w : World} : ∀ {l : List A} {D : Nat → Prop}, CO l → Sat w l D → ∀ k, D k → ∃ o : Obj, w.heap[k]? = some o ∧ o.isCells = true
  | [], D, _, h, k, hk => absurd hk (h k)
  | a :: l, D, hc, ⟨D1, D2, hu, _, h1, h2⟩, k, hk => by
    rcases (hu k).1 hk with h | h
    · exact hc.1 w D1 h1 k h
    · exact Sat.co hc.2 h2 k h

/-- A loop's own blocks may turn. -/
theorem Has.loose {w0 W W' : World} {l : List A} (H : Has w0 W l) (hc : CO l) {row : Option Nat} (hg : W.grownBy W' row) (hr : ∀ k, row = some k → w0.heap.size ≤ k ∧ ∃ o : Obj, W.heap[k]? = some o ∧ o.isCells = false) : Has w0 W' l := by
  obtain ⟨hb, D, hs, hge⟩ := H
  have hin := hs.inh
  have hco := hs.co hc
  refine ⟨⟨hg.os.trans hb.os, hg.tape.trans hb.tape, hg.output.trans hb.output, Nat.le_trans hb.size hg.size, fun k hk => ?_⟩, D, hs.loc fun k hk => ?_, hge⟩
  · refine (hg.block k (Nat.lt_of_lt_of_le hk hb.size) fun e => ?_).trans (hb.block k hk)
    have := (hr k e.symm).1
    omega
  · refine hg.block k (hin k hk) fun e => ?_
    obtain ⟨o, ho, hf⟩ := (hr k e.symm).2
    obtain ⟨o', ho', ht⟩ := hco k hk
    rw [ho] at ho'
    cases ho'
    rw [hf] at ht; cases ht

/-- A block that holds no cells, beside what is ours. -/
theorem Has.addBlk {w0 W : World} {l : List A} (H : Has w0 W l) (hc : CO l) {b : Nat} {o : Obj} (hb : W.heap[b]? = some o) (ho : o.isCells = false) (hge : w0.heap.size ≤ b) : Has w0 W (blk b o :: l) := by
  obtain ⟨hB, D, hs, hg⟩ := H
  refine ⟨hB, fun k => k = b ∨ D k, ⟨fun k => k = b, D, fun k => Iff.rfl, fun k hk hd => ?_, ⟨fun k => Iff.rfl, hb⟩, hs⟩, fun k hk => ?_⟩
  · subst hk
    obtain ⟨o', ho', ht⟩ := hs.co hc _ hd
    rw [hb] at ho'; cases ho'
    rw [ho] at ht; cases ht
  · rcases hk with rfl | hk
    · exact hge
    · exact hg k hk



theorem Has.addLoop {w0 w W : World} {l : List A} {rc : Loop} (H : Has w0 W l) (hc : CO l) (hk : keepsD w W rc) (hge : w0.heap.size ≤ w.heap.size) : Has w0 W (blk w.heap.size (.deferred (some [])) :: blk (w.heap.size + 1) (.loop rc) :: l) := by
  have H1 := H.addBlk hc hk.2 rfl (by omega)
  obtain ⟨hB, D, hs, hg⟩ := H1
  refine ⟨hB, fun k => k = w.heap.size ∨ D k, ⟨fun k => k = w.heap.size, D, fun k => Iff.rfl, fun k hk1 hd => ?_, ⟨fun k => Iff.rfl, hk.1⟩, hs⟩, fun k hk => ?_⟩
  · subst hk1
    obtain ⟨D1, D2, hu, _, h1, h2⟩ := hs
    rcases (hu _).1 hd with h | h
    · have := (h1.1 _).1 h; omega
    · obtain ⟨o', ho', ht⟩ := h2.co hc _ h
      rw [hk.1] at ho'; cases ho'
      cases ht
  · rcases hk with rfl | hk
    · exact hge
    · exact hg k hk

theorem Has.keeps {w0 w W : World} {l : List A} {rc : Loop} (H : Has w0 W (blk w.heap.size (.deferred (some [])) :: blk (w.heap.size + 1) (.loop rc) :: l)) : keepsD w W rc := ⟨H.get, H.f1.get⟩

/-- The block that a loop leaves behind is shut. -/
theorem Has.shut {w0 w W : World} {l : List A} (H : Has w0 W l) (hc : CO l) (hk : W.heap[w.heap.size]? = some (.deferred (some []))) (hge : w0.heap.size ≤ w.heap.size) : Has w0 (W.putObj w.heap.size (.deferred none)) l :=
  H.loose hc (grownBy_putObj' W w.heap.size (.deferred none)) fun k e => by cases e; exact ⟨hge, _, hk, rfl⟩

end Go.X
