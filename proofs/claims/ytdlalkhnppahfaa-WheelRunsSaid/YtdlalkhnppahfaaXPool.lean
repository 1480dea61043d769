/-
  Rows that are read alone and may be shared: over whatever program.
-/
import Derived.Test.YtdlalkhnppahfaaXView
namespace Go.X
open Go

/-- Rows that nobody writes any more; the same one may stand here more than once. -/
def pl (L : List (Option Addr × List Value)) : A where
  Φ := fun w D => (∀ k, D k → k < w.heap.size) ∧ ∀ p ∈ L, p.2 = [] ∨ ∃ b o, p.1 = some ⟨b, o, none⟩ ∧ D b ∧ ∀ j v, p.2[j]? = some v → w.cell? ⟨b, o + j, none⟩ = some v
  loc := fun {w w' D} hd h => ⟨fun k hk => by
      have h1 := h.1 k hk
      have h2 := hd k hk
      rw [Array.getElem?_eq_getElem h1] at h2
      exact (Array.getElem?_eq_some_iff.1 h2).1, fun p hp => by
      rcases h.2 p hp with h | ⟨b, o, ha, hb, hc⟩
      · exact .inl h
      · exact .inr ⟨b, o, ha, hb, fun j v hj => (World.cell?_of_block (hd b hb)).trans (hc j v hj)⟩⟩
  inh := fun h => h.1

section
variable {w0 w : World} {r : List A} {L : List (Option Addr × List Value)} {a : Option Addr} {xs : List Value}

theorem Has.pl0 (H : Has w0 w r) : Has w0 w (pl [] :: r) := by
  obtain ⟨hb, D, hr, hge⟩ := H
  exact ⟨hb, D, ⟨fun _ => False, D, fun k => by simp, fun _ h => h.elim, ⟨fun _ h => h.elim, fun p hp => by cases hp⟩, hr⟩, hge⟩

theorem Has.plVw (H : Has w0 w (pl L :: r)) (h : (a, xs) ∈ L) : Vw w a xs := by
  obtain ⟨hb, D, ⟨D1, D2, hu, hx, ha, hr⟩, hge⟩ := H
  rcases ha.2 _ h with h | ⟨b, o, h1, _, h2⟩
  · exact .inl h
  · exact .inr ⟨b, o, h1, h2⟩

theorem Has.plSub {L' : List (Option Addr × List Value)} (H : Has w0 w (pl L :: r)) (h : ∀ p ∈ L', p ∈ L) : Has w0 w (pl L' :: r) :=
  H.imp fun D hd => ⟨hd.1, fun p hp => hd.2 p (h p hp)⟩

/-- A row that is ours is written no more. -/
theorem Has.plAdd {T sz n c : Nat} (H : Has w0 w (ow T sz a n c xs :: pl L :: r)) : Has w0 w (pl ((a, xs) :: L) :: r) := by
  have hin := H
  obtain ⟨hb, D, ⟨D1, D3, hu, hx, ha, D2, D4, hu2, hx2, hp, hr⟩, hge⟩ := H
  have hv := hin.vw
  have hi1 := (ow T sz a n c xs).inh ha
  refine ⟨hb, D, ⟨fun k => D1 k ∨ D2 k, D4, fun k => ?_, fun k h h4 => ?_, ⟨fun k hk => ?_, fun p hpm => ?_⟩, hr⟩, hge⟩
  · rw [hu, hu2]; exact or_assoc.symm
  · rcases h with h | h
    · exact hx k h ((hu2 k).2 (.inr h4))
    · exact hx2 k h h4
  · rcases hk with hk | hk
    · exact hi1 k hk
    · exact hp.1 k hk
  · rcases List.mem_cons.1 hpm with rfl | hpm
    · rcases hv with hv | ⟨b, o, h1, h2⟩
      · exact .inl hv
      · refine .inr ⟨b, o, h1, .inl ?_, h2⟩
        rcases ha.2 with ⟨h3, _⟩ | ⟨b', cur, mk, h3, h4, _⟩
        · rw [h3] at h1; cases h1
        · rw [h3] at h1
          simp only [Option.some.injEq, Addr.mk.injEq] at h1
          rw [h4]; exact h1.1.symm
    · rcases hp.2 p hpm with h | ⟨b, o, h1, h2, h3⟩
      · exact .inl h
      · exact .inr ⟨b, o, h1, .inr h2, h3⟩

/-- A part of a row. -/
theorem Has.plTake (H : Has w0 w (pl L :: r)) (h : (a, xs) ∈ L) (k : Nat) : Has w0 w (pl ((a, xs.take k) :: L) :: r) :=
  H.imp fun D hd => ⟨hd.1, fun p hp => by
    rcases List.mem_cons.1 hp with rfl | hp
    · rcases hd.2 _ h with h | ⟨b, o, h1, h2, h3⟩
      · exact .inl (by dsimp only at h ⊢; rw [h]; simp)
      · refine .inr ⟨b, o, h1, h2, fun j v hj => h3 j v ?_⟩
        dsimp only at hj ⊢
        rw [List.getElem?_take] at hj
        split at hj
        · exact hj
        · cases hj
    · exact hd.2 p hp⟩

end
end Go.X
