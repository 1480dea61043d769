/-
  What a call reads, and what it adds to what its caller owns: over whatever program.
-/
import Derived.Test.YtdlalkhnppahfaaXRow
import Derived.Laws.OwnMore
import Derived.Laws.MakeOwn
namespace Go.X
open Go

theorem Sat.app {w : World} : ∀ {l r : List A} {D E : Nat → Prop}, Sat w l D → Sat w r E → (∀ k, D k → ¬ E k) → Sat w (l ++ r) (fun k => D k ∨ E k)
  | [], r, D, E, h, hr, _ => by
    have : (fun k => D k ∨ E k) = E := by
      funext k
      have := h k
      simp [this]
    rw [this]; exact hr
  | a :: l, r, D, E, ⟨D1, D2, hu, hx, ha, hl⟩, hr, hd => by
    refine ⟨D1, fun k => D2 k ∨ E k, fun k => ?_, fun k h1 h => ?_, ha, Sat.app hl hr fun k h2 => hd k ((hu k).2 (.inr h2))⟩
    · show D k ∨ E k ↔ D1 k ∨ (D2 k ∨ E k)
      rw [hu]; exact or_assoc
    · rcases h with h | h
      · exact hx k h1 h
      · exact hd k ((hu k).2 (.inl h1)) h

/-- What a call adds, its world at the start being where it began to own. -/
theorem Has.frame {w0 w w' : World} {r out : List A} (H : Has w0 w r) (h : Has w w' out) : Has w0 w' (out ++ r) := by
  obtain ⟨hb, D, hr, hge⟩ := H
  obtain ⟨hb2, E, ho, hge2⟩ := h
  have hin := hr.inh
  refine ⟨hb.trans hb2, _, Sat.app ho (hr.loc fun k hk => hb2.block k (hin k hk)) fun k hE hD => ?_, fun k hk => ?_⟩
  · have := hge2 k hE; have := hin k hD; omega
  · rcases hk with hk | hk
    · have := hge2 k hk; have := hb.size; omega
    · exact hge k hk

/-- Cells that can be read from an address on. -/
def Vw (w : World) (a : Option Addr) (vs : List Value) : Prop := vs = [] ∨ ∃ b o, a = some ⟨b, o, none⟩ ∧ ∀ j v, vs[j]? = some v → w.cell? ⟨b, o + j, none⟩ = some v

theorem Vw.nil {w : World} {a : Option Addr} : Vw w a [] := .inl rfl

theorem Vw.old {w0 w : World} {a : Option Addr} {vs : List Value} {l : List A} (h : Vw w0 a vs) (H : Has w0 w l) : Vw w a vs := by
  rcases h with h | ⟨b, o, ha, h⟩
  · exact .inl h
  · exact .inr ⟨b, o, ha, fun j v hj => H.old (h j v hj)⟩

theorem Vw.at {w : World} {a : Option Addr} {vs : List Value} (h : Vw w a vs) (hp : 0 < vs.length) : ∃ b o, a = some ⟨b, o, none⟩ ∧ ∀ j v, vs[j]? = some v → w.cell? ⟨b, o + j, none⟩ = some v := by
  rcases h with h | h
  · rw [h] at hp; simp at hp
  · exact h

theorem Vw.take {w : World} {a : Option Addr} {vs : List Value} (k : Nat) (h : Vw w a vs) : Vw w a (vs.take k) := by
  rcases h with h | ⟨b, o, ha, h⟩
  · exact .inl (by rw [h]; simp)
  · refine .inr ⟨b, o, ha, fun j v hj => h j v ?_⟩
    rw [List.getElem?_take] at hj
    split at hj
    · exact hj
    · cases hj

theorem Vw.slc {w : World} {a : Option Addr} {vs : List Value} {k c size : Nat} (h : Vw w a vs) (hc : vs.length ≤ c * size) : Vw w (slcA a c k size) (vs.drop (k * size)) := by
  unfold slcA
  split
  · rename_i e
    subst e
    exact .inl (List.drop_eq_nil_of_le hc)
  · rcases h with h | ⟨b, o, ha, h⟩
    · exact .inl (by rw [h]; simp)
    · refine .inr ⟨b, o + k * size, by rw [ha]; simp [Addr.add_lit], fun j v hj => ?_⟩
      rw [Nat.add_assoc]
      exact h _ v (by rw [List.getElem?_drop] at hj; exact hj)

theorem Has.vw {w0 w : World} {r : List A} {T sz n c : Nat} {a : Option Addr} {xs : List Value} (H : Has w0 w (ow T sz a n c xs :: r)) : Vw w a xs := by
  by_cases h : 0 < n
  · obtain ⟨b, rfl, hc⟩ := H.owCell h
    exact .inr ⟨b, 0, rfl, fun j v hj => by rw [Nat.zero_add]; exact hc j v hj⟩
  · have := H.owLen.1
    have hn : n = 0 := by omega
    subst hn
    exact .inl (List.eq_nil_of_length_eq_zero (by simpa using this))

/-- What is appended: cells that can be read. -/
theorem Vw.src {P : Program} {w : World} {a : Option Addr} {vs : List Value} {tx e size bytes n c : Nat} (el : El P tx e size bytes) (h : Vw w a vs) (hl : vs.length = n * size) (h1 : ∀ x ∈ vs, x.oneCell' = true) : Src P size tx (.slice a n c) n vs w := by
  by_cases hn : 0 < vs.length
  · obtain ⟨b, o, rfl, hc⟩ := h.at hn
    exact Src.ofSlice w el.under _ n c vs hl (fun j u hj => by rw [Addr.add_lit]; exact hc j u hj) h1
  · obtain rfl : vs = [] := List.eq_nil_of_length_eq_zero (by omega)
    have : n = 0 := by
      have := el.pos
      rcases Nat.mul_eq_zero.1 hl.symm with h | h
      · exact h
      · omega
    subst this
    cases a with
    | none => exact Src.ofNil w el.under c
    | some a => exact Src.ofSlice w el.under _ 0 c [] (by simp) (fun j u hj => by cases hj) h1

/-- Bytes that can be read, as a text. -/
theorem Vw.b2s {P : Program} {w : World} {a : Option Addr} {t e tx n c : Nat} {l : List UInt8} (hu : P.underlying t = some (.slice e)) (he : P.underlying e = some (.int .u8)) (hd : P.underlying tx = some .string) (h : Vw w a (bc l)) (hn : n = l.length) : b2sR P t tx (.slice a n c) (bs l) w := by
  subst hn
  unfold b2sR
  by_cases hp : 0 < l.length
  · obtain ⟨b, o, rfl, hc⟩ := h.at (by simpa using hp)
    exact run_convert_bytes_back w t tx e ⟨b, o, none⟩ c l hu he hd fun j hj => by rw [Addr.add_lit]; exact hc j _ (by rw [bc_get?, List.getElem?_eq_getElem hj]; rfl)
  · obtain rfl : l = [] := List.eq_nil_of_length_eq_zero (by omega)
    cases a with
    | none => exact run_convert_bytes_nil w t e hu he 0 c tx hd
    | some a => exact run_convert_bytes_back w t tx e a c [] hu he hd (fun j hj => by cases hj)

/-- A byte that can be read. -/
theorem Vw.byte {w : World} {a : Option Addr} {l : List UInt8} (h : Vw w a (bc l)) {i : Nat} (hi : i < l.length) : ∃ b o, a = some ⟨b, o, none⟩ ∧ w.cell? ⟨b, o + i * 1, none⟩ = some (.int .u8 (l[i].toNat : Int)) := by
  obtain ⟨b, o, rfl, hc⟩ := h.at (by simp; omega)
  exact ⟨b, o, rfl, by rw [Nat.mul_one]; exact hc i _ (by rw [bc_get?, List.getElem?_eq_getElem hi]; rfl)⟩

@[simp] theorem bc_take (l : List UInt8) (k : Nat) : (bc l).take k = bc (l.take k) := by simp [bc]
@[simp] theorem bc_drop (l : List UInt8) (k : Nat) : (bc l).drop k = bc (l.drop k) := by simp [bc]

/-- A slice of bytes that can be made. -/
def mkOk (P : Program) (t e : Nat) : Bool :=
  (match P.underlying t with | some (.slice e') => e' == e | _ => false) &&
  (match P.info? e with | some i => i.size == 1 && i.bytes == 1 && (match i.zero with | some (.int .u8 0) => true | _ => false) | none => false)

theorem Has.mkB {P : Program} {w0 w : World} {r : List A} {t e : Nat} (hok : mkOk P t e = true) (H : Has w0 w r) {n c : Nat} (hn : n ≤ c) (hc : c ≤ 140737488355328) {K : Option Addr → Nat → Nat → World → Prop}
    (k : ∀ b w', Has w0 w' (ow e 1 (some ⟨b, 0, none⟩) n c (bc (List.replicate n 0)) :: r) → K (some ⟨b, 0, none⟩) n c w') : exSl P (Instr.makeSlice t (.int .i64 (n : Int)) (.int .i64 (c : Int))) K w := by
  unfold mkOk at hok
  simp only [Bool.and_eq_true] at hok
  obtain ⟨h1, h2⟩ := hok
  split at h1
  · rename_i e' he
    have : e' = e := by simpa using h1
    subst this
    split at h2
    · rename_i i hi
      simp only [Bool.and_eq_true, beq_iff_eq] at h2
      obtain ⟨⟨h3, h4⟩, h5⟩ := h2
      split at h5
      · rename_i hz
        have hr := run_make (P := P) w t e' i _ he hi hz .i64 .i64 (n : Int) (c : Int) (by omega) (by omega) (by rw [h4]; omega) (by omega)
        unfold exSl; rw [hr]
        simp only [Int.toNat_natCast]
        refine k _ _ ((H.new _).imp fun D hd => ⟨by simp, .inr ⟨_, _, _, rfl, hd.1, hd.2, hn, by simp [maxLen]; omega, by rw [size_madeCells, h3]; exact Nat.le_refl _, ?_, .inl (Nat.le_refl _)⟩⟩)
        have : (Value.cells (.int .u8 0)) = #[.int .u8 0] := rfl
        rw [this, toList_madeCells_one, h3]
        simp [bc, Nat.min_eq_left hn]
      · cases h5
    · cases h2
  · cases h1

/-- A slice of zero values of one cell that can be made. -/
theorem Has.mkZ {P : Program} {w0 w : World} {r : List A} {t e : Nat} {i : TypeInfo} {z : Value} (hu : P.underlying t = some (.slice e)) (hi : P.info? e = some i) (hz : i.zero = some z) (h1 : i.size = 1) (hb : i.bytes ≤ 1000) (hc : z.cells = #[z])
    (H : Has w0 w r) {n : Nat} (hn : n ≤ 1000000) {K : Option Addr → Nat → Nat → World → Prop} (k : ∀ b w', Has w0 w' (ca b e (List.replicate n z) :: r) → K (some ⟨b, 0, none⟩) n n w') : exSl P (Instr.makeSlice t (.int .i64 (n : Int)) (.int .i64 (n : Int))) K w := by
  have hbb : (i.bytes : Int) * (n : Int) ≤ 281474976710656 := by
    have : i.bytes * n ≤ 1000 * 1000000 := Nat.mul_le_mul hb hn
    rw [← Int.natCast_mul]; exact Int.le_trans (Int.ofNat_le.2 this) (by omega)
  have hr := run_make (P := P) w t e i z hu hi hz .i64 .i64 (n : Int) (n : Int) (by omega) (by omega) hbb (by omega)
  unfold exSl; rw [hr]
  simp only [Int.toNat_natCast]
  have e1 : madeCells z.cells (n * i.size) = (List.replicate n z).toArray := by
    rw [hc, h1, Nat.mul_one]
    apply Array.toList_inj.1
    rw [toList_madeCells_one]
  rw [e1]
  exact k _ _ (H.new _)

/-- A byte that is set in a row that is ours. -/
theorem Has.putB {w0 w : World} {r : List A} {T n c v : Nat} {a : Option Addr} {d t : List UInt8} {x : UInt8} (H : Has w0 w (ow T 1 a n c (bc (d ++ x :: t)) :: r)) (hv : v < 256) :
    ∃ b, a = some ⟨b, 0, none⟩ ∧ d.length < n ∧ ∀ K : World → Prop, (∀ w', Has w0 w' (ow T 1 a n c (bc (d ++ UInt8.ofNat v :: t)) :: r) → K w') → stD w b (0 + ((d.length : Int)).toNat * 1) [.int .u8 (v : Int)] K := by
  have hl := H.owLen.1
  simp at hl
  obtain ⟨b, rfl, _⟩ := H.owCell (by omega)
  refine ⟨b, rfl, by omega, fun K k => ?_⟩
  have e : 0 + ((d.length : Int)).toNat * 1 = d.length := by simp
  rw [e]
  refine H.owSt (by simp) rfl fun w' H => k w' ?_
  have e2 : wr (bc (d ++ x :: t)) d.length [.int .u8 (v : Int)] = bc (d ++ UInt8.ofNat v :: t) := by
    show (bc (d ++ x :: t)).set d.length (.int .u8 (v : Int)) = _
    rw [set_byte (by simp) hv, List.set_append_right _ _ (Nat.le_refl _)]
    simp
  rw [e2] at H
  exact H

end Go.X
