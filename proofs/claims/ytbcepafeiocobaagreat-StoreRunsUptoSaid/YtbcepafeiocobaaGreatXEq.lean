/-
  '==' and '!=' of structs of numbers, truths and texts: over whatever program.
-/
import Derived.Test.YtbcepafeiocobaaGreatXWord
import Derived.Laws.StructEq
namespace Go.X
open Go

/-- What '==' of two flat structs says. -/
def flatEq (P : Program) (xs ys : Array Value) : List Field → Option Bool
  | [] => some true
  | f :: fs =>
    if f.name = "_" then flatEq P xs ys fs else
    match P.underlying f.type, xs[f.offset]?, ys[f.offset]? with
    | some (.int _), some (.int k a), some (.int k' b) => if k = k' then (flatEq P xs ys fs).map ((a == b) && ·) else none
    | some .string, some (.string a), some (.string b) => (flatEq P xs ys fs).map (strEq a b && ·)
    | some .bool, some (.bool a), some (.bool b) => (flatEq P xs ys fs).map ((a == b) && ·)
    | _, _, _ => none

theorem part_flat {P : Program} {t : TypeId} {d : TypeDesc} {xs : Array Value} {o : Nat} {v : Value} (w : World) (ht : P.underlying t = some d) (hd : match d with | .struct _ | .array _ _ => False | _ => True) (hv : xs[o]? = some v) : (part t xs o).run P w = .ok v w := by
  cases d <;> first | exact hd.elim | simp [part, isAgg, run_underlying ht, hv]

theorem eqFields_flat {P : Program} {xs ys : Array Value} (d : Nat) : ∀ (fs : List Field) (b : Bool), flatEq P xs ys fs = some b → ∀ w, (Op.eqFields (d + 1) xs ys fs).run P w = .ok b w
  | [], b, h, w => by simp only [flatEq, Option.some.injEq] at h; subst h; simp [Op.eqFields]
  | f :: fs, b, h, w => by
    rw [flatEq] at h
    rw [Op.eqFields]
    by_cases hn : f.name = "_"
    · rw [if_pos hn] at h
      simp only [hn, ne_eq, not_true_eq_false, if_false]
      exact eqFields_flat d fs b h w
    · rw [if_neg hn] at h
      simp only [hn, ne_eq, not_false_eq_true, if_true, Sem.run_bind]
      split at h
      · rename_i k k1 a k2 b' hu hx hy
        split at h
        · rename_i hk
          subst hk
          simp only [Option.map_eq_some_iff] at h
          obtain ⟨c, hc, rfl⟩ := h
          have ih := eqFields_flat d fs c hc w
          rw [part_flat w hu trivial hx, Result.andThen_ok, part_flat w hu trivial hy, Result.andThen_ok, run_equalIn_int w d f.type k1 k a b' hu, Result.andThen_ok]
          by_cases he : (a == b') = true
          · simp only [he, Bool.not_true, Bool.false_eq_true, if_false, Bool.true_and]; exact ih
          · have he : (a == b') = false := by simpa using he
            simp [he]
        · cases h
      · rename_i a b' hu hx hy
        simp only [Option.map_eq_some_iff] at h
        obtain ⟨c, hc, rfl⟩ := h
        have ih := eqFields_flat d fs c hc w
        rw [part_flat w hu trivial hx, Result.andThen_ok, part_flat w hu trivial hy, Result.andThen_ok, run_equalIn_string w d f.type a b' hu, Result.andThen_ok]
        unfold strEq
        by_cases he : (a.toList == b'.toList) = true
        · simp only [he, Bool.not_true, Bool.false_eq_true, if_false, Bool.true_and]; exact ih
        · have he : (a.toList == b'.toList) = false := by simpa using he
          simp [he]
      · rename_i a b' hu hx hy
        simp only [Option.map_eq_some_iff] at h
        obtain ⟨c, hc, rfl⟩ := h
        have ih := eqFields_flat d fs c hc w
        rw [part_flat w hu trivial hx, Result.andThen_ok, part_flat w hu trivial hy, Result.andThen_ok, run_equalIn_bool' w d f.type a b' hu, Result.andThen_ok]
        by_cases he : (a == b') = true
        · simp only [he, Bool.not_true, Bool.false_eq_true, if_false, Bool.true_and]; exact ih
        · have he : (a == b') = false := by simpa using he
          simp [he]
      · cases h

def eqOk (P : Program) (t : TypeId) : Bool := (match P.underlying t with | some (.struct _) => true | _ => false) && !P.stoodInHeld t && !P.eqGuardType P.depth t

theorem eqRuns_flat {P : Program} {t : TypeId} {xs ys : Array Value} {b : Bool} {xo yo : Operand} (hok : eqOk P t = true) (h : flatEq P xs ys (P.fieldsOf t).toList = some b) :
    eqRuns P .eql t xo yo (.agg xs) (.agg ys) b ∧ eqRuns P .neq t xo yo (.agg xs) (.agg ys) (!b) := by
  unfold eqOk at hok
  simp only [Bool.and_eq_true, Bool.not_eq_true'] at hok
  obtain ⟨⟨h1, h2⟩, h3⟩ := hok
  have hu : P.underlying t = some (.struct (P.fieldsOf t)) := by
    split at h1
    · rename_i fs hf; unfold Program.fieldsOf; rw [hf]
    · cases h1
  constructor <;> intro w
  · rw [Sem.run_bind, run_eqGuard_agg w _ t xo yo xs ys h3, Result.andThen_ok, run_eql_struct, run_equalIn_agg w 9999 t xs ys hu h2, eqFields_flat 9998 _ _ h, Result.andThen_ok]
  · rw [Sem.run_bind, run_eqGuard_agg w _ t xo yo xs ys h3, Result.andThen_ok, run_neq_struct, run_equalIn_agg w 9999 t xs ys hu h2, eqFields_flat 9998 _ _ h, Result.andThen_ok]

end Go.X
