/-
  Layers 6 to 8 in plain Lean: entries, snapshots, states; and their cells.
-/
import Derived.Test.YtbcepafeiocobaaGreatXPool
import Derived.Test.YtbcepafeiocobaaGreatXPack
namespace Go.X
open Go

structure Ent where
  term : Nat
  index : Nat
  kind : Int
  data : List UInt8
  deriving DecidableEq

/-- Is it one that Go's types can hold? -/
structure Ent.ok (e : Ent) : Prop where
  term : e.term < 18446744073709551616
  index : e.index < 18446744073709551616
  kind : -9223372036854775808 ≤ e.kind ∧ e.kind ≤ 9223372036854775807
  data : e.data.length ≤ 4000000000

structure Snp where
  index : Nat
  term : Nat
  config : Nat
  data : List UInt8
  deriving DecidableEq

structure Snp.ok (s : Snp) : Prop where
  index : s.index < 18446744073709551616
  term : s.term < 18446744073709551616
  config : s.config < 18446744073709551616
  data : s.data.length ≤ 4000000000

def Ent.cells (e : Ent) : List Value := [.int .u64 (e.term : Int), .int .u64 (e.index : Int), .int .i64 e.kind, .string (bs e.data)]
def Snp.cells (s : Snp) : List Value := [.int .u64 (s.index : Int), .int .u64 (s.term : Int), .int .u64 (s.config : Int), .string (bs s.data)]
def ecs (l : List Ent) : List Value := l.flatMap Ent.cells

@[simp] theorem ecs_length (l : List Ent) : (ecs l).length = l.length * 4 := by
  induction l with
  | nil => rfl
  | cons e l ih => simp only [ecs, List.flatMap_cons, List.length_append, List.length_cons] at ih ⊢; rw [ih]; simp [Ent.cells]; omega
theorem ecs_append (a b : List Ent) : ecs a ++ ecs b = ecs (a ++ b) := by simp [ecs]
theorem ecs_one (l : List Ent) : ∀ x ∈ ecs l, x.oneCell' = true := fun x hx => by
  obtain ⟨e, _, h⟩ := List.mem_flatMap.1 hx
  simp [Ent.cells] at h
  rcases h with rfl | rfl | rfl | rfl <;> rfl
theorem ecs_take : ∀ (l : List Ent) (k : Nat), (ecs l).take (k * 4) = ecs (l.take k)
  | [], k => by simp [ecs]
  | e :: l, 0 => by simp [ecs]
  | e :: l, k + 1 => by
    have h : ecs (e :: l) = e.cells ++ ecs l := rfl
    have e4 : e.cells.length = 4 := rfl
    rw [h, List.take_append, e4, show (k + 1) * 4 - 4 = k * 4 from by omega, ecs_take l k, List.take_of_length_le (by rw [e4]; omega)]
    rfl
theorem ecs_drop : ∀ (l : List Ent) (k : Nat), (ecs l).drop (k * 4) = ecs (l.drop k)
  | [], k => by simp [ecs]
  | e :: l, 0 => by simp [ecs]
  | e :: l, k + 1 => by
    have h : ecs (e :: l) = e.cells ++ ecs l := rfl
    have e4 : e.cells.length = 4 := rfl
    rw [h, List.drop_append, e4, show (k + 1) * 4 - 4 = k * 4 from by omega, ecs_drop l k, List.drop_of_length_le (by rw [e4]; omega)]
    rfl

theorem ecs_get {l : List Ent} {i : Nat} (h : i < l.length) (j : Nat) (hj : j < 4) : (ecs l)[i * 4 + j]? = l[i].cells[j]? := by
  have h1 : (ecs l)[i * 4 + j]? = ((ecs l).drop (i * 4))[j]? := by rw [List.getElem?_drop]
  rw [h1, ecs_drop, List.drop_eq_getElem_cons h]
  show (l[i].cells ++ ecs (l.drop (i + 1)))[j]? = _
  rw [List.getElem?_append_left (show j < l[i].cells.length from hj)]

/-- The cells of an entry that can be read. -/
theorem Vw.ent {w : World} {a : Option Addr} {l : List Ent} (h : Vw w a (ecs l)) {i : Nat} (hi : i < l.length) : ∃ b o, a = some ⟨b, o, none⟩ ∧ rdRow w b (o + ((i : Int)).toNat * 4) l[i].cells := by
  obtain ⟨b, o, rfl, hc⟩ := h.at (by rw [ecs_length]; omega)
  refine ⟨b, o, rfl, fun j v hj => ?_⟩
  have hj4 : j < 4 := (List.getElem?_eq_some_iff.1 hj).1
  have := hc (i * 4 + j) v (by rw [ecs_get hi j hj4]; exact hj)
  rw [Int.toNat_natCast, Nat.add_assoc]; exact this

theorem Vw.entAt {w : World} {a : Option Addr} {l : List Ent} (h : Vw w a (ecs l)) {i j : Nat} (hi : i < l.length) {v : Value} (hj : l[i].cells[j]? = some v) : ∃ b o, a = some ⟨b, o, none⟩ ∧ w.cell? ⟨b, o + ((i : Int)).toNat * 4 + j, none⟩ = some v := by
  obtain ⟨b, o, ha, hr⟩ := h.ent hi
  exact ⟨b, o, ha, hr j v hj⟩

/-! ### What may be -/

def sound (c : Nat) : Bool := decide (0 < c ∧ c < 128)
def cfg (l : List UInt8) : Nat × Bool := ((Rd.num ⟨l, false⟩).1, (Rd.num ⟨l, false⟩).2.done && sound (Rd.num ⟨l, false⟩).1)
def Ent.may (e : Ent) (index term : Nat) : Bool :=
  decide (index ≠ 0) && decide (e.index = index) && decide (term ≤ e.term) && decide (0 ≤ e.kind) && decide (e.kind ≤ 2) && decide (e.data.length ≤ 32768) && (decide (e.kind ≠ 2) || (cfg e.data).2)
def chain (index term : Nat) : List Ent → Bool
  | [] => true
  | e :: l => e.may ((index + 1) % 18446744073709551616) term && chain e.index e.term l
def logOk (s : Snp) (l : List Ent) : Bool := sound s.config && chain s.index s.term l

theorem chain_append (a b : List Ent) : ∀ (i t : Nat), chain i t (a ++ b) = (chain i t a && chain (match a.getLast? with | some e => e.index | none => i) (match a.getLast? with | some e => e.term | none => t) b) := by
  induction a with
  | nil => intro i t; simp [chain]
  | cons e a ih =>
    intro i t
    rw [List.cons_append, chain, ih, chain, Bool.and_assoc]
    congr 2
    cases a with
    | nil => rfl
    | cons x a =>
      obtain ⟨y, hy⟩ : ∃ y, (x :: a).getLast? = some y := ⟨_, List.getLast?_eq_some_getLast (by simp)⟩
      rw [List.getLast?_cons_cons, hy]

end Go.X
