/-
  The engine of these proofs, over whatever program: 'den', a sufficient condition for 'Code.wp' that reduces by itself on literal code, and that it is sufficient.
-/
import Derived.WalkKit
import Derived.OrdersHeld
import Derived.Scope
namespace Go.X
open Go

abbrev Env := Nat → Value

def put (N : Nat) (ρ : Env) (d : Option Nat) (v : Value) : Env :=
  match d with
  | none => ρ
  | some t => bif Nat.blt t N then (fun n => bif Nat.beq n t then v else ρ n) else ρ

def ev (ρ : Env) : Operand → Value
  | .tmp t => ρ t
  | .const v => v
  | .global g => .pointer (some ⟨g, 0, none⟩)
  | .func f => .func (.func f) #[] #[]

def pv (b o : Nat) : Value := .pointer (some ⟨b, o, none⟩)

/-- What a program of pure steps comes to. -/
def pur {α : Type} (P : Program) : Sem α → Option α
  | .pure a => some a
  | .program k => pur P (k P)
  | _ => none

theorem pur_run {α : Type} (P : Program) (s : Sem α) : ∀ {a : α}, pur P s = some a → ∀ w, s.run P w = .ok a w := by
  induction s with
  | pure a => intro x h w; simp only [pur, Option.some.injEq] at h; subst h; rfl
  | program k ih => intro x h w; exact ih P h w
  | _ => intro x h; simp [pur] at h

inductive Kd where
  | int (k : IntKind) | bool | str | ptr | nptr | slice | map | any

def kdOf : Value → Kd
  | .int k _ => .int k
  | .bool _ => .bool
  | .string _ => .str
  | .pointer _ => .ptr
  | .slice .. => .slice
  | .map _ => .map
  | _ => .any

def kdn (nl : Bool) : Kd → Kd
  | .ptr => bif nl then .nptr else .ptr
  | k => k

def exK (k : Kd) (Φ : Value → Prop) : Prop :=
  match k with
  | .int k => ∃ x : Int, Φ (.int k x)
  | .bool => ∃ x : Bool, Φ (.bool x)
  | .str => ∃ x : ByteArray, Φ (.string x)
  | .ptr => ∃ b o : Nat, Φ (pv b o)
  | .nptr => Φ (.pointer none) ∨ ∃ b o : Nat, Φ (pv b o)
  | .slice => ∃ (a : Option Addr) (n c : Nat), Φ (.slice a n c)
  | .map => ∃ m : Nat, Φ (.map (some m))
  | .any => ∃ v, Φ v

theorem exK_ex {k : Kd} {Φ : Value → Prop} (h : exK k Φ) : ∃ v, Φ v := by
  cases k <;> simp only [exK] at h
  case ptr => obtain ⟨b, o, h⟩ := h; exact ⟨_, h⟩
  case nptr => rcases h with h | ⟨b, o, h⟩; exact ⟨_, h⟩; exact ⟨_, h⟩
  case slice => obtain ⟨a, n, c, h⟩ := h; exact ⟨_, h⟩
  all_goals obtain ⟨x, h⟩ := h; exact ⟨_, h⟩

def exKs : List Kd → (List Value → Prop) → Prop
  | [], Φ => Φ []
  | k :: r, Φ => exK k fun v => exKs r fun vs => Φ (v :: vs)

theorem exKs_ex : ∀ {l : List Kd} {Φ : List Value → Prop}, exKs l Φ → ∃ vs, vs.length = l.length ∧ Φ vs
  | [], _, h => ⟨[], rfl, h⟩
  | _ :: _, _, h => by
    obtain ⟨v, h⟩ := exK_ex h
    obtain ⟨vs, hl, h⟩ := exKs_ex h
    exact ⟨v :: vs, by simp [hl], h⟩

inductive Sh where
  | one (k : Kd) | agg (l : List Kd) | bad

def shOf (P : Program) (nl : Bool) (t : TypeId) : Sh :=
  match P.info? t with
  | some i => match i.zero with
    | some z => match P.underlying t with
      | some (.struct _) => bif Nat.beq z.cells.size i.size then .agg (z.cells.toList.map fun v => kdn nl (kdOf v)) else .bad
      | some (.array _ _) => bif Nat.beq z.cells.size i.size then .agg (z.cells.toList.map fun v => kdn nl (kdOf v)) else .bad
      | some _ => .one (kdn nl (kdOf z))
      | none => .bad
    | none => .bad
  | none => .bad

def exSh (s : Sh) (Φ : Value → Prop) : Prop :=
  match s with
  | .one k => exK k Φ
  | .agg l => exKs l fun vs => Φ (.agg vs.toArray)
  | .bad => False

theorem exSh_ex {s : Sh} {Φ : Value → Prop} (h : exSh s Φ) : ∃ v, Φ v := by
  cases s with
  | one k => exact exK_ex h
  | agg l => obtain ⟨vs, _, h⟩ := exKs_ex h; exact ⟨_, h⟩
  | bad => exact h.elim

def exShs : List Sh → (List Value → Prop) → Prop
  | [], Φ => Φ []
  | s :: r, Φ => exSh s fun v => exShs r fun vs => Φ (v :: vs)

theorem exShs_ex : ∀ {l : List Sh} {Φ : List Value → Prop}, exShs l Φ → ∃ vs, Φ vs
  | [], _, h => ⟨[], h⟩
  | _ :: _, _, h => by
    obtain ⟨v, h⟩ := exSh_ex h
    obtain ⟨vs, h⟩ := exShs_ex h
    exact ⟨v :: vs, h⟩

/-! ### Memory -/

/-- The cells at an address hold these values. -/
def rdRow (w : World) (b o : Nat) (vs : List Value) : Prop := ∀ j v, vs[j]? = some v → w.cell? ⟨b, o + j, none⟩ = some v

/-- Stores of values into cells that are there and not frozen. -/
def stD (w : World) (b o : Nat) (vs : List Value) (K : World → Prop) : Prop :=
  (∀ j, j < vs.length → (w.cell? ⟨b, o + j, none⟩).isSome = true ∧ w.frozen? ⟨b, o + j, none⟩ = false) ∧ (∀ v ∈ vs, v.oneCell' = true) ∧ K (w.setCells b o vs)

/-- A new block. -/
def alD (w : World) (ob : Obj) (K : Nat → World → Prop) : Prop := ∀ b w', b = w.heap.size → w' = w.alloc ob → K b w'

theorem add_none (b o n : Nat) : (⟨b, o, none⟩ : Addr).add n = ⟨b, o + n, none⟩ := by
  unfold Addr.add; split <;> simp_all

def exSl (P : Program) (s : Sem Value) (K : Option Addr → Nat → Nat → World → Prop) (w : World) : Prop :=
  match s.run P w with
  | .ok (.slice a n c) w' => K a n c w'
  | _ => False

def exI (P : Program) (s : Sem Value) (K : Int → World → Prop) (w : World) : Prop :=
  match s.run P w with
  | .ok (.int .i64 n) w' => K n w'
  | _ => False

def exU (P : Program) (s : Sem Unit) (K : World → Prop) (w : World) : Prop :=
  match s.run P w with
  | .ok _ w' => K w'
  | _ => False

/-! ### Operations that only reckon -/

def shlV (k : IntKind) (x y : Int) : Int := k.wrap (x * 2 ^ (min y.toNat k.bits))
def shrV (k : IntKind) (x y : Int) : Int := x.fdiv (2 ^ (min y.toNat k.bits))
def slcA (a : Option Addr) (m l size : Nat) : Option Addr := if m = l then a else a.map (·.add (l * size))

def boundI : Option Value → Option (Option Int)
  | none => some none
  | some (.int _ x) => some (some x)
  | _ => none

def sliceD (P : Program) (t : TypeId) (x : Value) (lo hi mx : Option Value) (K : Value → Prop) : Prop :=
  match P.underlying t, x with
  | some .string, .string s =>
    match boundI lo, boundI hi, mx with
    | some (some l), some (some h), none => 0 ≤ l ∧ l ≤ h ∧ h ≤ (s.size : Int) ∧ K (.string (s.extract l.toNat h.toNat))
    | some (some l), some none, none => 0 ≤ l ∧ l ≤ (s.size : Int) ∧ K (.string (s.extract l.toNat s.size))
    | some none, some (some h), none => 0 ≤ h ∧ h ≤ (s.size : Int) ∧ K (.string (s.extract 0 h.toNat))
    | some none, some none, none => K (.string (s.extract 0 s.size))
    | _, _, _ => False
  | some (.slice e), .slice a n c =>
    match P.info? e with
    | some i =>
      match boundI lo, boundI hi, boundI mx with
      | some (some l), some (some h), some none => 0 ≤ l ∧ l ≤ h ∧ h ≤ (c : Int) ∧ K (.slice (slcA a c l.toNat i.size) (h.toNat - l.toNat) (c - l.toNat))
      | some (some l), some none, some none => 0 ≤ l ∧ l ≤ (n : Int) ∧ K (.slice (slcA a c l.toNat i.size) (n - l.toNat) (c - l.toNat))
      | some none, some (some h), some none => 0 ≤ h ∧ h ≤ (c : Int) ∧ K (.slice a h.toNat c)
      | some none, some (some h), some (some m) => 0 ≤ h ∧ h ≤ m ∧ m ≤ (c : Int) ∧ K (.slice a h.toNat m.toNat)
      | _, _, _ => False
    | none => False
  | _, _ => False

def indexAddrD (P : Program) (t : TypeId) (x i : Value) (K : Value → Prop) : Prop :=
  match P.underlying t, x, i with
  | some (.array len e), .pointer (some ⟨b, o, none⟩), .int _ i =>
    match P.info? e with
    | some inf => 0 ≤ i ∧ i < (len : Int) ∧ K (pv b (o + i.toNat * inf.size))
    | none => False
  | some (.slice e), .slice a n _, .int _ i =>
    match P.info? e with
    | some inf => ∃ b o : Nat, a = some ⟨b, o, none⟩ ∧ 0 ≤ i ∧ i < (n : Int) ∧ K (pv b (o + i.toNat * inf.size))
    | none => False
  | _, _, _ => False

def indexD (P : Program) (t : TypeId) (x i : Value) (K : Value → Prop) : Prop :=
  match P.underlying t, x, i with
  | some .string, .string s, .int _ i => 0 ≤ i ∧ ∃ c : UInt8, s[i.toNat]? = some c ∧ K (.int .u8 (c.toNat : Int))
  | some (.array len e), .agg cs, .int _ i =>
    match shOf P false e, P.info? e with
    | .one k, some inf => 0 ≤ i ∧ i < (len : Int) ∧ exK k fun v => cs[i.toNat * inf.size]? = some v ∧ K v
    | _, _ => False
  | _, _, _ => False

def fieldAddrD (P : Program) (s : TypeId) (x : Value) (f : Nat) (K : Value → Prop) : Prop :=
  match P.underlying s, x with
  | some (.struct fields), .pointer (some ⟨b, o, none⟩) =>
    match fields[f]? with
    | some f => match P.info? f.type with
      | some i => bif Nat.beq i.size 0 then False else K (pv b (o + f.offset))
      | none => False
    | none => False
  | _, _ => False

def catD (x y : ByteArray) (K : ByteArray → Prop) : Prop := x.size + y.size ≤ 9223372036854775807 ∧ K (x ++ y)

/-- '==' (or '!=') of two structs or arrays. -/
def eqRuns (P : Program) (op : BinOp) (t : TypeId) (xo yo : Operand) (x y : Value) (b : Bool) : Prop :=
  ∀ w, (do eqGuard op t xo yo x y; binOp op t x y : Sem Value).run P w = .ok (.bool b) w

def isC : Operand → Bool
  | .const _ => true
  | _ => false

def wlBin (P : Program) (op : BinOp) (t : TypeId) (xo yo : Operand) (x y : Value) (K : Value → Prop) : Prop :=
  match op, x, y with
  | .shl, .int k a, .int _ b => bif isC yo then (match pur P (binOp op t x y) with | some v => K v | none => False) else 0 ≤ b ∧ K (.int k (shlV k a b))
  | .shr, .int k a, .int _ b => bif isC yo then (match pur P (binOp op t x y) with | some v => K v | none => False) else 0 ≤ b ∧ K (.int k (shrV k a b))
  | .quo, .int k a, .int k' b => bif isC yo then (match pur P (binOp op t x y) with | some v => K v | none => False) else k = k' ∧ b ≠ 0 ∧ K (.int k (k.wrap (a.tdiv b)))
  | .rem, .int k a, .int k' b => bif isC yo then (match pur P (binOp op t x y) with | some v => K v | none => False) else k = k' ∧ b ≠ 0 ∧ K (.int k (a.tmod b))
  | .add, .string a, .string b => catD a b fun s => K (.string s)
  | .eql, .agg _, .agg _ => ∃ b, eqRuns P op t xo yo x y b ∧ K (.bool b)
  | .neq, .agg _, .agg _ => ∃ b, eqRuns P op t xo yo x y b ∧ K (.bool b)
  | _, _, _ => match pur P (do eqGuard op t xo yo x y; binOp op t x y : Sem Value) with | some v => K v | none => False

def wlop (P : Program) (o : Oper) (ρ : Env) (K : Value → Prop) : Prop :=
  match o.op with
  | .slice t x lo hi mx => sliceD P t (ev ρ x) (lo.map (ev ρ)) (hi.map (ev ρ)) (mx.map (ev ρ)) K
  | .indexAddr t x i => indexAddrD P t (ev ρ x) (ev ρ i) K
  | .index t x i => indexD P t (ev ρ x) (ev ρ i) K
  | .fieldAddr s x f => fieldAddrD P s (ev ρ x) f K
  | .binOp op t x y _ => wlBin P op t x y (ev ρ x) (ev ρ y) K
  | _ => match pur P (execOp (ev ρ) o) with | some (.value v) => K v | _ => False

section
variable {P : Program}

theorem run_und {t : TypeId} {d : TypeDesc} (h : P.underlying t = some d) (w : World) : (underlying t).run P w = .ok d w := run_underlying h w

theorem run_info {t : TypeId} {i : TypeInfo} (h : P.info? t = some i) (w : World) : (typeInfo t).run P w = .ok i w := by
  simp [typeInfo, h]

theorem run_size {t : TypeId} {i : TypeInfo} (h : P.info? t = some i) (w : World) : (sizeOf t).run P w = .ok i.size w := by
  simp [sizeOf, run_info h]

theorem run_sliceBound {k : IntKind} {x : Int} {y : Nat} {c : BoundsCode} (h0 : 0 ≤ x) (h1 : x ≤ (y : Int)) (w : World) :
    (Instr.sliceBound (.int k x) y c).run P w = .ok x.toNat w := by
  simp [Instr.sliceBound, asIntOf, h0, h1]

theorem boundI_none {x : Option Value} (h : boundI x = some none) : x = none := by
  cases x with
  | none => rfl
  | some v => cases v <;> simp [boundI] at h
theorem boundI_some {x : Option Value} {n : Int} (h : boundI x = some (some n)) : ∃ k, x = some (.int k n) := by
  cases x with
  | none => simp [boundI] at h
  | some v => cases v <;> simp [boundI] at h; subst h; exact ⟨_, rfl⟩

theorem sliceD_sound {t : TypeId} {x : Value} {lo hi mx : Option Value} {K : Value → Prop} (h : sliceD P t x lo hi mx K) :
    ∃ v, (∀ w, (Instr.sliceAt t x lo hi mx).run P w = .ok v w) ∧ K v := by
  unfold sliceD at h
  split at h
  · rename_i s hu
    split at h
    · rename_i l h' hl hh
      obtain ⟨k, rfl⟩ := boundI_some hl
      obtain ⟨k', rfl⟩ := boundI_some hh
      obtain ⟨h1, h2, h3, h4⟩ := h
      refine ⟨_, fun w => ?_, h4⟩
      have e1 := run_sliceBound (P := P) (k := k') (c := .sliceAlen) (x := h') (y := s.size) (by omega) h3
      have e2 := run_sliceBound (P := P) (k := k) (c := .sliceB) (x := l) (y := h'.toNat) h1 (by omega)
      simp [Instr.sliceAt, Instr.slice, run_und hu, Instr.sliceBounds, e1, e2]
    · rename_i l hl hh
      obtain ⟨k, rfl⟩ := boundI_some hl
      obtain rfl := boundI_none hh
      obtain ⟨h1, h3, h4⟩ := h
      refine ⟨_, fun w => ?_, h4⟩
      have e2 := run_sliceBound (P := P) (k := k) (c := .sliceB) (x := l) (y := s.size) h1 (by omega)
      simp [Instr.sliceAt, Instr.slice, run_und hu, Instr.sliceBounds, e2]
    · rename_i h' hl hh
      obtain rfl := boundI_none hl
      obtain ⟨k', rfl⟩ := boundI_some hh
      obtain ⟨h1, h3, h4⟩ := h
      refine ⟨_, fun w => ?_, h4⟩
      have e1 := run_sliceBound (P := P) (k := k') (c := .sliceAlen) (x := h') (y := s.size) (by omega) h3
      simp [Instr.sliceAt, Instr.slice, run_und hu, Instr.sliceBounds, e1]
    · rename_i hl hh
      obtain rfl := boundI_none hl
      obtain rfl := boundI_none hh
      refine ⟨_, fun w => ?_, h⟩
      simp [Instr.sliceAt, Instr.slice, run_und hu, Instr.sliceBounds]
    · exact h.elim
  · rename_i e a n c hu
    split at h
    · rename_i i hi
      split at h
      · rename_i l h' hl hh hm
        obtain ⟨k, rfl⟩ := boundI_some hl
        obtain ⟨k', rfl⟩ := boundI_some hh
        obtain rfl := boundI_none hm
        obtain ⟨h1, h2, h3, h4⟩ := h
        refine ⟨_, fun w => ?_, h4⟩
        have e1 := run_sliceBound (P := P) (k := k') (c := .sliceAcap) (x := h') (y := c) (by omega) h3
        have e2 := run_sliceBound (P := P) (k := k) (c := .sliceB) (x := l) (y := h'.toNat) h1 (by omega)
        simp [Instr.sliceAt, Instr.slice, run_und hu, Instr.sliceBounds, e1, e2, run_size hi, slcA]
      · rename_i l hl hh hm
        obtain ⟨k, rfl⟩ := boundI_some hl
        obtain rfl := boundI_none hh
        obtain rfl := boundI_none hm
        obtain ⟨h1, h3, h4⟩ := h
        refine ⟨_, fun w => ?_, h4⟩
        have e2 := run_sliceBound (P := P) (k := k) (c := .sliceB) (x := l) (y := n) h1 (by omega)
        simp [Instr.sliceAt, Instr.slice, run_und hu, Instr.sliceBounds, e2, run_size hi, slcA]
      · rename_i h' hl hh hm
        obtain rfl := boundI_none hl
        obtain ⟨k', rfl⟩ := boundI_some hh
        obtain rfl := boundI_none hm
        obtain ⟨h1, h3, h4⟩ := h
        refine ⟨_, fun w => ?_, h4⟩
        have e1 := run_sliceBound (P := P) (k := k') (c := .sliceAcap) (x := h') (y := c) (by omega) h3
        simp [Instr.sliceAt, Instr.slice, run_und hu, Instr.sliceBounds, e1, run_size hi]
        intro hc
        cases a <;> simp [Addr.add]
      · rename_i h' m hl hh hm
        obtain rfl := boundI_none hl
        obtain ⟨k', rfl⟩ := boundI_some hh
        obtain ⟨k2, rfl⟩ := boundI_some hm
        obtain ⟨h1, h2, h3, h4⟩ := h
        refine ⟨_, fun w => ?_, h4⟩
        have e0 := run_sliceBound (P := P) (k := k2) (c := .slice3Acap) (x := m) (y := c) (by omega) h3
        have e1 := run_sliceBound (P := P) (k := k') (c := .slice3B) (x := h') (y := m.toNat) (by omega) (by omega)
        simp [Instr.sliceAt, Instr.slice, run_und hu, Instr.sliceBounds, e0, e1, run_size hi]
        intro hc
        cases a <;> simp [Addr.add]
      · exact h.elim
    · exact h.elim
  · exact h.elim

theorem indexAddrD_sound {t : TypeId} {x i : Value} {K : Value → Prop} (h : indexAddrD P t x i K) :
    ∃ v, (∀ w, (Instr.indexAt t x i).run P w = .ok v w) ∧ K v := by
  unfold indexAddrD at h
  split at h
  · rename_i len e b o k i hu
    split at h
    · rename_i inf hi
      obtain ⟨h1, h2, h3⟩ := h
      refine ⟨_, fun w => ?_, h3⟩
      simp [Instr.indexAt, asIntOf, run_und hu, Instr.sureAddr, h1, h2, run_size hi, add_none, pv]
    · exact h.elim
  · rename_i e a n c k i hu
    split at h
    · rename_i inf hi
      obtain ⟨b, o, rfl, h1, h2, h3⟩ := h
      refine ⟨_, fun w => ?_, h3⟩
      simp [Instr.indexAt, asIntOf, run_und hu, h1, h2, run_size hi, add_none, pv]
    · exact h.elim
  · exact h.elim

theorem indexD_sound {t : TypeId} {x i : Value} {K : Value → Prop} (h : indexD P t x i K) :
    ∃ v, (∀ w, (Instr.index t x i).run P w = .ok v w) ∧ K v := by
  unfold indexD at h
  split at h
  · rename_i s k i hu
    obtain ⟨h1, c, h2, h3⟩ := h
    refine ⟨_, fun w => ?_, h3⟩
    simp [Instr.index, asIntOf, run_und hu, h1, h2]
  · rename_i len e cs k i hu
    split at h
    · rename_i k' inf hs hi
      obtain ⟨h1, h2, h3⟩ := h
      obtain ⟨v, hv, h3⟩ := exK_ex h3
      refine ⟨_, fun w => ?_, h3⟩
      have hg : ∀ w, (isAgg e).run P w = .ok false w := by
        unfold shOf at hs
        simp only [hi] at hs
        split at hs <;> try cases hs
        split at hs <;> try cases hs
        · cases hq : Nat.beq _ _ <;> rw [hq] at hs <;> cases hs
        · cases hq : Nat.beq _ _ <;> rw [hq] at hs <;> cases hs
        · rename_i d h5 h6 h7
          intro w
          simp only [isAgg, Sem.run_bind, run_und h7, Result.andThen_ok]
          cases d <;> simp_all
      simp [Instr.index, asIntOf, run_und hu, h1, h2, run_size hi, part, hg, hv]
    · exact h.elim
  · exact h.elim

theorem fieldAddrD_sound {s : TypeId} {x : Value} {f : Nat} {K : Value → Prop} (h : fieldAddrD P s x f K) :
    ∃ v, (∀ w, (Instr.fieldAt s x f).run P w = .ok v w) ∧ K v := by
  unfold fieldAddrD at h
  split at h
  · rename_i fields b o hu
    split at h
    · rename_i fl hf
      split at h
      · rename_i i hi
        cases hz : Nat.beq i.size 0 with
        | true => rw [hz] at h; exact h.elim
        | false =>
          rw [hz] at h
          have hne : i.size ≠ 0 := fun e => by rw [e] at hz; cases hz
          refine ⟨_, fun w => ?_, h⟩
          simp [Instr.fieldAt, run_und hu, hf, Instr.sureAddr, fieldPlace, run_size hi, hne, add_none, pv]
      · exact h.elim
    · exact h.elim
  · exact h.elim

theorem wlBin_pur {K : Value → Prop} {s : Sem Value}
    (h : match pur P s with | some v => K v | none => False) : ∃ v, (∀ w, s.run P w = .ok v w) ∧ K v := by
  split at h
  · rename_i v hv; exact ⟨v, pur_run P _ hv, h⟩
  · exact h.elim

theorem run_shift {op : BinOp} {k yk : IntKind} {a b : Int} (ho : op = .shl ∨ op = .shr) (hb : 0 ≤ b) (w : World) {t : TypeId} {xo yo : Operand} :
    (do eqGuard op t xo yo (.int k a) (.int yk b); binOp op t (.int k a) (.int yk b) : Sem Value).run P w = .ok (.int k (if op matches .shl then shlV k a b else shrV k a b)) w := by
  have hn : ¬ b < 0 := by omega
  rcases ho with rfl | rfl <;> simp [eqGuard, binOp, Op.shift, hn, shlV, shrV]

theorem guard_int {op : BinOp} {t : TypeId} {xo yo : Operand} {k k' : IntKind} {a b : Int} (w : World) : (eqGuard op t xo yo (.int k a) (.int k' b)).run P w = .ok () w := by
  unfold eqGuard; cases op <;> simp

theorem wlBin_sound {op : BinOp} {t : TypeId} {xo yo : Operand} {x y : Value} {K : Value → Prop} (h : wlBin P op t xo yo x y K) :
    ∃ v, (∀ w, (do eqGuard op t xo yo x y; binOp op t x y : Sem Value).run P w = .ok v w) ∧ K v := by
  have low : ∀ {k k' : IntKind} {a b : Int}, (match pur P (binOp op t (.int k a) (.int k' b)) with | some v => K v | none => False) → x = .int k a → y = .int k' b →
      ∃ v, (∀ w, (do eqGuard op t xo yo x y; binOp op t x y : Sem Value).run P w = .ok v w) ∧ K v := by
    intro k k' a b g hx hy
    subst hx hy
    obtain ⟨v, hv, hk⟩ := wlBin_pur g
    exact ⟨v, fun w => by simp only [Sem.run_bind, guard_int, Result.andThen_ok, hv], hk⟩
  unfold wlBin at h
  split at h
  · cases hc : isC yo <;> simp only [hc, cond_true, cond_false] at h
    · exact ⟨_, fun w => run_shift (.inl rfl) h.1 w, h.2⟩
    · exact low h rfl rfl
  · cases hc : isC yo <;> simp only [hc, cond_true, cond_false] at h
    · exact ⟨_, fun w => run_shift (.inr rfl) h.1 w, h.2⟩
    · exact low h rfl rfl
  · cases hc : isC yo <;> simp only [hc, cond_true, cond_false] at h
    · obtain ⟨rfl, hb, hk⟩ := h
      exact ⟨_, fun w => by simp [guard_int, binOp, Op.intDiv, hb], hk⟩
    · exact low h rfl rfl
  · cases hc : isC yo <;> simp only [hc, cond_true, cond_false] at h
    · obtain ⟨rfl, hb, hk⟩ := h
      exact ⟨_, fun w => by simp [guard_int, binOp, Op.intDiv, hb], hk⟩
    · exact low h rfl rfl
  · rename_i a b
    obtain ⟨hl, hk⟩ := h
    refine ⟨_, fun w => ?_, hk⟩
    simp only [eqGuard, binOp, Op.stringOp, Sem.run_bind]
    simp
    omega
  · obtain ⟨b, hb, hk⟩ := h
    exact ⟨_, hb, hk⟩
  · obtain ⟨b, hb, hk⟩ := h
    exact ⟨_, hb, hk⟩
  · exact wlBin_pur h

theorem wlop_sound {o : Oper} {ρ : Env} {K : Value → Prop} (h : wlop P o ρ K) :
    ∃ v, (∀ w, (execOp (ev ρ) o).run P w = .ok (.value v) w) ∧ K v := by
  unfold wlop at h
  split at h
  · rename_i t x lo hi mx ho
    obtain ⟨v, hv, hk⟩ := sliceD_sound h
    exact ⟨v, fun w => by simp [execOp, ho, hv], hk⟩
  · rename_i ho
    obtain ⟨v, hv, hk⟩ := indexAddrD_sound h
    exact ⟨v, fun w => by simp [execOp, ho, hv], hk⟩
  · rename_i ho
    obtain ⟨v, hv, hk⟩ := indexD_sound h
    exact ⟨v, fun w => by simp [execOp, ho, hv], hk⟩
  · rename_i ho
    obtain ⟨v, hv, hk⟩ := fieldAddrD_sound h
    exact ⟨v, fun w => by simp [execOp, ho, hv], hk⟩
  · rename_i op t x y t' ho
    obtain ⟨v, hv, hk⟩ := wlBin_sound h
    refine ⟨v, fun w => ?_, hk⟩
    have := hv w
    simp only [Sem.run_bind] at this
    simp only [execOp, ho, Sem.run_bind, this, Result.andThen_ok]
    rfl
  · split at h
    · rename_i v hv; exact ⟨v, pur_run P _ hv, h⟩
    · exact h.elim

end

/-! ### Operations that read -/

/-- The class of an operation: 0 it only reckons, 1 it reads, 2 it does. -/
def cls (P : Program) (o : Oper) : Nat :=
  match o.op with
  | .load .. => 1
  | .lookup .. => 1
  | .entry _ => 1
  | .convert s d _ =>
    match P.underlying s, P.underlying d with
    | some (.slice _), some .string => 1
    | some .string, some (.slice _) => 2
    | some (.int _), some (.int _) => 0
    | some .string, some .string => 0
    | _, _ => 3
  | .call { callee := .builtin .len, argTypes, .. } =>
    match argTypes[0]? with
    | some t => match P.underlying t with
      | some (.map _ _) => 1
      | some (.chan _ _) => 3
      | _ => 0
    | none => 3
  | .call { callee := .builtin .min, .. } => 0
  | .call { callee := .builtin .max, .. } => 0
  | .move _ | .assign _ | .pick .. | .nilCheck _ | .binOp .. | .unOp .. | .makeInterface .. | .makeFunc .. | .slice .. | .fieldAddr .. | .field .. | .indexAddr .. | .index .. | .extract .. | .build .. => 0
  | .alloc _ | .box .. | .buildSlice .. | .store .. | .makeMap .. | .makeSlice .. | .mapUpdate .. | .call _ | .range .. | .next .. => 2
  | _ => 3

/-- A look-up in a map gives a value. -/
def lookR (P : Program) (t : TypeId) (m k : Value) (ok : Bool) (v : Value) (w : World) : Prop := (Instr.lookup t m k ok).run P w = .ok v w

/-- A map has so many entries. -/
def mlenR (P : Program) (t : TypeId) (m : Value) (n : Nat) (w : World) : Prop := (Builtin.len_ #[t] 0 #[m]).run P w = .ok (.int .i64 n) w

/-- The entry at which a map's iterator stands. -/
def entR (P : Program) (it : Value) (v : Value) (w : World) : Prop := (Instr.entry it).run P w = .ok v w

/-- A slice of bytes as a string. -/
def b2sR (P : Program) (s d : TypeId) (x : Value) (v : ByteArray) (w : World) : Prop := (convert s d x).run P w = .ok (.string v) w

/-- In which order a region's operations are looked at, where their order is open. -/
inductive Plan where
  | done
  | take (i : Nat) (r : Plan)
  | eff (i : Nat) (r : Plan)
  | both (i : Nat) (ri : Plan) (j : Nat) (rj : Plan)

structure Hints where
  /-- functions whose pointers may be nil -/
  nret : List Nat := []
  /-- types of pointers that may be nil where they are read -/
  nld : List Nat := []
  loops : List (Nat × List (Nat × Kd)) := []
  joins : List (Nat × List (Nat × Kd)) := []
  unroll : List (Nat × Nat) := []
  plans : List (Nat × Plan) := []
  /-- the types of a map's keys and elements where maps are gone over -/
  nx : List Nat := []

def rdop (P : Program) (H : Hints) (o : Oper) (ρ : Env) (w : World) (K : Value → (World → Prop) → Prop) : Prop :=
  match o.op with
  | .load t x =>
    match ev ρ x with
    | .pointer (some ⟨b, f, none⟩) =>
      match shOf P (H.nld.elem t) t with
      | .one k => exK k fun v => w.cell? ⟨b, f, none⟩ = some v ∧ K v (fun w' => w'.cell? ⟨b, f, none⟩ = some v)
      | .agg l => exKs l fun vs => rdRow w b f vs ∧ K (.agg vs.toArray) (fun w' => rdRow w' b f vs)
      | .bad => False
    | _ => False
  | .lookup t m k ok =>
    match P.underlying t with
    | some (.map _ e) => exSh (shOf P (H.nld.elem e) e) fun v =>
      bif ok then ∃ b : Bool, lookR P t (ev ρ m) (ev ρ k) true (.tuple #[v, .bool b]) w ∧ K (.tuple #[v, .bool b]) (lookR P t (ev ρ m) (ev ρ k) true (.tuple #[v, .bool b]))
      else lookR P t (ev ρ m) (ev ρ k) false v w ∧ K v (lookR P t (ev ρ m) (ev ρ k) false v)
    | _ => False
  | .entry it =>
    match H.nx with
    | [kt, vt] => exSh (shOf P (H.nld.elem kt) kt) fun k => exSh (shOf P (H.nld.elem vt) vt) fun x => entR P (ev ρ it) (.tuple #[k, x]) w ∧ K (.tuple #[k, x]) (entR P (ev ρ it) (.tuple #[k, x]))
    | _ => False
  | .convert s d x => ∃ v : ByteArray, b2sR P s d (ev ρ x) v w ∧ K (.string v) (b2sR P s d (ev ρ x) v)
  | .call { args, argTypes, .. } =>
    match args.toList, argTypes.toList with
    | [x], [t] => ∃ n : Nat, mlenR P t (ev ρ x) n w ∧ K (.int .i64 n) (mlenR P t (ev ρ x) n)
    | _, _ => False
  | _ => False

section
variable {P : Program}

theorem shOf_one {nl : Bool} {t : TypeId} {k : Kd} (h : shOf P nl t = .one k) : ∀ w, (isAgg t).run P w = .ok false w := by
  unfold shOf at h
  split at h <;> try cases h
  split at h <;> try cases h
  split at h <;> try cases h
  · cases hq : Nat.beq _ _ <;> rw [hq] at h <;> cases h
  · cases hq : Nat.beq _ _ <;> rw [hq] at h <;> cases h
  · rename_i d h5 h6 h7
    intro w
    simp only [isAgg, Sem.run_bind, run_und h7, Result.andThen_ok]
    cases d <;> simp_all

theorem shOf_agg {nl : Bool} {t : TypeId} {l : List Kd} (h : shOf P nl t = .agg l) : ∀ w, (isAgg t).run P w = .ok true w ∧ (sizeOf t).run P w = .ok l.length w := by
  unfold shOf at h
  split at h <;> try cases h
  rename_i i hi
  split at h <;> try cases h
  rename_i z hz
  split at h <;> try cases h
  · rename_i fs hu
    cases hq : Nat.beq z.cells.size i.size <;> rw [hq] at h <;> cases h
    intro w
    refine ⟨by simp [isAgg, run_und hu], ?_⟩
    rw [run_size hi]; simp [Nat.eq_of_beq_eq_true hq]
  · rename_i a b hu
    cases hq : Nat.beq z.cells.size i.size <;> rw [hq] at h <;> cases h
    intro w
    refine ⟨by simp [isAgg, run_und hu], ?_⟩
    rw [run_size hi]; simp [Nat.eq_of_beq_eq_true hq]

theorem run_row {w : World} {b f : Nat} {vs : List Value} (h : rdRow w b f vs) : (loadCells ⟨b, f, none⟩ vs.length).run P w = .ok vs.toArray w :=
  run_loadCells_list w _ vs fun j v hj => by rw [add_none]; exact h j v hj

theorem rdop_sound {H : Hints} {o : Oper} {ρ : Env} {w : World} {K : Value → (World → Prop) → Prop} (hc : cls P o = 1) (h : rdop P H o ρ w K) :
    ∃ v C, C w ∧ (∀ w', C w' → (execOp (ev ρ) o).run P w' = .ok (.value v) w') ∧ K v C := by
  unfold rdop at h
  split at h
  · rename_i t x ho
    split at h
    · rename_i b f hx
      split at h
      · rename_i k hs
        obtain ⟨v, hv, hk⟩ := exK_ex h
        refine ⟨v, _, hv, fun w' hw => ?_, hk⟩
        simp [execOp, ho, hx, Instr.loadAt, Instr.sureAddr, loadVar, shOf_one hs, hw]
      · rename_i l hs
        obtain ⟨vs, hl, hv, hk⟩ := exKs_ex h
        refine ⟨_, _, hv, fun w' hw => ?_, hk⟩
        have := run_row (P := P) hw
        simp [execOp, ho, hx, Instr.loadAt, Instr.sureAddr, loadVar, (shOf_agg hs w').1, (shOf_agg hs w').2, ← hl, this]
      · exact h.elim
    · exact h.elim
  · rename_i t m k ok ho
    split at h
    · rename_i kt e hu
      obtain ⟨v, h⟩ := exSh_ex h
      cases ok with
      | true =>
        simp only [cond_true] at h
        obtain ⟨b, h1, h2⟩ := h
        exact ⟨_, _, h1, fun w' hw => by simp only [lookR] at hw; simp [execOp, ho, hw], h2⟩
      | false =>
        simp only [cond_false] at h
        exact ⟨_, _, h.1, fun w' hw => by simp only [lookR] at hw; simp [execOp, ho, hw], h.2⟩
    · exact h.elim
  · rename_i it ho
    split at h
    · obtain ⟨k, h⟩ := exSh_ex h
      obtain ⟨x, h1, h2⟩ := exSh_ex h
      exact ⟨_, _, h1, fun w' hw => by simp only [entR] at hw; simp [execOp, ho, hw], h2⟩
    · exact h.elim
  · rename_i s d x ho
    obtain ⟨v, h1, h2⟩ := h
    exact ⟨_, _, h1, fun w' hw => by simp only [b2sR] at hw; simp [execOp, ho, hw], h2⟩
  · rename_i callee args ats ho
    split at h
    · rename_i x t ha ht
      obtain ⟨n, h1, h2⟩ := h
      have ha' : args = #[x] := by rw [← Array.toArray_toList (xs := args), ha]
      have ht' : ats = #[t] := by rw [← Array.toArray_toList (xs := ats), ht]
      subst ha' ht'
      have hcal : callee = .builtin .len := by
        unfold cls at hc
        rw [ho] at hc
        cases callee with
        | builtin b => cases b <;> simp at hc; rfl
        | _ => simp at hc
      subst hcal
      refine ⟨_, _, h1, fun w' hw => ?_, h2⟩
      simp only [mlenR] at hw
      have he : ∀ ty, (Builtin.len_ #[t] ty #[ev ρ x]) = (Builtin.len_ #[t] 0 #[ev ρ x]) := fun _ => rfl
      simp [execOp, ho, resolve, invoke, builtin, he, hw]
    · exact h.elim
  · exact h.elim

end

/-! ### Operations that do -/

/-- What makes one new block, and what it answers. -/
def newOf {α : Type} (P : Program) : Sem α → Option (Obj × (Nat → Option α))
  | .new o k => some (o, fun r => pur P (k r))
  | .program k => newOf P (k P)
  | _ => none

theorem newOf_run {α : Type} (P : Program) (s : Sem α) : ∀ {o : Obj} {g : Nat → Option α}, newOf P s = some (o, g) → ∀ {a : α} (w : World), g w.heap.size = some a → s.run P w = .ok a (w.alloc o) := by
  induction s with
  | new o k _ =>
    intro o' g h a w ha
    simp only [newOf, Option.some.injEq, Prod.mk.injEq] at h
    obtain ⟨rfl, rfl⟩ := h
    exact pur_run P _ ha _
  | program k ih => intro o g h a w ha; exact ih P h w ha
  | _ => intro o g h; simp [newOf] at h

def exV (P : Program) (s : Sem Value) (K : Value → World → Prop) (w : World) : Prop :=
  match s.run P w with
  | .ok v w' => K v w'
  | _ => False

def exPt (P : Program) (s : Sem Value) (K : Nat → World → Prop) (w : World) : Prop :=
  match s.run P w with
  | .ok (.pointer (some ⟨b, 0, none⟩)) w' => K b w'
  | _ => False

def nextD (P : Program) (s : Sem Value) (K0 : World → Prop) (K1 : Value → Value → World → Prop) (w : World) : Prop :=
  ∃ v w', s.run P w = .ok v w' ∧ ((v = .tuple #[.bool false] ∧ K0 w') ∨ (∃ k x, v = .tuple #[.bool true, k, x] ∧ K1 k x w'))

def retD (P : Program) (H : Hints) (f : Nat) (e : Ending) (Φ : Value → Prop) : Prop :=
  match P.funcs[f]? with
  | some fn => match fn.resultTypes.toList with
    | [] => e = .returned (.tuple #[]) ∧ Φ (.tuple #[])
    | [t] => exSh (shOf P (H.nret.elem f) t) fun v => e = .returned v ∧ Φ v
    | ts => exShs (ts.map (shOf P (H.nret.elem f))) fun vs => e = .returned (.tuple vs.toArray) ∧ Φ (.tuple vs.toArray)
  | none => False

theorem retD_ex {P : Program} {H : Hints} {f : Nat} {e : Ending} {Φ : Value → Prop} (h : retD P H f e Φ) : ∃ v, e = .returned v ∧ Φ v := by
  unfold retD at h
  split at h
  · split at h
    · exact ⟨_, h.1, h.2⟩
    · obtain ⟨v, h⟩ := exSh_ex h; exact ⟨v, h.1, h.2⟩
    · obtain ⟨vs, h⟩ := exShs_ex h; exact ⟨_, h.1, h.2⟩
  · exact h.elim

def sizeIs (P : Program) (t : TypeId) (n : Nat) : Bool :=
  match P.info? t with
  | some i => Nat.beq i.size n
  | none => false

def efop (P : Program) (H : Hints) (o : Oper) (ρ : Env) (K : Value → World → Prop) (w : World) : Prop :=
  match o.op with
  | .store t x y =>
    match ev ρ x with
    | .pointer (some ⟨b, f, none⟩) => bif sizeIs P t (ev ρ y).cells.size then stD w b f (ev ρ y).cells.toList fun w' => K undef w' else False
    | _ => False
  | .makeSlice t l c => exSl P (Instr.makeSlice t (ev ρ l) (ev ρ c)) (fun a n c w' => K (.slice a n c) w') w
  | .mapUpdate t m k x => exU P (Instr.mapUpdate t (ev ρ m) (ev ρ k) (ev ρ x)) (fun w' => K undef w') w
  | .convert s d x => exSl P (convert s d (ev ρ x)) (fun a n c w' => K (.slice a n c) w') w
  | .range t x => exPt P (Instr.range t (ev ρ x)) (fun b w' => K (pv b 0) w') w
  | .next it s =>
    match H.nx with
    | [kt, vt] => nextD P (Instr.next (ev ρ it) s o.type) (fun w' => K (.tuple #[.bool false]) w')
        (fun k x w' => exSh (shOf P (H.nld.elem kt) kt) fun k' => exSh (shOf P (H.nld.elem vt) vt) fun x' => k = k' ∧ x = x' ∧ K (.tuple #[.bool true, k', x']) w') w
    | _ => False
  | .call { callee := .builtin .append, args, argTypes } => exSl P (Builtin.append_ argTypes o.type (args.map (ev ρ))) (fun a n c w' => K (.slice a n c) w') w
  | .call { callee := .builtin .copy, args, argTypes } => exI P (Builtin.copy_ argTypes o.type (args.map (ev ρ))) (fun n w' => K (.int .i64 n) w') w
  | .call { callee := .builtin .delete, args, argTypes } => exV P (Builtin.delete_ argTypes o.type (args.map (ev ρ))) K w
  | .call _ =>
    match pur P (execOp (ev ρ) o) with
    | some (.enter f args) => Calls P f args w fun e w' => retD P H f e fun v => K v w'
    | _ => False
  | _ =>
    match newOf P (execOp (ev ρ) o) with
    | some (ob, g) => alD w ob fun b w' => match g b with | some (.value v) => K v w' | _ => False
    | none => False

/-- What an operation's run owes. -/
def good (P : Program) (K : Value → World → Prop) : Result Next → Prop
  | .ok (.value v) w' => K v w'
  | .ok .skip w' => K undef w'
  | .ok (.enter f args) w' => Calls P f args w' fun e w'' => ∃ v, e = .returned v ∧ K v w''
  | _ => False

section
variable {P : Program}

theorem stD_run {t : TypeId} {b f : Nat} {v : Value} {K : World → Prop} {w : World} (hs : sizeIs P t v.cells.size = true) (h : stD w b f v.cells.toList K) :
    ∃ w', (Instr.storeAt t (.pointer (some ⟨b, f, none⟩)) v).run P w = .ok () w' ∧ K w' := by
  obtain ⟨h1, h2, h3⟩ := h
  refine ⟨_, ?_, h3⟩
  have hst := run_storeCells_cells (P := P) b f v.cells.toList 0 w (fun j hj => by simpa using (h1 j hj).1) (fun j hj => by simpa using (h1 j hj).2) h2
  unfold sizeIs at hs
  split at hs
  · rename_i i hi
    have := Nat.eq_of_beq_eq_true hs
    simp only [Instr.storeAt, Instr.sureAddr, storeVar, Sem.run_bind, Sem.run_pure, Result.andThen_ok, run_size hi, this]
    simp
    simpa using hst
  · cases hs

theorem efop_sound {H : Hints} {o : Oper} {ρ : Env} {w : World} {K : Value → World → Prop} (h : efop P H o ρ K w) :
    good P K ((execOp (ev ρ) o).run P w) := by
  unfold efop at h
  split at h
  · rename_i t x y ho
    split at h
    · rename_i b f hx
      cases hs : sizeIs P t (ev ρ y).cells.size with
      | false => rw [hs] at h; exact h.elim
      | true =>
        rw [hs] at h
        obtain ⟨w', hr, hk⟩ := stD_run hs h
        simp only [execOp, ho, hx, Sem.run_bind, hr, Result.andThen_ok]
        exact hk
    · exact h.elim
  · rename_i t l c ho
    unfold exSl at h
    split at h
    · rename_i a n c' w' hr
      simp only [execOp, ho, Sem.run_bind, hr, Result.andThen_ok]
      exact h
    · exact h.elim
  · rename_i t m k x ho
    unfold exU at h
    split at h
    · rename_i w' hr
      simp only [execOp, ho, Sem.run_bind, hr, Result.andThen_ok]
      exact h
    · exact h.elim
  · rename_i s d x ho
    unfold exSl at h
    split at h
    · rename_i a n c' w' hr
      simp only [execOp, ho, Sem.run_bind, hr, Result.andThen_ok]
      exact h
    · exact h.elim
  · rename_i t x ho
    unfold exPt at h
    split at h
    · rename_i b w' hr
      simp only [execOp, ho, Sem.run_bind, hr, Result.andThen_ok]
      exact h
    · exact h.elim
  · rename_i it s ho
    split at h
    · obtain ⟨v, w', hr, h⟩ := h
      simp only [execOp, ho, Sem.run_bind, hr, Result.andThen_ok]
      rcases h with ⟨rfl, hk⟩ | ⟨k, x, rfl, hk⟩
      · exact hk
      · obtain ⟨k', hk⟩ := exSh_ex hk
        obtain ⟨x', rfl, rfl, hk⟩ := exSh_ex hk
        exact hk
    · exact h.elim
  · rename_i args ats ho
    unfold exSl at h
    split at h
    · rename_i a n c' w' hr
      simp only [execOp, ho, resolve, invoke, builtin, Sem.run_bind, Sem.run_pure, Result.andThen_ok, hr]
      exact h
    · exact h.elim
  · rename_i args ats ho
    unfold exI at h
    split at h
    · rename_i n w' hr
      simp only [execOp, ho, resolve, invoke, builtin, Sem.run_bind, Sem.run_pure, Result.andThen_ok, hr]
      exact h
    · exact h.elim
  · rename_i args ats ho
    unfold exV at h
    split at h
    · rename_i n w' hr
      simp only [execOp, ho, resolve, invoke, builtin, Sem.run_bind, Sem.run_pure, Result.andThen_ok, hr]
      exact h
    · exact h.elim
  · split at h
    · rename_i f args hp
      rw [pur_run P _ hp w]
      exact h.mono fun e w' he => retD_ex he
    · exact h.elim
  · split at h
    · rename_i ob g hn
      have h := h w.heap.size (w.alloc ob) rfl rfl
      dsimp only at h
      split at h
      · rename_i v hv
        rw [newOf_run P _ hn w hv]
        exact h
      · exact h.elim
    · exact h.elim

/-- An operation. -/
def dop (P : Program) (H : Hints) (o : Oper) (ρ : Env) (K : Value → World → Prop) (w : World) : Prop :=
  match cls P o with
  | 0 => wlop P o ρ fun v => K v w
  | 1 => rdop P H o ρ w fun v _ => K v w
  | 2 => efop P H o ρ K w
  | _ => False

theorem dop_sound {H : Hints} {o : Oper} {ρ : Env} {w : World} {K : Value → World → Prop} (h : dop P H o ρ K w) :
    good P K ((execOp (ev ρ) o).run P w) := by
  unfold dop at h
  split at h
  · obtain ⟨v, hv, hk⟩ := wlop_sound h; rw [hv w]; exact hk
  · rename_i hc
    obtain ⟨v, C, hC, hv, hk⟩ := rdop_sound hc h; rw [hv w hC]; exact hk
  · exact efop_sound h
  · exact h.elim

end

/-! ### Statements -/

def gslot (ops : List Oper) (j : Nat) : Option Nat := (ops[j]?).bind (·.dst)

/-- A region's operations, one behind the other. -/
def dops (P : Program) (H : Hints) (N : Nat) (all : List Oper) : List Oper → (Env → World → Prop) → Env → World → Prop
  | [], K, ρ, w => K ρ w
  | o :: r, K, ρ, w =>
    match o.guard with
    | none => dop P H o ρ (fun v w' => dops P H N all r K (put N ρ o.dst v) w') w
    | some (j, want) =>
      match gslot all j with
      | none => False
      | some d =>
        match ρ d with
        | .bool b =>
          match b with
          | true => bif want then dop P H o (put N ρ (some d) (.bool true)) (fun v w' => dops P H N all r K (put N (put N ρ (some d) (.bool true)) o.dst v) w') w
              else dops P H N all r K (put N (put N ρ (some d) (.bool true)) o.dst undef) w
          | false => bif want then dops P H N all r K (put N (put N ρ (some d) (.bool false)) o.dst undef) w
              else dop P H o (put N ρ (some d) (.bool false)) (fun v w' => dops P H N all r K (put N (put N ρ (some d) (.bool false)) o.dst v) w') w
        | .tuple _ => dops P H N all r K (put N ρ o.dst undef) w
        | _ => False

def seqK (next : Env → World → Prop) (Q : Exit → Env → World → Prop) : Exit → Env → World → Prop
  | .normal, ρ, w => next ρ w
  | e, ρ, w => Q e ρ w

def blkK (id : Nat) (Q : Exit → Env → World → Prop) : Exit → Env → World → Prop
  | .exit i, ρ, w => bif Nat.beq i id then Q .normal ρ w else Q (.exit i) ρ w
  | e, ρ, w => Q e ρ w

def ngK (Q : Exit → Env → World → Prop) : Exit → Env → World → Prop
  | .goto _, _, _ => False
  | e, ρ, w => Q e ρ w

def dsts (ops : List Oper) : List Nat := ops.filterMap (·.dst)

def writes : Code → List Nat
  | .region _ ops _ => dsts ops.toList
  | .seq a b => writes a ++ writes b
  | .cond _ a b => writes a ++ writes b
  | .block _ c => writes c
  | .loop c => writes c
  | .scope c => writes c
  | _ => []

def put1 (ρ : Env) (s : Nat) (v : Value) : Env := fun n => bif Nat.beq n s then v else ρ n
def havoc (W : List Nat) (jk ρ : Env) : Env := fun n => bif W.any (Nat.beq n) then jk n else ρ n

def CurT (X : Type) : List (Nat × Kd) → Type
  | [] => X
  | (_, .int _) :: r => Int → CurT X r
  | (_, .bool) :: r => Bool → CurT X r
  | (_, .str) :: r => ByteArray → CurT X r
  | (_, .ptr) :: r => Nat → Nat → CurT X r
  | (_, .nptr) :: r => Option Addr → CurT X r
  | (_, .slice) :: r => Option Addr → Nat → Nat → CurT X r
  | (_, .map) :: r => Nat → CurT X r
  | (_, .any) :: r => Value → CurT X r

def appP {X : Type} : (l : List (Nat × Kd)) → CurT X l → X → Env → X
  | [], f, _, _ => f
  | (s, .int k) :: r, f, z, ρ => match ρ s with | .int k' x => bif decide (k' = k) then appP r (f x) z ρ else z | _ => z
  | (s, .bool) :: r, f, z, ρ => match ρ s with | .bool x => appP r (f x) z ρ | _ => z
  | (s, .str) :: r, f, z, ρ => match ρ s with | .string x => appP r (f x) z ρ | _ => z
  | (s, .ptr) :: r, f, z, ρ => match ρ s with | .pointer (some ⟨b, o, none⟩) => appP r (f b o) z ρ | _ => z
  | (s, .nptr) :: r, f, z, ρ => match ρ s with | .pointer a => appP r (f a) z ρ | _ => z
  | (s, .slice) :: r, f, z, ρ => match ρ s with | .slice a n c => appP r (f a n c) z ρ | _ => z
  | (s, .map) :: r, f, z, ρ => match ρ s with | .map (some m) => appP r (f m) z ρ | _ => z
  | (s, .any) :: r, f, z, ρ => appP r (f (ρ s)) z ρ

def noW : World → Prop := fun _ => False
def noN : World → Nat := fun _ => 0

/-- For all values of these slots. -/
def allT : (l : List (Nat × Kd)) → CurT (World → Prop) l → CurT (World → Nat) l → Env → (Env → (World → Nat) → World → Prop) → Prop
  | [], I, μ, ρ, B => ∀ w, I w → B ρ μ w
  | (s, .int k) :: r, I, μ, ρ, B => ∀ x : Int, allT r (I x) (μ x) (put1 ρ s (.int k x)) B
  | (s, .bool) :: r, I, μ, ρ, B => ∀ x : Bool, allT r (I x) (μ x) (put1 ρ s (.bool x)) B
  | (s, .str) :: r, I, μ, ρ, B => ∀ x : ByteArray, allT r (I x) (μ x) (put1 ρ s (.string x)) B
  | (s, .ptr) :: r, I, μ, ρ, B => ∀ b o : Nat, allT r (I b o) (μ b o) (put1 ρ s (pv b o)) B
  | (s, .nptr) :: r, I, μ, ρ, B => ∀ a : Option Addr, allT r (I a) (μ a) (put1 ρ s (.pointer a)) B
  | (s, .slice) :: r, I, μ, ρ, B => ∀ (a : Option Addr) (n c : Nat), allT r (I a n c) (μ a n c) (put1 ρ s (.slice a n c)) B
  | (s, .map) :: r, I, μ, ρ, B => ∀ m : Nat, allT r (I m) (μ m) (put1 ρ s (.map (some m))) B
  | (s, .any) :: r, I, μ, ρ, B => ∀ v : Value, allT r (I v) (μ v) (put1 ρ s v) B

def allJ : (l : List (Nat × Kd)) → CurT (World → Prop) l → Env → (Env → World → Prop) → Prop
  | [], I, ρ, B => ∀ w, I w → B ρ w
  | (s, .int k) :: r, I, ρ, B => ∀ x : Int, allJ r (I x) (put1 ρ s (.int k x)) B
  | (s, .bool) :: r, I, ρ, B => ∀ x : Bool, allJ r (I x) (put1 ρ s (.bool x)) B
  | (s, .str) :: r, I, ρ, B => ∀ x : ByteArray, allJ r (I x) (put1 ρ s (.string x)) B
  | (s, .ptr) :: r, I, ρ, B => ∀ b o : Nat, allJ r (I b o) (put1 ρ s (pv b o)) B
  | (s, .nptr) :: r, I, ρ, B => ∀ a : Option Addr, allJ r (I a) (put1 ρ s (.pointer a)) B
  | (s, .slice) :: r, I, ρ, B => ∀ (a : Option Addr) (n c : Nat), allJ r (I a n c) (put1 ρ s (.slice a n c)) B
  | (s, .map) :: r, I, ρ, B => ∀ m : Nat, allJ r (I m) (put1 ρ s (.map (some m))) B
  | (s, .any) :: r, I, ρ, B => ∀ v : Value, allJ r (I v) (put1 ρ s v) B

def zeroT : (l : List (Nat × Kd)) → CurT (World → Nat) l
  | [] => noN
  | (_, .int _) :: r => fun _ => zeroT r
  | (_, .bool) :: r => fun _ => zeroT r
  | (_, .str) :: r => fun _ => zeroT r
  | (_, .ptr) :: r => fun _ _ => zeroT r
  | (_, .nptr) :: r => fun _ => zeroT r
  | (_, .slice) :: r => fun _ _ _ => zeroT r
  | (_, .map) :: r => fun _ => zeroT r
  | (_, .any) :: r => fun _ => zeroT r

theorem allJ_allT : ∀ (l : List (Nat × Kd)) {I : CurT (World → Prop) l} {ρ : Env} {B : Env → World → Prop}, allJ l I ρ B → allT l I (zeroT l) ρ (fun ρ _ w => B ρ w)
  | [], _, _, _, h => h
  | (_, .int _) :: r, _, _, _, h => fun x => allJ_allT r (h x)
  | (_, .bool) :: r, _, _, _, h => fun x => allJ_allT r (h x)
  | (_, .str) :: r, _, _, _, h => fun x => allJ_allT r (h x)
  | (_, .ptr) :: r, _, _, _, h => fun x y => allJ_allT r (h x y)
  | (_, .nptr) :: r, _, _, _, h => fun x => allJ_allT r (h x)
  | (_, .slice) :: r, _, _, _, h => fun x y z => allJ_allT r (h x y z)
  | (_, .map) :: r, _, _, _, h => fun x => allJ_allT r (h x)
  | (_, .any) :: r, _, _, _, h => fun x => allJ_allT r (h x)

theorem put1_self (ρ : Env) (s : Nat) {v : Value} (h : ρ s = v) : put1 ρ s v = ρ := by
  funext n
  unfold put1
  cases hn : Nat.beq n s with
  | true => rw [Nat.eq_of_beq_eq_true hn, h]; rfl
  | false => rfl

section
variable {X : Type} {r : List (Nat × Kd)} {s : Nat} {ρ : Env}
theorem appP_int {k : IntKind} {x : Int} (hx : ρ s = .int k x) (f : CurT X ((s, .int k) :: r)) (z : X) : appP ((s, .int k) :: r) f z ρ = appP r (f x) z ρ := by
  show (match ρ s with | .int k' x => bif decide (k' = k) then appP r (f x) z ρ else z | _ => z) = _
  rw [hx]; show (bif decide (k = k) then _ else _) = _; rw [decide_eq_true (Eq.refl k)]; rfl
theorem appP_bool {x : Bool} (hx : ρ s = .bool x) (f : CurT X ((s, .bool) :: r)) (z : X) : appP ((s, .bool) :: r) f z ρ = appP r (f x) z ρ := by
  show (match ρ s with | .bool x => appP r (f x) z ρ | _ => z) = _
  rw [hx]
theorem appP_str {x : ByteArray} (hx : ρ s = .string x) (f : CurT X ((s, .str) :: r)) (z : X) : appP ((s, .str) :: r) f z ρ = appP r (f x) z ρ := by
  show (match ρ s with | .string x => appP r (f x) z ρ | _ => z) = _
  rw [hx]
theorem appP_ptr {b o : Nat} (hx : ρ s = .pointer (some ⟨b, o, none⟩)) (f : CurT X ((s, .ptr) :: r)) (z : X) : appP ((s, .ptr) :: r) f z ρ = appP r (f b o) z ρ := by
  show (match ρ s with | .pointer (some ⟨b, o, none⟩) => appP r (f b o) z ρ | _ => z) = _
  rw [hx]
theorem appP_nptr {x : Option Addr} (hx : ρ s = .pointer x) (f : CurT X ((s, .nptr) :: r)) (z : X) : appP ((s, .nptr) :: r) f z ρ = appP r (f x) z ρ := by
  show (match ρ s with | .pointer x => appP r (f x) z ρ | _ => z) = _
  rw [hx]
theorem appP_slice {a : Option Addr} {n c : Nat} (hx : ρ s = .slice a n c) (f : CurT X ((s, .slice) :: r)) (z : X) : appP ((s, .slice) :: r) f z ρ = appP r (f a n c) z ρ := by
  show (match ρ s with | .slice a n c => appP r (f a n c) z ρ | _ => z) = _
  rw [hx]
theorem appP_map {x : Nat} (hx : ρ s = .map (some x)) (f : CurT X ((s, .map) :: r)) (z : X) : appP ((s, .map) :: r) f z ρ = appP r (f x) z ρ := by
  show (match ρ s with | .map (some x) => appP r (f x) z ρ | _ => z) = _
  rw [hx]
end

theorem allT_app : ∀ (l : List (Nat × Kd)) {I : CurT (World → Prop) l} {μ : CurT (World → Nat) l} {ρ : Env} {B : Env → (World → Nat) → World → Prop} {w : World},
    allT l I μ ρ B → appP l I noW ρ w → B ρ (appP l μ noN ρ) w
  | [], I, μ, ρ, B, w, h, ha => h w ha
  | (s, .int k) :: r, I, μ, ρ, B, w, h, ha => by
    cases hx : ρ s with
    | int k' x =>
      by_cases hk : k' = k
      · subst hk
        rw [appP_int hx] at ha
        rw [appP_int hx]
        have := h x
        rw [put1_self ρ s hx] at this
        exact allT_app r this ha
      · have e1 : appP ((s, .int k) :: r) I noW ρ = noW := by
          show (match ρ s with | .int k' x => bif decide (k' = k) then appP r (I x) noW ρ else noW | _ => noW) = _
          rw [hx]; show (bif decide (k' = k) then _ else _) = _; rw [decide_eq_false hk]; rfl
        rw [e1] at ha
        exact ha.elim
    | _ => unfold appP at ha; rw [hx] at ha; exact ha.elim
  | (s, .bool) :: r, I, μ, ρ, B, w, h, ha => by
    cases hx : ρ s with
    | bool x =>
      rw [appP_bool hx] at ha
      rw [appP_bool hx]
      have := h x
      rw [put1_self ρ s hx] at this
      exact allT_app r this ha
    | _ => unfold appP at ha; rw [hx] at ha; exact ha.elim
  | (s, .str) :: r, I, μ, ρ, B, w, h, ha => by
    cases hx : ρ s with
    | string x =>
      rw [appP_str hx] at ha
      rw [appP_str hx]
      have := h x
      rw [put1_self ρ s hx] at this
      exact allT_app r this ha
    | _ => unfold appP at ha; rw [hx] at ha; exact ha.elim
  | (s, .ptr) :: r, I, μ, ρ, B, w, h, ha => by
    cases hx : ρ s with
    | pointer a =>
      match a, hx with
      | none, hx => unfold appP at ha; rw [hx] at ha; exact ha.elim
      | some ⟨b, o, some s'⟩, hx => unfold appP at ha; rw [hx] at ha; exact ha.elim
      | some ⟨b, o, none⟩, hx =>
        rw [appP_ptr hx] at ha
        rw [appP_ptr hx]
        have := h b o
        rw [put1_self ρ s (v := pv b o) hx] at this
        exact allT_app r this ha
    | _ => unfold appP at ha; rw [hx] at ha; exact ha.elim
  | (s, .nptr) :: r, I, μ, ρ, B, w, h, ha => by
    cases hx : ρ s with
    | pointer x =>
      rw [appP_nptr hx] at ha
      rw [appP_nptr hx]
      have := h x
      rw [put1_self ρ s hx] at this
      exact allT_app r this ha
    | _ => unfold appP at ha; rw [hx] at ha; exact ha.elim
  | (s, .slice) :: r, I, μ, ρ, B, w, h, ha => by
    cases hx : ρ s with
    | slice a n c =>
      rw [appP_slice hx] at ha
      rw [appP_slice hx]
      have := h a n c
      rw [put1_self ρ s hx] at this
      exact allT_app r this ha
    | _ => unfold appP at ha; rw [hx] at ha; exact ha.elim
  | (s, .map) :: r, I, μ, ρ, B, w, h, ha => by
    cases hx : ρ s with
    | map m =>
      cases m with
      | none => unfold appP at ha; rw [hx] at ha; exact ha.elim
      | some x =>
        rw [appP_map hx] at ha
        rw [appP_map hx]
        have := h x
        rw [put1_self ρ s hx] at this
        exact allT_app r this ha
    | _ => unfold appP at ha; rw [hx] at ha; exact ha.elim
  | (s, .any) :: r, I, μ, ρ, B, w, h, ha => by
    have := h (ρ s)
    rw [put1_self ρ s rfl] at this
    exact allT_app r this ha


/-! ### What is enough is enough: lists of operations -/

def envOf (a : Act) : Env := fun t => a.tmps.getD t undef

theorem eval_env (a : Act) : a.eval = ev (envOf a) := by
  funext x; cases x <;> rfl

theorem env_put {N : Nat} {a : Act} (hN : a.tmps.size = N) (d : Option Nat) (v : Value) : envOf (a.put d v) = put N (envOf a) d v := by
  cases d with
  | none => rfl
  | some t =>
    funext n
    unfold put
    by_cases ht : t < N
    · have hb : Nat.blt t N = true := by simpa using ht
      simp only [hb, cond_true]
      by_cases hn : n = t
      · subst hn
        have : Nat.beq n n = true := Nat.beq_refl n
        simp only [this, cond_true, envOf, Act.put]
        rw [Array.getD_eq_getD_getElem?, Array.getElem?_setIfInBounds]
        simp [hN, ht]
      · have : Nat.beq n t = false := by
          cases h : Nat.beq n t with
          | false => rfl
          | true => exact absurd (Nat.eq_of_beq_eq_true h) hn
        simp only [this, cond_false, envOf, Act.put]
        rw [Array.getD_eq_getD_getElem?, Array.getD_eq_getD_getElem?, Array.getElem?_setIfInBounds]
        rw [if_neg (fun e => hn e.symm)]
    · have hb : Nat.blt t N = false := by
        cases h : Nat.blt t N with
        | false => rfl
        | true => exact absurd (by simpa using h) ht
      simp only [hb, cond_false, envOf, Act.put]
      rw [Array.getD_eq_getD_getElem?, Array.getD_eq_getD_getElem?, Array.getElem?_setIfInBounds]
      by_cases hn : t = n
      · subst hn; simp [hN, ht]
      · rw [if_neg hn]

theorem size_put {N : Nat} {a : Act} (hN : a.tmps.size = N) (d : Option Nat) (v : Value) : (a.put d v).tmps.size = N := by
  cases d <;> simp [Act.put, hN]

theorem defers_put (a : Act) (d : Option Nat) (v : Value) : (a.put d v).defers = a.defers := by
  cases d <;> rfl

theorem put_some (N : Nat) (ρ : Env) (d : Nat) (v : Value) (n : Nat) : put N ρ (some d) v n = bif Nat.blt d N then (bif Nat.beq n d then v else ρ n) else ρ n := by
  unfold put; dsimp only; cases Nat.blt d N <;> rfl

theorem put_other {N : Nat} {ρ : Env} {d : Option Nat} {v : Value} {s : Nat} (h : ∀ t, d = some t → s ≠ t) : put N ρ d v s = ρ s := by
  cases d with
  | none => rfl
  | some t =>
    rw [put_some]
    have : Nat.beq s t = false := by
      cases hb : Nat.beq s t with
      | false => rfl
      | true => exact absurd (Nat.eq_of_beq_eq_true hb) (h t rfl)
    rw [this]; cases Nat.blt t N <;> rfl

theorem put_self {N : Nat} {ρ : Env} {d : Nat} {v : Value} (h : ρ d = v) : put N ρ (some d) v = ρ := by
  funext n
  rw [put_some]
  cases hb : Nat.beq n d with
  | false => cases Nat.blt d N <;> rfl
  | true => rw [Nat.eq_of_beq_eq_true hb, h]; cases Nat.blt d N <;> rfl

section
variable {P : Program}

theorem good_upon {o : Oper} {a : Act} {next : Act → World → Prop} {Q : Exit → Act → World → Prop} {K : Value → World → Prop} {r : Result Next}
    (h : good P K r) (hk : ∀ v w', K v w' → next (a.put o.dst v) w') : o.upon P a next Q r := by
  unfold good at h
  split at h
  · exact hk _ _ h
  · exact hk _ _ h
  · refine h.mono fun e w'' he => ?_
    obtain ⟨v, rfl, he⟩ := he
    exact hk _ _ he
  · exact h.elim

/-- How a list of operations may leave a frame. -/
structure Kept (N : Nat) (W : List Nat) (a a' : Act) : Prop where
  size : a'.tmps.size = N
  defers : a'.defers = a.defers
  same : ∀ s, s ∉ W → envOf a' s = envOf a s

theorem Kept.refl {N : Nat} {W : List Nat} {a : Act} (h : a.tmps.size = N) : Kept N W a a := ⟨h, rfl, fun _ _ => rfl⟩
theorem Kept.trans {N : Nat} {W W1 W2 : List Nat} {a b c : Act} (h : Kept N W1 a b) (k : Kept N W2 b c) (h1 : ∀ s ∈ W1, s ∈ W) (h2 : ∀ s ∈ W2, s ∈ W) : Kept N W a c :=
  ⟨k.size, k.defers.trans h.defers, fun s hs => (k.same s fun hx => hs (h2 s hx)).trans (h.same s fun hx => hs (h1 s hx))⟩
theorem Kept.put {N : Nat} {a : Act} (h : a.tmps.size = N) (d : Option Nat) (v : Value) : Kept N d.toList a (a.put d v) :=
  ⟨size_put h d v, defers_put a d v, fun s hs => by
    rw [env_put h]; exact put_other fun t ht => by subst ht; simpa using hs⟩

theorem yielded_env {ops : Array Oper} {j d : Nat} (hj : gslot ops.toList j = some d) (a : Act) :
    yielded ops a.tmps j = match envOf a d with | .bool b => some b | _ => none := by
  unfold gslot at hj
  have hj' : ((ops[j]?).bind (·.dst)) = some d := by simpa using hj
  unfold yielded
  rw [hj']
  simp only [Option.bind_some, envOf, Array.getD_eq_getD_getElem?]
  cases h : a.tmps[d]? with
  | none => simp [undef]
  | some v => cases v <;> simp

theorem wanted_env {ops : Array Oper} {o : Oper} {j d : Nat} {want : Bool} (hg : o.guard = some (j, want)) (hj : gslot ops.toList j = some d) (a : Act) :
    Region.wanted o (yielded ops a.tmps) = match envOf a d with | .bool b => b == want | _ => false := by
  unfold Region.wanted
  rw [hg]
  simp only [yielded_env hj]
  cases envOf a d <;> simp

theorem dops_sound {H : Hints} {N : Nat} {ops : Array Oper} {Q : Exit → Act → World → Prop} :
    ∀ (r : List Oper) {K : Env → World → Prop} {a : Act} {w : World}, a.tmps.size = N → dops P H N ops.toList r K (envOf a) w →
      (∀ a' w', Kept N (dsts r) a a' → K (envOf a') w' → Q .normal a' w') → wpList P ops Q r a w
  | [], K, a, w, hN, h, hk => hk a w (Kept.refl hN) h
  | o :: r, K, a, w, hN, h, hk => by
    have sub1 : ∀ s ∈ o.dst.toList, s ∈ dsts (o :: r) := by
      intro s hs
      cases hd : o.dst with
      | none => rw [hd] at hs; cases hs
      | some d => rw [hd] at hs; simp at hs; subst hs; simp [dsts, hd]
    have sub2 : ∀ s ∈ dsts r, s ∈ dsts (o :: r) := by
      intro s hs
      cases hd : o.dst with
      | none => simpa [dsts, hd] using hs
      | some d => simp only [dsts, List.filterMap_cons, hd]; exact List.mem_cons_of_mem _ hs
    have next : ∀ (v : Value) (w' : World), dops P H N ops.toList r K (put N (envOf a) o.dst v) w' → wpList P ops Q r (a.put o.dst v) w' := fun v w' hd =>
      dops_sound r (size_put hN _ _) (by rw [env_put hN]; exact hd) fun a' w'' hkept hK =>
        hk a' w'' ((Kept.put hN o.dst v).trans hkept sub1 sub2) hK
    have runs : dop P H o (envOf a) (fun v w' => dops P H N ops.toList r K (put N (envOf a) o.dst v) w') w →
        ∀ K' : Act → World → Prop, (∀ a w, wpList P ops Q r a w → K' a w) → o.wp P a w K' Q := fun hd K' hK' => by
      unfold Oper.wp
      rw [eval_env]
      exact good_upon (dop_sound hd) fun v w' hv => hK' _ _ (next v w' hv)
    refine wpList_step fun K' hK' => ?_
    unfold dops at h
    split at h
    · rename_i hg
      rw [if_pos (by simp [Region.wanted, hg])]
      exact runs h K' hK'
    · rename_i j want hg
      split at h
      · exact h.elim
      · rename_i d hj
        rw [wanted_env hg hj]
        split at h
        · rename_i b hb
          simp only [hb]
          cases b with
          | true =>
            simp only [put_self hb] at h
            cases want with
            | true => simp only [cond_true] at h; exact runs h K' hK'
            | false => simp only [cond_false] at h; simp only [Bool.true_beq, Bool.false_eq_true, if_false]; exact hK' _ _ (next _ _ h)
          | false =>
            simp only [put_self hb] at h
            cases want with
            | true => simp only [cond_true] at h; simp only [Bool.false_beq, Bool.not_true, Bool.false_eq_true, if_false]; exact hK' _ _ (next _ _ h)
            | false => simp only [cond_false] at h; exact runs h K' hK'
        · rename_i vs hb
          simp only [hb, Bool.false_eq_true, if_false]
          exact hK' _ _ (next _ _ h)
        · exact h.elim

end


/-! ### Regions whose order is open -/

def dep (ops : Array Oper) (j k : Nat) : Bool :=
  match ops[j]? with
  | some o => o.after.any fun e => Region.binds .any e && Nat.beq e.on k
  | none => false

abbrev Pend := List (Nat × (World → Prop))

section
variable {P : Program} {ops : Array Oper} {Q : Exit → Act → World → Prop}

def wpM (P : Program) (ops : Array Oper) (Q : Exit → Act → World → Prop) : Nat → Array Bool → Pend → Act → World → Prop
  | 0, listed, _, a, w => Region.ready .any ops listed = [] ∧ Q .normal a w
  | fuel + 1, listed, L, a, w =>
    (Region.ready .any ops listed = [] → Q .normal a w) ∧
    ∀ j ∈ Region.ready .any ops listed, wpOp P ops Q j (fun a' w' => (∀ p ∈ L, dep ops j p.1 = false → p.2 w') ∧
      wpM P ops Q fuel (listed.setIfInBounds j true) (L.filter fun p => !dep ops j p.1) a' w') a w

theorem wpM_less : ∀ (fuel : Nat) {listed : Array Bool} {L L' : Pend} {a : Act} {w : World}, (∀ p ∈ L', p ∈ L) → wpM P ops Q fuel listed L a w → wpM P ops Q fuel listed L' a w
  | 0, _, _, _, _, _, _, h => h
  | fuel + 1, listed, L, L', a, w, hs, h => ⟨h.1, fun j hj => wpOp_mono (fun a' w' h' => ⟨fun p hp => h'.1 p (hs p hp), wpM_less fuel (fun p hp => by
      rw [List.mem_filter] at hp ⊢; exact ⟨hs p hp.1, hp.2⟩) h'.2⟩) (h.2 j hj)⟩

theorem wpM_true {i : Nat} : ∀ (fuel : Nat) {listed : Array Bool} {L : Pend} {a : Act} {w : World}, wpM P ops Q fuel listed L a w → wpM P ops Q fuel listed ((i, fun _ => True) :: L) a w
  | 0, _, _, _, _, h => h
  | fuel + 1, listed, L, a, w, h => ⟨h.1, fun j hj => wpOp_mono (fun a' w' h' => ⟨fun p hp hd => by
      rcases List.mem_cons.1 hp with rfl | hp
      · trivial
      · exact h'.1 p hp hd, by
      rw [List.filter_cons]
      split
      · exact wpM_true fuel h'.2
      · exact h'.2⟩) (h.2 j hj)⟩

theorem wpAny_of_wpM : ∀ (fuel : Nat) {listed : Array Bool} {L : Pend} {a : Act} {w : World}, wpM P ops Q fuel listed L a w → wpAny P .any ops Q fuel listed a w
  | 0, _, _, _, _, h => h
  | fuel + 1, _, _, _, _, h => ⟨h.1, fun j hj => wpOp_mono (fun a' w' h' => wpAny_of_wpM fuel h'.2) (h.2 j hj)⟩

theorem wpM_take {i : Nat} {oi : Oper} {v : Value} {C : World → Prop} (hi : ops[i]? = some oi) (hsel : ∀ (j : Nat) (o : Oper) cs b, ops[j]? = some o → o.op ≠ .select cs b)
    (hQ : ∀ c a w, Q (.panic c) (a.put oi.dst v) w → Q (.panic c) a w) :
    ∀ (fuel : Nat) (listed : Array Bool) (L : Pend) (a : Act) (w : World),
      (∀ j oj, ops[j]? = some oj → j ≠ i → listed.getD j true = false → (∀ e ∈ oj.after, Region.binds .any e = true → e.on ≠ i) → oi.apart ops oj = true) →
      i ∈ Region.ready .any ops listed → YieldsIf P ops C oi v a → C w → (∀ p ∈ L, p.2 w) →
      wpM P ops Q fuel (listed.setIfInBounds i true) ((i, C) :: L) (a.put oi.dst v) w → wpM P ops Q (fuel + 1) listed L a w := by
  intro fuel
  induction fuel with
  | zero =>
    intro listed L a w _ hr hy hC hL H
    refine ⟨fun h => (by rw [h] at hr; cases hr), fun j hj => ?_⟩
    by_cases hji : j = i
    · subst hji
      exact hy.wpOp hi hC ⟨fun p hp _ => hL p hp, H⟩
    · have := ready_mono hj hji
      rw [H.1] at this
      cases this
  | succ fuel ih =>
    intro listed L a w hfree hr hy hC hL H
    refine ⟨fun h => (by rw [h] at hr; cases hr), fun j hj => ?_⟩
    by_cases hji : j = i
    · subst hji
      exact hy.wpOp hi hC ⟨fun p hp _ => hL p hp, wpM_less (fuel + 1) (fun p hp => List.mem_cons_of_mem _ (List.mem_filter.1 hp).1) H⟩
    · have h1 := H.2 j (ready_mono hj hji)
      obtain ⟨hjun, oj, hoj, hall⟩ := mem_ready.1 hj
      have hnot : ∀ e ∈ oj.after, Region.binds .any e = true → e.on ≠ i := fun e he hb heq => by
        have h1 := hall e he hb
        have h0 := (mem_ready.1 hr).1
        rw [heq] at h1
        rcases Nat.lt_or_ge i listed.size with h' | h'
        · simp [h'] at h0 h1; rw [h0] at h1; cases h1
        · simp [Array.getElem?_eq_none h'] at h1
      have hdep : dep ops j i = false := by
        cases hd : dep ops j i with
        | false => rfl
        | true =>
          unfold dep at hd
          rw [hoj] at hd
          obtain ⟨e, he, hb⟩ := Array.any_eq_true'.1 hd
          simp only [Bool.and_eq_true] at hb
          exact absurd (Nat.eq_of_beq_eq_true hb.2) (hnot e he hb.1)
      have h2 := wpOp_putIf hoj (hfree j oj hoj hji hjun hnot) (fun cs b => hsel i oi cs b hi) (fun cs b => hsel j oj cs b hoj) hQ hy h1
      have hfree' : ∀ k ok, ops[k]? = some ok → k ≠ i → (listed.setIfInBounds j true).getD k true = false →
          (∀ e ∈ ok.after, Region.binds .any e = true → e.on ≠ i) → oi.apart ops ok = true := fun k ok hk hki hun hno => by
        refine hfree k ok hk hki ?_ hno
        by_cases hjk : j = k
        · subst hjk; exact hjun
        · rw [getD_set_ne true hjk] at hun; exact hun
      refine wpOp_mono (fun a' w' h3 => ?_) h2
      obtain ⟨hy', hob, hm⟩ := h3
      refine ⟨fun p hp hd => hob p (List.mem_cons_of_mem _ hp) hd, ?_⟩
      refine ih (listed.setIfInBounds j true) _ a' w' hfree' (ready_mono hr (Ne.symm hji)) hy' (hob (i, C) List.mem_cons_self hdep) (fun p hp => ?_) ?_
      · rw [List.mem_filter] at hp
        exact hob p (List.mem_cons_of_mem _ hp.1) (by simpa using hp.2)
      · rw [Array.setIfInBounds_comm _ _ hji]
        simpa [List.filter_cons, hdep] using hm

end

def gd (N : Nat) (all : List Oper) (o : Oper) (ρ : Env) (yes no : Env → Prop) : Prop :=
  match o.guard with
  | none => yes ρ
  | some (j, want) =>
    match gslot all j with
    | none => False
    | some d =>
      match ρ d with
      | .bool b =>
        match b with
        | true => (bif want then yes else no) (put N ρ (some d) (.bool true))
        | false => (bif want then no else yes) (put N ρ (some d) (.bool false))
      | .tuple _ => no ρ
      | _ => False

def stab (ops : Array Oper) (j : Nat) : Pend → World → Prop → Prop
  | [], _, R => R
  | (k, C) :: L, w, R => bif dep ops j k then stab ops j L w R else C w ∧ stab ops j L w R

def effD (P : Program) (H : Hints) (N : Nat) (ops : Array Oper) (i : Nat) (L : Pend) (next : Pend → Env → World → Prop) (ρ : Env) (w : World) : Prop :=
  match ops[i]? with
  | none => False
  | some o => gd N ops.toList o ρ
      (fun ρ => efop P H o ρ (fun v w' => stab ops i L w' (next (L.filter fun p => !dep ops i p.1) (put N ρ o.dst v) w')) w)
      (fun ρ => next L (put N ρ o.dst undef) w)

def drD (P : Program) (H : Hints) (N : Nat) (ops : Array Oper) (K : Env → World → Prop) : Plan → Pend → Env → World → Prop
  | .done, _, ρ, w => K ρ w
  | .take i r, L, ρ, w =>
    match ops[i]? with
    | none => False
    | some o => gd N ops.toList o ρ
        (fun ρ => match cls P o with
          | 0 => wlop P o ρ fun v => drD P H N ops K r L (put N ρ o.dst v) w
          | 1 => rdop P H o ρ w fun v C => drD P H N ops K r ((i, C) :: L) (put N ρ o.dst v) w
          | _ => False)
        (fun ρ => drD P H N ops K r L (put N ρ o.dst undef) w)
  | .eff i r, L, ρ, w => effD P H N ops i L (drD P H N ops K r) ρ w
  | .both i ri j rj, L, ρ, w => effD P H N ops i L (drD P H N ops K ri) ρ w ∧ effD P H N ops j L (drD P H N ops K rj) ρ w

def Plan.len : Plan → Nat
  | .done => 0
  | .take _ r => r.len + 1
  | .eff _ r => r.len + 1
  | .both _ ri _ rj => max ri.len rj.len + 1

def okPlan (ops : Array Oper) : Array Bool → Plan → Bool
  | listed, .done => (Region.ready .any ops listed).isEmpty
  | listed, .take i r => (Region.ready .any ops listed).contains i && Region.free .any ops listed i && okPlan ops (listed.setIfInBounds i true) r
  | listed, .eff i r => (Region.ready .any ops listed).all (· == i) && (Region.ready .any ops listed).contains i && okPlan ops (listed.setIfInBounds i true) r
  | listed, .both i ri j rj => (Region.ready .any ops listed).all (fun k => k == i || k == j) && (Region.ready .any ops listed).contains i &&
      okPlan ops (listed.setIfInBounds i true) ri && okPlan ops (listed.setIfInBounds j true) rj

def planOk (ops : Array Oper) (p : Plan) : Bool := okPlan ops (Array.replicate ops.size false) p && Region.noSelect ops && Nat.ble p.len ops.size

def drewD (w : World) (K : World → Prop) : Prop := ∀ w', w' = w.drew → K w'

section
variable {P : Program} {H : Hints} {N : Nat} {ops : Array Oper}

theorem stab_all {j : Nat} {w : World} {R : Prop} : ∀ {L : Pend}, stab ops j L w R → (∀ p ∈ L, dep ops j p.1 = false → p.2 w) ∧ R
  | [], h => ⟨fun _ hp => (by cases hp), h⟩
  | (k, C) :: L, h => by
    unfold stab at h
    cases hd : dep ops j k with
    | true =>
      rw [hd] at h
      obtain ⟨h1, h2⟩ := stab_all h
      refine ⟨fun p hp hn => ?_, h2⟩
      rcases List.mem_cons.1 hp with rfl | hp
      · rw [hd] at hn; cases hn
      · exact h1 p hp hn
    | false =>
      rw [hd] at h
      obtain ⟨h1, h2⟩ := stab_all h.2
      refine ⟨fun p hp hn => ?_, h2⟩
      rcases List.mem_cons.1 hp with rfl | hp
      · exact h.1
      · exact h1 p hp hn

theorem gd_cases {o : Oper} {a : Act} {yes no : Env → Prop} (h : gd N ops.toList o (envOf a) yes no) :
    (Region.wanted o (yielded ops a.tmps) = true ∧ yes (envOf a)) ∨ (Region.wanted o (yielded ops a.tmps) = false ∧ no (envOf a)) := by
  unfold gd at h
  split at h
  · rename_i hg; exact .inl ⟨by simp [Region.wanted, hg], h⟩
  · rename_i j want hg
    split at h
    · exact h.elim
    · rename_i d hj
      rw [wanted_env hg hj]
      split at h
      · rename_i b hb
        simp only [hb]
        cases b <;> cases want <;> simp only [put_self hb, cond_true, cond_false] at h <;> simp [h]
      · rename_i vs hb
        simp [hb, h]
      · exact h.elim

theorem effD_sound {Q : Exit → Act → World → Prop} {i : Nat} {L : Pend} {next : Pend → Env → World → Prop} {a : Act} {w : World} (hN : a.tmps.size = N) (hL : ∀ p ∈ L, p.2 w)
    (h : effD P H N ops i L next (envOf a) w) {K : Act → World → Prop}
    (hk : ∀ (d : Option Nat) (v : Value) (w' : World) (L' : Pend), (ops[i]?).bind (·.dst) = d → (∀ p ∈ L', p.2 w') → (∀ p ∈ L.filter (fun p => !dep ops i p.1), p ∈ L') → next L' (put N (envOf a) d v) w' → K (a.put d v) w') :
    wpOp P ops Q i (fun a' w' => (∀ p ∈ L, dep ops i p.1 = false → p.2 w') ∧ K a' w') a w := by
  unfold effD at h
  split at h
  · exact h.elim
  · rename_i o ho
    unfold wpOp
    simp only [ho]
    rcases gd_cases h with ⟨hw, h⟩ | ⟨hw, h⟩
    · simp only [hw, if_true]
      refine .inl ?_
      unfold Oper.wp
      rw [eval_env]
      refine good_upon (efop_sound h) fun v w' hs => ?_
      obtain ⟨h1, h2⟩ := stab_all hs
      exact ⟨h1, hk o.dst v w' _ (by simp [ho]) (fun p hp => by rw [List.mem_filter] at hp; exact h1 p hp.1 (by simpa using hp.2)) (fun _ hp => hp) h2⟩
    · simp only [hw, Bool.false_eq_true, if_false]
      exact ⟨fun p hp _ => hL p hp, hk o.dst undef w L (by simp [ho]) hL (fun p hp => (List.mem_filter.1 hp).1) h⟩

theorem kept_all {i : Nat} {d : Option Nat} (hd : (ops[i]?).bind (·.dst) = d) {a : Act} (hN : a.tmps.size = N) (v : Value) : Kept N (dsts ops.toList) a (a.put d v) :=
  (Kept.put hN d v).trans (Kept.refl (W := []) (size_put hN _ _)) (fun s hs => by
    cases d with
    | none => cases hs
    | some t =>
      simp at hs; subst hs
      cases ho : ops[i]? with
      | none => rw [ho] at hd; cases hd
      | some o =>
        rw [ho] at hd
        simp only [Option.bind_some] at hd
        exact List.mem_filterMap.2 ⟨o, by simpa using Array.mem_of_getElem? ho, hd⟩) (fun s hs => by cases hs)

theorem drD_sound {Q : Exit → Act → World → Prop} {K : Env → World → Prop} (hQ : ∀ c a w, ¬ Q (.panic c) a w) (hns : Region.noSelect ops = true) :
    ∀ (p : Plan) (fuel : Nat) (listed : Array Bool) (L : Pend) (a : Act) (w : World), p.len ≤ fuel → okPlan ops listed p = true → a.tmps.size = N → (∀ q ∈ L, q.2 w) →
      drD P H N ops K p L (envOf a) w → (∀ a' w', Kept N (dsts ops.toList) a a' → K (envOf a') w' → Q .normal a' w') → wpM P ops Q fuel listed L a w := by
  have one : ∀ (i : Nat) (r : Plan) (fuel : Nat) (listed : Array Bool) (L : Pend) (a : Act) (w : World), a.tmps.size = N → (∀ q ∈ L, q.2 w) →
      (∀ (L : Pend) (a : Act) (w : World), a.tmps.size = N → (∀ q ∈ L, q.2 w) → drD P H N ops K r L (envOf a) w → (∀ a' w', Kept N (dsts ops.toList) a a' → K (envOf a') w' → Q .normal a' w') →
        wpM P ops Q fuel (listed.setIfInBounds i true) L a w) →
      effD P H N ops i L (drD P H N ops K r) (envOf a) w → (∀ a' w', Kept N (dsts ops.toList) a a' → K (envOf a') w' → Q .normal a' w') →
      wpOp P ops Q i (fun a' w' => (∀ p ∈ L, dep ops i p.1 = false → p.2 w') ∧ wpM P ops Q fuel (listed.setIfInBounds i true) (L.filter fun p => !dep ops i p.1) a' w') a w := by
    intro i r fuel listed L a w hN hL ih he hk
    refine effD_sound hN hL he fun d v w' L' hd hL' hsub hn => ?_
    refine wpM_less fuel hsub (ih L' (a.put d v) w' (size_put hN _ _) hL' (by rw [env_put hN]; exact hn) fun a' w'' hkept hK => ?_)
    exact hk a' w'' ((kept_all hd hN v).trans hkept (fun _ h => h) (fun _ h => h)) hK
  intro p
  induction p with
  | done =>
    intro fuel listed L a w _ hok hN hL h hk
    have hr : Region.ready .any ops listed = [] := by simpa [okPlan] using hok
    cases fuel with
    | zero => exact ⟨hr, hk a w (Kept.refl hN) h⟩
    | succ fuel => exact ⟨fun _ => hk a w (Kept.refl hN) h, by rw [hr]; simp⟩
  | take i r ih =>
    intro fuel listed L a w hf hok hN hL h hk
    obtain ⟨fuel, rfl⟩ : ∃ m, fuel = m + 1 := ⟨fuel - 1, by simp [Plan.len] at hf; omega⟩
    have hf' : r.len ≤ fuel := by simp [Plan.len] at hf; omega
    simp only [okPlan, Bool.and_eq_true] at hok
    obtain ⟨⟨hr, hfree⟩, hok⟩ := hok
    have hr' : i ∈ Region.ready .any ops listed := by simpa using hr
    unfold drD at h
    split at h
    · exact h.elim
    · rename_i o ho
      have hdst : (ops[i]?).bind (·.dst) = o.dst := by simp [ho]
      have step : ∀ (v : Value) (C : World → Prop), YieldsIf P ops C o v a → C w → (wpM P ops Q fuel (listed.setIfInBounds i true) ((i, C) :: L) (a.put o.dst v) w) → wpM P ops Q (fuel + 1) listed L a w :=
        fun v C hy hC hm => wpM_take ho (Region.noSelect_spec hns) (fun c a w hq => (hQ c _ w hq).elim) fuel listed L a w (Region.free_spec ho hfree) hr' hy hC hL hm
      have next : ∀ (v : Value) (L' : Pend), (∀ q ∈ L', q.2 w) → drD P H N ops K r L' (put N (envOf a) o.dst v) w → wpM P ops Q fuel (listed.setIfInBounds i true) L' (a.put o.dst v) w :=
        fun v L' hL' hd => ih fuel _ L' (a.put o.dst v) w hf' hok (size_put hN _ _) hL' (by rw [env_put hN]; exact hd) fun a' w' hkept hK =>
          hk a' w' ((kept_all hdst hN v).trans hkept (fun _ h => h) (fun _ h => h)) hK
      rcases gd_cases h with ⟨hw, h⟩ | ⟨hw, h⟩
      · split at h
        · obtain ⟨v, hv, hd⟩ := wlop_sound h
          exact step v (fun _ => True) (.inl ⟨hw, fun w' _ => by rw [eval_env]; exact hv w'⟩) trivial (wpM_true fuel (next v L hL hd))
        · rename_i hc
          obtain ⟨v, C, hC, hv, hd⟩ := rdop_sound hc h
          refine step v C (.inl ⟨hw, fun w' hC' => by rw [eval_env]; exact hv w' hC'⟩) hC (next v _ (fun q hq => ?_) hd)
          rcases List.mem_cons.1 hq with rfl | hq
          · exact hC
          · exact hL q hq
        · exact h.elim
      · exact step undef (fun _ => True) (.inr ⟨hw, rfl⟩) trivial (wpM_true fuel (next undef L hL h))
  | eff i r ih =>
    intro fuel listed L a w hf hok hN hL h hk
    obtain ⟨fuel, rfl⟩ : ∃ m, fuel = m + 1 := ⟨fuel - 1, by simp [Plan.len] at hf; omega⟩
    have hf' : r.len ≤ fuel := by simp [Plan.len] at hf; omega
    simp only [okPlan, Bool.and_eq_true] at hok
    obtain ⟨⟨hall, hr⟩, hok⟩ := hok
    refine ⟨fun h0 => (by rw [h0] at hr; simp at hr), fun j hj => ?_⟩
    have hji : j = i := by simpa using (List.all_eq_true.1 hall) j hj
    subst hji
    exact one j r fuel listed L a w hN hL (fun L' a' w' h1 h2 h3 h4 => ih fuel _ L' a' w' hf' hok h1 h2 h3 h4) h hk
  | both i ri j rj ihi ihj =>
    intro fuel listed L a w hf hok hN hL h hk
    obtain ⟨fuel, rfl⟩ : ∃ m, fuel = m + 1 := ⟨fuel - 1, by simp [Plan.len] at hf; omega⟩
    have hfi : ri.len ≤ fuel := by simp [Plan.len] at hf; omega
    have hfj : rj.len ≤ fuel := by simp [Plan.len] at hf; omega
    simp only [okPlan, Bool.and_eq_true] at hok
    obtain ⟨⟨⟨hall, hr⟩, hoki⟩, hokj⟩ := hok
    refine ⟨fun h0 => (by rw [h0] at hr; simp at hr), fun k hkr => ?_⟩
    have hkij : k = i ∨ k = j := by simpa using (List.all_eq_true.1 hall) k hkr
    rcases hkij with rfl | rfl
    · exact one k ri fuel listed L a w hN hL (fun L' a' w' h1 h2 h3 h4 => ihi fuel _ L' a' w' hfi hoki h1 h2 h3 h4) h.1 hk
    · exact one k rj fuel listed L a w hN hL (fun L' a' w' h1 h2 h3 h4 => ihj fuel _ L' a' w' hfj hokj h1 h2 h3 h4) h.2 hk

end


/-! ### Statements, one in the other -/

def firstR : Code → Nat
  | .region id _ _ => id
  | .seq a b => match firstR a with | 0 => firstR b | n + 1 => n + 1
  | .cond _ a b => match firstR a with | 0 => firstR b | n + 1 => n + 1
  | .block _ c => firstR c
  | .loop c => firstR c
  | .scope c => firstR c
  | _ => 0

def lookN {α : Type} (n : Nat) : List (Nat × α) → Option α
  | [] => none
  | (k, x) :: r => bif Nat.beq k n then some x else lookN n r

/-- So many rounds of a loop, each written out. -/
def rounds (d : (Exit → Env → World → Prop) → Env → World → Prop) (Q : Exit → Env → World → Prop) : Nat → Env → World → Prop
  | 0, _, _ => False
  | n + 1, ρ, w => d (seqK (rounds d Q n) Q) ρ w

def den (P : Program) (H : Hints) (N : Nat) : Code → (Exit → Env → World → Prop) → Env → World → Prop
  | .skip, Q, ρ, w => Q .normal ρ w
  | .label _, Q, ρ, w => Q .normal ρ w
  | .region id ops draw, Q, ρ, w =>
    bif draw then (match lookN id H.plans with
      | some p => bif planOk ops p then drewD w (fun w' => drD P H N ops (Q .normal) p [] ρ w') else False
      | none => False)
    else dops P H N ops.toList ops.toList (Q .normal) ρ w
  | .seq a b, Q, ρ, w =>
    match lookN (firstR b) H.joins with
    | some l => ∃ J : CurT (World → Prop) l, den P H N a (seqK (fun ρ1 w1 => appP l J noW ρ1 w1) Q) ρ w ∧
        ∀ jk : Env, allJ l J (havoc (writes a) jk ρ) fun ρ1 w1 => den P H N b Q ρ1 w1
    | none => den P H N a (seqK (den P H N b Q) Q) ρ w
  | .cond c x y, Q, ρ, w => match ev ρ c with
    | .bool b => match b with
      | true => den P H N x Q ρ w
      | false => den P H N y Q ρ w
    | _ => False
  | .block id c, Q, ρ, w => den P H N c (blkK id Q) ρ w
  | .loop c, Q, ρ, w =>
    match lookN (firstR c) H.unroll with
    | some n => rounds (den P H N c) Q n ρ w
    | none =>
      match lookN (firstR c) H.loops with
      | some l => ∃ (I : CurT (World → Prop) l) (μ : CurT (World → Nat) l), appP l I noW ρ w ∧
          ∀ jk : Env, allT l I μ (havoc (writes c) jk ρ) fun ρ1 m w1 => den P H N c (seqK (fun ρ2 w2 => appP l I noW ρ2 w2 ∧ appP l μ noN ρ2 w2 < m w1) Q) ρ1 w1
      | none => False
  | .exit id, Q, ρ, w => Q (.exit id) ρ w
  | .scope c, Q, ρ, w => den P H N c Q ρ w
  | .ret, Q, ρ, w => Q .ret ρ w
  | .rangeFunc .., _, _, _ => False
  | .goto _, _, _, _ => False
  | .refuse _, _, _, _ => False

def okE : Exit → Prop
  | .normal | .exit _ | .ret => True
  | _ => False

/-- What is owed behind a statement. -/
def owed (N : Nat) (W : List Nat) (a : Act) (Q : Exit → Env → World → Prop) : Exit → Act → World → Prop :=
  fun e a' w' => okE e ∧ Kept N W a a' ∧ Q e (envOf a') w'

theorem owed_less {N : Nat} {W W' : List Nat} {a b : Act} {Q Q' : Exit → Env → World → Prop} (hab : Kept N W' a b) (h1 : ∀ s ∈ W, s ∈ W') (hq : ∀ e ρ w, okE e → Q e ρ w → Q' e ρ w) :
    ∀ e a' w', owed N W b Q e a' w' → owed N W' a Q' e a' w' := fun e _ _ h => ⟨h.1, hab.trans h.2.1 (fun _ h => h) h1, hq e _ _ h.1 h.2.2⟩

theorem havoc_same {W : List Nat} {ρ ρ1 : Env} (h : ∀ s, s ∉ W → ρ1 s = ρ s) : havoc W ρ1 ρ = ρ1 := by
  funext n
  unfold havoc
  cases hn : W.any (Nat.beq n) with
  | true => rfl
  | false =>
    have : n ∉ W := fun hm => by
      have := List.any_eq_false.1 hn n hm
      exact this (Nat.beq_refl n)
    exact (h n this).symm

theorem den_sound {P : Program} {H : Hints} {N : Nat} (hm : P.follows .mixedOrders = true) : ∀ (c : Code) {Q : Exit → Env → World → Prop} {a : Act} {w : World}, a.tmps.size = N →
    den P H N c Q (envOf a) w → c.wp P (owed N (writes c) a Q) a w
  | .skip, Q, a, w, hN, h => wp_skip ⟨trivial, Kept.refl hN, h⟩
  | .label _, Q, a, w, hN, h => wp_label ⟨trivial, Kept.refl hN, h⟩
  | .region id ops draw, Q, a, w, hN, h => by
    unfold den at h
    cases draw with
    | false =>
      simp only [cond_false] at h
      refine wp_region_list (dops_sound (H := H) ops.toList hN h fun a' w' hk hq => ⟨trivial, hk, hq⟩)
    | true =>
      simp only [cond_true] at h
      split at h
      · rename_i p hp
        cases hok : planOk ops p with
        | false => rw [hok] at h; exact h.elim
        | true =>
          rw [hok] at h
          simp only [planOk, Bool.and_eq_true] at hok
          obtain ⟨⟨hok, hns⟩, hlen⟩ := hok
          refine wp_region_any hm (wpAny_of_wpM _ (L := []) (drD_sound (H := H) (N := N) (K := Q .normal) (fun c a w hq => hq.1) hns p ops.size _ [] a _ (Nat.le_of_ble_eq_true hlen) hok hN
            (fun q hq => by cases hq) (h _ rfl) fun a' w' hk hq => ⟨trivial, hk, hq⟩))
      · exact h.elim
  | .seq x y, Q, a, w, hN, h => by
    have key : ∃ F : Env → World → Prop, den P H N x (seqK F Q) (envOf a) w ∧ ∀ (a' : Act) (w' : World), Kept N (writes x) a a' → F (envOf a') w' → den P H N y Q (envOf a') w' := by
      unfold den at h
      split at h
      · rename_i l hl
        obtain ⟨J, h1, h2⟩ := h
        refine ⟨_, h1, fun a' w' hk hJ => ?_⟩
        have hb := h2 (envOf a')
        rw [havoc_same hk.same] at hb
        exact allT_app l (allJ_allT l hb) hJ
      · exact ⟨_, h, fun a' w' _ h => h⟩
    obtain ⟨F, h, hF⟩ := key
    refine wp_seq (wp_mono (den_sound hm x hN h) fun e a' w' hq => ?_)
    obtain ⟨hok, hk, hq⟩ := hq
    cases e with
    | normal =>
      refine wp_mono (den_sound hm y hk.size (hF a' w' hk hq)) (owed_less (hk.trans (Kept.refl (W := []) hk.size) (fun s hs => List.mem_append_left _ hs) (fun s hs => by cases hs)) (fun s hs => List.mem_append_right _ hs) fun _ _ _ _ h => h)
    | exit id => exact ⟨trivial, hk.trans (Kept.refl (W := []) hk.size) (fun s hs => List.mem_append_left _ hs) (fun s hs => by cases hs), hq⟩
    | ret => exact ⟨trivial, hk.trans (Kept.refl (W := []) hk.size) (fun s hs => List.mem_append_left _ hs) (fun s hs => by cases hs), hq⟩
    | goto l => exact hok.elim
    | panic ch => exact hok.elim
    | outgrown => exact hok.elim
  | .cond c x y, Q, a, w, hN, h => by
    unfold den at h
    rw [← eval_env] at h
    split at h
    · rename_i b hb
      cases b with
      | true => exact wp_cond_true hb (wp_mono (den_sound hm x hN h) (owed_less (Kept.refl hN) (fun s hs => List.mem_append_left _ hs) fun _ _ _ _ h => h))
      | false => exact wp_cond_false hb (wp_mono (den_sound hm y hN h) (owed_less (Kept.refl hN) (fun s hs => List.mem_append_right _ hs) fun _ _ _ _ h => h))
    · exact h.elim
  | .block id c, Q, a, w, hN, h => by
    refine wp_block (wp_mono (den_sound hm c hN h) fun e a' w' hq => ?_)
    obtain ⟨hok, hk, hq⟩ := hq
    cases e with
    | normal => exact ⟨trivial, hk, hq⟩
    | exit i =>
      simp only [blkK] at hq
      simp only [Exit.inBlock]
      by_cases hi : i = id
      · subst hi
        rw [show Nat.beq i i = true from Nat.beq_refl i] at hq
        rw [if_pos rfl]
        exact ⟨trivial, hk, hq⟩
      · have : Nat.beq i id = false := by
          cases hb : Nat.beq i id with
          | false => rfl
          | true => exact absurd (Nat.eq_of_beq_eq_true hb) hi
        rw [this] at hq
        rw [if_neg hi]
        exact ⟨trivial, hk, hq⟩
    | ret => exact ⟨trivial, hk, hq⟩
    | goto l => exact hok.elim
    | panic ch => exact hok.elim
    | outgrown => exact hok.elim
  | .loop c, Q, a, w, hN, h => by
    unfold den at h
    split at h
    · rename_i n hn
      clear hn
      have hr : ∀ n (a1 : Act) (w1 : World), Kept N (writes c) a a1 → rounds (den P H N c) Q n (envOf a1) w1 → ∀ (b : Frame) (k : List Item) (cs : List Frame),
          ∃ e a' w', owed N (writes c) a Q e a' w' ∧ Arrives P (lone (b.at a1 (.code c :: .inLoop c :: k)) cs w1) b k cs e a' w' := by
        intro n
        induction n with
        | zero => intro a1 w1 _ h; exact h.elim
        | succ n ih =>
          intro a1 w1 hk h b k cs
          obtain ⟨e, a₁, w₁, hq, harr⟩ := den_sound hm c hk.size h b (.inLoop c :: k) cs
          obtain ⟨hok, hk2, hq⟩ := hq
          have hk3 : Kept N (writes c) a a₁ := hk.trans hk2 (fun _ h => h) (fun _ h => h)
          cases e with
          | normal =>
            obtain ⟨e₂, a₂, w₂, hq₂, harr₂⟩ := ih a₁ w₁ hk3 hq b k cs
            exact ⟨e₂, a₂, w₂, hq₂, .of_steps (Steps.trans harr (.one step_inLoop)) harr₂⟩
          | exit id => exact ⟨_, a₁, w₁, ⟨hok, hk3, hq⟩, .pass (x := .inLoop c) rfl (fun _ _ => .inl (by simp)) harr⟩
          | ret => exact ⟨_, a₁, w₁, ⟨hok, hk3, hq⟩, .pass (x := .inLoop c) rfl (fun _ _ => .inl (by simp)) harr⟩
          | goto l => exact hok.elim
          | panic ch => exact hok.elim
          | outgrown => exact hok.elim
      intro b k cs
      obtain ⟨e, a', w', hq, harr⟩ := hr n a w (Kept.refl hN) h b k cs
      exact ⟨e, a', w', hq, .of_steps (.one step_loop) harr⟩
    · split at h
      · rename_i l hl
        obtain ⟨I, μ, h0, hr⟩ := h
        refine wp_loop (fun a1 w1 => Kept N (writes c) a a1 ∧ appP l I noW (envOf a1) w1) (fun a1 w1 => appP l μ noN (envOf a1) w1) ⟨Kept.refl hN, h0⟩ fun a1 w1 h1 => ?_
        obtain ⟨hk, hI⟩ := h1
        have hb := hr (envOf a1)
        rw [havoc_same hk.same] at hb
        have hb := allT_app l hb hI
        refine wp_mono (den_sound hm c hk.size hb) fun e a' w' hq => ?_
        obtain ⟨hok, hk2, hq⟩ := hq
        have hk3 : Kept N (writes c) a a' := hk.trans hk2 (fun _ h => h) (fun _ h => h)
        cases e with
        | normal => exact ⟨⟨hk3, hq.1⟩, hq.2⟩
        | exit id => exact ⟨trivial, hk3, hq⟩
        | ret => exact ⟨trivial, hk3, hq⟩
        | goto l => exact hok.elim
        | panic ch => exact hok.elim
        | outgrown => exact hok.elim
      · exact h.elim
  | .exit id, Q, a, w, hN, h => wp_exit ⟨trivial, Kept.refl hN, h⟩
  | .scope c, Q, a, w, hN, h => by
    refine wp_scope_straight (wp_mono (den_sound hm c hN h) fun e a' w' hq => ?_)
    cases e with
    | goto l => exact hq.1.elim
    | normal => exact hq
    | exit id => exact hq
    | ret => exact hq
    | panic ch => exact hq
    | outgrown => exact hq
  | .ret, Q, a, w, hN, h => wp_ret ⟨trivial, Kept.refl hN, h⟩
  | .rangeFunc .., _, _, _, _, h => h.elim
  | .goto _, _, _, _, _, h => h.elim
  | .refuse _, _, _, _, _, h => h.elim

/-! ### Functions -/

def resD (P : Program) (H : Hints) (ρ : Env) (w : World) : List ResultVar → (List Value → Prop) → Prop
  | [], Φ => Φ []
  | .tmp t :: r, Φ => resD P H ρ w r fun vs => Φ (ρ t :: vs)
  | .cell a t :: r, Φ =>
    match ρ a with
    | .pointer (some ⟨b, f, none⟩) =>
      match shOf P (H.nld.elem t) t with
      | .one k => exK k fun v => w.cell? ⟨b, f, none⟩ = some v ∧ resD P H ρ w r fun vs => Φ (v :: vs)
      | .agg l => exKs l fun xs => rdRow w b f xs ∧ resD P H ρ w r fun vs => Φ (.agg xs.toArray :: vs)
      | .bad => False
    | _ => False

def tup : List Value → Value
  | [v] => v
  | vs => .tuple vs.toArray

def env0 (args : List Value) : Env := fun n => args.getD n undef

def fnQ (P : Program) (H : Hints) (fn : Func) (R : Value → World → Prop) : Exit → Env → World → Prop
  | .normal, ρ, w => resD P H ρ w fn.results.toList fun vs => R (tup vs) w
  | .ret, ρ, w => resD P H ρ w fn.results.toList fun vs => R (tup vs) w
  | _, _, _ => False

/-- A function's call. -/
def fnD (P : Program) (H : Hints) (fn : Func) (args : List Value) (R : Value → World → Prop) (w : World) : Prop :=
  match fn.body with
  | some c => den P H fn.ntmps c (fnQ P H fn R) (env0 args) w
  | none => False

def rv (a : Act) : ResultVar → Sem Value
  | .tmp t => pure (a.tmps.getD t undef)
  | .cell b t => do loadVar t (← asAddr (a.tmps.getD b undef))

theorem resD_sound {P : Program} {H : Hints} {a : Act} {w : World} : ∀ (l : List ResultVar) {Φ : List Value → Prop}, resD P H (envOf a) w l Φ →
    ∃ vs, (l.mapM (rv a)).run P w = .ok vs w ∧ Φ vs
  | [], Φ, h => ⟨[], by simp, h⟩
  | .tmp t :: r, Φ, h => by
    obtain ⟨vs, h1, h2⟩ := resD_sound r h
    refine ⟨_, ?_, h2⟩
    have hh : (rv a (.tmp t)).run P w = .ok (envOf a t) w := rfl
    rw [List.mapM_cons]; simp only [Sem.run_bind, hh, Sem.run_pure, Result.andThen_ok, h1]
  | .cell b t :: r, Φ, h => by
    unfold resD at h
    split at h
    · rename_i g f hp
      have hp' : a.tmps.getD b undef = .pointer (some ⟨g, f, none⟩) := hp
      split at h
      · rename_i k hs
        obtain ⟨v, hv, h⟩ := exK_ex h
        obtain ⟨vs, h1, h2⟩ := resD_sound r h
        refine ⟨_, ?_, h2⟩
        have hh : (rv a (.cell b t)).run P w = .ok v w := by simp only [rv, hp', asAddr]; simp [loadVar, shOf_one hs, hv]
        rw [List.mapM_cons]; simp only [Sem.run_bind, hh, Sem.run_pure, Result.andThen_ok, h1]
      · rename_i l hs
        obtain ⟨xs, hl, hv, h⟩ := exKs_ex h
        obtain ⟨vs, h1, h2⟩ := resD_sound r h
        refine ⟨_, ?_, h2⟩
        have := run_row (P := P) hv
        have hh : (rv a (.cell b t)).run P w = .ok (.agg xs.toArray) w := by simp only [rv, hp', asAddr]; simp [loadVar, (shOf_agg hs w).1, (shOf_agg hs w).2, ← hl, this]
        rw [List.mapM_cons]; simp only [Sem.run_bind, hh, Sem.run_pure, Result.andThen_ok, h1]
      · exact h.elim
    · exact h.elim

theorem fn_sound {P : Program} {H : Hints} {f : Nat} {fn : Func} {args : List Value} {R : Value → World → Prop} {w : World} (hm : P.follows .mixedOrders = true) (hf : P.funcs[f]? = some fn)
    (hn : Nat.ble args.length fn.ntmps = true) (h : fnD P H fn args R w) : Calls P f args.toArray w fun e w' => ∃ v, e = .returned v ∧ R v w' := by
  unfold fnD at h
  split at h
  · rename_i c hb
    have hle := Nat.le_of_ble_eq_true hn
    refine calls_of_wp hf hb ?_
    have hN : ({ tmps := args.toArray ++ Array.replicate (fn.ntmps - args.toArray.size) undef, defers := [] } : Act).tmps.size = fn.ntmps := by simp; omega
    have he : envOf { tmps := args.toArray ++ Array.replicate (fn.ntmps - args.toArray.size) undef, defers := [] } = env0 args := by
      funext n
      simp only [envOf, env0, Array.getD_eq_getD_getElem?, Array.getElem?_append, List.size_toArray, List.getElem?_toArray, Array.getElem?_replicate, List.getD_eq_getElem?_getD]
      by_cases h1 : n < args.length
      · simp [h1]
      · simp only [h1, if_false, List.getElem?_eq_none (Nat.le_of_not_lt h1), Option.getD_none]
        split <;> rfl
    refine wp_mono (den_sound (H := H) hm c hN (by rw [he]; exact h)) fun e a' w' hq => ?_
    obtain ⟨hok, hk, hq⟩ := hq
    have hres : ∀ (hq : resD P H (envOf a') w' fn.results.toList fun vs => R (tup vs) w'), a'.defers = [] ∧ ∃ v, (results fn a'.tmps).run P w' = .ok v w' ∧ ∃ v', Ending.returned v = .returned v' ∧ R v' w' := by
      intro hq
      refine ⟨hk.defers, ?_⟩
      obtain ⟨vs, h1, h2⟩ := resD_sound _ hq
      refine ⟨tup vs, ?_, _, rfl, h2⟩
      have hmap : (fn.results.mapM (rv a')).run P w' = .ok vs.toArray w' := by
        rw [Array.mapM_eq_mapM_toList]
        simp only [map_eq_pure_bind, Sem.run_bind, h1, Result.andThen_ok, Sem.run_pure]
      have hrs : results fn a'.tmps = (do let vs ← fn.results.mapM (rv a'); pure (if h : vs.size = 1 then vs[0] else .tuple vs) : Sem Value) := by
        unfold results
        congr 1
      rw [hrs]
      simp only [Sem.run_bind, hmap, Result.andThen_ok, Sem.run_pure]
      match vs with
      | [] => rfl
      | [v] => rfl
      | v :: u :: r => simp [tup]
    cases e with
    | normal => exact hres hq
    | ret => exact hres hq
    | exit id => exact hq.elim
    | goto l => exact hok.elim
    | panic ch => exact hok.elim
    | outgrown => exact hok.elim
  · exact h.elim


/-! ### Short words for what is reckoned -/
abbrev w64 (n : Int) : Int := IntKind.wrap .i64 n
abbrev w32 (n : Int) : Int := IntKind.wrap .i32 n
abbrev w16 (n : Int) : Int := IntKind.wrap .i16 n
abbrev w8 (n : Int) : Int := IntKind.wrap .i8 n
abbrev wu64 (n : Int) : Int := IntKind.wrap .u64 n
abbrev wu32 (n : Int) : Int := IntKind.wrap .u32 n
abbrev wu16 (n : Int) : Int := IntKind.wrap .u16 n
abbrev wu8 (n : Int) : Int := IntKind.wrap .u8 n
def andV (k : IntKind) (x y : Int) : Int := k.wrap ((BitVec.ofInt k.bits x &&& BitVec.ofInt k.bits y).toNat : Int)
def orV (k : IntKind) (x y : Int) : Int := k.wrap ((BitVec.ofInt k.bits x ||| BitVec.ofInt k.bits y).toNat : Int)
def xorV (k : IntKind) (x y : Int) : Int := k.wrap ((BitVec.ofInt k.bits x ^^^ BitVec.ofInt k.bits y).toNat : Int)
def andNotV (k : IntKind) (x y : Int) : Int := k.wrap ((BitVec.ofInt k.bits x &&& ~~~(BitVec.ofInt k.bits y)).toNat : Int)
def minV (x y : Int) : Int := if y < x then y else x
def maxV (x y : Int) : Int := if y > x then y else x
def strEq (a b : ByteArray) : Bool := a.toList == b.toList

end Go.X
