/-
  Clean forms of Go functions, and that each is enough for the call (written by a program of this work, lift.py).
-/
import Derived.Test.YtdlalkhnppahfaaXBase
import Derived.Test.YtdlalkhnppahfaaXDenIn
namespace Go.Proofs.Ytdlalkhnppahfaa
open Go Go.X

set_option maxRecDepth 100000
/-- (*tontine/wheel.Wheel).Now -/
def nil_Now.m  (R : Value → World → Prop) (w : World) : Prop :=
  R (.int .u64 0) w

def nil_Now.H : Hints := { nret := [], nld := [], loops := [], joins := [], unroll := [], plans := [], nx := [] }

theorem nil_Now.eq  (R : Value → World → Prop) (w : World) : nil_Now.m  R w = fnD Try.prog nil_Now.H Try.f20 [.pointer none] R w := by kernel_rfl

theorem nil_Now.ok  {R : Value → World → Prop} {w : World} (h : nil_Now.m  R w) : Calls Try.prog 20 #[.pointer none] w fun e w' => ∃ v, e = .returned v ∧ R v w' :=
  @fn_sound Try.prog nil_Now.H 20 Try.f20 [.pointer none] R w Try.mixed Try.func20 (by kernel_rfl) (by rw [← nil_Now.eq]; exact h)

set_option maxRecDepth 100000
/-- (*tontine/wheel.Wheel).Len -/
def nil_Len.m  (R : Value → World → Prop) (w : World) : Prop :=
  R (.int .i64 0) w

def nil_Len.H : Hints := { nret := [], nld := [], loops := [], joins := [], unroll := [], plans := [], nx := [] }

theorem nil_Len.eq  (R : Value → World → Prop) (w : World) : nil_Len.m  R w = fnD Try.prog nil_Len.H Try.f14 [.pointer none] R w := by kernel_rfl

theorem nil_Len.ok  {R : Value → World → Prop} {w : World} (h : nil_Len.m  R w) : Calls Try.prog 14 #[.pointer none] w fun e w' => ∃ v, e = .returned v ∧ R v w' :=
  @fn_sound Try.prog nil_Len.H 14 Try.f14 [.pointer none] R w Try.mixed Try.func14 (by kernel_rfl) (by rw [← nil_Len.eq]; exact h)

set_option maxRecDepth 100000
/-- (*tontine/wheel.Wheel).Set -/
def nil_Set.m (id_ : Int) (delay : Int) (R : Value → World → Prop) (w : World) : Prop :=
  R (.int .i64 1) w

def nil_Set.H : Hints := { nret := [], nld := [], loops := [], joins := [], unroll := [], plans := [], nx := [] }

theorem nil_Set.eq (id_ : Int) (delay : Int) (R : Value → World → Prop) (w : World) : nil_Set.m id_ delay R w = fnD Try.prog nil_Set.H Try.f11 [.pointer none, .int .i64 id_, .int .i64 delay] R w := by kernel_rfl

theorem nil_Set.ok (id_ : Int) (delay : Int) {R : Value → World → Prop} {w : World} (h : nil_Set.m id_ delay R w) : Calls Try.prog 11 #[.pointer none, .int .i64 id_, .int .i64 delay] w fun e w' => ∃ v, e = .returned v ∧ R v w' :=
  @fn_sound Try.prog nil_Set.H 11 Try.f11 [.pointer none, .int .i64 id_, .int .i64 delay] R w Try.mixed Try.func11 (by kernel_rfl) (by rw [← nil_Set.eq]; exact h)

set_option maxRecDepth 100000
/-- (*tontine/wheel.Wheel).Stop -/
def nil_Stop.m (id_ : Int) (R : Value → World → Prop) (w : World) : Prop :=
  (alD w (.cells #[.pointer none] 23 (0, 0)) fun b1 w_ => (alD w_ (.cells #[.int .i64 id_] 3 (0, 0)) fun b2 w_2 => (alD w_2 (.cells #[.bool false] 4 (0, 0)) fun b3 w_3 => 
    ((World.cell? w_3 ⟨b1, 0, none⟩ = some (.pointer none) ∧ (stD w_3 b3 0 [.bool false] fun w_4 => (∃ res : Bool, World.cell? w_4 ⟨b3, 0, none⟩ = some (.bool res) ∧ 
    R (.bool res) w_4))) ∨ ∃ vb vo : Nat, (World.cell? w_3 ⟨b1, 0, none⟩ = some (pv vb vo) ∧ ((World.cell? w_3 ⟨b1, 0, none⟩ = some (.pointer none) ∧ 
    ((∀ (args : Array Value) (w : World), (callFunc 27 args).run Try.prog w = .ok (.enter 27 args) w) ∧ 
    ∃ (rN : Nat) (rx : Nat → Nat × Nat) (rRD : World → Prop) (rI : Nat → World → Prop) (rX : World → Prop), IterC Try.prog 27 #[.pointer none] #[] rN rx rRD ∧ (∀ i W, rI i W → rRD W) ∧ 
    (∀ i, Loose w_3.heap.size (rI i)) ∧ Loose w_3.heap.size rX ∧ rI 0 w_3 ∧ 
    (∀ (ri : Nat) (rW : World) (rc : Loop), ri < rN → rI ri rW → keepsD w_3 rW rc → (∃ (va : Option Addr) (vn vc : Nat), World.cell? rW ⟨(rx ri).1, (rx ri).2, none⟩ = some (.slice va vn vc) ∧ 
    (∃ (I1 : Int → World → Prop) (M1 : Int → World → Nat), I1 0 rW ∧ ∀ (jk : Env) (i1 : Int) (w_5 : World), I1 i1 w_5 → (bif (decide (i1 < (vn : Int))) then (∃ b4 o1 : Nat, va = some ⟨b4, o1, none⟩ ∧ 
    (0 : Int) ≤ i1 ∧ i1 < (vn : Int) ∧ (∃ id_2 : Int, ∃ due : Int, ∃ turn : Int, rdRow w_5 b4 (o1 + (i1 : Int).toNat * 3) [.int .i64 id_2, .int .u64 due, .int .i64 turn] ∧ 
    (alD w_5 (.cells #[.int .i64 0, .int .u64 0, .int .i64 0] 53 (0, 0)) fun b5 w_6 => (stD w_6 b5 0 [.int .i64 id_2, .int .u64 due, .int .i64 turn] fun w_7 => 
    (∃ v1 : Int, World.cell? w_7 ⟨b5, 0, none⟩ = some (.int .i64 v1) ∧ (∃ v2 : Int, World.cell? w_7 ⟨b2, 0, none⟩ = some (.int .i64 v2) ∧ (bif (v1 == v2) then (drewD w_7 fun w_8 => 
    (∃ (va2 : Option Addr) (vn2 vc2 : Nat), World.cell? w_8 ⟨(rx ri).1, (rx ri).2, none⟩ = some (.slice va2 vn2 vc2) ∧ ((0 : Int) ≤ i1 ∧ i1 ≤ i1 ∧ i1 ≤ (vc2 : Int) ∧ 
    (∃ (va3 : Option Addr) (vn3 vc3 : Nat), World.cell? w_8 ⟨(rx ri).1, (rx ri).2, none⟩ = some (.slice va3 vn3 vc3) ∧ ((0 : Int) ≤ (w64 (i1 + 1)) ∧ (w64 (i1 + 1)) ≤ (vn3 : Int) ∧ 
    (exSl Try.prog (Builtin.append_ #[47, 47] 47 #[.slice va2 ((i1 : Int).toNat) ((i1 : Int).toNat), .slice (slcA va3 vc3 (((w64 (i1 + 1)) : Int).toNat) 3) (vn3 - ((w64 (i1 + 1)) : Int).toNat) (vc3 - ((w64 (i1 + 1)) : Int).toNat)]) (fun sa sn sc w_9 => 
    World.cell? w_9 ⟨(rx ri).1, (rx ri).2, none⟩ = some (.slice va3 vn3 vc3) ∧ World.cell? w_9 ⟨(rx ri).1, (rx ri).2, none⟩ = some (.slice va2 vn2 vc2) ∧ 
    (stD w_9 (rx ri).1 (rx ri).2 [.slice sa sn sc] fun w_10 => ((World.cell? w_10 ⟨b1, 0, none⟩ = some (.pointer none) ∧ False) ∨ ∃ vb2 vo2 : Nat, (World.cell? w_10 ⟨b1, 0, none⟩ = some (pv vb2 vo2) ∧ 
    (∃ v3 : Int, World.cell? w_10 ⟨vb2, (vo2 + 6), none⟩ = some (.int .i64 v3) ∧ (stD w_10 vb2 (vo2 + 6) [.int .i64 (w64 (v3 - 1))] fun w_11 => (stD w_11 b3 0 [.bool true] fun w_12 => (rX w_12 ∧ 
    keepsD w_3 w_12 rc)))))))) w_8)))))) else (I1 (w64 (i1 + 1)) w_7 ∧ M1 (w64 (i1 + 1)) w_7 < M1 i1 w_5)))))))) else (rI (ri + 1) w_5 ∧ keepsD w_3 w_5 rc))))) ∧ 
    (∀ rW2 : World, rI rN rW2 → rW2.heap[w_3.heap.size]? = some (.deferred (some [])) → (stD rW2 b3 0 [.bool false] fun w_13 => (w_13.heap[w_3.heap.size]? = some (.deferred (some [])) ∧ 
    (∃ res2 : Bool, World.cell? (World.putObj w_13 (w_3.heap.size) (.deferred none)) ⟨b3, 0, none⟩ = some (.bool res2) ∧ R (.bool res2) (World.putObj w_13 (w_3.heap.size) (.deferred none)))))) ∧ 
    (∀ rW3 : World, rX rW3 → rW3.heap[w_3.heap.size]? = some (.deferred (some [])) → (rW3.heap[w_3.heap.size]? = some (.deferred (some [])) ∧ 
    (∃ res3 : Bool, World.cell? (World.putObj rW3 (w_3.heap.size) (.deferred none)) ⟨b3, 0, none⟩ = some (.bool res3) ∧ 
    R (.bool res3) (World.putObj rW3 (w_3.heap.size) (.deferred none))))))) ∨ ∃ vb3 vo3 : Nat, (World.cell? w_3 ⟨b1, 0, none⟩ = some (pv vb3 vo3) ∧ 
    ((∀ (args : Array Value) (w : World), (callFunc 27 args).run Try.prog w = .ok (.enter 27 args) w) ∧ 
    ∃ (rN2 : Nat) (rx2 : Nat → Nat × Nat) (rRD2 : World → Prop) (rI2 : Nat → World → Prop) (rX2 : World → Prop), IterC Try.prog 27 #[pv vb3 vo3] #[] rN2 rx2 rRD2 ∧ (∀ i W, rI2 i W → rRD2 W) ∧ 
    (∀ i, Loose w_3.heap.size (rI2 i)) ∧ Loose w_3.heap.size rX2 ∧ rI2 0 w_3 ∧ 
    (∀ (ri2 : Nat) (rW4 : World) (rc2 : Loop), ri2 < rN2 → rI2 ri2 rW4 → keepsD w_3 rW4 rc2 → (∃ (va4 : Option Addr) (vn4 vc4 : Nat), World.cell? rW4 ⟨(rx2 ri2).1, (rx2 ri2).2, none⟩ = some (.slice va4 vn4 vc4) ∧ 
    (∃ (I2 : Int → World → Prop) (M2 : Int → World → Nat), I2 0 rW4 ∧ ∀ (jk2 : Env) (i2 : Int) (w_14 : World), I2 i2 w_14 → (bif (decide (i2 < (vn4 : Int))) then 
    (∃ b6 o2 : Nat, va4 = some ⟨b6, o2, none⟩ ∧ (0 : Int) ≤ i2 ∧ i2 < (vn4 : Int) ∧ 
    (∃ id_3 : Int, ∃ due2 : Int, ∃ turn2 : Int, rdRow w_14 b6 (o2 + (i2 : Int).toNat * 3) [.int .i64 id_3, .int .u64 due2, .int .i64 turn2] ∧ 
    (alD w_14 (.cells #[.int .i64 0, .int .u64 0, .int .i64 0] 53 (0, 0)) fun b7 w_15 => (stD w_15 b7 0 [.int .i64 id_3, .int .u64 due2, .int .i64 turn2] fun w_16 => 
    (∃ v4 : Int, World.cell? w_16 ⟨b7, 0, none⟩ = some (.int .i64 v4) ∧ (∃ v5 : Int, World.cell? w_16 ⟨b2, 0, none⟩ = some (.int .i64 v5) ∧ (bif (v4 == v5) then (drewD w_16 fun w_17 => 
    (∃ (va5 : Option Addr) (vn5 vc5 : Nat), World.cell? w_17 ⟨(rx2 ri2).1, (rx2 ri2).2, none⟩ = some (.slice va5 vn5 vc5) ∧ ((0 : Int) ≤ i2 ∧ i2 ≤ i2 ∧ i2 ≤ (vc5 : Int) ∧ 
    (∃ (va6 : Option Addr) (vn6 vc6 : Nat), World.cell? w_17 ⟨(rx2 ri2).1, (rx2 ri2).2, none⟩ = some (.slice va6 vn6 vc6) ∧ ((0 : Int) ≤ (w64 (i2 + 1)) ∧ (w64 (i2 + 1)) ≤ (vn6 : Int) ∧ 
    (exSl Try.prog (Builtin.append_ #[47, 47] 47 #[.slice va5 ((i2 : Int).toNat) ((i2 : Int).toNat), .slice (slcA va6 vc6 (((w64 (i2 + 1)) : Int).toNat) 3) (vn6 - ((w64 (i2 + 1)) : Int).toNat) (vc6 - ((w64 (i2 + 1)) : Int).toNat)]) (fun sa2 sn2 sc2 w_18 => 
    World.cell? w_18 ⟨(rx2 ri2).1, (rx2 ri2).2, none⟩ = some (.slice va6 vn6 vc6) ∧ World.cell? w_18 ⟨(rx2 ri2).1, (rx2 ri2).2, none⟩ = some (.slice va5 vn5 vc5) ∧ 
    (stD w_18 (rx2 ri2).1 (rx2 ri2).2 [.slice sa2 sn2 sc2] fun w_19 => ((World.cell? w_19 ⟨b1, 0, none⟩ = some (.pointer none) ∧ 
    False) ∨ ∃ vb4 vo4 : Nat, (World.cell? w_19 ⟨b1, 0, none⟩ = some (pv vb4 vo4) ∧ (∃ v6 : Int, World.cell? w_19 ⟨vb4, (vo4 + 6), none⟩ = some (.int .i64 v6) ∧ 
    (stD w_19 vb4 (vo4 + 6) [.int .i64 (w64 (v6 - 1))] fun w_20 => (stD w_20 b3 0 [.bool true] fun w_21 => (rX2 w_21 ∧ keepsD w_3 w_21 rc2)))))))) w_17)))))) else (I2 (w64 (i2 + 1)) w_16 ∧ 
    M2 (w64 (i2 + 1)) w_16 < M2 i2 w_14)))))))) else (rI2 (ri2 + 1) w_14 ∧ keepsD w_3 w_14 rc2))))) ∧ 
    (∀ rW5 : World, rI2 rN2 rW5 → rW5.heap[w_3.heap.size]? = some (.deferred (some [])) → (stD rW5 b3 0 [.bool false] fun w_22 => (w_22.heap[w_3.heap.size]? = some (.deferred (some [])) ∧ 
    (∃ res4 : Bool, World.cell? (World.putObj w_22 (w_3.heap.size) (.deferred none)) ⟨b3, 0, none⟩ = some (.bool res4) ∧ R (.bool res4) (World.putObj w_22 (w_3.heap.size) (.deferred none)))))) ∧ 
    (∀ rW6 : World, rX2 rW6 → rW6.heap[w_3.heap.size]? = some (.deferred (some [])) → (rW6.heap[w_3.heap.size]? = some (.deferred (some [])) ∧ 
    (∃ res5 : Bool, World.cell? (World.putObj rW6 (w_3.heap.size) (.deferred none)) ⟨b3, 0, none⟩ = some (.bool res5) ∧ R (.bool res5) (World.putObj rW6 (w_3.heap.size) (.deferred none)))))))))))))

def nil_Stop.H : Hints := { nret := [], nld := [23], loops := [(6, [(17, .int .i64)])], joins := [], unroll := [], plans := [(9, (.take 0 (.take 1 (.take 2 (.take 3 (.take 4 (.take 5 (.take 6 (.take 7 (.take 8 (.take 9 (.take 10 (.take 11 (.take 12 (.eff 13 (.take 14 (.eff 15 .done)))))))))))))))))], nx := [] }

theorem nil_Stop.eq (id_ : Int) (R : Value → World → Prop) (w : World) : nil_Stop.m id_ R w = fnDR Try.prog nil_Stop.H Try.f13 [.pointer none, .int .i64 id_] R w := by kernel_rfl

theorem nil_Stop.ok (id_ : Int) {R : Value → World → Prop} {w : World} (h : nil_Stop.m id_ R w) : Calls Try.prog 13 #[.pointer none, .int .i64 id_] w fun e w' => ∃ v, e = .returned v ∧ R v w' :=
  @fnR_sound Try.prog nil_Stop.H 13 Try.f13 [.pointer none, .int .i64 id_] R w Try.mixed Try.func13 (by kernel_rfl) (by rw [← nil_Stop.eq]; exact h)

set_option maxRecDepth 100000
/-- (*tontine/wheel.Wheel).Due -/
def nil_Due.m  (R : Value → World → Prop) (w : World) : Prop :=
  (alD w (.cells #[.pointer none] 23 (0, 0)) fun b1 w_ => (alD w_ (.cells #[.int .u64 0] 33 (0, 0)) fun b2 w_2 => (stD w_2 b2 0 [.int .u64 0] fun w_3 => 
    ((World.cell? w_3 ⟨b1, 0, none⟩ = some (.pointer none) ∧ R (.int .u64 0) w_3) ∨ ∃ vb vo : Nat, (World.cell? w_3 ⟨b1, 0, none⟩ = some (pv vb vo) ∧ 
    ((World.cell? w_3 ⟨b1, 0, none⟩ = some (.pointer none) ∧ ((∀ (args : Array Value) (w : World), (callFunc 27 args).run Try.prog w = .ok (.enter 27 args) w) ∧ 
    ∃ (rN : Nat) (rx : Nat → Nat × Nat) (rRD : World → Prop) (rI : Nat → World → Prop) (rX : World → Prop), IterC Try.prog 27 #[.pointer none] #[] rN rx rRD ∧ (∀ i W, rI i W → rRD W) ∧ 
    (∀ i, Loose w_3.heap.size (rI i)) ∧ Loose w_3.heap.size rX ∧ rI 0 w_3 ∧ 
    (∀ (ri : Nat) (rW : World) (rc : Loop), ri < rN → rI ri rW → keepsD w_3 rW rc → (∃ (va : Option Addr) (vn vc : Nat), World.cell? rW ⟨(rx ri).1, (rx ri).2, none⟩ = some (.slice va vn vc) ∧ 
    (∃ (I1 : Int → World → Prop) (M1 : Int → World → Nat), I1 0 rW ∧ ∀ (jk : Env) (i1 : Int) (w_4 : World), I1 i1 w_4 → (bif (decide (i1 < (vn : Int))) then (∃ b3 o1 : Nat, va = some ⟨b3, o1, none⟩ ∧ 
    (0 : Int) ≤ i1 ∧ i1 < (vn : Int) ∧ (∃ id_ : Int, ∃ due : Int, ∃ turn : Int, rdRow w_4 b3 (o1 + (i1 : Int).toNat * 3) [.int .i64 id_, .int .u64 due, .int .i64 turn] ∧ 
    (alD w_4 (.cells #[.int .i64 0, .int .u64 0, .int .i64 0] 53 (0, 0)) fun b4 w_5 => (stD w_5 b4 0 [.int .i64 id_, .int .u64 due, .int .i64 turn] fun w_6 => (drewD w_6 fun w_7 => 
    (∃ v1 : Int, World.cell? w_7 ⟨b4, 1, none⟩ = some (.int .u64 v1) ∧ ((World.cell? w_7 ⟨b1, 0, none⟩ = some (.pointer none) ∧ 
    False) ∨ ∃ vb2 vo2 : Nat, (World.cell? w_7 ⟨b1, 0, none⟩ = some (pv vb2 vo2) ∧ (∃ v2 : Int, World.cell? w_7 ⟨vb2, vo2, none⟩ = some (.int .u64 v2) ∧ 
    (∃ v3 : Int, World.cell? w_7 ⟨b2, 0, none⟩ = some (.int .u64 v3) ∧ (bif (v3 == 0) then (stD w_7 b2 0 [.int .u64 (wu64 (v1 - v2))] fun w_8 => (I1 (w64 (i1 + 1)) w_8 ∧ 
    M1 (w64 (i1 + 1)) w_8 < M1 i1 w_4)) else (∃ v4 : Int, World.cell? w_7 ⟨b2, 0, none⟩ = some (.int .u64 v4) ∧ (bif (decide ((wu64 (v1 - v2)) < v4)) then 
    (stD w_7 b2 0 [.int .u64 (wu64 (v1 - v2))] fun w_9 => (I1 (w64 (i1 + 1)) w_9 ∧ M1 (w64 (i1 + 1)) w_9 < M1 i1 w_4)) else (I1 (w64 (i1 + 1)) w_7 ∧ M1 (w64 (i1 + 1)) w_7 < M1 i1 w_4))))))))))))))
     else (rI (ri + 1) w_4 ∧ keepsD w_3 w_4 rc))))) ∧ 
    (∀ rW2 : World, rI rN rW2 → rW2.heap[w_3.heap.size]? = some (.deferred (some [])) → (∃ v5 : Int, World.cell? rW2 ⟨b2, 0, none⟩ = some (.int .u64 v5) ∧ 
    (rW2.heap[w_3.heap.size]? = some (.deferred (some [])) ∧ R (.int .u64 v5) (World.putObj rW2 (w_3.heap.size) (.deferred none))))) ∧ 
    (∀ rW3 : World, rX rW3 → rW3.heap[w_3.heap.size]? = some (.deferred (some [])) → (rW3.heap[w_3.heap.size]? = some (.deferred (some [])) ∧ 
    R (.int .u64 0) (World.putObj rW3 (w_3.heap.size) (.deferred none)))))) ∨ ∃ vb3 vo3 : Nat, (World.cell? w_3 ⟨b1, 0, none⟩ = some (pv vb3 vo3) ∧ 
    ((∀ (args : Array Value) (w : World), (callFunc 27 args).run Try.prog w = .ok (.enter 27 args) w) ∧ 
    ∃ (rN2 : Nat) (rx2 : Nat → Nat × Nat) (rRD2 : World → Prop) (rI2 : Nat → World → Prop) (rX2 : World → Prop), IterC Try.prog 27 #[pv vb3 vo3] #[] rN2 rx2 rRD2 ∧ (∀ i W, rI2 i W → rRD2 W) ∧ 
    (∀ i, Loose w_3.heap.size (rI2 i)) ∧ Loose w_3.heap.size rX2 ∧ rI2 0 w_3 ∧ 
    (∀ (ri2 : Nat) (rW4 : World) (rc2 : Loop), ri2 < rN2 → rI2 ri2 rW4 → keepsD w_3 rW4 rc2 → (∃ (va2 : Option Addr) (vn2 vc2 : Nat), World.cell? rW4 ⟨(rx2 ri2).1, (rx2 ri2).2, none⟩ = some (.slice va2 vn2 vc2) ∧ 
    (∃ (I2 : Int → World → Prop) (M2 : Int → World → Nat), I2 0 rW4 ∧ ∀ (jk2 : Env) (i2 : Int) (w_10 : World), I2 i2 w_10 → (bif (decide (i2 < (vn2 : Int))) then 
    (∃ b5 o2 : Nat, va2 = some ⟨b5, o2, none⟩ ∧ (0 : Int) ≤ i2 ∧ i2 < (vn2 : Int) ∧ 
    (∃ id_2 : Int, ∃ due2 : Int, ∃ turn2 : Int, rdRow w_10 b5 (o2 + (i2 : Int).toNat * 3) [.int .i64 id_2, .int .u64 due2, .int .i64 turn2] ∧ 
    (alD w_10 (.cells #[.int .i64 0, .int .u64 0, .int .i64 0] 53 (0, 0)) fun b6 w_11 => (stD w_11 b6 0 [.int .i64 id_2, .int .u64 due2, .int .i64 turn2] fun w_12 => (drewD w_12 fun w_13 => 
    (∃ v6 : Int, World.cell? w_13 ⟨b6, 1, none⟩ = some (.int .u64 v6) ∧ ((World.cell? w_13 ⟨b1, 0, none⟩ = some (.pointer none) ∧ 
    False) ∨ ∃ vb4 vo4 : Nat, (World.cell? w_13 ⟨b1, 0, none⟩ = some (pv vb4 vo4) ∧ (∃ v7 : Int, World.cell? w_13 ⟨vb4, vo4, none⟩ = some (.int .u64 v7) ∧ 
    (∃ v8 : Int, World.cell? w_13 ⟨b2, 0, none⟩ = some (.int .u64 v8) ∧ (bif (v8 == 0) then (stD w_13 b2 0 [.int .u64 (wu64 (v6 - v7))] fun w_14 => (I2 (w64 (i2 + 1)) w_14 ∧ 
    M2 (w64 (i2 + 1)) w_14 < M2 i2 w_10)) else (∃ v9 : Int, World.cell? w_13 ⟨b2, 0, none⟩ = some (.int .u64 v9) ∧ (bif (decide ((wu64 (v6 - v7)) < v9)) then 
    (stD w_13 b2 0 [.int .u64 (wu64 (v6 - v7))] fun w_15 => (I2 (w64 (i2 + 1)) w_15 ∧ M2 (w64 (i2 + 1)) w_15 < M2 i2 w_10)) else (I2 (w64 (i2 + 1)) w_13 ∧ 
    M2 (w64 (i2 + 1)) w_13 < M2 i2 w_10)))))))))))))) else (rI2 (ri2 + 1) w_10 ∧ keepsD w_3 w_10 rc2))))) ∧ 
    (∀ rW5 : World, rI2 rN2 rW5 → rW5.heap[w_3.heap.size]? = some (.deferred (some [])) → (∃ v10 : Int, World.cell? rW5 ⟨b2, 0, none⟩ = some (.int .u64 v10) ∧ 
    (rW5.heap[w_3.heap.size]? = some (.deferred (some [])) ∧ R (.int .u64 v10) (World.putObj rW5 (w_3.heap.size) (.deferred none))))) ∧ 
    (∀ rW6 : World, rX2 rW6 → rW6.heap[w_3.heap.size]? = some (.deferred (some [])) → (rW6.heap[w_3.heap.size]? = some (.deferred (some [])) ∧ 
    R (.int .u64 0) (World.putObj rW6 (w_3.heap.size) (.deferred none))))))))))))

def nil_Due.H : Hints := { nret := [], nld := [23], loops := [(7, [(17, .int .i64)])], joins := [], unroll := [], plans := [(9, (.take 0 (.take 1 (.take 2 (.take 3 (.take 4 (.take 5 (.take 6 (.take 7 .done)))))))))], nx := [] }

theorem nil_Due.eq  (R : Value → World → Prop) (w : World) : nil_Due.m  R w = fnDR Try.prog nil_Due.H Try.f15 [.pointer none] R w := by kernel_rfl

theorem nil_Due.ok  {R : Value → World → Prop} {w : World} (h : nil_Due.m  R w) : Calls Try.prog 15 #[.pointer none] w fun e w' => ∃ v, e = .returned v ∧ R v w' :=
  @fnR_sound Try.prog nil_Due.H 15 Try.f15 [.pointer none] R w Try.mixed Try.func15 (by kernel_rfl) (by rw [← nil_Due.eq]; exact h)

set_option maxRecDepth 100000
/-- (*tontine/wheel.Wheel).Tick -/
def nil_Tick.m  (R : Value → World → Prop) (w : World) : Prop :=
  R (.slice none 0 0) w

def nil_Tick.H : Hints := { nret := [], nld := [], loops := [], joins := [], unroll := [], plans := [], nx := [] }

theorem nil_Tick.eq  (R : Value → World → Prop) (w : World) : nil_Tick.m  R w = fnD Try.prog nil_Tick.H Try.f12 [.pointer none] R w := by kernel_rfl

theorem nil_Tick.ok  {R : Value → World → Prop} {w : World} (h : nil_Tick.m  R w) : Calls Try.prog 12 #[.pointer none] w fun e w' => ∃ v, e = .returned v ∧ R v w' :=
  @fn_sound Try.prog nil_Tick.H 12 Try.f12 [.pointer none] R w Try.mixed Try.func12 (by kernel_rfl) (by rw [← nil_Tick.eq]; exact h)

set_option maxRecDepth 100000
/-- (*tontine/tontineref09.Wheel).drop -/
def tontineref09_Wheel_drop.m (wb wo : Nat) (i1 : Int) (R : Value → World → Prop) (w : World) : Prop :=
  (drewD w fun w_ => (∃ (va : Option Addr) (vn vc : Nat), World.cell? w_ ⟨wb, (wo + 1), none⟩ = some (.slice va vn vc) ∧ ((0 : Int) ≤ i1 ∧ i1 ≤ (vc : Int) ∧ 
    (∃ (va2 : Option Addr) (vn2 vc2 : Nat), World.cell? w_ ⟨wb, (wo + 1), none⟩ = some (.slice va2 vn2 vc2) ∧ ((0 : Int) ≤ (w64 (i1 + 1)) ∧ (w64 (i1 + 1)) ≤ (vn2 : Int) ∧ 
    (exSl Try.prog (Builtin.append_ #[27, 27] 27 #[.slice none 0 0, .slice va ((i1 : Int).toNat) vc]) (fun sa sn sc w_2 => World.cell? w_2 ⟨wb, (wo + 1), none⟩ = some (.slice va2 vn2 vc2) ∧ 
    World.cell? w_2 ⟨wb, (wo + 1), none⟩ = some (.slice va vn vc) ∧ 
    (exSl Try.prog (Builtin.append_ #[27, 27] 27 #[.slice sa sn sc, .slice (slcA va2 vc2 (((w64 (i1 + 1)) : Int).toNat) 1) (vn2 - ((w64 (i1 + 1)) : Int).toNat) (vc2 - ((w64 (i1 + 1)) : Int).toNat)]) (fun sa2 sn2 sc2 w_3 => 
    World.cell? w_3 ⟨wb, (wo + 1), none⟩ = some (.slice va2 vn2 vc2) ∧ World.cell? w_3 ⟨wb, (wo + 1), none⟩ = some (.slice va vn vc) ∧ (stD w_3 wb (wo + 1) [.slice sa2 sn2 sc2] fun w_4 => 
    (drewD w_4 fun w_5 => (∃ (va3 : Option Addr) (vn3 vc3 : Nat), World.cell? w_5 ⟨wb, (wo + 2), none⟩ = some (.slice va3 vn3 vc3) ∧ ((0 : Int) ≤ i1 ∧ i1 ≤ (vc3 : Int) ∧ 
    (∃ (va4 : Option Addr) (vn4 vc4 : Nat), World.cell? w_5 ⟨wb, (wo + 2), none⟩ = some (.slice va4 vn4 vc4) ∧ ((0 : Int) ≤ (w64 (i1 + 1)) ∧ (w64 (i1 + 1)) ≤ (vn4 : Int) ∧ 
    (exSl Try.prog (Builtin.append_ #[40, 40] 40 #[.slice none 0 0, .slice va3 ((i1 : Int).toNat) vc3]) (fun sa3 sn3 sc3 w_6 => World.cell? w_6 ⟨wb, (wo + 2), none⟩ = some (.slice va4 vn4 vc4) ∧ 
    World.cell? w_6 ⟨wb, (wo + 2), none⟩ = some (.slice va3 vn3 vc3) ∧ 
    (exSl Try.prog (Builtin.append_ #[40, 40] 40 #[.slice sa3 sn3 sc3, .slice (slcA va4 vc4 (((w64 (i1 + 1)) : Int).toNat) 1) (vn4 - ((w64 (i1 + 1)) : Int).toNat) (vc4 - ((w64 (i1 + 1)) : Int).toNat)]) (fun sa4 sn4 sc4 w_7 => 
    World.cell? w_7 ⟨wb, (wo + 2), none⟩ = some (.slice va4 vn4 vc4) ∧ World.cell? w_7 ⟨wb, (wo + 2), none⟩ = some (.slice va3 vn3 vc3) ∧ (stD w_7 wb (wo + 2) [.slice sa4 sn4 sc4] fun w_8 => 
    R (.tuple #[]) w_8)) w_6)) w_5)))))))) w_2)) w_))))))

def tontineref09_Wheel_drop.H : Hints := { nret := [], nld := [], loops := [], joins := [], unroll := [], plans := [(0, (.take 0 (.take 1 (.take 2 (.take 3 (.take 4 (.take 5 (.take 6 (.take 8 (.take 9 (.take 10 (.take 11 (.take 12 (.take 13 (.take 14 (.eff 7 (.eff 15 (.take 16 (.take 17 (.eff 18 .done)))))))))))))))))))), (1, (.take 0 (.take 1 (.take 2 (.take 3 (.take 4 (.take 5 (.take 6 (.take 8 (.take 9 (.take 10 (.take 11 (.take 12 (.take 13 (.take 14 (.eff 7 (.eff 15 (.take 16 (.take 17 (.eff 18 .done))))))))))))))))))))], nx := [] }

theorem tontineref09_Wheel_drop.eq (wb wo : Nat) (i1 : Int) (R : Value → World → Prop) (w : World) : tontineref09_Wheel_drop.m wb wo i1 R w = fnD Try.prog tontineref09_Wheel_drop.H Try.f28 [pv wb wo, .int .i64 i1] R w := by kernel_rfl

theorem tontineref09_Wheel_drop.ok (wb wo : Nat) (i1 : Int) {R : Value → World → Prop} {w : World} (h : tontineref09_Wheel_drop.m wb wo i1 R w) : Calls Try.prog 28 #[pv wb wo, .int .i64 i1] w fun e w' => ∃ v, e = .returned v ∧ R v w' :=
  @fn_sound Try.prog tontineref09_Wheel_drop.H 28 Try.f28 [pv wb wo, .int .i64 i1] R w Try.mixed Try.func28 (by kernel_rfl) (by rw [← tontineref09_Wheel_drop.eq]; exact h)

set_option maxRecDepth 100000
/-- (*tontine/tontineref09.Wheel).Stop -/
def tontineref09_Wheel_Stop.m (wb wo : Nat) (id_ : Int) (R : Value → World → Prop) (w : World) : Prop :=
  (∃ (I1 : Int → World → Prop) (M1 : Int → World → Nat), I1 0 w ∧ 
    ∀ (jk : Env) (i1 : Int) (w_ : World), I1 i1 w_ → (∃ (va : Option Addr) (vn vc : Nat), World.cell? w_ ⟨wb, (wo + 1), none⟩ = some (.slice va vn vc) ∧ (bif (decide (i1 < (vn : Int))) then 
    (∃ (va2 : Option Addr) (vn2 vc2 : Nat), World.cell? w_ ⟨wb, (wo + 1), none⟩ = some (.slice va2 vn2 vc2) ∧ (∃ b1 o1 : Nat, va2 = some ⟨b1, o1, none⟩ ∧ (0 : Int) ≤ i1 ∧ i1 < (vn2 : Int) ∧ 
    (∃ v1 : Int, World.cell? w_ ⟨b1, (o1 + (i1 : Int).toNat * 1), none⟩ = some (.int .i64 v1) ∧ (bif (v1 == id_) then (Calls Try.prog 28 #[pv wb wo, .int .i64 i1] w_ fun e_ w_2 => 
    e_ = .returned (.tuple #[]) ∧ R (.bool true) w_2) else (I1 (w64 (i1 + 1)) w_ ∧ M1 (w64 (i1 + 1)) w_ < M1 i1 w_))))) else R (.bool false) w_)))

def tontineref09_Wheel_Stop.H : Hints := { nret := [], nld := [], loops := [(2, [(5, .int .i64)])], joins := [], unroll := [], plans := [], nx := [] }

theorem tontineref09_Wheel_Stop.eq (wb wo : Nat) (id_ : Int) (R : Value → World → Prop) (w : World) : tontineref09_Wheel_Stop.m wb wo id_ R w = fnD Try.prog tontineref09_Wheel_Stop.H Try.f17 [pv wb wo, .int .i64 id_] R w := by kernel_rfl

theorem tontineref09_Wheel_Stop.ok (wb wo : Nat) (id_ : Int) {R : Value → World → Prop} {w : World} (h : tontineref09_Wheel_Stop.m wb wo id_ R w) : Calls Try.prog 17 #[pv wb wo, .int .i64 id_] w fun e w' => ∃ v, e = .returned v ∧ R v w' :=
  @fn_sound Try.prog tontineref09_Wheel_Stop.H 17 Try.f17 [pv wb wo, .int .i64 id_] R w Try.mixed Try.func17 (by kernel_rfl) (by rw [← tontineref09_Wheel_Stop.eq]; exact h)

set_option maxRecDepth 100000
/-- (*tontine/tontineref09.Wheel).Set -/
def tontineref09_Wheel_Set.m (wb wo : Nat) (id_ : Int) (delay : Int) (R : Value → World → Prop) (w : World) : Prop :=
  (bif (decide (delay < 1)) then R (.int .i64 1) w else (bif (decide (delay > 1048576)) then R (.int .i64 1) w else (∃ J1 : World → Prop, (Calls Try.prog 17 #[pv wb wo, .int .i64 id_] w fun e_ w_2 => 
    (∃ r1 : Bool, e_ = .returned (.bool r1) ∧ (bif (!r1) then (∃ (va : Option Addr) (vn vc : Nat), World.cell? w_2 ⟨wb, (wo + 1), none⟩ = some (.slice va vn vc) ∧ (bif ((vn : Int) == 64) then 
    R (.int .i64 11) w_2 else J1 w_2)) else J1 w_2))) ∧ ∀ (jk : Env)  (w_ : World), J1 w_ → (∃ (va2 : Option Addr) (vn2 vc2 : Nat), World.cell? w_ ⟨wb, (wo + 1), none⟩ = some (.slice va2 vn2 vc2) ∧ 
    (alD w_ (.cells #[.int .i64 id_] 3 (0, 0)) fun b1 w_3 => (exSl Try.prog (Builtin.append_ #[27, 27] 27 #[.slice va2 vn2 vc2, .slice (some ⟨b1, 0, none⟩) 1 1]) (fun sa sn sc w_4 => 
    (stD w_4 wb (wo + 1) [.slice sa sn sc] fun w_5 => (drewD w_5 fun w_6 => (∃ (va3 : Option Addr) (vn3 vc3 : Nat), World.cell? w_6 ⟨wb, (wo + 2), none⟩ = some (.slice va3 vn3 vc3) ∧ 
    (∃ v1 : Int, World.cell? w_6 ⟨wb, wo, none⟩ = some (.int .u64 v1) ∧ (alD w_6 (.cells #[.int .u64 (wu64 (v1 + (wu64 delay)))] 33 (0, 0)) fun b2 w_7 => 
    World.cell? w_7 ⟨wb, wo, none⟩ = some (.int .u64 v1) ∧ World.cell? w_7 ⟨wb, (wo + 2), none⟩ = some (.slice va3 vn3 vc3) ∧ 
    (exSl Try.prog (Builtin.append_ #[40, 40] 40 #[.slice va3 vn3 vc3, .slice (some ⟨b2, 0, none⟩) 1 1]) (fun sa2 sn2 sc2 w_8 => World.cell? w_8 ⟨wb, wo, none⟩ = some (.int .u64 v1) ∧ 
    (stD w_8 wb (wo + 2) [.slice sa2 sn2 sc2] fun w_9 => R (.int .i64 0) w_9)) w_7))))))) w_3))))))

def tontineref09_Wheel_Set.H : Hints := { nret := [], nld := [], loops := [], joins := [(5, [])], unroll := [], plans := [(6, (.take 0 (.take 1 (.take 2 (.take 3 (.take 4 (.take 5 (.take 6 (.take 7 (.take 8 (.take 9 (.take 10 (.take 11 (.eff 12 (.eff 13 (.take 14 (.take 15 (.eff 16 .done))))))))))))))))))], nx := [] }

theorem tontineref09_Wheel_Set.eq (wb wo : Nat) (id_ : Int) (delay : Int) (R : Value → World → Prop) (w : World) : tontineref09_Wheel_Set.m wb wo id_ delay R w = fnD Try.prog tontineref09_Wheel_Set.H Try.f16 [pv wb wo, .int .i64 id_, .int .i64 delay] R w := by kernel_rfl

theorem tontineref09_Wheel_Set.ok (wb wo : Nat) (id_ : Int) (delay : Int) {R : Value → World → Prop} {w : World} (h : tontineref09_Wheel_Set.m wb wo id_ delay R w) : Calls Try.prog 16 #[pv wb wo, .int .i64 id_, .int .i64 delay] w fun e w' => ∃ v, e = .returned v ∧ R v w' :=
  @fn_sound Try.prog tontineref09_Wheel_Set.H 16 Try.f16 [pv wb wo, .int .i64 id_, .int .i64 delay] R w Try.mixed Try.func16 (by kernel_rfl) (by rw [← tontineref09_Wheel_Set.eq]; exact h)

set_option maxRecDepth 100000
/-- (*tontine/tontineref09.Wheel).Next -/
def tontineref09_Wheel_Next.m (wb wo : Nat) (R : Value → World → Prop) (w : World) : Prop :=
  (∃ (I1 : Int → Int → World → Prop) (M1 : Int → Int → World → Nat), I1 0 0 w ∧ 
    ∀ (jk : Env) (best : Int) (i1 : Int) (w_ : World), I1 best i1 w_ → (∃ (va : Option Addr) (vn vc : Nat), World.cell? w_ ⟨wb, (wo + 2), none⟩ = some (.slice va vn vc) ∧ 
    (bif (decide (i1 < (vn : Int))) then (drewD w_ fun w_2 => (∃ (va2 : Option Addr) (vn2 vc2 : Nat), World.cell? w_2 ⟨wb, (wo + 2), none⟩ = some (.slice va2 vn2 vc2) ∧ 
    (∃ b1 o1 : Nat, va2 = some ⟨b1, o1, none⟩ ∧ (0 : Int) ≤ i1 ∧ i1 < (vn2 : Int) ∧ (∃ v1 : Int, World.cell? w_2 ⟨b1, (o1 + (i1 : Int).toNat * 1), none⟩ = some (.int .u64 v1) ∧ 
    (∃ v2 : Int, World.cell? w_2 ⟨wb, wo, none⟩ = some (.int .u64 v2) ∧ (bif (i1 == 0) then (I1 (wu64 (v1 - v2)) (w64 (i1 + 1)) w_2 ∧ M1 (wu64 (v1 - v2)) (w64 (i1 + 1)) w_2 < M1 best i1 w_)
     else (bif (decide ((wu64 (v1 - v2)) < best)) then (I1 (wu64 (v1 - v2)) (w64 (i1 + 1)) w_2 ∧ M1 (wu64 (v1 - v2)) (w64 (i1 + 1)) w_2 < M1 best i1 w_) else (I1 best (w64 (i1 + 1)) w_2 ∧ 
    M1 best (w64 (i1 + 1)) w_2 < M1 best i1 w_)))))))) else R (.int .u64 best) w_)))

def tontineref09_Wheel_Next.H : Hints := { nret := [], nld := [], loops := [(3, [(3, .int .u64), (4, .int .i64)])], joins := [], unroll := [], plans := [(5, (.take 0 (.take 1 (.take 2 (.take 3 (.take 4 (.take 5 (.take 6 (.take 7 (.take 8 (.take 9 (.take 10 (.take 11 (.take 12 .done))))))))))))))], nx := [] }

theorem tontineref09_Wheel_Next.eq (wb wo : Nat) (R : Value → World → Prop) (w : World) : tontineref09_Wheel_Next.m wb wo R w = fnD Try.prog tontineref09_Wheel_Next.H Try.f21 [pv wb wo] R w := by kernel_rfl

theorem tontineref09_Wheel_Next.ok (wb wo : Nat) {R : Value → World → Prop} {w : World} (h : tontineref09_Wheel_Next.m wb wo R w) : Calls Try.prog 21 #[pv wb wo] w fun e w' => ∃ v, e = .returned v ∧ R v w' :=
  @fn_sound Try.prog tontineref09_Wheel_Next.H 21 Try.f21 [pv wb wo] R w Try.mixed Try.func21 (by kernel_rfl) (by rw [← tontineref09_Wheel_Next.eq]; exact h)

set_option maxRecDepth 100000
/-- (*tontine/tontineref09.Wheel).Tick -/
def tontineref09_Wheel_Tick.m (wb wo : Nat) (R : Value → World → Prop) (w : World) : Prop :=
  (∃ v1 : Int, World.cell? w ⟨wb, wo, none⟩ = some (.int .u64 v1) ∧ (stD w wb wo [.int .u64 (wu64 (v1 + 1))] fun w_ => 
    (∃ (I1 : Option Addr → Nat → Nat → Int → World → Prop) (M1 : Option Addr → Nat → Nat → Int → World → Nat), I1 none 0 0 0 w_ ∧ 
    ∀ (jk : Env) (outa : Option Addr) (outn outc : Nat) (i1 : Int) (w_2 : World), I1 outa outn outc i1 w_2 → (∃ (va : Option Addr) (vn vc : Nat), World.cell? w_2 ⟨wb, (wo + 1), none⟩ = some (.slice va vn vc) ∧ 
    (bif (decide (i1 < (vn : Int))) then (drewD w_2 fun w_3 => (∃ (va2 : Option Addr) (vn2 vc2 : Nat), World.cell? w_3 ⟨wb, (wo + 2), none⟩ = some (.slice va2 vn2 vc2) ∧ 
    (∃ b1 o1 : Nat, va2 = some ⟨b1, o1, none⟩ ∧ (0 : Int) ≤ i1 ∧ i1 < (vn2 : Int) ∧ (∃ v2 : Int, World.cell? w_3 ⟨b1, (o1 + (i1 : Int).toNat * 1), none⟩ = some (.int .u64 v2) ∧ 
    (∃ v3 : Int, World.cell? w_3 ⟨wb, wo, none⟩ = some (.int .u64 v3) ∧ (bif (v2 == v3) then (∃ (va3 : Option Addr) (vn3 vc3 : Nat), World.cell? w_3 ⟨wb, (wo + 1), none⟩ = some (.slice va3 vn3 vc3) ∧ 
    (∃ b2 o2 : Nat, va3 = some ⟨b2, o2, none⟩ ∧ (0 : Int) ≤ i1 ∧ i1 < (vn3 : Int) ∧ (∃ v4 : Int, World.cell? w_3 ⟨b2, (o2 + (i1 : Int).toNat * 1), none⟩ = some (.int .i64 v4) ∧ 
    (alD w_3 (.cells #[.int .i64 v4] 3 (0, 0)) fun b3 w_4 => (exSl Try.prog (Builtin.append_ #[27, 27] 27 #[.slice outa outn outc, .slice (some ⟨b3, 0, none⟩) 1 1]) (fun sa sn sc w_5 => 
    (Calls Try.prog 28 #[pv wb wo, .int .i64 i1] w_5 fun e_ w_6 => e_ = .returned (.tuple #[]) ∧ (I1 sa sn sc i1 w_6 ∧ M1 sa sn sc i1 w_6 < M1 outa outn outc i1 w_2))) w_4)))))
     else (I1 outa outn outc (w64 (i1 + 1)) w_3 ∧ M1 outa outn outc (w64 (i1 + 1)) w_3 < M1 outa outn outc i1 w_2))))))) else R (.slice outa outn outc) w_2)))))

def tontineref09_Wheel_Tick.H : Hints := { nret := [], nld := [], loops := [(4, [(3, .slice), (4, .int .i64)])], joins := [], unroll := [], plans := [(5, (.take 0 (.take 1 (.take 2 (.take 3 (.take 4 (.take 5 (.take 6 (.take 7 (.take 8 (.take 9 (.take 10 (.take 11 .done)))))))))))))], nx := [] }

theorem tontineref09_Wheel_Tick.eq (wb wo : Nat) (R : Value → World → Prop) (w : World) : tontineref09_Wheel_Tick.m wb wo R w = fnD Try.prog tontineref09_Wheel_Tick.H Try.f19 [pv wb wo] R w := by kernel_rfl

theorem tontineref09_Wheel_Tick.ok (wb wo : Nat) {R : Value → World → Prop} {w : World} (h : tontineref09_Wheel_Tick.m wb wo R w) : Calls Try.prog 19 #[pv wb wo] w fun e w' => ∃ v, e = .returned v ∧ R v w' :=
  @fn_sound Try.prog tontineref09_Wheel_Tick.H 19 Try.f19 [pv wb wo] R w Try.mixed Try.func19 (by kernel_rfl) (by rw [← tontineref09_Wheel_Tick.eq]; exact h)

set_option maxRecDepth 100000
/-- tontine/tontineref04.Ints -/
def tontineref04_Ints.m (aa : Option Addr) (an ac : Nat) (ba : Option Addr) (bn bc : Nat) (R : Value → World → Prop) (w : World) : Prop :=
  (bif ((an : Int) != (bn : Int)) then R (.bool false) w else (∃ (I1 : Int → World → Prop) (M1 : Int → World → Nat), I1 0 w ∧ 
    ∀ (jk : Env) (i1 : Int) (w_ : World), I1 i1 w_ → (bif (decide (i1 < (an : Int))) then (drewD w_ fun w_2 => (∃ b1 o1 : Nat, aa = some ⟨b1, o1, none⟩ ∧ (0 : Int) ≤ i1 ∧ i1 < (an : Int) ∧ 
    (∃ v1 : Int, World.cell? w_2 ⟨b1, (o1 + (i1 : Int).toNat * 1), none⟩ = some (.int .i64 v1) ∧ (∃ b2 o2 : Nat, ba = some ⟨b2, o2, none⟩ ∧ (0 : Int) ≤ i1 ∧ i1 < (bn : Int) ∧ 
    (∃ v2 : Int, World.cell? w_2 ⟨b2, (o2 + (i1 : Int).toNat * 1), none⟩ = some (.int .i64 v2) ∧ (bif (v1 != v2) then R (.bool false) w_2 else (I1 (w64 (i1 + 1)) w_2 ∧ 
    M1 (w64 (i1 + 1)) w_2 < M1 i1 w_))))))) else R (.bool true) w_)))

def tontineref04_Ints.H : Hints := { nret := [], nld := [], loops := [(4, [(5, .int .i64)])], joins := [], unroll := [], plans := [(6, (.take 0 (.take 1 (.take 2 (.take 3 (.take 4 (.take 5 (.take 6 (.take 7 (.take 8 .done))))))))))], nx := [] }

theorem tontineref04_Ints.eq (aa : Option Addr) (an ac : Nat) (ba : Option Addr) (bn bc : Nat) (R : Value → World → Prop) (w : World) : tontineref04_Ints.m aa an ac ba bn bc R w = fnD Try.prog tontineref04_Ints.H Try.f18 [.slice aa an ac, .slice ba bn bc] R w := by kernel_rfl

theorem tontineref04_Ints.ok (aa : Option Addr) (an ac : Nat) (ba : Option Addr) (bn bc : Nat) {R : Value → World → Prop} {w : World} (h : tontineref04_Ints.m aa an ac ba bn bc R w) : Calls Try.prog 18 #[.slice aa an ac, .slice ba bn bc] w fun e w' => ∃ v, e = .returned v ∧ R v w' :=
  @fn_sound Try.prog tontineref04_Ints.H 18 Try.f18 [.slice aa an ac, .slice ba bn bc] R w Try.mixed Try.func18 (by kernel_rfl) (by rw [← tontineref04_Ints.eq]; exact h)

set_option maxRecDepth 100000
/-- tontine/tontinelaw09.WheelFull -/
def tontinelaw09_WheelFull.m (L1 : Int) (i1 : Int) (R : Value → World → Prop) (w : World) : Prop :=
  (Calls Try.prog 9 #[] w fun e_ w_ => (∃ y1 : Bool, e_ = .returned (.bool y1) ∧ (bif (!y1) then R (.bool false) w_ else (Calls Try.prog 10 #[] w_ fun e_2 w_2 => 
    (∃ rb ro : Nat, e_2 = .returned (pv rb ro) ∧ (∃ J1 : World → Prop, (∃ (I1 : Int → World → Prop) (M1 : Int → World → Nat), I1 0 w_2 ∧ 
    ∀ (jk2 : Env) (i2 : Int) (w_4 : World), I1 i2 w_4 → (bif (decide (i2 < (Int.tmod (w64 ((Int.tmod L1 80) + 80)) 80))) then 
    (Calls Try.prog 11 #[pv rb ro, .int .i64 i2, .int .i64 (w64 (5 + i2))] w_4 fun e_3 w_5 => (∃ r1 : Int, e_3 = .returned (.int .i64 r1) ∧ (bif ((r1 == 0) != (decide (i2 < 64))) then 
    R (.bool false) w_5 else (bif (r1 != 0) then (bif (r1 != 11) then R (.bool false) w_5 else (I1 (w64 (i2 + 1)) w_5 ∧ M1 (w64 (i2 + 1)) w_5 < M1 i2 w_4)) else (I1 (w64 (i2 + 1)) w_5 ∧ 
    M1 (w64 (i2 + 1)) w_5 < M1 i2 w_4))))) else J1 w_4)) ∧ 
    ∀ (jk : Env)  (w_3 : World), J1 w_3 → (Calls Try.prog 11 #[pv rb ro, .int .i64 (Int.tmod (w64 ((Int.tmod i1 80) + 80)) 80), .int .i64 1] w_3 fun e_4 w_6 => 
    (∃ r2 : Int, e_4 = .returned (.int .i64 r2) ∧ (∃ J2 : World → Prop, (bif (decide ((Int.tmod (w64 ((Int.tmod i1 80) + 80)) 80) < (minV (Int.tmod (w64 ((Int.tmod L1 80) + 80)) 80) 64))) then 
    (bif ((r2 == 0) != true) then R (.bool false) w_6 else J2 w_6) else (bif ((r2 == 0) != (decide ((Int.tmod (w64 ((Int.tmod L1 80) + 80)) 80) < 64))) then R (.bool false) w_6 else J2 w_6)) ∧ 
    ∀ (jk3 : Env)  (w_7 : World), J2 w_7 → (Calls Try.prog 12 #[pv rb ro] w_7 fun e_5 w_8 => (∃ (ra : Option Addr) (rn rc : Nat), e_5 = .returned (.slice ra rn rc) ∧ (bif (r2 != 0) then 
    (bif ((rn : Int) == 0) then R (.bool true) w_8 else (bif (r2 == 0) then (bif ((rn : Int) == 1) then (∃ b1 o1 : Nat, ra = some ⟨b1, o1, none⟩ ∧ (0 : Int) ≤ 0 ∧ 0 < (rn : Int) ∧ 
    (∃ v1 : Int, World.cell? w_8 ⟨b1, o1, none⟩ = some (.int .i64 v1) ∧ R (.bool (v1 == (Int.tmod (w64 ((Int.tmod i1 80) + 80)) 80))) w_8)) else R (.bool false) w_8) else R (.bool false) w_8))
     else (bif (r2 == 0) then (bif ((rn : Int) == 1) then (∃ b2 o2 : Nat, ra = some ⟨b2, o2, none⟩ ∧ (0 : Int) ≤ 0 ∧ 0 < (rn : Int) ∧ (∃ v2 : Int, World.cell? w_8 ⟨b2, o2, none⟩ = some (.int .i64 v2) ∧ 
    R (.bool (v2 == (Int.tmod (w64 ((Int.tmod i1 80) + 80)) 80))) w_8)) else R (.bool false) w_8) else R (.bool false) w_8)))))))))))))

def tontinelaw09_WheelFull.H : Hints := { nret := [], nld := [], loops := [(6, [(19, .int .i64)])], joins := [(12, []), (17, [])], unroll := [], plans := [], nx := [] }

theorem tontinelaw09_WheelFull.eq (L1 : Int) (i1 : Int) (R : Value → World → Prop) (w : World) : tontinelaw09_WheelFull.m L1 i1 R w = fnD Try.prog tontinelaw09_WheelFull.H Try.f3 [.int .i64 L1, .int .i64 i1] R w := by kernel_rfl

theorem tontinelaw09_WheelFull.ok (L1 : Int) (i1 : Int) {R : Value → World → Prop} {w : World} (h : tontinelaw09_WheelFull.m L1 i1 R w) : Calls Try.prog 3 #[.int .i64 L1, .int .i64 i1] w fun e w' => ∃ v, e = .returned v ∧ R v w' :=
  @fn_sound Try.prog tontinelaw09_WheelFull.H 3 Try.f3 [.int .i64 L1, .int .i64 i1] R w Try.mixed Try.func3 (by kernel_rfl) (by rw [← tontinelaw09_WheelFull.eq]; exact h)

set_option maxRecDepth 100000
/-- tontine/tontinelaw09.WheelAnew -/
def tontinelaw09_WheelAnew.m (La : Option Addr) (Ln Lc : Nat) (i1 : Bool) (R : Value → World → Prop) (w : World) : Prop :=
  (Calls Try.prog 9 #[] w fun e_ w_ => (∃ y1 : Bool, e_ = .returned (.bool y1) ∧ (bif (!y1) then R (.bool false) w_ else (bif ((Ln : Int) == 0) then R (.bool true) w_
     else (bif (decide ((Ln : Int) > 50)) then R (.bool true) w_ else (Calls Try.prog 10 #[] w_ fun e_2 w_2 => (∃ rb ro : Nat, e_2 = .returned (pv rb ro) ∧ 
    (∃ (I1 : Int → Int → World → Prop) (M1 : Int → Int → World → Nat), I1 0 0 w_2 ∧ ∀ (jk : Env) (o1 : Int) (i2 : Int) (w_3 : World), I1 o1 i2 w_3 → (bif (decide (i2 < (Ln : Int))) then 
    (∃ b1 o2 : Nat, La = some ⟨b1, o2, none⟩ ∧ (0 : Int) ≤ i2 ∧ i2 < (Ln : Int) ∧ (∃ v1 : Int, World.cell? w_3 ⟨b1, (o2 + (i2 : Int).toNat * 1), none⟩ = some (.int .i64 v1) ∧ 
    (Calls Try.prog 11 #[pv rb ro, .int .i64 3, .int .i64 (w64 ((Int.tmod (w64 ((Int.tmod v1 400) + 400)) 400) + 1))] w_3 fun e_3 w_4 => (∃ r1 : Int, e_3 = .returned (.int .i64 r1) ∧ 
    (I1 (w64 ((Int.tmod (w64 ((Int.tmod v1 400) + 400)) 400) + 1)) (w64 (i2 + 1)) w_4 ∧ M1 (w64 ((Int.tmod (w64 ((Int.tmod v1 400) + 400)) 400) + 1)) (w64 (i2 + 1)) w_4 < M1 o1 i2 w_3)))))
     else (∃ J1 : World → Prop, (bif i1 then (Calls Try.prog 13 #[pv rb ro, .int .i64 3] w_3 fun e_4 w_6 => (∃ r2 : Bool, e_4 = .returned (.bool r2) ∧ (bif (!r2) then R (.bool false) w_6 else J1 w_6)))
     else J1 w_3) ∧ ∀ (jk2 : Env)  (w_5 : World), J1 w_5 → (∃ (I2 : Int → World → Prop) (M2 : Int → World → Nat), I2 0 w_5 ∧ 
    ∀ (jk3 : Env) (i3 : Int) (w_7 : World), I2 i3 w_7 → (bif (decide (i3 < 500)) then (Calls Try.prog 12 #[pv rb ro] w_7 fun e_5 w_8 => 
    (∃ (ra : Option Addr) (rn rc : Nat), e_5 = .returned (.slice ra rn rc) ∧ (bif (!i1) then (bif ((decide ((rn : Int) > 0)) != ((w64 (i3 + 1)) == o1)) then R (.bool false) w_8
     else (I2 (w64 (i3 + 1)) w_8 ∧ M2 (w64 (i3 + 1)) w_8 < M2 i3 w_7)) else (bif ((decide ((rn : Int) > 0)) != false) then R (.bool false) w_8 else (I2 (w64 (i3 + 1)) w_8 ∧ 
    M2 (w64 (i3 + 1)) w_8 < M2 i3 w_7))))) else (Calls Try.prog 14 #[pv rb ro] w_7 fun e_6 w_9 => (∃ r3 : Int, e_6 = .returned (.int .i64 r3) ∧ (bif (r3 == 0) then 
    (Calls Try.prog 13 #[pv rb ro, .int .i64 3] w_9 fun e_7 w_10 => (∃ r4 : Bool, e_7 = .returned (.bool r4) ∧ R (.bool (!r4)) w_10)) else R (.bool false) w_9)))))))))))))))

def tontinelaw09_WheelAnew.H : Hints := { nret := [], nld := [], loops := [(8, [(6, .int .i64), (24, .int .i64)]), (16, [(43, .int .i64)])], joins := [(15, [])], unroll := [], plans := [], nx := [] }

theorem tontinelaw09_WheelAnew.eq (La : Option Addr) (Ln Lc : Nat) (i1 : Bool) (R : Value → World → Prop) (w : World) : tontinelaw09_WheelAnew.m La Ln Lc i1 R w = fnD Try.prog tontinelaw09_WheelAnew.H Try.f4 [.slice La Ln Lc, .bool i1] R w := by kernel_rfl

theorem tontinelaw09_WheelAnew.ok (La : Option Addr) (Ln Lc : Nat) (i1 : Bool) {R : Value → World → Prop} {w : World} (h : tontinelaw09_WheelAnew.m La Ln Lc i1 R w) : Calls Try.prog 4 #[.slice La Ln Lc, .bool i1] w fun e w' => ∃ v, e = .returned v ∧ R v w' :=
  @fn_sound Try.prog tontinelaw09_WheelAnew.H 4 Try.f4 [.slice La Ln Lc, .bool i1] R w Try.mixed Try.func4 (by kernel_rfl) (by rw [← tontinelaw09_WheelAnew.eq]; exact h)

set_option maxRecDepth 100000
/-- tontine/tontinelaw09.WheelOnce -/
def tontinelaw09_WheelOnce.m (L1 : Int) (i1 : Int) (R : Value → World → Prop) (w : World) : Prop :=
  (Calls Try.prog 9 #[] w fun e_ w_ => (∃ r1 : Bool, e_ = .returned (.bool r1) ∧ (bif (!r1) then R (.bool false) w_ else (Calls Try.prog 10 #[] w_ fun e_2 w_2 => 
    (∃ rb ro : Nat, e_2 = .returned (pv rb ro) ∧ (∃ (I1 : Int → World → Prop) (M1 : Int → World → Nat), I1 0 w_2 ∧ 
    ∀ (jk : Env) (i2 : Int) (w_3 : World), I1 i2 w_3 → (bif (decide (i2 < (Int.tmod (w64 ((Int.tmod L1 9000) + 9000)) 9000))) then (Calls Try.prog 12 #[pv rb ro] w_3 fun e_3 w_4 => 
    (∃ (ra : Option Addr) (rn rc : Nat), e_3 = .returned (.slice ra rn rc) ∧ (I1 (w64 (i2 + 1)) w_4 ∧ M1 (w64 (i2 + 1)) w_4 < M1 i2 w_3)))
     else (Calls Try.prog 11 #[pv rb ro, .int .i64 7, .int .i64 (w64 ((Int.tmod (w64 ((Int.tmod i1 9000) + 9000)) 9000) + 1))] w_3 fun e_4 w_5 => (∃ r2 : Int, e_4 = .returned (.int .i64 r2) ∧ 
    (bif (r2 != 0) then R (.bool false) w_5 else (∃ (I2 : Int → World → Prop) (M2 : Int → World → Nat), I2 0 w_5 ∧ 
    ∀ (jk2 : Env) (i3 : Int) (w_6 : World), I2 i3 w_6 → (bif (decide (i3 < (w64 ((w64 ((Int.tmod (w64 ((Int.tmod i1 9000) + 9000)) 9000) + 1)) + 300)))) then 
    (Calls Try.prog 15 #[pv rb ro] w_6 fun e_5 w_7 => (∃ r3 : Int, e_5 = .returned (.int .u64 r3) ∧ 
    (bif (r3 != (wu64 (maxV 0 (w64 ((w64 ((Int.tmod (w64 ((Int.tmod i1 9000) + 9000)) 9000) + 1)) - i3))))) then R (.bool false) w_7 else (Calls Try.prog 12 #[pv rb ro] w_7 fun e_6 w_8 => 
    (∃ (ra2 : Option Addr) (rn2 rc2 : Nat), e_6 = .returned (.slice ra2 rn2 rc2) ∧ (bif ((rn2 : Int) == 1) then (∃ b1 o1 : Nat, ra2 = some ⟨b1, o1, none⟩ ∧ (0 : Int) ≤ 0 ∧ 0 < (rn2 : Int) ∧ 
    (∃ v1 : Int, World.cell? w_8 ⟨b1, o1, none⟩ = some (.int .i64 v1) ∧ (bif ((v1 == 7) != ((w64 (i3 + 1)) == (w64 ((Int.tmod (w64 ((Int.tmod i1 9000) + 9000)) 9000) + 1)))) then R (.bool false) w_8
     else (bif (decide ((rn2 : Int) > 1)) then R (.bool false) w_8 else (I2 (w64 (i3 + 1)) w_8 ∧ M2 (w64 (i3 + 1)) w_8 < M2 i3 w_6)))))
     else (bif (false != ((w64 (i3 + 1)) == (w64 ((Int.tmod (w64 ((Int.tmod i1 9000) + 9000)) 9000) + 1)))) then R (.bool false) w_8 else (bif (decide ((rn2 : Int) > 1)) then R (.bool false) w_8
     else (I2 (w64 (i3 + 1)) w_8 ∧ M2 (w64 (i3 + 1)) w_8 < M2 i3 w_6))))))))) else (Calls Try.prog 14 #[pv rb ro] w_6 fun e_7 w_9 => (∃ r4 : Int, e_7 = .returned (.int .i64 r4) ∧ 
    R (.bool (r4 == 0)) w_9))))))))))))))

def tontinelaw09_WheelOnce.H : Hints := { nret := [], nld := [], loops := [(6, [(21, .int .i64)]), (12, [(32, .int .i64)])], joins := [], unroll := [], plans := [], nx := [] }

theorem tontinelaw09_WheelOnce.eq (L1 : Int) (i1 : Int) (R : Value → World → Prop) (w : World) : tontinelaw09_WheelOnce.m L1 i1 R w = fnD Try.prog tontinelaw09_WheelOnce.H Try.f5 [.int .i64 L1, .int .i64 i1] R w := by kernel_rfl

theorem tontinelaw09_WheelOnce.ok (L1 : Int) (i1 : Int) {R : Value → World → Prop} {w : World} (h : tontinelaw09_WheelOnce.m L1 i1 R w) : Calls Try.prog 5 #[.int .i64 L1, .int .i64 i1] w fun e w' => ∃ v, e = .returned v ∧ R v w' :=
  @fn_sound Try.prog tontinelaw09_WheelOnce.H 5 Try.f5 [.int .i64 L1, .int .i64 i1] R w Try.mixed Try.func5 (by kernel_rfl) (by rw [← tontinelaw09_WheelOnce.eq]; exact h)

set_option maxRecDepth 100000
/-- tontine/tontinelaw09.WheelNone -/
def tontinelaw09_WheelNone.m (id_ : Int) (delay : Int) (R : Value → World → Prop) (w : World) : Prop :=
  (Calls Try.prog 9 #[] w fun e_ w_ => (∃ r1 : Bool, e_ = .returned (.bool r1) ∧ (bif (!r1) then R (.bool false) w_ else (Calls Try.prog 20 #[.pointer none] w_ fun e_2 w_2 => 
    (∃ r2 : Int, e_2 = .returned (.int .u64 r2) ∧ (bif (r2 == 0) then (Calls Try.prog 14 #[.pointer none] w_2 fun e_3 w_3 => (∃ r3 : Int, e_3 = .returned (.int .i64 r3) ∧ (bif (r3 == 0) then 
    (Calls Try.prog 11 #[.pointer none, .int .i64 id_, .int .i64 delay] w_3 fun e_4 w_4 => (∃ r4 : Int, e_4 = .returned (.int .i64 r4) ∧ (bif (r4 == 1) then 
    (Calls Try.prog 13 #[.pointer none, .int .i64 id_] w_4 fun e_5 w_5 => (∃ r5 : Bool, e_5 = .returned (.bool r5) ∧ (bif (!r5) then (Calls Try.prog 15 #[.pointer none] w_5 fun e_6 w_6 => 
    (∃ r6 : Int, e_6 = .returned (.int .u64 r6) ∧ (bif (r6 == 0) then (Calls Try.prog 12 #[.pointer none] w_6 fun e_7 w_7 => (∃ (ra : Option Addr) (rn rc : Nat), e_7 = .returned (.slice ra rn rc) ∧ 
    (bif ((rn : Int) == 0) then (Calls Try.prog 10 #[] w_7 fun e_8 w_8 => (∃ rb ro : Nat, e_8 = .returned (pv rb ro) ∧ (Calls Try.prog 11 #[pv rb ro, .int .i64 id_, .int .i64 delay] w_8 fun e_9 w_9 => 
    (∃ r7 : Int, e_9 = .returned (.int .i64 r7) ∧ (bif (decide (delay ≥ 1)) then R (.bool ((r7 == 0) == (decide (delay ≤ 1048576)))) w_9 else R (.bool ((r7 == 0) == false)) w_9)))))
     else R (.bool false) w_7))) else R (.bool false) w_6))) else R (.bool false) w_5))) else R (.bool false) w_4))) else R (.bool false) w_3))) else R (.bool false) w_2))))))

def tontinelaw09_WheelNone.H : Hints := { nret := [], nld := [], loops := [], joins := [], unroll := [], plans := [], nx := [] }

theorem tontinelaw09_WheelNone.eq (id_ : Int) (delay : Int) (R : Value → World → Prop) (w : World) : tontinelaw09_WheelNone.m id_ delay R w = fnD Try.prog tontinelaw09_WheelNone.H Try.f8 [.int .i64 id_, .int .i64 delay] R w := by kernel_rfl

theorem tontinelaw09_WheelNone.ok (id_ : Int) (delay : Int) {R : Value → World → Prop} {w : World} (h : tontinelaw09_WheelNone.m id_ delay R w) : Calls Try.prog 8 #[.int .i64 id_, .int .i64 delay] w fun e w' => ∃ v, e = .returned v ∧ R v w' :=
  @fn_sound Try.prog tontinelaw09_WheelNone.H 8 Try.f8 [.int .i64 id_, .int .i64 delay] R w Try.mixed Try.func8 (by kernel_rfl) (by rw [← tontinelaw09_WheelNone.eq]; exact h)

set_option maxRecDepth 100000
/-- tontine/tontinelaw09.WheelCounts -/
def tontinelaw09_WheelCounts.m (La : Option Addr) (Ln Lc : Nat) (R : Value → World → Prop) (w : World) : Prop :=
  (Calls Try.prog 9 #[] w fun e_ w_ => (∃ y1 : Bool, e_ = .returned (.bool y1) ∧ (bif (!y1) then R (.bool false) w_ else (Calls Try.prog 10 #[] w_ fun e_2 w_2 => 
    (∃ rb ro : Nat, e_2 = .returned (pv rb ro) ∧ (∃ (I1 : Int → Int → Int → Int → World → Prop) (M1 : Int → Int → Int → Int → World → Nat), I1 0 0 0 0 w_2 ∧ 
    ∀ (jk : Env) (x1 : Int) (t1 : Int) (o1 : Int) (i1 : Int) (w_3 : World), I1 x1 t1 o1 i1 w_3 → (bif (decide (i1 < (Ln : Int))) then (∃ b1 o2 : Nat, La = some ⟨b1, o2, none⟩ ∧ (0 : Int) ≤ i1 ∧ 
    i1 < (Ln : Int) ∧ (∃ Kind : Int, ∃ Id : Int, ∃ N1 : Int, rdRow w_3 b1 (o2 + (i1 : Int).toNat * 3) [.int .i64 Kind, .int .i64 Id, .int .i64 N1] ∧ 
    (alD w_3 (.cells #[.int .i64 0, .int .i64 0, .int .i64 0] 37 (0, 0)) fun b2 w_4 => (stD w_4 b2 0 [.int .i64 Kind, .int .i64 Id, .int .i64 N1] fun w_5 => (bif (i1 == 300) then 
    (Calls Try.prog 14 #[pv rb ro] w_5 fun e_3 w_6 => (∃ r1 : Int, e_3 = .returned (.int .i64 r1) ∧ (bif (x1 == (w64 (t1 + r1))) then (Calls Try.prog 15 #[pv rb ro] w_6 fun e_4 w_7 => 
    (∃ r2 : Int, e_4 = .returned (.int .u64 r2) ∧ (Calls Try.prog 14 #[pv rb ro] w_7 fun e_5 w_8 => (∃ r3 : Int, e_5 = .returned (.int .i64 r3) ∧ R (.bool ((r2 == 0) == (r3 == 0))) w_8))))
     else R (.bool false) w_6))) else (∃ v1 : Int, World.cell? w_5 ⟨b2, 0, none⟩ = some (.int .i64 v1) ∧ (bif (v1 == 0) then (Calls Try.prog 14 #[pv rb ro] w_5 fun e_6 w_9 => 
    (∃ r4 : Int, e_6 = .returned (.int .i64 r4) ∧ (∃ v2 : Int, World.cell? w_9 ⟨b2, 1, none⟩ = some (.int .i64 v2) ∧ (∃ v3 : Int, World.cell? w_9 ⟨b2, 2, none⟩ = some (.int .i64 v3) ∧ 
    (Calls Try.prog 11 #[pv rb ro, .int .i64 v2, .int .i64 v3] w_9 fun e_7 w_10 => (∃ r5 : Int, e_7 = .returned (.int .i64 r5) ∧ (bif (r5 == 0) then (Calls Try.prog 14 #[pv rb ro] w_10 fun e_8 w_11 => 
    (∃ r6 : Int, e_8 = .returned (.int .i64 r6) ∧ (bif (r6 == r4) then (I1 (w64 (x1 + 1)) (w64 (t1 + 1)) o1 (w64 (i1 + 1)) w_11 ∧ 
    M1 (w64 (x1 + 1)) (w64 (t1 + 1)) o1 (w64 (i1 + 1)) w_11 < M1 x1 t1 o1 i1 w_3) else (I1 (w64 (x1 + 1)) t1 o1 (w64 (i1 + 1)) w_11 ∧ M1 (w64 (x1 + 1)) t1 o1 (w64 (i1 + 1)) w_11 < M1 x1 t1 o1 i1 w_3))))
     else (I1 x1 t1 o1 (w64 (i1 + 1)) w_10 ∧ M1 x1 t1 o1 (w64 (i1 + 1)) w_10 < M1 x1 t1 o1 i1 w_3)))))))) else (bif (v1 == 1) then (∃ v4 : Int, World.cell? w_5 ⟨b2, 1, none⟩ = some (.int .i64 v4) ∧ 
    (Calls Try.prog 13 #[pv rb ro, .int .i64 v4] w_5 fun e_9 w_12 => (∃ r7 : Bool, e_9 = .returned (.bool r7) ∧ (bif r7 then (I1 x1 (w64 (t1 + 1)) o1 (w64 (i1 + 1)) w_12 ∧ 
    M1 x1 (w64 (t1 + 1)) o1 (w64 (i1 + 1)) w_12 < M1 x1 t1 o1 i1 w_3) else (I1 x1 t1 o1 (w64 (i1 + 1)) w_12 ∧ M1 x1 t1 o1 (w64 (i1 + 1)) w_12 < M1 x1 t1 o1 i1 w_3)))))
     else (∃ v5 : Int, World.cell? w_5 ⟨b2, 2, none⟩ = some (.int .i64 v5) ∧ (bif (decide ((w64 (o1 + (Int.tmod (w64 ((Int.tmod v5 2000) + 2000)) 2000))) > 10000)) then R (.bool true) w_5
     else (∃ (I2 : Int → Int → World → Prop) (M2 : Int → Int → World → Nat), I2 t1 0 w_5 ∧ 
    ∀ (jk2 : Env) (t2 : Int) (i2 : Int) (w_13 : World), I2 t2 i2 w_13 → (bif (decide (i2 < (Int.tmod (w64 ((Int.tmod v5 2000) + 2000)) 2000))) then (Calls Try.prog 12 #[pv rb ro] w_13 fun e_10 w_14 => 
    (∃ (ra : Option Addr) (rn rc : Nat), e_10 = .returned (.slice ra rn rc) ∧ (I2 (w64 (t2 + (rn : Int))) (w64 (i2 + 1)) w_14 ∧ M2 (w64 (t2 + (rn : Int))) (w64 (i2 + 1)) w_14 < M2 t2 i2 w_13)))
     else (I1 x1 t2 (w64 (o1 + (Int.tmod (w64 ((Int.tmod v5 2000) + 2000)) 2000))) (w64 (i1 + 1)) w_13 ∧ 
    M1 x1 t2 (w64 (o1 + (Int.tmod (w64 ((Int.tmod v5 2000) + 2000)) 2000))) (w64 (i1 + 1)) w_13 < M1 x1 t1 o1 i1 w_3))))))))))))) else (Calls Try.prog 14 #[pv rb ro] w_3 fun e_11 w_15 => 
    (∃ r8 : Int, e_11 = .returned (.int .i64 r8) ∧ (bif (x1 == (w64 (t1 + r8))) then (Calls Try.prog 15 #[pv rb ro] w_15 fun e_12 w_16 => (∃ r9 : Int, e_12 = .returned (.int .u64 r9) ∧ 
    (Calls Try.prog 14 #[pv rb ro] w_16 fun e_13 w_17 => (∃ r10 : Int, e_13 = .returned (.int .i64 r10) ∧ R (.bool ((r9 == 0) == (r10 == 0))) w_17)))) else R (.bool false) w_15))))))))))

def tontinelaw09_WheelCounts.H : Hints := { nret := [], nld := [], loops := [(6, [(4, .int .i64), (5, .int .i64), (6, .int .i64), (16, .int .i64)]), (15, [(5, .int .i64), (36, .int .i64)])], joins := [], unroll := [], plans := [], nx := [] }

theorem tontinelaw09_WheelCounts.eq (La : Option Addr) (Ln Lc : Nat) (R : Value → World → Prop) (w : World) : tontinelaw09_WheelCounts.m La Ln Lc R w = fnD Try.prog tontinelaw09_WheelCounts.H Try.f6 [.slice La Ln Lc] R w := by kernel_rfl

theorem tontinelaw09_WheelCounts.ok (La : Option Addr) (Ln Lc : Nat) {R : Value → World → Prop} {w : World} (h : tontinelaw09_WheelCounts.m La Ln Lc R w) : Calls Try.prog 6 #[.slice La Ln Lc] w fun e w' => ∃ v, e = .returned v ∧ R v w' :=
  @fn_sound Try.prog tontinelaw09_WheelCounts.H 6 Try.f6 [.slice La Ln Lc] R w Try.mixed Try.func6 (by kernel_rfl) (by rw [← tontinelaw09_WheelCounts.eq]; exact h)

set_option maxRecDepth 100000
/-- tontine/tontinelaw09.WheelRuns -/
def tontinelaw09_WheelRuns.m (La : Option Addr) (Ln Lc : Nat) (R : Value → World → Prop) (w : World) : Prop :=
  (Calls Try.prog 9 #[] w fun e_ w_ => (∃ r1 : Bool, e_ = .returned (.bool r1) ∧ (bif (!r1) then R (.bool false) w_ else (Calls Try.prog 10 #[] w_ fun e_2 w_2 => 
    (∃ yb yo : Nat, e_2 = .returned (pv yb yo) ∧ (alD w_2 (.cells #[.int .u64 0, .slice none 0 0, .slice none 0 0] 42 (0, 0)) fun b1 w_3 => 
    (∃ (I1 : Int → Int → World → Prop) (M1 : Int → Int → World → Nat), I1 0 0 w_3 ∧ ∀ (jk : Env) (t1 : Int) (i1 : Int) (w_4 : World), I1 t1 i1 w_4 → (bif (decide (i1 < (Ln : Int))) then 
    (∃ b2 o1 : Nat, La = some ⟨b2, o1, none⟩ ∧ (0 : Int) ≤ i1 ∧ i1 < (Ln : Int) ∧ 
    (∃ Kind : Int, ∃ Id : Int, ∃ N1 : Int, rdRow w_4 b2 (o1 + (i1 : Int).toNat * 3) [.int .i64 Kind, .int .i64 Id, .int .i64 N1] ∧ 
    (alD w_4 (.cells #[.int .i64 0, .int .i64 0, .int .i64 0] 37 (0, 0)) fun b3 w_5 => (stD w_5 b3 0 [.int .i64 Kind, .int .i64 Id, .int .i64 N1] fun w_6 => (bif (i1 == 300) then R (.bool true) w_6
     else (∃ J1 : Int → World → Prop, (∃ v1 : Int, World.cell? w_6 ⟨b3, 0, none⟩ = some (.int .i64 v1) ∧ (bif (v1 == 0) then (drewD w_6 fun w_8 => 
    (∃ v2 : Int, World.cell? w_8 ⟨b3, 1, none⟩ = some (.int .i64 v2) ∧ (∃ v3 : Int, World.cell? w_8 ⟨b3, 2, none⟩ = some (.int .i64 v3) ∧ 
    (∃ v4 : Int, World.cell? w_8 ⟨b3, 1, none⟩ = some (.int .i64 v4) ∧ (∃ v5 : Int, World.cell? w_8 ⟨b3, 2, none⟩ = some (.int .i64 v5) ∧ 
    (Calls Try.prog 11 #[pv yb yo, .int .i64 v2, .int .i64 v3] w_8 fun e_3 w_9 => (∃ r2 : Int, e_3 = .returned (.int .i64 r2) ∧ World.cell? w_9 ⟨b3, 2, none⟩ = some (.int .i64 v5) ∧ 
    World.cell? w_9 ⟨b3, 1, none⟩ = some (.int .i64 v4) ∧ (Calls Try.prog 16 #[pv b1 0, .int .i64 v4, .int .i64 v5] w_9 fun e_4 w_10 => (∃ r3 : Int, e_4 = .returned (.int .i64 r3) ∧ 
    (bif (r2 != r3) then R (.bool false) w_10 else J1 t1 w_10)))))))))) else (bif (v1 == 1) then (drewD w_6 fun w_11 => (∃ v6 : Int, World.cell? w_11 ⟨b3, 1, none⟩ = some (.int .i64 v6) ∧ 
    (∃ v7 : Int, World.cell? w_11 ⟨b3, 1, none⟩ = some (.int .i64 v7) ∧ (Calls Try.prog 13 #[pv yb yo, .int .i64 v6] w_11 fun e_5 w_12 => (∃ r4 : Bool, e_5 = .returned (.bool r4) ∧ 
    World.cell? w_12 ⟨b3, 1, none⟩ = some (.int .i64 v7) ∧ (Calls Try.prog 17 #[pv b1 0, .int .i64 v7] w_12 fun e_6 w_13 => (∃ r5 : Bool, e_6 = .returned (.bool r5) ∧ (bif (r4 != r5) then 
    R (.bool false) w_13 else J1 t1 w_13)))))))) else (∃ v8 : Int, World.cell? w_6 ⟨b3, 2, none⟩ = some (.int .i64 v8) ∧ 
    (bif (decide ((w64 (t1 + (Int.tmod (w64 ((Int.tmod v8 3000) + 3000)) 3000))) > 20000)) then R (.bool true) w_6 else (∃ (I2 : Int → World → Prop) (M2 : Int → World → Nat), I2 0 w_6 ∧ 
    ∀ (jk3 : Env) (i2 : Int) (w_14 : World), I2 i2 w_14 → (bif (decide (i2 < (Int.tmod (w64 ((Int.tmod v8 3000) + 3000)) 3000))) then (Calls Try.prog 12 #[pv yb yo] w_14 fun e_7 w_15 => 
    (∃ (ra : Option Addr) (rn rc : Nat), e_7 = .returned (.slice ra rn rc) ∧ (Calls Try.prog 19 #[pv b1 0] w_15 fun e_8 w_16 => 
    (∃ (ra2 : Option Addr) (rn2 rc2 : Nat), e_8 = .returned (.slice ra2 rn2 rc2) ∧ (Calls Try.prog 18 #[.slice ra rn rc, .slice ra2 rn2 rc2] w_16 fun e_9 w_17 => 
    (∃ r6 : Bool, e_9 = .returned (.bool r6) ∧ (bif (!r6) then R (.bool false) w_17 else (I2 (w64 (i2 + 1)) w_17 ∧ M2 (w64 (i2 + 1)) w_17 < M2 i2 w_14))))))))
     else J1 (w64 (t1 + (Int.tmod (w64 ((Int.tmod v8 3000) + 3000)) 3000))) w_14))))))) ∧ ∀ (jk2 : Env) (t2 : Int) (w_7 : World), J1 t2 w_7 → (drewD w_7 fun w_18 => 
    (∃ v9 : Int, World.cell? w_18 ⟨b1, 0, none⟩ = some (.int .u64 v9) ∧ (Calls Try.prog 20 #[pv yb yo] w_18 fun e_10 w_19 => (∃ r7 : Int, e_10 = .returned (.int .u64 r7) ∧ 
    World.cell? w_19 ⟨b1, 0, none⟩ = some (.int .u64 v9) ∧ (bif (r7 != v9) then R (.bool false) w_19 else (∃ (va : Option Addr) (vn vc : Nat), World.cell? w_19 ⟨b1, 1, none⟩ = some (.slice va vn vc) ∧ 
    (Calls Try.prog 14 #[pv yb yo] w_19 fun e_11 w_20 => (∃ r8 : Int, e_11 = .returned (.int .i64 r8) ∧ World.cell? w_20 ⟨b1, 1, none⟩ = some (.slice va vn vc) ∧ 
    World.cell? w_20 ⟨b1, 0, none⟩ = some (.int .u64 v9) ∧ (bif (r8 != (vn : Int)) then R (.bool false) w_20 else (Calls Try.prog 15 #[pv yb yo] w_20 fun e_12 w_21 => 
    (∃ r9 : Int, e_12 = .returned (.int .u64 r9) ∧ World.cell? w_21 ⟨b1, 1, none⟩ = some (.slice va vn vc) ∧ World.cell? w_21 ⟨b1, 0, none⟩ = some (.int .u64 v9) ∧ 
    (Calls Try.prog 21 #[pv b1 0] w_21 fun e_13 w_22 => (∃ r10 : Int, e_13 = .returned (.int .u64 r10) ∧ World.cell? w_22 ⟨b1, 1, none⟩ = some (.slice va vn vc) ∧ 
    World.cell? w_22 ⟨b1, 0, none⟩ = some (.int .u64 v9) ∧ (bif (r9 != r10) then R (.bool false) w_22 else (I1 t2 (w64 (i1 + 1)) w_22 ∧ M1 t2 (w64 (i1 + 1)) w_22 < M1 t1 i1 w_4)))))))))))))))))))))
     else R (.bool true) w_4))))))))

def tontinelaw09_WheelRuns.H : Hints := { nret := [], nld := [], loops := [(6, [(5, .int .i64), (16, .int .i64)]), (15, [(36, .int .i64)])], joins := [(25, [(5, .int .i64)])], unroll := [], plans := [(20, (.take 0 (.take 1 (.take 2 (.take 3 (.take 4 (.take 6 (.take 7 (.take 8 (.take 9 (.take 10 (.eff 5 (.eff 11 (.take 12 .done)))))))))))))), (23, (.take 0 (.take 1 (.take 2 (.take 4 (.take 5 (.take 6 (.eff 3 (.eff 7 (.take 8 .done)))))))))), (25, (.take 0 (.take 2 (.take 3 (.take 4 (.take 5 (.eff 1 (.take 6 (.take 7 (.take 8 (.take 10 (.take 11 (.take 12 (.take 13 (.take 14 (.eff 9 (.take 15 (.take 16 (.take 17 (.take 18 (.take 20 (.eff 19 (.eff 21 (.take 22 (.take 23 .done)))))))))))))))))))))))))], nx := [] }

theorem tontinelaw09_WheelRuns.eq (La : Option Addr) (Ln Lc : Nat) (R : Value → World → Prop) (w : World) : tontinelaw09_WheelRuns.m La Ln Lc R w = fnD Try.prog tontinelaw09_WheelRuns.H Try.f7 [.slice La Ln Lc] R w := by kernel_rfl

theorem tontinelaw09_WheelRuns.ok (La : Option Addr) (Ln Lc : Nat) {R : Value → World → Prop} {w : World} (h : tontinelaw09_WheelRuns.m La Ln Lc R w) : Calls Try.prog 7 #[.slice La Ln Lc] w fun e w' => ∃ v, e = .returned v ∧ R v w' :=
  @fn_sound Try.prog tontinelaw09_WheelRuns.H 7 Try.f7 [.slice La Ln Lc] R w Try.mixed Try.func7 (by kernel_rfl) (by rw [← tontinelaw09_WheelRuns.eq]; exact h)

end Go.Proofs.Ytdlalkhnppahfaa
