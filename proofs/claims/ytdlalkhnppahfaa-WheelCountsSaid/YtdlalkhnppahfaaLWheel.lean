/-
  Clean forms of Go functions, and that each is enough for the call (written by a program of this work, lift.py).
-/
import Derived.Test.YtdlalkhnppahfaaXBase
import Derived.Test.YtdlalkhnppahfaaXDenIn
namespace Go.Proofs.Ytdlalkhnppahfaa
open Go Go.X

set_option maxRecDepth 100000
/-- tontine/wheel.shifts -/
def wheel_shifts.m  (R : Value → World → Prop) (w : World) : Prop :=
  (alD w (.cells #[.int .u64 0, .int .u64 0, .int .u64 0, .int .u64 0] 55 (0, 0)) fun b1 w_ => (stD w_ b1 0 [.int .u64 0, .int .u64 6, .int .u64 13, .int .u64 21] fun w_2 => 
    (∃ res : Int, ∃ res2 : Int, ∃ res3 : Int, ∃ res4 : Int, rdRow w_2 b1 0 [.int .u64 res, .int .u64 res2, .int .u64 res3, .int .u64 res4] ∧ 
    R (.agg #[.int .u64 res, .int .u64 res2, .int .u64 res3, .int .u64 res4]) w_2)))

def wheel_shifts.H : Hints := { nret := [], nld := [], loops := [], joins := [], unroll := [], plans := [], nx := [] }

theorem wheel_shifts.eq  (R : Value → World → Prop) (w : World) : wheel_shifts.m  R w = fnD Try.prog wheel_shifts.H Try.f24 [] R w := by kernel_rfl

theorem wheel_shifts.ok  {R : Value → World → Prop} {w : World} (h : wheel_shifts.m  R w) : Calls Try.prog 24 #[] w fun e w' => ∃ v, e = .returned v ∧ R v w' :=
  @fn_sound Try.prog wheel_shifts.H 24 Try.f24 [] R w Try.mixed Try.func24 (by kernel_rfl) (by rw [← wheel_shifts.eq]; exact h)

set_option maxRecDepth 100000
/-- tontine/wheel.New -/
def wheel_New.m  (R : Value → World → Prop) (w : World) : Prop :=
  (alD w (.cells #[.int .u64 0, .int .i64 0, .slice none 0 0, .slice none 0 0, .slice none 0 0, .slice none 0 0, .int .i64 0] 49 (0, 0)) fun b1 w_ => 
    (∃ (I1 : Int → World → Prop) (M1 : Int → World → Nat), I1 0 w_ ∧ ∀ (jk : Env) (i1 : Int) (w_2 : World), I1 i1 w_2 → (bif (decide (i1 < 3)) then ((0 : Int) ≤ i1 ∧ i1 < (3 : Int) ∧ 
    ∃ el : Int, (#[.int .i64 64, .int .i64 128, .int .i64 256] : Array Value)[(i1 : Int).toNat * 1]? = some (.int .i64 el) ∧ (drewD w_2 fun w_3 => 
    (exSl Try.prog (Instr.makeSlice 45 (.int .i64 el) (.int .i64 el)) (fun sa sn sc w_4 => ((0 : Int) ≤ i1 ∧ i1 < (3 : Int) ∧ (stD w_4 b1 (2 + (i1 : Int).toNat * 1) [.slice sa sn sc] fun w_5 => 
    (I1 (w64 (i1 + 1)) w_5 ∧ M1 (w64 (i1 + 1)) w_5 < M1 i1 w_2)))) w_3))) else R (pv b1 0) w_2)))

def wheel_New.H : Hints := { nret := [], nld := [], loops := [(3, [(7, .int .i64)])], joins := [], unroll := [], plans := [(5, (.take 0 (.take 1 (.take 2 (.take 4 (.take 5 (.eff 3 (.take 6 (.eff 7 .done)))))))))], nx := [] }

theorem wheel_New.eq  (R : Value → World → Prop) (w : World) : wheel_New.m  R w = fnD Try.prog wheel_New.H Try.f10 [] R w := by kernel_rfl

theorem wheel_New.ok  {R : Value → World → Prop} {w : World} (h : wheel_New.m  R w) : Calls Try.prog 10 #[] w fun e w' => ∃ v, e = .returned v ∧ R v w' :=
  @fn_sound Try.prog wheel_New.H 10 Try.f10 [] R w Try.mixed Try.func10 (by kernel_rfl) (by rw [← wheel_New.eq]; exact h)

set_option maxRecDepth 100000
/-- (*tontine/wheel.Wheel).Now -/
def wheel_Wheel_Now.m (wb wo : Nat) (R : Value → World → Prop) (w : World) : Prop :=
  (∃ v1 : Int, World.cell? w ⟨wb, wo, none⟩ = some (.int .u64 v1) ∧ R (.int .u64 v1) w)

def wheel_Wheel_Now.H : Hints := { nret := [], nld := [], loops := [], joins := [], unroll := [], plans := [], nx := [] }

theorem wheel_Wheel_Now.eq (wb wo : Nat) (R : Value → World → Prop) (w : World) : wheel_Wheel_Now.m wb wo R w = fnD Try.prog wheel_Wheel_Now.H Try.f20 [pv wb wo] R w := by kernel_rfl

theorem wheel_Wheel_Now.ok (wb wo : Nat) {R : Value → World → Prop} {w : World} (h : wheel_Wheel_Now.m wb wo R w) : Calls Try.prog 20 #[pv wb wo] w fun e w' => ∃ v, e = .returned v ∧ R v w' :=
  @fn_sound Try.prog wheel_Wheel_Now.H 20 Try.f20 [pv wb wo] R w Try.mixed Try.func20 (by kernel_rfl) (by rw [← wheel_Wheel_Now.eq]; exact h)

set_option maxRecDepth 100000
/-- (*tontine/wheel.Wheel).Len -/
def wheel_Wheel_Len.m (wb wo : Nat) (R : Value → World → Prop) (w : World) : Prop :=
  (∃ v1 : Int, World.cell? w ⟨wb, (wo + 6), none⟩ = some (.int .i64 v1) ∧ R (.int .i64 v1) w)

def wheel_Wheel_Len.H : Hints := { nret := [], nld := [], loops := [], joins := [], unroll := [], plans := [], nx := [] }

theorem wheel_Wheel_Len.eq (wb wo : Nat) (R : Value → World → Prop) (w : World) : wheel_Wheel_Len.m wb wo R w = fnD Try.prog wheel_Wheel_Len.H Try.f14 [pv wb wo] R w := by kernel_rfl

theorem wheel_Wheel_Len.ok (wb wo : Nat) {R : Value → World → Prop} {w : World} (h : wheel_Wheel_Len.m wb wo R w) : Calls Try.prog 14 #[pv wb wo] w fun e w' => ∃ v, e = .returned v ∧ R v w' :=
  @fn_sound Try.prog wheel_Wheel_Len.H 14 Try.f14 [pv wb wo] R w Try.mixed Try.func14 (by kernel_rfl) (by rw [← wheel_Wheel_Len.eq]; exact h)

set_option maxRecDepth 100000
/-- (*tontine/wheel.Wheel).put -/
def wheel_Wheel_put.m (Lb Lo : Nat) (id_ : Int) (due : Int) (turn : Int) (R : Value → World → Prop) (w : World) : Prop :=
  (alD w (.cells #[.int .i64 id_, .int .u64 due, .int .i64 turn] 53 (0, 0)) fun b1 w_ => (Calls Try.prog 24 #[] w_ fun e_ w_2 => 
    (∃ A1 : Int, ∃ A2 : Int, ∃ A3 : Int, ∃ A4 : Int, e_ = .returned (.agg #[.int .u64 A1, .int .u64 A2, .int .u64 A3, .int .u64 A4]) ∧ 
    (alD w_2 (.cells #[.int .u64 0, .int .u64 0, .int .u64 0, .int .u64 0] 55 (0, 0)) fun b2 w_3 => (stD w_3 b2 0 [.int .u64 A1, .int .u64 A2, .int .u64 A3, .int .u64 A4] fun w_4 => 
    (∃ (I1 : Int → World → Prop) (M1 : Int → World → Nat), I1 0 w_4 ∧ ∀ (jk : Env) (r1 : Int) (w_5 : World), I1 r1 w_5 → (bif (decide (r1 < 3)) then (drewD w_5 fun w_6 => 
    (∃ v1 : Int, World.cell? w_6 ⟨b1, 1, none⟩ = some (.int .u64 v1) ∧ ((0 : Int) ≤ (w64 (r1 + 1)) ∧ (w64 (r1 + 1)) < (4 : Int) ∧ 
    (∃ v2 : Int, World.cell? w_6 ⟨b2, (0 + ((w64 (r1 + 1)) : Int).toNat * 1), none⟩ = some (.int .u64 v2) ∧ ((0 : Int) ≤ v2 ∧ (∃ v3 : Int, World.cell? w_6 ⟨Lb, Lo, none⟩ = some (.int .u64 v3) ∧ 
    ((0 : Int) ≤ (w64 (r1 + 1)) ∧ (w64 (r1 + 1)) < (4 : Int) ∧ (∃ v4 : Int, World.cell? w_6 ⟨b2, (0 + ((w64 (r1 + 1)) : Int).toNat * 1), none⟩ = some (.int .u64 v4) ∧ ((0 : Int) ≤ v4 ∧ 
    (bif ((shrV .u64 v1 v2) == (shrV .u64 v3 v4)) then (drewD w_6 fun w_7 => (∃ v5 : Int, World.cell? w_7 ⟨b1, 1, none⟩ = some (.int .u64 v5) ∧ ((0 : Int) ≤ r1 ∧ r1 < (4 : Int) ∧ 
    (∃ v6 : Int, World.cell? w_7 ⟨b2, (0 + (r1 : Int).toNat * 1), none⟩ = some (.int .u64 v6) ∧ ((0 : Int) ≤ v6 ∧ ((0 : Int) ≤ r1 ∧ r1 < (3 : Int) ∧ 
    (∃ (va : Option Addr) (vn vc : Nat), World.cell? w_7 ⟨Lb, ((Lo + 2) + (r1 : Int).toNat * 1), none⟩ = some (.slice va vn vc) ∧ (drewD w_7 fun w_8 => ((0 : Int) ≤ r1 ∧ r1 < (3 : Int) ∧ 
    (∃ (va2 : Option Addr) (vn2 vc2 : Nat), World.cell? w_8 ⟨Lb, ((Lo + 2) + (r1 : Int).toNat * 1), none⟩ = some (.slice va2 vn2 vc2) ∧ ((0 : Int) ≤ r1 ∧ r1 < (3 : Int) ∧ 
    (∃ (va3 : Option Addr) (vn3 vc3 : Nat), World.cell? w_8 ⟨Lb, ((Lo + 2) + (r1 : Int).toNat * 1), none⟩ = some (.slice va3 vn3 vc3) ∧ (∃ b3 o1 : Nat, va3 = some ⟨b3, o1, none⟩ ∧ 
    (0 : Int) ≤ (andV .u64 (shrV .u64 v5 v6) (wu64 (w64 ((vn : Int) - 1)))) ∧ (andV .u64 (shrV .u64 v5 v6) (wu64 (w64 ((vn : Int) - 1)))) < (vn3 : Int) ∧ 
    (∃ (va4 : Option Addr) (vn4 vc4 : Nat), World.cell? w_8 ⟨b3, (o1 + ((andV .u64 (shrV .u64 v5 v6) (wu64 (w64 ((vn : Int) - 1)))) : Int).toNat * 1), none⟩ = some (.slice va4 vn4 vc4) ∧ 
    (∃ id_2 : Int, ∃ due2 : Int, ∃ turn2 : Int, rdRow w_8 b1 0 [.int .i64 id_2, .int .u64 due2, .int .i64 turn2] ∧ 
    (alD w_8 (.cells #[.int .i64 id_2, .int .u64 due2, .int .i64 turn2] 53 (0, 0)) fun b4 w_9 => 
    World.cell? w_9 ⟨b3, (o1 + ((andV .u64 (shrV .u64 v5 v6) (wu64 (w64 ((vn : Int) - 1)))) : Int).toNat * 1), none⟩ = some (.slice va4 vn4 vc4) ∧ 
    World.cell? w_9 ⟨Lb, ((Lo + 2) + (r1 : Int).toNat * 1), none⟩ = some (.slice va3 vn3 vc3) ∧ World.cell? w_9 ⟨Lb, ((Lo + 2) + (r1 : Int).toNat * 1), none⟩ = some (.slice va2 vn2 vc2) ∧ 
    (exSl Try.prog (Builtin.append_ #[47, 47] 47 #[.slice va4 vn4 vc4, .slice (some ⟨b4, 0, none⟩) 1 1]) (fun sa sn sc w_10 => 
    World.cell? w_10 ⟨Lb, ((Lo + 2) + (r1 : Int).toNat * 1), none⟩ = some (.slice va3 vn3 vc3) ∧ World.cell? w_10 ⟨Lb, ((Lo + 2) + (r1 : Int).toNat * 1), none⟩ = some (.slice va2 vn2 vc2) ∧ 
    (∃ b5 o2 : Nat, va2 = some ⟨b5, o2, none⟩ ∧ (0 : Int) ≤ (andV .u64 (shrV .u64 v5 v6) (wu64 (w64 ((vn : Int) - 1)))) ∧ (andV .u64 (shrV .u64 v5 v6) (wu64 (w64 ((vn : Int) - 1)))) < (vn2 : Int) ∧ 
    (stD w_10 b5 (o2 + ((andV .u64 (shrV .u64 v5 v6) (wu64 (w64 ((vn : Int) - 1)))) : Int).toNat * 1) [.slice sa sn sc] fun w_11 => R (.tuple #[]) w_11))) w_9)))))))))))))))))
     else (I1 (w64 (r1 + 1)) w_6 ∧ M1 (w64 (r1 + 1)) w_6 < M1 r1 w_5))))))))))) else (drewD w_5 fun w_12 => 
    (∃ (va5 : Option Addr) (vn5 vc5 : Nat), World.cell? w_12 ⟨Lb, (Lo + 5), none⟩ = some (.slice va5 vn5 vc5) ∧ 
    (∃ id_3 : Int, ∃ due3 : Int, ∃ turn3 : Int, rdRow w_12 b1 0 [.int .i64 id_3, .int .u64 due3, .int .i64 turn3] ∧ 
    (alD w_12 (.cells #[.int .i64 id_3, .int .u64 due3, .int .i64 turn3] 53 (0, 0)) fun b6 w_13 => World.cell? w_13 ⟨Lb, (Lo + 5), none⟩ = some (.slice va5 vn5 vc5) ∧ 
    (exSl Try.prog (Builtin.append_ #[47, 47] 47 #[.slice va5 vn5 vc5, .slice (some ⟨b6, 0, none⟩) 1 1]) (fun sa2 sn2 sc2 w_14 => (stD w_14 Lb (Lo + 5) [.slice sa2 sn2 sc2] fun w_15 => 
    R (.tuple #[]) w_15)) w_13))))))))))))

def wheel_Wheel_put.H : Hints := { nret := [], nld := [], loops := [(3, [(8, .int .i64)])], joins := [], unroll := [], plans := [(9, (.take 0 (.take 1 (.take 2 (.take 3 (.take 4 (.take 5 (.eff 6 (.eff 7 (.take 8 (.take 9 (.eff 10 .done)))))))))))), (5, (.take 0 (.take 1 (.take 2 (.take 3 (.take 4 (.take 5 (.take 6 (.take 7 (.take 8 (.take 9 (.take 10 (.take 11 (.take 12 (.take 13 (.take 14 (.take 15 (.take 16 .done)))))))))))))))))), (6, (.take 0 (.take 1 (.take 2 (.take 3 (.take 4 (.take 5 (.take 6 (.take 7 (.take 8 (.take 9 (.take 10 (.take 11 (.take 12 (.take 13 (.take 14 (.take 15 (.take 16 .done)))))))))))))))))), (7, (.take 0 (.take 1 (.take 2 (.take 3 (.take 4 (.take 5 (.take 6 (.take 7 (.take 8 (.take 9 (.take 10 (.take 11 (.take 12 (.take 13 (.take 14 (.take 15 (.take 16 (.eff 17 (.eff 18 (.take 19 (.eff 20 .done))))))))))))))))))))))], nx := [] }

theorem wheel_Wheel_put.eq (Lb Lo : Nat) (id_ : Int) (due : Int) (turn : Int) (R : Value → World → Prop) (w : World) : wheel_Wheel_put.m Lb Lo id_ due turn R w = fnD Try.prog wheel_Wheel_put.H Try.f23 [pv Lb Lo, .agg #[.int .i64 id_, .int .u64 due, .int .i64 turn]] R w := by kernel_rfl

theorem wheel_Wheel_put.ok (Lb Lo : Nat) (id_ : Int) (due : Int) (turn : Int) {R : Value → World → Prop} {w : World} (h : wheel_Wheel_put.m Lb Lo id_ due turn R w) : Calls Try.prog 23 #[pv Lb Lo, .agg #[.int .i64 id_, .int .u64 due, .int .i64 turn]] w fun e w' => ∃ v, e = .returned v ∧ R v w' :=
  @fn_sound Try.prog wheel_Wheel_put.H 23 Try.f23 [pv Lb Lo, .agg #[.int .i64 id_, .int .u64 due, .int .i64 turn]] R w Try.mixed Try.func23 (by kernel_rfl) (by rw [← wheel_Wheel_put.eq]; exact h)

set_option maxRecDepth 100000
/-- (*tontine/wheel.Wheel).lists -/
def wheel_Wheel_lists.m (wb wo : Nat) (yl : Nat) (R : Value → World → Prop) (w : World) : Prop :=
  (∃ (I1 : Int → World → Prop) (M1 : Int → World → Nat), I1 0 w ∧ ∀ (jk : Env) (i1 : Int) (w_ : World), I1 i1 w_ → (bif (decide (i1 < 3)) then ((0 : Int) ≤ i1 ∧ i1 < (3 : Int) ∧ 
    (∃ (va : Option Addr) (vn vc : Nat), World.cell? w_ ⟨wb, ((wo + 2) + (i1 : Int).toNat * 1), none⟩ = some (.slice va vn vc) ∧ (∃ (I2 : Int → World → Prop) (M2 : Int → World → Nat), I2 0 w_ ∧ 
    ∀ (jk2 : Env) (i2 : Int) (w_2 : World), I2 i2 w_2 → (bif (decide (i2 < (vn : Int))) then ((0 : Int) ≤ i1 ∧ i1 < (3 : Int) ∧ 
    (∃ (va2 : Option Addr) (vn2 vc2 : Nat), World.cell? w_2 ⟨wb, ((wo + 2) + (i1 : Int).toNat * 1), none⟩ = some (.slice va2 vn2 vc2) ∧ (∃ b1 o1 : Nat, va2 = some ⟨b1, o1, none⟩ ∧ (0 : Int) ≤ i2 ∧ 
    i2 < (vn2 : Int) ∧ (YieldAt Fence.wide 0 Try.prog yl #[pv b1 (o1 + (i2 : Int).toNat * 1)] w_2 fun e_ w_3 => ∃ go : Bool, e_ = .returned (.bool go) ∧ (bif (!go) then R (.tuple #[]) w_3
     else (I2 (w64 (i2 + 1)) w_3 ∧ M2 (w64 (i2 + 1)) w_3 < M2 i2 w_2)))))) else (I1 (w64 (i1 + 1)) w_2 ∧ M1 (w64 (i1 + 1)) w_2 < M1 i1 w_)))))
     else (YieldAt Fence.wide 0 Try.prog yl #[pv wb (wo + 5)] w_ fun e_2 w_4 => ∃ go2 : Bool, e_2 = .returned (.bool go2) ∧ R (.tuple #[]) w_4)))

def wheel_Wheel_lists.H : Hints := { nret := [], nld := [], loops := [(1, [(6, .int .i64)]), (4, [(16, .int .i64)])], joins := [], unroll := [], plans := [], nx := [] }

theorem wheel_Wheel_lists.eq (wb wo : Nat) (yl : Nat) (R : Value → World → Prop) (w : World) : wheel_Wheel_lists.m wb wo yl R w = fnDY Try.prog wheel_Wheel_lists.H Try.f27 [pv wb wo, .func (.yield yl) #[] #[]] R w := by kernel_rfl

theorem wheel_Wheel_lists.ok (wb wo : Nat) (yl : Nat) {R : Value → World → Prop} {w : World} (h : wheel_Wheel_lists.m wb wo yl R w) : Calls Try.prog 27 #[pv wb wo, .func (.yield yl) #[] #[]] w fun e w' => ∃ v, e = .returned v ∧ R v w' :=
  @fnY_sound Try.prog wheel_Wheel_lists.H 27 Try.f27 [pv wb wo, .func (.yield yl) #[] #[]] R w Try.mixed Try.func27 (by kernel_rfl) (by rw [← wheel_Wheel_lists.eq]; exact h)

set_option maxRecDepth 100000
/-- (*tontine/wheel.Wheel).has -/
def wheel_Wheel_has.m (wb wo : Nat) (id_ : Int) (R : Value → World → Prop) (w : World) : Prop :=
  (alD w (.cells #[.int .i64 id_] 3 (0, 0)) fun b1 w_ => (alD w_ (.cells #[.bool false] 4 (0, 0)) fun b2 w_2 => 
    ((∀ (args : Array Value) (w : World), (callFunc 27 args).run Try.prog w = .ok (.enter 27 args) w) ∧ 
    ∃ (rN : Nat) (rx : Nat → Nat × Nat) (rRD : World → Prop) (rI : Nat → World → Prop) (rX : World → Prop), IterC Try.prog 27 #[pv wb wo] #[] rN rx rRD ∧ (∀ i W, rI i W → rRD W) ∧ 
    (∀ i, Loose w_2.heap.size (rI i)) ∧ Loose w_2.heap.size rX ∧ rI 0 w_2 ∧ 
    (∀ (ri : Nat) (rW : World) (rc : Loop), ri < rN → rI ri rW → keepsD w_2 rW rc → (∃ (va : Option Addr) (vn vc : Nat), World.cell? rW ⟨(rx ri).1, (rx ri).2, none⟩ = some (.slice va vn vc) ∧ 
    (∃ (I1 : Int → World → Prop) (M1 : Int → World → Nat), I1 0 rW ∧ ∀ (jk : Env) (i1 : Int) (w_3 : World), I1 i1 w_3 → (bif (decide (i1 < (vn : Int))) then (∃ b3 o1 : Nat, va = some ⟨b3, o1, none⟩ ∧ 
    (0 : Int) ≤ i1 ∧ i1 < (vn : Int) ∧ (∃ id_2 : Int, ∃ due : Int, ∃ turn : Int, rdRow w_3 b3 (o1 + (i1 : Int).toNat * 3) [.int .i64 id_2, .int .u64 due, .int .i64 turn] ∧ 
    (alD w_3 (.cells #[.int .i64 0, .int .u64 0, .int .i64 0] 53 (0, 0)) fun b4 w_4 => (stD w_4 b4 0 [.int .i64 id_2, .int .u64 due, .int .i64 turn] fun w_5 => 
    (∃ v1 : Int, World.cell? w_5 ⟨b4, 0, none⟩ = some (.int .i64 v1) ∧ (∃ v2 : Int, World.cell? w_5 ⟨b1, 0, none⟩ = some (.int .i64 v2) ∧ (bif (v1 == v2) then (stD w_5 b2 0 [.bool true] fun w_6 => 
    (rX w_6 ∧ keepsD w_2 w_6 rc)) else (I1 (w64 (i1 + 1)) w_5 ∧ M1 (w64 (i1 + 1)) w_5 < M1 i1 w_3)))))))) else (rI (ri + 1) w_3 ∧ keepsD w_2 w_3 rc))))) ∧ 
    (∀ rW2 : World, rI rN rW2 → rW2.heap[w_2.heap.size]? = some (.deferred (some [])) → (stD rW2 b2 0 [.bool false] fun w_7 => (w_7.heap[w_2.heap.size]? = some (.deferred (some [])) ∧ 
    (∃ res : Bool, World.cell? (World.putObj w_7 (w_2.heap.size) (.deferred none)) ⟨b2, 0, none⟩ = some (.bool res) ∧ R (.bool res) (World.putObj w_7 (w_2.heap.size) (.deferred none)))))) ∧ 
    (∀ rW3 : World, rX rW3 → rW3.heap[w_2.heap.size]? = some (.deferred (some [])) → (rW3.heap[w_2.heap.size]? = some (.deferred (some [])) ∧ 
    (∃ res2 : Bool, World.cell? (World.putObj rW3 (w_2.heap.size) (.deferred none)) ⟨b2, 0, none⟩ = some (.bool res2) ∧ R (.bool res2) (World.putObj rW3 (w_2.heap.size) (.deferred none))))))))

def wheel_Wheel_has.H : Hints := { nret := [], nld := [], loops := [(4, [(15, .int .i64)])], joins := [], unroll := [], plans := [], nx := [] }

theorem wheel_Wheel_has.eq (wb wo : Nat) (id_ : Int) (R : Value → World → Prop) (w : World) : wheel_Wheel_has.m wb wo id_ R w = fnDR Try.prog wheel_Wheel_has.H Try.f22 [pv wb wo, .int .i64 id_] R w := by kernel_rfl

theorem wheel_Wheel_has.ok (wb wo : Nat) (id_ : Int) {R : Value → World → Prop} {w : World} (h : wheel_Wheel_has.m wb wo id_ R w) : Calls Try.prog 22 #[pv wb wo, .int .i64 id_] w fun e w' => ∃ v, e = .returned v ∧ R v w' :=
  @fnR_sound Try.prog wheel_Wheel_has.H 22 Try.f22 [pv wb wo, .int .i64 id_] R w Try.mixed Try.func22 (by kernel_rfl) (by rw [← wheel_Wheel_has.eq]; exact h)

set_option maxRecDepth 100000
/-- (*tontine/wheel.Wheel).Stop -/
def wheel_Wheel_Stop.m (wb wo : Nat) (id_ : Int) (R : Value → World → Prop) (w : World) : Prop :=
  (alD w (.cells #[pv wb wo] 23 (0, 0)) fun b1 w_ => (alD w_ (.cells #[.int .i64 id_] 3 (0, 0)) fun b2 w_2 => (alD w_2 (.cells #[.bool false] 4 (0, 0)) fun b3 w_3 => 
    (∃ vb vo : Nat, World.cell? w_3 ⟨b1, 0, none⟩ = some (pv vb vo) ∧ (∃ vb2 vo2 : Nat, World.cell? w_3 ⟨b1, 0, none⟩ = some (pv vb2 vo2) ∧ 
    ((∀ (args : Array Value) (w : World), (callFunc 27 args).run Try.prog w = .ok (.enter 27 args) w) ∧ 
    ∃ (rN : Nat) (rx : Nat → Nat × Nat) (rRD : World → Prop) (rI : Nat → World → Prop) (rX : World → Prop), IterC Try.prog 27 #[pv vb2 vo2] #[] rN rx rRD ∧ (∀ i W, rI i W → rRD W) ∧ 
    (∀ i, Loose w_3.heap.size (rI i)) ∧ Loose w_3.heap.size rX ∧ rI 0 w_3 ∧ 
    (∀ (ri : Nat) (rW : World) (rc : Loop), ri < rN → rI ri rW → keepsD w_3 rW rc → (∃ (va : Option Addr) (vn vc : Nat), World.cell? rW ⟨(rx ri).1, (rx ri).2, none⟩ = some (.slice va vn vc) ∧ 
    (∃ (I1 : Int → World → Prop) (M1 : Int → World → Nat), I1 0 rW ∧ ∀ (jk : Env) (i1 : Int) (w_4 : World), I1 i1 w_4 → (bif (decide (i1 < (vn : Int))) then (∃ b4 o1 : Nat, va = some ⟨b4, o1, none⟩ ∧ 
    (0 : Int) ≤ i1 ∧ i1 < (vn : Int) ∧ (∃ id_2 : Int, ∃ due : Int, ∃ turn : Int, rdRow w_4 b4 (o1 + (i1 : Int).toNat * 3) [.int .i64 id_2, .int .u64 due, .int .i64 turn] ∧ 
    (alD w_4 (.cells #[.int .i64 0, .int .u64 0, .int .i64 0] 53 (0, 0)) fun b5 w_5 => (stD w_5 b5 0 [.int .i64 id_2, .int .u64 due, .int .i64 turn] fun w_6 => 
    (∃ v1 : Int, World.cell? w_6 ⟨b5, 0, none⟩ = some (.int .i64 v1) ∧ (∃ v2 : Int, World.cell? w_6 ⟨b2, 0, none⟩ = some (.int .i64 v2) ∧ (bif (v1 == v2) then (drewD w_6 fun w_7 => 
    (∃ (va2 : Option Addr) (vn2 vc2 : Nat), World.cell? w_7 ⟨(rx ri).1, (rx ri).2, none⟩ = some (.slice va2 vn2 vc2) ∧ ((0 : Int) ≤ i1 ∧ i1 ≤ i1 ∧ i1 ≤ (vc2 : Int) ∧ 
    (∃ (va3 : Option Addr) (vn3 vc3 : Nat), World.cell? w_7 ⟨(rx ri).1, (rx ri).2, none⟩ = some (.slice va3 vn3 vc3) ∧ ((0 : Int) ≤ (w64 (i1 + 1)) ∧ (w64 (i1 + 1)) ≤ (vn3 : Int) ∧ 
    (exSl Try.prog (Builtin.append_ #[47, 47] 47 #[.slice va2 ((i1 : Int).toNat) ((i1 : Int).toNat), .slice (slcA va3 vc3 (((w64 (i1 + 1)) : Int).toNat) 3) (vn3 - ((w64 (i1 + 1)) : Int).toNat) (vc3 - ((w64 (i1 + 1)) : Int).toNat)]) (fun sa sn sc w_8 => 
    World.cell? w_8 ⟨(rx ri).1, (rx ri).2, none⟩ = some (.slice va3 vn3 vc3) ∧ World.cell? w_8 ⟨(rx ri).1, (rx ri).2, none⟩ = some (.slice va2 vn2 vc2) ∧ 
    (stD w_8 (rx ri).1 (rx ri).2 [.slice sa sn sc] fun w_9 => (∃ vb3 vo3 : Nat, World.cell? w_9 ⟨b1, 0, none⟩ = some (pv vb3 vo3) ∧ 
    (∃ v3 : Int, World.cell? w_9 ⟨vb3, (vo3 + 6), none⟩ = some (.int .i64 v3) ∧ (stD w_9 vb3 (vo3 + 6) [.int .i64 (w64 (v3 - 1))] fun w_10 => (stD w_10 b3 0 [.bool true] fun w_11 => (rX w_11 ∧ 
    keepsD w_3 w_11 rc))))))) w_7)))))) else (I1 (w64 (i1 + 1)) w_6 ∧ M1 (w64 (i1 + 1)) w_6 < M1 i1 w_4)))))))) else (rI (ri + 1) w_4 ∧ keepsD w_3 w_4 rc))))) ∧ 
    (∀ rW2 : World, rI rN rW2 → rW2.heap[w_3.heap.size]? = some (.deferred (some [])) → (stD rW2 b3 0 [.bool false] fun w_12 => (w_12.heap[w_3.heap.size]? = some (.deferred (some [])) ∧ 
    (∃ res : Bool, World.cell? (World.putObj w_12 (w_3.heap.size) (.deferred none)) ⟨b3, 0, none⟩ = some (.bool res) ∧ R (.bool res) (World.putObj w_12 (w_3.heap.size) (.deferred none)))))) ∧ 
    (∀ rW3 : World, rX rW3 → rW3.heap[w_3.heap.size]? = some (.deferred (some [])) → (rW3.heap[w_3.heap.size]? = some (.deferred (some [])) ∧ 
    (∃ res2 : Bool, World.cell? (World.putObj rW3 (w_3.heap.size) (.deferred none)) ⟨b3, 0, none⟩ = some (.bool res2) ∧ R (.bool res2) (World.putObj rW3 (w_3.heap.size) (.deferred none)))))))))))

def wheel_Wheel_Stop.H : Hints := { nret := [], nld := [], loops := [(6, [(17, .int .i64)])], joins := [], unroll := [], plans := [(9, (.take 0 (.take 1 (.take 2 (.take 3 (.take 4 (.take 5 (.take 6 (.take 7 (.take 8 (.take 9 (.take 10 (.take 11 (.take 12 (.eff 13 (.take 14 (.eff 15 .done)))))))))))))))))], nx := [] }

theorem wheel_Wheel_Stop.eq (wb wo : Nat) (id_ : Int) (R : Value → World → Prop) (w : World) : wheel_Wheel_Stop.m wb wo id_ R w = fnDR Try.prog wheel_Wheel_Stop.H Try.f13 [pv wb wo, .int .i64 id_] R w := by kernel_rfl

theorem wheel_Wheel_Stop.ok (wb wo : Nat) (id_ : Int) {R : Value → World → Prop} {w : World} (h : wheel_Wheel_Stop.m wb wo id_ R w) : Calls Try.prog 13 #[pv wb wo, .int .i64 id_] w fun e w' => ∃ v, e = .returned v ∧ R v w' :=
  @fnR_sound Try.prog wheel_Wheel_Stop.H 13 Try.f13 [pv wb wo, .int .i64 id_] R w Try.mixed Try.func13 (by kernel_rfl) (by rw [← wheel_Wheel_Stop.eq]; exact h)

set_option maxRecDepth 100000
/-- (*tontine/wheel.Wheel).Due -/
def wheel_Wheel_Due.m (wb wo : Nat) (R : Value → World → Prop) (w : World) : Prop :=
  (alD w (.cells #[pv wb wo] 23 (0, 0)) fun b1 w_ => (alD w_ (.cells #[.int .u64 0] 33 (0, 0)) fun b2 w_2 => (stD w_2 b2 0 [.int .u64 0] fun w_3 => 
    (∃ vb vo : Nat, World.cell? w_3 ⟨b1, 0, none⟩ = some (pv vb vo) ∧ (∃ vb2 vo2 : Nat, World.cell? w_3 ⟨b1, 0, none⟩ = some (pv vb2 vo2) ∧ 
    ((∀ (args : Array Value) (w : World), (callFunc 27 args).run Try.prog w = .ok (.enter 27 args) w) ∧ 
    ∃ (rN : Nat) (rx : Nat → Nat × Nat) (rRD : World → Prop) (rI : Nat → World → Prop) (rX : World → Prop), IterC Try.prog 27 #[pv vb2 vo2] #[] rN rx rRD ∧ (∀ i W, rI i W → rRD W) ∧ 
    (∀ i, Loose w_3.heap.size (rI i)) ∧ Loose w_3.heap.size rX ∧ rI 0 w_3 ∧ 
    (∀ (ri : Nat) (rW : World) (rc : Loop), ri < rN → rI ri rW → keepsD w_3 rW rc → (∃ (va : Option Addr) (vn vc : Nat), World.cell? rW ⟨(rx ri).1, (rx ri).2, none⟩ = some (.slice va vn vc) ∧ 
    (∃ (I1 : Int → World → Prop) (M1 : Int → World → Nat), I1 0 rW ∧ ∀ (jk : Env) (i1 : Int) (w_4 : World), I1 i1 w_4 → (bif (decide (i1 < (vn : Int))) then (∃ b3 o1 : Nat, va = some ⟨b3, o1, none⟩ ∧ 
    (0 : Int) ≤ i1 ∧ i1 < (vn : Int) ∧ (∃ id_ : Int, ∃ due : Int, ∃ turn : Int, rdRow w_4 b3 (o1 + (i1 : Int).toNat * 3) [.int .i64 id_, .int .u64 due, .int .i64 turn] ∧ 
    (alD w_4 (.cells #[.int .i64 0, .int .u64 0, .int .i64 0] 53 (0, 0)) fun b4 w_5 => (stD w_5 b4 0 [.int .i64 id_, .int .u64 due, .int .i64 turn] fun w_6 => (drewD w_6 fun w_7 => 
    (∃ v1 : Int, World.cell? w_7 ⟨b4, 1, none⟩ = some (.int .u64 v1) ∧ (∃ vb3 vo3 : Nat, World.cell? w_7 ⟨b1, 0, none⟩ = some (pv vb3 vo3) ∧ 
    (∃ v2 : Int, World.cell? w_7 ⟨vb3, vo3, none⟩ = some (.int .u64 v2) ∧ (∃ v3 : Int, World.cell? w_7 ⟨b2, 0, none⟩ = some (.int .u64 v3) ∧ (bif (v3 == 0) then 
    (stD w_7 b2 0 [.int .u64 (wu64 (v1 - v2))] fun w_8 => (I1 (w64 (i1 + 1)) w_8 ∧ M1 (w64 (i1 + 1)) w_8 < M1 i1 w_4)) else (∃ v4 : Int, World.cell? w_7 ⟨b2, 0, none⟩ = some (.int .u64 v4) ∧ 
    (bif (decide ((wu64 (v1 - v2)) < v4)) then (stD w_7 b2 0 [.int .u64 (wu64 (v1 - v2))] fun w_9 => (I1 (w64 (i1 + 1)) w_9 ∧ M1 (w64 (i1 + 1)) w_9 < M1 i1 w_4)) else (I1 (w64 (i1 + 1)) w_7 ∧ 
    M1 (w64 (i1 + 1)) w_7 < M1 i1 w_4))))))))))))) else (rI (ri + 1) w_4 ∧ keepsD w_3 w_4 rc))))) ∧ 
    (∀ rW2 : World, rI rN rW2 → rW2.heap[w_3.heap.size]? = some (.deferred (some [])) → (∃ v5 : Int, World.cell? rW2 ⟨b2, 0, none⟩ = some (.int .u64 v5) ∧ 
    (rW2.heap[w_3.heap.size]? = some (.deferred (some [])) ∧ R (.int .u64 v5) (World.putObj rW2 (w_3.heap.size) (.deferred none))))) ∧ 
    (∀ rW3 : World, rX rW3 → rW3.heap[w_3.heap.size]? = some (.deferred (some [])) → (rW3.heap[w_3.heap.size]? = some (.deferred (some [])) ∧ 
    R (.int .u64 0) (World.putObj rW3 (w_3.heap.size) (.deferred none))))))))))

def wheel_Wheel_Due.H : Hints := { nret := [], nld := [], loops := [(7, [(17, .int .i64)])], joins := [], unroll := [], plans := [(9, (.take 0 (.take 1 (.take 2 (.take 3 (.take 4 (.take 5 (.take 6 (.take 7 .done)))))))))], nx := [] }

theorem wheel_Wheel_Due.eq (wb wo : Nat) (R : Value → World → Prop) (w : World) : wheel_Wheel_Due.m wb wo R w = fnDR Try.prog wheel_Wheel_Due.H Try.f15 [pv wb wo] R w := by kernel_rfl

theorem wheel_Wheel_Due.ok (wb wo : Nat) {R : Value → World → Prop} {w : World} (h : wheel_Wheel_Due.m wb wo R w) : Calls Try.prog 15 #[pv wb wo] w fun e w' => ∃ v, e = .returned v ∧ R v w' :=
  @fnR_sound Try.prog wheel_Wheel_Due.H 15 Try.f15 [pv wb wo] R w Try.mixed Try.func15 (by kernel_rfl) (by rw [← wheel_Wheel_Due.eq]; exact h)

set_option maxRecDepth 100000
/-- (*tontine/wheel.Wheel).Set -/
def wheel_Wheel_Set.m (wb wo : Nat) (id_ : Int) (delay : Int) (R : Value → World → Prop) (w : World) : Prop :=
  (bif (decide (delay < 1)) then R (.int .i64 1) w else (bif (decide (delay > 1048576)) then R (.int .i64 1) w else (∃ J1 : World → Prop, (Calls Try.prog 22 #[pv wb wo, .int .i64 id_] w fun e_ w_2 => 
    (∃ r1 : Bool, e_ = .returned (.bool r1) ∧ (bif r1 then (Calls Try.prog 13 #[pv wb wo, .int .i64 id_] w_2 fun e_2 w_3 => (∃ r2 : Bool, e_2 = .returned (.bool r2) ∧ J1 w_3))
     else (∃ v1 : Int, World.cell? w_2 ⟨wb, (wo + 6), none⟩ = some (.int .i64 v1) ∧ (bif (v1 == 64) then R (.int .i64 11) w_2 else J1 w_2))))) ∧ 
    ∀ (jk : Env)  (w_ : World), J1 w_ → (∃ v2 : Int, World.cell? w_ ⟨wb, (wo + 1), none⟩ = some (.int .i64 v2) ∧ (stD w_ wb (wo + 1) [.int .i64 (w64 (v2 + 1))] fun w_4 => 
    (∃ v3 : Int, World.cell? w_4 ⟨wb, (wo + 6), none⟩ = some (.int .i64 v3) ∧ (stD w_4 wb (wo + 6) [.int .i64 (w64 (v3 + 1))] fun w_5 => (drewD w_5 fun w_6 => 
    (∃ v4 : Int, World.cell? w_6 ⟨wb, wo, none⟩ = some (.int .u64 v4) ∧ (∃ v5 : Int, World.cell? w_6 ⟨wb, (wo + 1), none⟩ = some (.int .i64 v5) ∧ 
    (Calls Try.prog 23 #[pv wb wo, .agg #[.int .i64 id_, .int .u64 (wu64 (v4 + (wu64 delay))), .int .i64 v5]] w_6 fun e_3 w_7 => e_3 = .returned (.tuple #[]) ∧ 
    World.cell? w_7 ⟨wb, (wo + 1), none⟩ = some (.int .i64 v5) ∧ World.cell? w_7 ⟨wb, wo, none⟩ = some (.int .u64 v4) ∧ R (.int .i64 0) w_7)))))))))))

def wheel_Wheel_Set.H : Hints := { nret := [], nld := [], loops := [], joins := [(7, [])], unroll := [], plans := [(9, (.take 0 (.take 1 (.take 2 (.take 3 (.take 4 (.take 5 (.take 6 (.take 7 (.take 8 (.take 9 (.take 10 (.take 11 (.take 12 (.take 13 (.eff 14 .done))))))))))))))))], nx := [] }

theorem wheel_Wheel_Set.eq (wb wo : Nat) (id_ : Int) (delay : Int) (R : Value → World → Prop) (w : World) : wheel_Wheel_Set.m wb wo id_ delay R w = fnD Try.prog wheel_Wheel_Set.H Try.f11 [pv wb wo, .int .i64 id_, .int .i64 delay] R w := by kernel_rfl

theorem wheel_Wheel_Set.ok (wb wo : Nat) (id_ : Int) (delay : Int) {R : Value → World → Prop} {w : World} (h : wheel_Wheel_Set.m wb wo id_ delay R w) : Calls Try.prog 11 #[pv wb wo, .int .i64 id_, .int .i64 delay] w fun e w' => ∃ v, e = .returned v ∧ R v w' :=
  @fn_sound Try.prog wheel_Wheel_Set.H 11 Try.f11 [pv wb wo, .int .i64 id_, .int .i64 delay] R w Try.mixed Try.func11 (by kernel_rfl) (by rw [← wheel_Wheel_Set.eq]; exact h)

set_option maxRecDepth 100000
/-- (*tontine/wheel.Wheel).Tick$1 -/
def wheel_less.m (i1 : Int) (j1 : Int) (cb co : Nat) (R : Value → World → Prop) (w : World) : Prop :=
  (drewD w fun w_ => (∃ (va : Option Addr) (vn vc : Nat), World.cell? w_ ⟨cb, co, none⟩ = some (.slice va vn vc) ∧ (∃ b1 o1 : Nat, va = some ⟨b1, o1, none⟩ ∧ (0 : Int) ≤ i1 ∧ i1 < (vn : Int) ∧ 
    (∃ v1 : Int, World.cell? w_ ⟨b1, ((o1 + (i1 : Int).toNat * 3) + 2), none⟩ = some (.int .i64 v1) ∧ (∃ (va2 : Option Addr) (vn2 vc2 : Nat), World.cell? w_ ⟨cb, co, none⟩ = some (.slice va2 vn2 vc2) ∧ 
    (∃ b2 o2 : Nat, va2 = some ⟨b2, o2, none⟩ ∧ (0 : Int) ≤ j1 ∧ j1 < (vn2 : Int) ∧ (∃ v2 : Int, World.cell? w_ ⟨b2, ((o2 + (j1 : Int).toNat * 3) + 2), none⟩ = some (.int .i64 v2) ∧ 
    R (.bool (decide (v1 < v2))) w_)))))))

def wheel_less.H : Hints := { nret := [], nld := [], loops := [], joins := [], unroll := [], plans := [(1, (.take 0 (.take 1 (.take 2 (.take 3 (.take 4 (.take 5 (.take 6 (.take 7 (.take 8 (.take 9 (.take 10 (.take 11 .done)))))))))))))], nx := [] }

theorem wheel_less.eq (i1 : Int) (j1 : Int) (cb co : Nat) (R : Value → World → Prop) (w : World) : wheel_less.m i1 j1 cb co R w = fnD Try.prog wheel_less.H Try.f26 [.int .i64 i1, .int .i64 j1, pv cb co] R w := by kernel_rfl

theorem wheel_less.ok (i1 : Int) (j1 : Int) (cb co : Nat) {R : Value → World → Prop} {w : World} (h : wheel_less.m i1 j1 cb co R w) : Calls Try.prog 26 #[.int .i64 i1, .int .i64 j1, pv cb co] w fun e w' => ∃ v, e = .returned v ∧ R v w' :=
  @fn_sound Try.prog wheel_less.H 26 Try.f26 [.int .i64 i1, .int .i64 j1, pv cb co] R w Try.mixed Try.func26 (by kernel_rfl) (by rw [← wheel_less.eq]; exact h)

set_option maxRecDepth 100000
/-- (*tontine/wheel.Wheel).Tick -/
def wheel_Wheel_Tick.m (Lb Lo : Nat) (R : Value → World → Prop) (w : World) : Prop :=
  (∃ v1 : Int, World.cell? w ⟨Lb, Lo, none⟩ = some (.int .u64 v1) ∧ (stD w Lb Lo [.int .u64 (wu64 (v1 + 1))] fun w_ => (Calls Try.prog 24 #[] w_ fun e_ w_2 => 
    (∃ r1 : Int, ∃ r2 : Int, ∃ r3 : Int, ∃ r4 : Int, e_ = .returned (.agg #[.int .u64 r1, .int .u64 r2, .int .u64 r3, .int .u64 r4]) ∧ 
    (alD w_2 (.cells #[.int .u64 0, .int .u64 0, .int .u64 0, .int .u64 0] 55 (0, 0)) fun b1 w_3 => (stD w_3 b1 0 [.int .u64 r1, .int .u64 r2, .int .u64 r3, .int .u64 r4] fun w_4 => 
    (∃ J1 : World → Prop, (∃ (I1 : Int → World → Prop) (M1 : Int → World → Nat), I1 2 w_4 ∧ ∀ (jk2 : Env) (x1 : Int) (w_6 : World), I1 x1 w_6 → (bif (decide (x1 ≥ 0)) then (drewD w_6 fun w_7 => 
    (∃ v2 : Int, World.cell? w_7 ⟨Lb, Lo, none⟩ = some (.int .u64 v2) ∧ ((0 : Int) ≤ (w64 (x1 + 1)) ∧ (w64 (x1 + 1)) < (4 : Int) ∧ 
    (∃ v3 : Int, World.cell? w_7 ⟨b1, (0 + ((w64 (x1 + 1)) : Int).toNat * 1), none⟩ = some (.int .u64 v3) ∧ ((0 : Int) ≤ v3 ∧ (bif ((andV .u64 v2 (wu64 ((shlV .u64 1 v3) - 1))) != 0) then 
    (I1 (w64 (x1 - 1)) w_7 ∧ M1 (w64 (x1 - 1)) w_7 < M1 x1 w_6) else (∃ J2 : Option Addr → Nat → Nat → World → Prop, (bif (x1 == 2) then 
    (∃ (va : Option Addr) (vn vc : Nat), World.cell? w_7 ⟨Lb, (Lo + 5), none⟩ = some (.slice va vn vc) ∧ (stD w_7 Lb (Lo + 5) [.slice none 0 0] fun w_9 => J2 va vn vc w_9)) else (drewD w_7 fun w_10 => 
    (∃ v4 : Int, World.cell? w_10 ⟨Lb, Lo, none⟩ = some (.int .u64 v4) ∧ ((0 : Int) ≤ (w64 (x1 + 1)) ∧ (w64 (x1 + 1)) < (4 : Int) ∧ 
    (∃ v5 : Int, World.cell? w_10 ⟨b1, (0 + ((w64 (x1 + 1)) : Int).toNat * 1), none⟩ = some (.int .u64 v5) ∧ ((0 : Int) ≤ v5 ∧ ((0 : Int) ≤ (w64 (x1 + 1)) ∧ (w64 (x1 + 1)) < (3 : Int) ∧ 
    (∃ (va2 : Option Addr) (vn2 vc2 : Nat), World.cell? w_10 ⟨Lb, ((Lo + 2) + ((w64 (x1 + 1)) : Int).toNat * 1), none⟩ = some (.slice va2 vn2 vc2) ∧ (drewD w_10 fun w_11 => 
    ((0 : Int) ≤ (w64 (x1 + 1)) ∧ (w64 (x1 + 1)) < (3 : Int) ∧ 
    (∃ (va3 : Option Addr) (vn3 vc3 : Nat), World.cell? w_11 ⟨Lb, ((Lo + 2) + ((w64 (x1 + 1)) : Int).toNat * 1), none⟩ = some (.slice va3 vn3 vc3) ∧ ((0 : Int) ≤ (w64 (x1 + 1)) ∧ 
    (w64 (x1 + 1)) < (3 : Int) ∧ (∃ (va4 : Option Addr) (vn4 vc4 : Nat), World.cell? w_11 ⟨Lb, ((Lo + 2) + ((w64 (x1 + 1)) : Int).toNat * 1), none⟩ = some (.slice va4 vn4 vc4) ∧ 
    (∃ b2 o1 : Nat, va4 = some ⟨b2, o1, none⟩ ∧ (0 : Int) ≤ (andV .u64 (shrV .u64 v4 v5) (wu64 (w64 ((vn2 : Int) - 1)))) ∧ (andV .u64 (shrV .u64 v4 v5) (wu64 (w64 ((vn2 : Int) - 1)))) < (vn4 : Int) ∧ 
    (∃ (va5 : Option Addr) (vn5 vc5 : Nat), World.cell? w_11 ⟨b2, (o1 + ((andV .u64 (shrV .u64 v4 v5) (wu64 (w64 ((vn2 : Int) - 1)))) : Int).toNat * 1), none⟩ = some (.slice va5 vn5 vc5) ∧ 
    (∃ b3 o2 : Nat, va3 = some ⟨b3, o2, none⟩ ∧ (0 : Int) ≤ (andV .u64 (shrV .u64 v4 v5) (wu64 (w64 ((vn2 : Int) - 1)))) ∧ (andV .u64 (shrV .u64 v4 v5) (wu64 (w64 ((vn2 : Int) - 1)))) < (vn3 : Int) ∧ 
    (stD w_11 b3 (o2 + ((andV .u64 (shrV .u64 v4 v5) (wu64 (w64 ((vn2 : Int) - 1)))) : Int).toNat * 1) [.slice none 0 0] fun w_12 => J2 va5 vn5 vc5 w_12))))))))))))))))) ∧ 
    ∀ (jk3 : Env) (ta : Option Addr) (tn tc : Nat) (w_8 : World), J2 ta tn tc w_8 → (∃ (I2 : Int → World → Prop) (M2 : Int → World → Nat), I2 0 w_8 ∧ 
    ∀ (jk4 : Env) (i1 : Int) (w_13 : World), I2 i1 w_13 → (bif (decide (i1 < (tn : Int))) then (∃ b4 o3 : Nat, ta = some ⟨b4, o3, none⟩ ∧ (0 : Int) ≤ i1 ∧ i1 < (tn : Int) ∧ 
    (∃ id_ : Int, ∃ due : Int, ∃ turn : Int, rdRow w_13 b4 (o3 + (i1 : Int).toNat * 3) [.int .i64 id_, .int .u64 due, .int .i64 turn] ∧ 
    (alD w_13 (.cells #[.int .i64 0, .int .u64 0, .int .i64 0] 53 (0, 0)) fun b5 w_14 => (stD w_14 b5 0 [.int .i64 id_, .int .u64 due, .int .i64 turn] fun w_15 => 
    (∃ id_2 : Int, ∃ due2 : Int, ∃ turn2 : Int, rdRow w_15 b5 0 [.int .i64 id_2, .int .u64 due2, .int .i64 turn2] ∧ 
    (Calls Try.prog 23 #[pv Lb Lo, .agg #[.int .i64 id_2, .int .u64 due2, .int .i64 turn2]] w_15 fun e_2 w_16 => e_2 = .returned (.tuple #[]) ∧ (I2 (w64 (i1 + 1)) w_16 ∧ 
    M2 (w64 (i1 + 1)) w_16 < M2 i1 w_13))))))) else (I1 (w64 (x1 - 1)) w_13 ∧ M1 (w64 (x1 - 1)) w_13 < M1 x1 w_6)))))))))) else J1 w_6)) ∧ 
    ∀ (jk : Env)  (w_5 : World), J1 w_5 → (∃ v6 : Int, World.cell? w_5 ⟨Lb, Lo, none⟩ = some (.int .u64 v6) ∧ ((0 : Int) ≤ 0 ∧ 0 < (3 : Int) ∧ 
    (∃ (va6 : Option Addr) (vn6 vc6 : Nat), World.cell? w_5 ⟨Lb, (Lo + 2), none⟩ = some (.slice va6 vn6 vc6) ∧ (∃ b6 o4 : Nat, va6 = some ⟨b6, o4, none⟩ ∧ (0 : Int) ≤ (andV .u64 v6 63) ∧ 
    (andV .u64 v6 63) < (vn6 : Int) ∧ (∃ (va7 : Option Addr) (vn7 vc7 : Nat), World.cell? w_5 ⟨b6, (o4 + ((andV .u64 v6 63) : Int).toNat * 1), none⟩ = some (.slice va7 vn7 vc7) ∧ 
    (alD w_5 (.cells #[.slice none 0 0] 47 (0, 0)) fun b7 w_17 => (stD w_17 b7 0 [.slice va7 vn7 vc7] fun w_18 => ((0 : Int) ≤ 0 ∧ 0 < (3 : Int) ∧ 
    (∃ (va8 : Option Addr) (vn8 vc8 : Nat), World.cell? w_18 ⟨Lb, (Lo + 2), none⟩ = some (.slice va8 vn8 vc8) ∧ (∃ b8 o5 : Nat, va8 = some ⟨b8, o5, none⟩ ∧ (0 : Int) ≤ (andV .u64 v6 63) ∧ 
    (andV .u64 v6 63) < (vn8 : Int) ∧ (stD w_18 b8 (o5 + ((andV .u64 v6 63) : Int).toNat * 1) [.slice none 0 0] fun w_19 => (drewD w_19 fun w_20 => 
    (∃ v7 : Int, World.cell? w_20 ⟨Lb, (Lo + 6), none⟩ = some (.int .i64 v7) ∧ (∃ (va9 : Option Addr) (vn9 vc9 : Nat), World.cell? w_20 ⟨b7, 0, none⟩ = some (.slice va9 vn9 vc9) ∧ 
    (stD w_20 Lb (Lo + 6) [.int .i64 (w64 (v7 - (vn9 : Int)))] fun w_21 => (∃ (va10 : Option Addr) (vn10 vc10 : Nat), World.cell? w_21 ⟨b7, 0, none⟩ = some (.slice va10 vn10 vc10) ∧ 
    (Calls Try.prog 25 #[.iface 47 (.slice va10 vn10 vc10), .func (.func 26) #[] #[pv b7 0]] w_21 fun e_3 w_22 => e_3 = .returned (.tuple #[]) ∧ 
    (∃ (va11 : Option Addr) (vn11 vc11 : Nat), World.cell? w_22 ⟨b7, 0, none⟩ = some (.slice va11 vn11 vc11) ∧ 
    (∃ (I3 : Option Addr → Nat → Nat → Int → World → Prop) (M3 : Option Addr → Nat → Nat → Int → World → Nat), I3 none 0 0 0 w_22 ∧ 
    ∀ (jk5 : Env) (ya : Option Addr) (yn yc : Nat) (i2 : Int) (w_23 : World), I3 ya yn yc i2 w_23 → (bif (decide (i2 < (vn11 : Int))) then (∃ b9 o6 : Nat, va11 = some ⟨b9, o6, none⟩ ∧ (0 : Int) ≤ i2 ∧ 
    i2 < (vn11 : Int) ∧ (∃ id_3 : Int, ∃ due3 : Int, ∃ turn3 : Int, rdRow w_23 b9 (o6 + (i2 : Int).toNat * 3) [.int .i64 id_3, .int .u64 due3, .int .i64 turn3] ∧ 
    (alD w_23 (.cells #[.int .i64 0, .int .u64 0, .int .i64 0] 53 (0, 0)) fun b10 w_24 => (stD w_24 b10 0 [.int .i64 id_3, .int .u64 due3, .int .i64 turn3] fun w_25 => 
    (∃ v8 : Int, World.cell? w_25 ⟨b10, 0, none⟩ = some (.int .i64 v8) ∧ (alD w_25 (.cells #[.int .i64 v8] 3 (0, 0)) fun b11 w_26 => 
    (exSl Try.prog (Builtin.append_ #[27, 27] 27 #[.slice ya yn yc, .slice (some ⟨b11, 0, none⟩) 1 1]) (fun sa sn sc w_27 => (I3 sa sn sc (w64 (i2 + 1)) w_27 ∧ 
    M3 sa sn sc (w64 (i2 + 1)) w_27 < M3 ya yn yc i2 w_23)) w_26))))))) else R (.slice ya yn yc) w_23)))))))))))))))))))))))))))

def wheel_Wheel_Tick.H : Hints := { nret := [], nld := [], loops := [(6, [(4, .int .i64)]), (15, [(90, .int .i64)]), (26, [(11, .slice), (133, .int .i64)])], joins := [(14, [(5, .slice)]), (19, [])], unroll := [], plans := [(8, (.take 0 (.take 1 (.take 2 (.take 3 (.take 4 (.take 5 (.take 6 (.take 7 (.take 8 (.take 9 (.take 10 (.take 11 .done))))))))))))), (12, (.take 0 (.take 1 (.take 2 (.take 3 (.take 4 (.take 5 (.take 6 (.take 7 (.take 8 (.take 9 (.take 10 (.take 11 (.take 12 (.take 13 (.take 14 (.take 15 (.take 16 (.take 17 (.take 18 (.take 19 (.take 20 .done)))))))))))))))))))))), (13, (.take 0 (.take 1 (.take 2 (.take 3 (.take 4 (.take 5 (.take 6 (.take 7 (.take 8 (.take 9 (.take 10 (.take 11 (.take 12 (.take 13 (.take 14 (.take 15 (.take 16 (.take 17 (.take 18 (.take 19 (.eff 20 .done)))))))))))))))))))))), (22, (.take 0 (.take 1 (.take 2 (.take 3 (.take 4 (.take 5 (.take 6 (.take 7 (.take 8 (.eff 9 .done)))))))))))], nx := [] }

theorem wheel_Wheel_Tick.eq (Lb Lo : Nat) (R : Value → World → Prop) (w : World) : wheel_Wheel_Tick.m Lb Lo R w = fnD Try.prog wheel_Wheel_Tick.H Try.f12 [pv Lb Lo] R w := by kernel_rfl

theorem wheel_Wheel_Tick.ok (Lb Lo : Nat) {R : Value → World → Prop} {w : World} (h : wheel_Wheel_Tick.m Lb Lo R w) : Calls Try.prog 12 #[pv Lb Lo] w fun e w' => ∃ v, e = .returned v ∧ R v w' :=
  @fn_sound Try.prog wheel_Wheel_Tick.H 12 Try.f12 [pv Lb Lo] R w Try.mixed Try.func12 (by kernel_rfl) (by rw [← wheel_Wheel_Tick.eq]; exact h)

set_option maxRecDepth 100000
/-- tontine/tontinelaw09.begun -/
def tontinelaw09_begun.m  (R : Value → World → Prop) (w : World) : Prop :=
  (Calls Try.prog 10 #[] w fun e_ w_ => (∃ rb ro : Nat, e_ = .returned (pv rb ro) ∧ (Calls Try.prog 11 #[pv rb ro, .int .i64 1, .int .i64 2] w_ fun e_2 w_2 => 
    (∃ r1 : Int, e_2 = .returned (.int .i64 r1) ∧ (Calls Try.prog 11 #[pv rb ro, .int .i64 2, .int .i64 1] w_2 fun e_3 w_3 => (∃ r2 : Int, e_3 = .returned (.int .i64 r2) ∧ 
    (Calls Try.prog 12 #[pv rb ro] w_3 fun e_4 w_4 => (∃ (ra : Option Addr) (rn rc : Nat), e_4 = .returned (.slice ra rn rc) ∧ (Calls Try.prog 12 #[pv rb ro] w_4 fun e_5 w_5 => 
    (∃ (ra2 : Option Addr) (rn2 rc2 : Nat), e_5 = .returned (.slice ra2 rn2 rc2) ∧ (bif (r1 == 0) then (bif (r2 == 0) then (bif ((rn : Int) == 1) then (∃ b1 o1 : Nat, ra = some ⟨b1, o1, none⟩ ∧ 
    (0 : Int) ≤ 0 ∧ 0 < (rn : Int) ∧ (∃ v1 : Int, World.cell? w_5 ⟨b1, o1, none⟩ = some (.int .i64 v1) ∧ (bif (v1 == 2) then (bif ((rn2 : Int) == 1) then (∃ b2 o2 : Nat, ra2 = some ⟨b2, o2, none⟩ ∧ 
    (0 : Int) ≤ 0 ∧ 0 < (rn2 : Int) ∧ (∃ v2 : Int, World.cell? w_5 ⟨b2, o2, none⟩ = some (.int .i64 v2) ∧ (bif (v2 == 1) then (Calls Try.prog 14 #[pv rb ro] w_5 fun e_6 w_6 => 
    (∃ r3 : Int, e_6 = .returned (.int .i64 r3) ∧ R (.bool (r3 == 0)) w_6)) else R (.bool false) w_5))) else R (.bool false) w_5) else R (.bool false) w_5))) else R (.bool false) w_5)
     else R (.bool false) w_5) else R (.bool false) w_5)))))))))))

def tontinelaw09_begun.H : Hints := { nret := [], nld := [], loops := [], joins := [], unroll := [], plans := [], nx := [] }

theorem tontinelaw09_begun.eq  (R : Value → World → Prop) (w : World) : tontinelaw09_begun.m  R w = fnD Try.prog tontinelaw09_begun.H Try.f9 [] R w := by kernel_rfl

theorem tontinelaw09_begun.ok  {R : Value → World → Prop} {w : World} (h : tontinelaw09_begun.m  R w) : Calls Try.prog 9 #[] w fun e w' => ∃ v, e = .returned v ∧ R v w' :=
  @fn_sound Try.prog tontinelaw09_begun.H 9 Try.f9 [] R w Try.mixed Try.func9 (by kernel_rfl) (by rw [← tontinelaw09_begun.eq]; exact h)

end Go.Proofs.Ytdlalkhnppahfaa
