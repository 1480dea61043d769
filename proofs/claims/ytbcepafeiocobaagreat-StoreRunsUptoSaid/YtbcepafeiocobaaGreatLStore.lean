/-
  Clean forms of Go functions, and that each is enough for the call (written by a program of this work, lift.py).
-/
import Derived.Test.YtbcepafeiocobaaGreatXBase
namespace Go.Proofs.YtbcepafeiocobaaGreat
open Go.X

set_option maxRecDepth 100000
/-- tontine/rlog.configOf -/
def rlog_configOf.m (s1 : ByteArray) (R : Value → World → Prop) (w : World) : Prop :=
  (Calls Tryz.prog 48 #[.string s1] w fun e_ w_ => (∃ rb ro : Nat, e_ = .returned (pv rb ro) ∧ (Calls Tryz.prog 49 #[pv rb ro] w_ fun e_2 w_2 => (∃ r1 : Int, e_2 = .returned (.int .u64 r1) ∧ 
    (Calls Tryz.prog 51 #[pv rb ro] w_2 fun e_3 w_3 => (∃ r2 : Bool, e_3 = .returned (.bool r2) ∧ (bif r2 then (Calls Tryz.prog 20 #[.int .u64 r1] w_3 fun e_4 w_4 => 
    (∃ r3 : Bool, e_4 = .returned (.bool r3) ∧ R (.tuple #[.int .u64 r1, .bool r3]) w_4)) else R (.tuple #[.int .u64 r1, .bool false]) w_3)))))))

def rlog_configOf.H : Hints := { nret := [], nld := [], loops := [], joins := [], unroll := [], plans := [], nx := [] }

theorem rlog_configOf.eq (s1 : ByteArray) (R : Value → World → Prop) (w : World) : rlog_configOf.m s1 R w = fnD Tryz.prog rlog_configOf.H Tryz.f91 [.string s1] R w := by kernel_rfl

theorem rlog_configOf.ok (s1 : ByteArray) {R : Value → World → Prop} {w : World} (h : rlog_configOf.m s1 R w) : Calls Tryz.prog 91 #[.string s1] w fun e w' => ∃ v, e = .returned v ∧ R v w' :=
  @fn_sound Tryz.prog rlog_configOf.H 91 Tryz.f91 [.string s1] R w Tryz.mixed Tryz.func91 (by kernel_rfl) (by rw [← rlog_configOf.eq]; exact h)

set_option maxRecDepth 100000
/-- tontine/rlog.sound -/
def rlog_sound.m (Term : Int) (Index : Int) (Kind : Int) (Data : ByteArray) (index : Int) (term : Int) (R : Value → World → Prop) (w : World) : Prop :=
  (alD w (.cells #[.int .u64 Term, .int .u64 Index, .int .i64 Kind, .string Data] 69 (0, 0)) fun b1 w_ => (bif (index == 0) then R (.bool false) w_
     else (∃ v1 : Int, World.cell? w_ ⟨b1, 1, none⟩ = some (.int .u64 v1) ∧ (bif (v1 != index) then R (.bool false) w_ else (∃ v2 : Int, World.cell? w_ ⟨b1, 0, none⟩ = some (.int .u64 v2) ∧ 
    (bif (decide (v2 < term)) then R (.bool false) w_ else (∃ v3 : Int, World.cell? w_ ⟨b1, 2, none⟩ = some (.int .i64 v3) ∧ (bif (decide (v3 < 0)) then R (.bool false) w_
     else (∃ v4 : Int, World.cell? w_ ⟨b1, 2, none⟩ = some (.int .i64 v4) ∧ (bif (decide (v4 > 2)) then R (.bool false) w_ else (∃ v5 : ByteArray, World.cell? w_ ⟨b1, 3, none⟩ = some (.string v5) ∧ 
    (bif (decide ((v5.size : Int) > 32768)) then R (.bool false) w_ else (∃ v6 : ByteArray, World.cell? w_ ⟨b1, 3, none⟩ = some (.string v6) ∧ (Calls Tryz.prog 91 #[.string v6] w_ fun e_ w_2 => 
    (∃ r1 : Int, (∃ r2 : Bool, e_ = .returned (.tuple #[.int .u64 r1, .bool r2]) ∧ (∃ v7 : Int, World.cell? w_2 ⟨b1, 2, none⟩ = some (.int .i64 v7) ∧ (bif (v7 != 2) then R (.bool true) w_2
     else R (.bool r2) w_2))))))))))))))))))

def rlog_sound.H : Hints := { nret := [], nld := [], loops := [], joins := [], unroll := [], plans := [], nx := [] }

theorem rlog_sound.eq (Term : Int) (Index : Int) (Kind : Int) (Data : ByteArray) (index : Int) (term : Int) (R : Value → World → Prop) (w : World) : rlog_sound.m Term Index Kind Data index term R w = fnD Tryz.prog rlog_sound.H Tryz.f79 [.agg #[.int .u64 Term, .int .u64 Index, .int .i64 Kind, .string Data], .int .u64 index, .int .u64 term] R w := by kernel_rfl

theorem rlog_sound.ok (Term : Int) (Index : Int) (Kind : Int) (Data : ByteArray) (index : Int) (term : Int) {R : Value → World → Prop} {w : World} (h : rlog_sound.m Term Index Kind Data index term R w) : Calls Tryz.prog 79 #[.agg #[.int .u64 Term, .int .u64 Index, .int .i64 Kind, .string Data], .int .u64 index, .int .u64 term] w fun e w' => ∃ v, e = .returned v ∧ R v w' :=
  @fn_sound Tryz.prog rlog_sound.H 79 Tryz.f79 [.agg #[.int .u64 Term, .int .u64 Index, .int .i64 Kind, .string Data], .int .u64 index, .int .u64 term] R w Tryz.mixed Tryz.func79 (by kernel_rfl) (by rw [← rlog_sound.eq]; exact h)

set_option maxRecDepth 100000
/-- (*tontine/rlog.Log).Last -/
def rlog_Log_Last.m (gb go : Nat) (R : Value → World → Prop) (w : World) : Prop :=
  (∃ (va : Option Addr) (vn vc : Nat), World.cell? w ⟨gb, (go + 4), none⟩ = some (.slice va vn vc) ∧ (bif (decide ((vn : Int) > 0)) then (drewD w fun w_ => 
    (∃ (va2 : Option Addr) (vn2 vc2 : Nat), World.cell? w_ ⟨gb, (go + 4), none⟩ = some (.slice va2 vn2 vc2) ∧ (∃ b1 o1 : Nat, va2 = some ⟨b1, o1, none⟩ ∧ (0 : Int) ≤ (w64 ((vn : Int) - 1)) ∧ 
    (w64 ((vn : Int) - 1)) < (vn2 : Int) ∧ (∃ v1 : Int, World.cell? w_ ⟨b1, ((o1 + ((w64 ((vn : Int) - 1)) : Int).toNat * 4) + 1), none⟩ = some (.int .u64 v1) ∧ 
    (∃ (va3 : Option Addr) (vn3 vc3 : Nat), World.cell? w_ ⟨gb, (go + 4), none⟩ = some (.slice va3 vn3 vc3) ∧ (∃ b2 o2 : Nat, va3 = some ⟨b2, o2, none⟩ ∧ (0 : Int) ≤ (w64 ((vn : Int) - 1)) ∧ 
    (w64 ((vn : Int) - 1)) < (vn3 : Int) ∧ (∃ v2 : Int, World.cell? w_ ⟨b2, (o2 + ((w64 ((vn : Int) - 1)) : Int).toNat * 4), none⟩ = some (.int .u64 v2) ∧ 
    R (.tuple #[.int .u64 v1, .int .u64 v2]) w_))))))) else (drewD w fun w_2 => (∃ v3 : Int, World.cell? w_2 ⟨gb, go, none⟩ = some (.int .u64 v3) ∧ 
    (∃ v4 : Int, World.cell? w_2 ⟨gb, (go + 1), none⟩ = some (.int .u64 v4) ∧ R (.tuple #[.int .u64 v3, .int .u64 v4]) w_2)))))

def rlog_Log_Last.H : Hints := { nret := [], nld := [], loops := [], joins := [], unroll := [], plans := [(5, (.take 0 (.take 1 (.take 2 (.take 3 (.take 4 (.take 5 (.take 6 (.take 7 (.take 8 (.take 9 (.take 10 (.take 11 (.take 12 (.take 13 (.take 14 (.take 15 (.take 16 (.take 17 (.take 18 (.take 19 .done))))))))))))))))))))), (6, (.take 0 (.take 1 (.take 2 (.take 3 (.take 4 (.take 5 (.take 6 (.take 7 (.take 8 (.take 9 (.take 10 (.take 11 .done)))))))))))))], nx := [] }

theorem rlog_Log_Last.eq (gb go : Nat) (R : Value → World → Prop) (w : World) : rlog_Log_Last.m gb go R w = fnD Tryz.prog rlog_Log_Last.H Tryz.f78 [pv gb go] R w := by kernel_rfl

theorem rlog_Log_Last.ok (gb go : Nat) {R : Value → World → Prop} {w : World} (h : rlog_Log_Last.m gb go R w) : Calls Tryz.prog 78 #[pv gb go] w fun e w' => ∃ v, e = .returned v ∧ R v w' :=
  @fn_sound Tryz.prog rlog_Log_Last.H 78 Tryz.f78 [pv gb go] R w Tryz.mixed Tryz.func78 (by kernel_rfl) (by rw [← rlog_Log_Last.eq]; exact h)

set_option maxRecDepth 100000
/-- tontine/rlog.New -/
def rlog_New.m (Index : Int) (Term : Int) (Config : Int) (Data : ByteArray) (la : Option Addr) (ln lc : Nat) (R : Value → World → Prop) (w : World) : Prop :=
  (alD w (.cells #[.int .u64 Index, .int .u64 Term, .int .u64 Config, .string Data] 42 (0, 0)) fun b1 w_ => (∃ v1 : Int, World.cell? w_ ⟨b1, 2, none⟩ = some (.int .u64 v1) ∧ 
    (Calls Tryz.prog 20 #[.int .u64 v1] w_ fun e_ w_2 => (∃ r1 : Bool, e_ = .returned (.bool r1) ∧ (bif (!r1) then R (.tuple #[.pointer none, .int .i64 1]) w_2
     else (∃ Index2 : Int, ∃ Term2 : Int, ∃ Config2 : Int, ∃ Data2 : ByteArray, rdRow w_2 b1 0 [.int .u64 Index2, .int .u64 Term2, .int .u64 Config2, .string Data2] ∧ 
    (alD w_2 (.cells #[.int .u64 Index2, .int .u64 Term2, .int .u64 Config2, .string Data2, .slice none 0 0] 150 (0, 0)) fun b2 w_3 => (∃ (I1 : Int → World → Prop) (M1 : Int → World → Nat), I1 0 w_3 ∧ 
    ∀ (jk : Env) (i1 : Int) (w_4 : World), I1 i1 w_4 → (bif (decide (i1 < (ln : Int))) then (∃ b3 o1 : Nat, la = some ⟨b3, o1, none⟩ ∧ (0 : Int) ≤ i1 ∧ i1 < (ln : Int) ∧ 
    (∃ Term3 : Int, ∃ Index3 : Int, ∃ Kind : Int, ∃ Data3 : ByteArray, rdRow w_4 b3 (o1 + (i1 : Int).toNat * 4) [.int .u64 Term3, .int .u64 Index3, .int .i64 Kind, .string Data3] ∧ 
    (alD w_4 (.cells #[.int .u64 0, .int .u64 0, .int .i64 0, .string ⟨#[]⟩] 69 (0, 0)) fun b4 w_5 => (stD w_5 b4 0 [.int .u64 Term3, .int .u64 Index3, .int .i64 Kind, .string Data3] fun w_6 => 
    (Calls Tryz.prog 78 #[pv b2 0] w_6 fun e_2 w_7 => (∃ r2 : Int, (∃ r3 : Int, e_2 = .returned (.tuple #[.int .u64 r2, .int .u64 r3]) ∧ 
    (∃ Term4 : Int, ∃ Index4 : Int, ∃ Kind2 : Int, ∃ Data4 : ByteArray, rdRow w_7 b4 0 [.int .u64 Term4, .int .u64 Index4, .int .i64 Kind2, .string Data4] ∧ 
    (Calls Tryz.prog 79 #[.agg #[.int .u64 Term4, .int .u64 Index4, .int .i64 Kind2, .string Data4], .int .u64 (wu64 (r2 + 1)), .int .u64 r3] w_7 fun e_3 w_8 => 
    (∃ r4 : Bool, e_3 = .returned (.bool r4) ∧ (bif (!r4) then R (.tuple #[.pointer none, .int .i64 1]) w_8 else (drewD w_8 fun w_9 => 
    (∃ (va : Option Addr) (vn vc : Nat), World.cell? w_9 ⟨b2, 4, none⟩ = some (.slice va vn vc) ∧ 
    (∃ Term5 : Int, ∃ Index5 : Int, ∃ Kind3 : Int, ∃ Data5 : ByteArray, rdRow w_9 b4 0 [.int .u64 Term5, .int .u64 Index5, .int .i64 Kind3, .string Data5] ∧ 
    (alD w_9 (.cells #[.int .u64 Term5, .int .u64 Index5, .int .i64 Kind3, .string Data5] 69 (0, 0)) fun b5 w_10 => World.cell? w_10 ⟨b2, 4, none⟩ = some (.slice va vn vc) ∧ 
    (exSl Tryz.prog (Builtin.append_ #[43, 43] 43 #[.slice va vn vc, .slice (some ⟨b5, 0, none⟩) 1 1]) (fun sa sn sc w_11 => (stD w_11 b2 4 [.slice sa sn sc] fun w_12 => (I1 (w64 (i1 + 1)) w_12 ∧ 
    M1 (w64 (i1 + 1)) w_12 < M1 i1 w_4))) w_10)))))))))))))))) else R (.tuple #[pv b2 0, .int .i64 0]) w_4)))))))))

def rlog_New.H : Hints := { nret := [], nld := [], loops := [(5, [(20, .int .i64)])], joins := [], unroll := [], plans := [(10, (.take 0 (.take 1 (.take 2 (.take 3 (.take 4 (.take 5 (.eff 6 (.eff 7 (.take 8 (.take 9 (.eff 10 .done))))))))))))], nx := [] }

theorem rlog_New.eq (Index : Int) (Term : Int) (Config : Int) (Data : ByteArray) (la : Option Addr) (ln lc : Nat) (R : Value → World → Prop) (w : World) : rlog_New.m Index Term Config Data la ln lc R w = fnD Tryz.prog rlog_New.H Tryz.f53 [.agg #[.int .u64 Index, .int .u64 Term, .int .u64 Config, .string Data], .slice la ln lc] R w := by kernel_rfl

theorem rlog_New.ok (Index : Int) (Term : Int) (Config : Int) (Data : ByteArray) (la : Option Addr) (ln lc : Nat) {R : Value → World → Prop} {w : World} (h : rlog_New.m Index Term Config Data la ln lc R w) : Calls Tryz.prog 53 #[.agg #[.int .u64 Index, .int .u64 Term, .int .u64 Config, .string Data], .slice la ln lc] w fun e w' => ∃ v, e = .returned v ∧ R v w' :=
  @fn_sound Tryz.prog rlog_New.H 53 Tryz.f53 [.agg #[.int .u64 Index, .int .u64 Term, .int .u64 Config, .string Data], .slice la ln lc] R w Tryz.mixed Tryz.func53 (by kernel_rfl) (by rw [← rlog_New.eq]; exact h)

set_option maxRecDepth 100000
/-- tontine/tontineref07.Said -/
def tontineref07_Said.m (s1 : ByteArray) (R : Value → World → Prop) (w : World) : Prop :=
  (alD w (.cells #[.string s1, .bool false] 155 (0, 0)) fun b1 w_ => (Calls Tryz.prog 83 #[pv b1 0] w_ fun e_ w_2 => (∃ r1 : Int, e_ = .returned (.int .u64 r1) ∧ 
    (∃ v1 : Bool, World.cell? w_2 ⟨b1, 1, none⟩ = some (.bool v1) ∧ (bif (!v1) then (∃ v2 : ByteArray, World.cell? w_2 ⟨b1, 0, none⟩ = some (.string v2) ∧ (bif (strEq v2 ⟨#[]⟩) then 
    (Calls Tryz.prog 25 #[.int .u64 r1] w_2 fun e_2 w_3 => (∃ r2 : Bool, e_2 = .returned (.bool r2) ∧ R (.tuple #[.int .u64 r1, .bool r2]) w_3)) else R (.tuple #[.int .u64 r1, .bool false]) w_2))
     else R (.tuple #[.int .u64 r1, .bool false]) w_2)))))

def tontineref07_Said.H : Hints := { nret := [], nld := [], loops := [], joins := [], unroll := [], plans := [], nx := [] }

theorem tontineref07_Said.eq (s1 : ByteArray) (R : Value → World → Prop) (w : World) : tontineref07_Said.m s1 R w = fnD Tryz.prog tontineref07_Said.H Tryz.f94 [.string s1] R w := by kernel_rfl

theorem tontineref07_Said.ok (s1 : ByteArray) {R : Value → World → Prop} {w : World} (h : tontineref07_Said.m s1 R w) : Calls Tryz.prog 94 #[.string s1] w fun e w' => ∃ v, e = .returned v ∧ R v w' :=
  @fn_sound Tryz.prog tontineref07_Said.H 94 Tryz.f94 [.string s1] R w Tryz.mixed Tryz.func94 (by kernel_rfl) (by rw [← tontineref07_Said.eq]; exact h)

set_option maxRecDepth 100000
/-- tontine/tontineref07.May -/
def tontineref07_May.m (Term : Int) (Index : Int) (Kind : Int) (Data : ByteArray) (index : Int) (term : Int) (R : Value → World → Prop) (w : World) : Prop :=
  (alD w (.cells #[.int .u64 Term, .int .u64 Index, .int .i64 Kind, .string Data] 69 (0, 0)) fun b1 w_ => (∃ J1 : World → Prop, (∃ v1 : Int, World.cell? w_ ⟨b1, 2, none⟩ = some (.int .i64 v1) ∧ 
    (bif (v1 == 2) then (∃ v2 : ByteArray, World.cell? w_ ⟨b1, 3, none⟩ = some (.string v2) ∧ (Calls Tryz.prog 94 #[.string v2] w_ fun e_ w_3 => 
    (∃ r1 : Int, (∃ r2 : Bool, e_ = .returned (.tuple #[.int .u64 r1, .bool r2]) ∧ (bif (!r2) then R (.bool false) w_3 else J1 w_3))))) else J1 w_)) ∧ 
    ∀ (jk : Env)  (w_2 : World), J1 w_2 → (bif (decide (index > 0)) then (∃ v3 : Int, World.cell? w_2 ⟨b1, 1, none⟩ = some (.int .u64 v3) ∧ (bif (v3 == index) then 
    (∃ v4 : Int, World.cell? w_2 ⟨b1, 0, none⟩ = some (.int .u64 v4) ∧ (bif (decide (v4 ≥ term)) then (∃ v5 : Int, World.cell? w_2 ⟨b1, 2, none⟩ = some (.int .i64 v5) ∧ (bif (decide (v5 ≥ 0)) then 
    (∃ v6 : Int, World.cell? w_2 ⟨b1, 2, none⟩ = some (.int .i64 v6) ∧ (bif (decide (v6 ≤ 2)) then (∃ v7 : ByteArray, World.cell? w_2 ⟨b1, 3, none⟩ = some (.string v7) ∧ 
    R (.bool (decide ((v7.size : Int) ≤ 32768))) w_2) else R (.bool false) w_2)) else R (.bool false) w_2)) else R (.bool false) w_2)) else R (.bool false) w_2)) else R (.bool false) w_2)))

def tontineref07_May.H : Hints := { nret := [], nld := [], loops := [], joins := [(5, [])], unroll := [], plans := [], nx := [] }

theorem tontineref07_May.eq (Term : Int) (Index : Int) (Kind : Int) (Data : ByteArray) (index : Int) (term : Int) (R : Value → World → Prop) (w : World) : tontineref07_May.m Term Index Kind Data index term R w = fnD Tryz.prog tontineref07_May.H Tryz.f87 [.agg #[.int .u64 Term, .int .u64 Index, .int .i64 Kind, .string Data], .int .u64 index, .int .u64 term] R w := by kernel_rfl

theorem tontineref07_May.ok (Term : Int) (Index : Int) (Kind : Int) (Data : ByteArray) (index : Int) (term : Int) {R : Value → World → Prop} {w : World} (h : tontineref07_May.m Term Index Kind Data index term R w) : Calls Tryz.prog 87 #[.agg #[.int .u64 Term, .int .u64 Index, .int .i64 Kind, .string Data], .int .u64 index, .int .u64 term] w fun e w' => ∃ v, e = .returned v ∧ R v w' :=
  @fn_sound Tryz.prog tontineref07_May.H 87 Tryz.f87 [.agg #[.int .u64 Term, .int .u64 Index, .int .i64 Kind, .string Data], .int .u64 index, .int .u64 term] R w Tryz.mixed Tryz.func87 (by kernel_rfl) (by rw [← tontineref07_May.eq]; exact h)

set_option maxRecDepth 100000
/-- tontine/tontineref07.New -/
def tontineref07_New.m (Index : Int) (Term : Int) (Config : Int) (Data : ByteArray) (la : Option Addr) (ln lc : Nat) (R : Value → World → Prop) (w : World) : Prop :=
  (alD w (.cells #[.int .u64 Index, .int .u64 Term, .int .u64 Config, .string Data] 42 (0, 0)) fun b1 w_ => (∃ v1 : Int, World.cell? w_ ⟨b1, 2, none⟩ = some (.int .u64 v1) ∧ 
    (Calls Tryz.prog 25 #[.int .u64 v1] w_ fun e_ w_2 => (∃ r1 : Bool, e_ = .returned (.bool r1) ∧ (bif (!r1) then R (.tuple #[.pointer none, .int .i64 1]) w_2 else (drewD w_2 fun w_3 => 
    (∃ v2 : Int, World.cell? w_3 ⟨b1, 0, none⟩ = some (.int .u64 v2) ∧ (∃ v3 : Int, World.cell? w_3 ⟨b1, 1, none⟩ = some (.int .u64 v3) ∧ 
    (∃ (I1 : Int → Int → Int → World → Prop) (M1 : Int → Int → Int → World → Nat), I1 v2 v3 0 w_3 ∧ 
    ∀ (jk : Env) (index : Int) (term : Int) (i1 : Int) (w_4 : World), I1 index term i1 w_4 → (bif (decide (i1 < (ln : Int))) then (∃ b2 o1 : Nat, la = some ⟨b2, o1, none⟩ ∧ (0 : Int) ≤ i1 ∧ 
    i1 < (ln : Int) ∧ (∃ Term2 : Int, ∃ Index2 : Int, ∃ Kind : Int, ∃ Data2 : ByteArray, rdRow w_4 b2 (o1 + (i1 : Int).toNat * 4) [.int .u64 Term2, .int .u64 Index2, .int .i64 Kind, .string Data2] ∧ 
    (Calls Tryz.prog 87 #[.agg #[.int .u64 Term2, .int .u64 Index2, .int .i64 Kind, .string Data2], .int .u64 (wu64 (index + 1)), .int .u64 term] w_4 fun e_2 w_5 => 
    (∃ r2 : Bool, e_2 = .returned (.bool r2) ∧ (bif (!r2) then R (.tuple #[.pointer none, .int .i64 1]) w_5 else (drewD w_5 fun w_6 => (∃ b3 o2 : Nat, la = some ⟨b3, o2, none⟩ ∧ (0 : Int) ≤ i1 ∧ 
    i1 < (ln : Int) ∧ (∃ v4 : Int, World.cell? w_6 ⟨b3, ((o2 + (i1 : Int).toNat * 4) + 1), none⟩ = some (.int .u64 v4) ∧ (∃ b4 o3 : Nat, la = some ⟨b4, o3, none⟩ ∧ (0 : Int) ≤ i1 ∧ i1 < (ln : Int) ∧ 
    (∃ v5 : Int, World.cell? w_6 ⟨b4, (o3 + (i1 : Int).toNat * 4), none⟩ = some (.int .u64 v5) ∧ (I1 v4 v5 (w64 (i1 + 1)) w_6 ∧ M1 v4 v5 (w64 (i1 + 1)) w_6 < M1 index term i1 w_4)))))))))))
     else (drewD w_4 fun w_7 => (∃ Index3 : Int, ∃ Term3 : Int, ∃ Config2 : Int, ∃ Data3 : ByteArray, rdRow w_7 b1 0 [.int .u64 Index3, .int .u64 Term3, .int .u64 Config2, .string Data3] ∧ 
    (exSl Tryz.prog (Builtin.append_ #[43, 43] 43 #[.slice none 0 0, .slice la ln lc]) (fun sa sn sc w_8 => rdRow w_8 b1 0 [.int .u64 Index3, .int .u64 Term3, .int .u64 Config2, .string Data3] ∧ 
    (alD w_8 (.cells #[.int .u64 Index3, .int .u64 Term3, .int .u64 Config2, .string Data3, .slice sa sn sc] 158 (0, 0)) fun b5 w_9 => 
    rdRow w_9 b1 0 [.int .u64 Index3, .int .u64 Term3, .int .u64 Config2, .string Data3] ∧ R (.tuple #[pv b5 0, .int .i64 0]) w_9)) w_7)))))))))))))

def tontineref07_New.H : Hints := { nret := [], nld := [], loops := [(5, [(6, .int .u64), (7, .int .u64), (8, .int .i64)])], joins := [], unroll := [], plans := [(3, (.take 0 (.take 1 (.take 2 (.take 3 (.take 4 (.take 5 .done))))))), (10, (.take 0 (.take 1 (.eff 2 (.take 3 (.eff 4 (.take 5 (.take 6 .done)))))))), (9, (.take 0 (.take 1 (.take 2 (.take 3 (.take 4 (.take 5 (.take 6 (.take 7 (.take 8 (.take 9 (.take 10 (.take 11 .done)))))))))))))], nx := [] }

theorem tontineref07_New.eq (Index : Int) (Term : Int) (Config : Int) (Data : ByteArray) (la : Option Addr) (ln lc : Nat) (R : Value → World → Prop) (w : World) : tontineref07_New.m Index Term Config Data la ln lc R w = fnD Tryz.prog tontineref07_New.H Tryz.f64 [.agg #[.int .u64 Index, .int .u64 Term, .int .u64 Config, .string Data], .slice la ln lc] R w := by kernel_rfl

theorem tontineref07_New.ok (Index : Int) (Term : Int) (Config : Int) (Data : ByteArray) (la : Option Addr) (ln lc : Nat) {R : Value → World → Prop} {w : World} (h : tontineref07_New.m Index Term Config Data la ln lc R w) : Calls Tryz.prog 64 #[.agg #[.int .u64 Index, .int .u64 Term, .int .u64 Config, .string Data], .slice la ln lc] w fun e w' => ∃ v, e = .returned v ∧ R v w' :=
  @fn_sound Tryz.prog tontineref07_New.H 64 Tryz.f64 [.agg #[.int .u64 Index, .int .u64 Term, .int .u64 Config, .string Data], .slice la ln lc] R w Tryz.mixed Tryz.func64 (by kernel_rfl) (by rw [← tontineref07_New.eq]; exact h)

set_option maxRecDepth 100000
/-- tontine/tontineref07.Same -/
def tontineref07_Same.m (aa : Option Addr) (an ac : Nat) (ba : Option Addr) (bn bc : Nat) (R : Value → World → Prop) (w : World) : Prop :=
  (bif ((an : Int) != (bn : Int)) then R (.bool false) w else (∃ (I1 : Int → World → Prop) (M1 : Int → World → Nat), I1 0 w ∧ 
    ∀ (jk : Env) (i1 : Int) (w_ : World), I1 i1 w_ → (bif (decide (i1 < (an : Int))) then (drewD w_ fun w_2 => (∃ b1 o1 : Nat, aa = some ⟨b1, o1, none⟩ ∧ (0 : Int) ≤ i1 ∧ i1 < (an : Int) ∧ 
    (∃ Term : Int, ∃ Index : Int, ∃ Kind : Int, ∃ Data : ByteArray, rdRow w_2 b1 (o1 + (i1 : Int).toNat * 4) [.int .u64 Term, .int .u64 Index, .int .i64 Kind, .string Data] ∧ 
    (∃ b2 o2 : Nat, ba = some ⟨b2, o2, none⟩ ∧ (0 : Int) ≤ i1 ∧ i1 < (bn : Int) ∧ 
    (∃ Term2 : Int, ∃ Index2 : Int, ∃ Kind2 : Int, ∃ Data2 : ByteArray, rdRow w_2 b2 (o2 + (i1 : Int).toNat * 4) [.int .u64 Term2, .int .u64 Index2, .int .i64 Kind2, .string Data2] ∧ 
    (∃ q1 : Bool, eqRuns Tryz.prog .neq 69 (.tmp 20) (.tmp 24) (.agg #[.int .u64 Term, .int .u64 Index, .int .i64 Kind, .string Data]) (.agg #[.int .u64 Term2, .int .u64 Index2, .int .i64 Kind2, .string Data2]) q1 ∧ 
    (bif q1 then R (.bool false) w_2 else (I1 (w64 (i1 + 1)) w_2 ∧ M1 (w64 (i1 + 1)) w_2 < M1 i1 w_)))))))) else R (.bool true) w_)))

def tontineref07_Same.H : Hints := { nret := [], nld := [], loops := [(4, [(5, .int .i64)])], joins := [], unroll := [], plans := [(6, (.take 0 (.take 1 (.take 2 (.take 3 (.take 4 (.take 5 (.take 6 (.take 7 (.take 8 .done))))))))))], nx := [] }

theorem tontineref07_Same.eq (aa : Option Addr) (an ac : Nat) (ba : Option Addr) (bn bc : Nat) (R : Value → World → Prop) (w : World) : tontineref07_Same.m aa an ac ba bn bc R w = fnD Tryz.prog tontineref07_Same.H Tryz.f59 [.slice aa an ac, .slice ba bn bc] R w := by kernel_rfl

theorem tontineref07_Same.ok (aa : Option Addr) (an ac : Nat) (ba : Option Addr) (bn bc : Nat) {R : Value → World → Prop} {w : World} (h : tontineref07_Same.m aa an ac ba bn bc R w) : Calls Tryz.prog 59 #[.slice aa an ac, .slice ba bn bc] w fun e w' => ∃ v, e = .returned v ∧ R v w' :=
  @fn_sound Tryz.prog tontineref07_Same.H 59 Tryz.f59 [.slice aa an ac, .slice ba bn bc] R w Tryz.mixed Tryz.func59 (by kernel_rfl) (by rw [← tontineref07_Same.eq]; exact h)

set_option maxRecDepth 100000
/-- (*tontine/store.State).take -/
def store_State_take.m (Lb Lo : Nat) (i1 : ByteArray) (R : Value → World → Prop) (w : World) : Prop :=
  (Calls Tryz.prog 48 #[.string i1] w fun e_ w_ => (∃ rb ro : Nat, e_ = .returned (pv rb ro) ∧ (Calls Tryz.prog 49 #[pv rb ro] w_ fun e_2 w_2 => (∃ r1 : Int, e_2 = .returned (.int .u64 r1) ∧ 
    (bif (r1 == 1) then (Calls Tryz.prog 49 #[pv rb ro] w_2 fun e_3 w_3 => (∃ r2 : Int, e_3 = .returned (.int .u64 r2) ∧ (Calls Tryz.prog 50 #[pv rb ro, .int .i64 7] w_3 fun e_4 w_4 => 
    (∃ r3 : Int, e_4 = .returned (.int .i64 r3) ∧ (alD w_4 (.cells #[.int .u64 0, .int .i64 0] 40 (0, 0)) fun b1 w_5 => (stD w_5 b1 0 [.int .u64 r2, .int .i64 (w64 (r3 - 1))] fun w_6 => 
    (Calls Tryz.prog 51 #[pv rb ro] w_6 fun e_5 w_7 => (∃ r4 : Bool, e_5 = .returned (.bool r4) ∧ (bif (!r4) then R (.bool false) w_7
     else (∃ Term : Int, ∃ Vote : Int, rdRow w_7 b1 0 [.int .u64 Term, .int .i64 Vote] ∧ (stD w_7 Lb Lo [.int .u64 Term, .int .i64 Vote] fun w_8 => R (.bool true) w_8)))))))))))
     else (bif (r1 == 2) then (Calls Tryz.prog 49 #[pv rb ro] w_2 fun e_6 w_9 => (∃ r5 : Int, e_6 = .returned (.int .u64 r5) ∧ (Calls Tryz.prog 49 #[pv rb ro] w_9 fun e_7 w_10 => 
    (∃ r6 : Int, e_7 = .returned (.int .u64 r6) ∧ (Calls Tryz.prog 50 #[pv rb ro, .int .i64 2] w_10 fun e_8 w_11 => (∃ r7 : Int, e_8 = .returned (.int .i64 r7) ∧ 
    (Calls Tryz.prog 52 #[pv rb ro, .int .i64 65536] w_11 fun e_9 w_12 => (∃ r8 : ByteArray, e_9 = .returned (.string r8) ∧ 
    (alD w_12 (.cells #[.int .u64 0, .int .u64 0, .int .i64 0, .string ⟨#[]⟩] 69 (0, 0)) fun b2 w_13 => (stD w_13 b2 0 [.int .u64 r5, .int .u64 r6, .int .i64 r7, .string r8] fun w_14 => 
    (Calls Tryz.prog 51 #[pv rb ro] w_14 fun e_10 w_15 => (∃ r9 : Bool, e_10 = .returned (.bool r9) ∧ (bif (!r9) then R (.bool false) w_15 else (drewD w_15 fun w_16 => 
    (∃ (va : Option Addr) (vn vc : Nat), World.cell? w_16 ⟨Lb, (Lo + 6), none⟩ = some (.slice va vn vc) ∧ 
    (∃ Term2 : Int, ∃ Index : Int, ∃ Kind : Int, ∃ Data : ByteArray, rdRow w_16 b2 0 [.int .u64 Term2, .int .u64 Index, .int .i64 Kind, .string Data] ∧ 
    (alD w_16 (.cells #[.int .u64 Term2, .int .u64 Index, .int .i64 Kind, .string Data] 69 (0, 0)) fun b3 w_17 => World.cell? w_17 ⟨Lb, (Lo + 6), none⟩ = some (.slice va vn vc) ∧ 
    (exSl Tryz.prog (Builtin.append_ #[43, 43] 43 #[.slice va vn vc, .slice (some ⟨b3, 0, none⟩) 1 1]) (fun sa sn sc w_18 => (stD w_18 Lb (Lo + 6) [.slice sa sn sc] fun w_19 => 
    R (.bool true) w_19)) w_17)))))))))))))))))) else (bif (r1 == 3) then (Calls Tryz.prog 49 #[pv rb ro] w_2 fun e_11 w_20 => (∃ r10 : Int, e_11 = .returned (.int .u64 r10) ∧ 
    (Calls Tryz.prog 51 #[pv rb ro] w_20 fun e_12 w_21 => (∃ r11 : Bool, e_12 = .returned (.bool r11) ∧ (bif (!r11) then R (.bool false) w_21
     else (∃ (I1 : Int → World → Prop) (M1 : Int → World → Nat), I1 0 w_21 ∧ 
    ∀ (jk : Env) (r12 : Int) (w_22 : World), I1 r12 w_22 → (∃ (va2 : Option Addr) (vn2 vc2 : Nat), World.cell? w_22 ⟨Lb, (Lo + 6), none⟩ = some (.slice va2 vn2 vc2) ∧ 
    (bif (decide (r12 < (vn2 : Int))) then (∃ (va3 : Option Addr) (vn3 vc3 : Nat), World.cell? w_22 ⟨Lb, (Lo + 6), none⟩ = some (.slice va3 vn3 vc3) ∧ (∃ b4 o1 : Nat, va3 = some ⟨b4, o1, none⟩ ∧ 
    (0 : Int) ≤ r12 ∧ r12 < (vn3 : Int) ∧ (∃ v1 : Int, World.cell? w_22 ⟨b4, ((o1 + (r12 : Int).toNat * 4) + 1), none⟩ = some (.int .u64 v1) ∧ (bif (decide (v1 < r10)) then (I1 (w64 (r12 + 1)) w_22 ∧ 
    M1 (w64 (r12 + 1)) w_22 < M1 r12 w_22) else (∃ (va4 : Option Addr) (vn4 vc4 : Nat), World.cell? w_22 ⟨Lb, (Lo + 6), none⟩ = some (.slice va4 vn4 vc4) ∧ ((0 : Int) ≤ r12 ∧ r12 ≤ (vc4 : Int) ∧ 
    (stD w_22 Lb (Lo + 6) [.slice va4 ((r12 : Int).toNat) vc4] fun w_23 => R (.bool true) w_23)))))))
     else (∃ (va5 : Option Addr) (vn5 vc5 : Nat), World.cell? w_22 ⟨Lb, (Lo + 6), none⟩ = some (.slice va5 vn5 vc5) ∧ ((0 : Int) ≤ r12 ∧ r12 ≤ (vc5 : Int) ∧ 
    (stD w_22 Lb (Lo + 6) [.slice va5 ((r12 : Int).toNat) vc5] fun w_24 => R (.bool true) w_24))))))))))) else (bif (r1 == 4) then (Calls Tryz.prog 49 #[pv rb ro] w_2 fun e_13 w_25 => 
    (∃ r13 : Int, e_13 = .returned (.int .u64 r13) ∧ (Calls Tryz.prog 49 #[pv rb ro] w_25 fun e_14 w_26 => (∃ r14 : Int, e_14 = .returned (.int .u64 r14) ∧ 
    (Calls Tryz.prog 49 #[pv rb ro] w_26 fun e_15 w_27 => (∃ r15 : Int, e_15 = .returned (.int .u64 r15) ∧ (Calls Tryz.prog 52 #[pv rb ro, .int .i64 65536] w_27 fun e_16 w_28 => 
    (∃ r16 : ByteArray, e_16 = .returned (.string r16) ∧ (alD w_28 (.cells #[.int .u64 0, .int .u64 0, .int .u64 0, .string ⟨#[]⟩] 42 (0, 0)) fun b5 w_29 => 
    (stD w_29 b5 0 [.int .u64 r13, .int .u64 r14, .int .u64 r15, .string r16] fun w_30 => (Calls Tryz.prog 51 #[pv rb ro] w_30 fun e_17 w_31 => (∃ r17 : Bool, e_17 = .returned (.bool r17) ∧ 
    (bif (!r17) then R (.bool false) w_31
     else (∃ Index2 : Int, ∃ Term3 : Int, ∃ Config : Int, ∃ Data2 : ByteArray, rdRow w_31 b5 0 [.int .u64 Index2, .int .u64 Term3, .int .u64 Config, .string Data2] ∧ 
    (stD w_31 Lb (Lo + 2) [.int .u64 Index2, .int .u64 Term3, .int .u64 Config, .string Data2] fun w_32 => (stD w_32 Lb (Lo + 6) [.slice none 0 0] fun w_33 => R (.bool true) w_33))))))))))))))))
     else R (.bool false) w_2))))))))

def store_State_take.H : Hints := { nret := [], nld := [], loops := [(19, [(9, .int .i64)])], joins := [], unroll := [], plans := [(13, (.take 0 (.take 1 (.take 2 (.take 3 (.take 4 (.take 5 (.eff 6 (.eff 7 (.take 8 (.take 9 (.eff 10 .done))))))))))))], nx := [] }

theorem store_State_take.eq (Lb Lo : Nat) (i1 : ByteArray) (R : Value → World → Prop) (w : World) : store_State_take.m Lb Lo i1 R w = fnD Tryz.prog store_State_take.H Tryz.f22 [pv Lb Lo, .string i1] R w := by kernel_rfl

theorem store_State_take.ok (Lb Lo : Nat) (i1 : ByteArray) {R : Value → World → Prop} {w : World} (h : store_State_take.m Lb Lo i1 R w) : Calls Tryz.prog 22 #[pv Lb Lo, .string i1] w fun e w' => ∃ v, e = .returned v ∧ R v w' :=
  @fn_sound Tryz.prog store_State_take.H 22 Tryz.f22 [pv Lb Lo, .string i1] R w Tryz.mixed Tryz.func22 (by kernel_rfl) (by rw [← store_State_take.eq]; exact h)

set_option maxRecDepth 100000
/-- (tontine/store.State).right -/
def store_State_right.m (HardTerm : Int) (HardVote : Int) (SnapIndex : Int) (SnapTerm : Int) (SnapConfig : Int) (SnapData : ByteArray) (Entriesa : Option Addr) (Entriesn Entriesc : Nat) (R : Value → World → Prop) (w : World) : Prop :=
  (alD w (.cells #[.int .u64 HardTerm, .int .i64 HardVote, .int .u64 SnapIndex, .int .u64 SnapTerm, .int .u64 SnapConfig, .string SnapData, .slice Entriesa Entriesn Entriesc] 45 (0, 0)) fun b1 w_ => 
    (∃ Index : Int, ∃ Term : Int, ∃ Config : Int, ∃ Data : ByteArray, rdRow w_ b1 2 [.int .u64 Index, .int .u64 Term, .int .u64 Config, .string Data] ∧ 
    (∃ (va : Option Addr) (vn vc : Nat), World.cell? w_ ⟨b1, 6, none⟩ = some (.slice va vn vc) ∧ 
    (Calls Tryz.prog 53 #[.agg #[.int .u64 Index, .int .u64 Term, .int .u64 Config, .string Data], .slice va vn vc] w_ fun e_ w_2 => 
    (((∃ r1 : Int, e_ = .returned (.tuple #[.pointer none, .int .i64 r1]) ∧ (bif (r1 == 0) then (∃ v1 : Int, World.cell? w_2 ⟨b1, 1, none⟩ = some (.int .i64 v1) ∧ (bif (decide (v1 ≥ (-1))) then 
    (∃ v2 : Int, World.cell? w_2 ⟨b1, 1, none⟩ = some (.int .i64 v2) ∧ R (.bool (decide (v2 < 7))) w_2) else R (.bool false) w_2))
     else R (.bool false) w_2))) ∨ ∃ rb ro : Nat, ((∃ r2 : Int, e_ = .returned (.tuple #[pv rb ro, .int .i64 r2]) ∧ (bif (r2 == 0) then 
    (∃ v3 : Int, World.cell? w_2 ⟨b1, 1, none⟩ = some (.int .i64 v3) ∧ (bif (decide (v3 ≥ (-1))) then (∃ v4 : Int, World.cell? w_2 ⟨b1, 1, none⟩ = some (.int .i64 v4) ∧ R (.bool (decide (v4 < 7))) w_2)
     else R (.bool false) w_2)) else R (.bool false) w_2))))))))

def store_State_right.H : Hints := { nret := [53], nld := [], loops := [], joins := [], unroll := [], plans := [], nx := [] }

theorem store_State_right.eq (HardTerm : Int) (HardVote : Int) (SnapIndex : Int) (SnapTerm : Int) (SnapConfig : Int) (SnapData : ByteArray) (Entriesa : Option Addr) (Entriesn Entriesc : Nat) (R : Value → World → Prop) (w : World) : store_State_right.m HardTerm HardVote SnapIndex SnapTerm SnapConfig SnapData Entriesa Entriesn Entriesc R w = fnD Tryz.prog store_State_right.H Tryz.f23 [.agg #[.int .u64 HardTerm, .int .i64 HardVote, .int .u64 SnapIndex, .int .u64 SnapTerm, .int .u64 SnapConfig, .string SnapData, .slice Entriesa Entriesn Entriesc]] R w := by kernel_rfl

theorem store_State_right.ok (HardTerm : Int) (HardVote : Int) (SnapIndex : Int) (SnapTerm : Int) (SnapConfig : Int) (SnapData : ByteArray) (Entriesa : Option Addr) (Entriesn Entriesc : Nat) {R : Value → World → Prop} {w : World} (h : store_State_right.m HardTerm HardVote SnapIndex SnapTerm SnapConfig SnapData Entriesa Entriesn Entriesc R w) : Calls Tryz.prog 23 #[.agg #[.int .u64 HardTerm, .int .i64 HardVote, .int .u64 SnapIndex, .int .u64 SnapTerm, .int .u64 SnapConfig, .string SnapData, .slice Entriesa Entriesn Entriesc]] w fun e w' => ∃ v, e = .returned v ∧ R v w' :=
  @fn_sound Tryz.prog store_State_right.H 23 Tryz.f23 [.agg #[.int .u64 HardTerm, .int .i64 HardVote, .int .u64 SnapIndex, .int .u64 SnapTerm, .int .u64 SnapConfig, .string SnapData, .slice Entriesa Entriesn Entriesc]] R w Tryz.mixed Tryz.func23 (by kernel_rfl) (by rw [← store_State_right.eq]; exact h)

set_option maxRecDepth 100000
/-- (tontine/store.State).copied -/
def store_State_copied.m (HardTerm : Int) (HardVote : Int) (SnapIndex : Int) (SnapTerm : Int) (SnapConfig : Int) (SnapData : ByteArray) (Entriesa : Option Addr) (Entriesn Entriesc : Nat) (R : Value → World → Prop) (w : World) : Prop :=
  (alD w (.cells #[.int .u64 HardTerm, .int .i64 HardVote, .int .u64 SnapIndex, .int .u64 SnapTerm, .int .u64 SnapConfig, .string SnapData, .slice Entriesa Entriesn Entriesc] 45 (0, 0)) fun b1 w_ => 
    (alD w_ (.cells #[.int .u64 0, .int .i64 0, .int .u64 0, .int .u64 0, .int .u64 0, .string ⟨#[]⟩, .slice none 0 0] 45 (0, 0)) fun b2 w_2 => 
    (∃ (va : Option Addr) (vn vc : Nat), World.cell? w_2 ⟨b1, 6, none⟩ = some (.slice va vn vc) ∧ (exSl Tryz.prog (Builtin.append_ #[43, 43] 43 #[.slice none 0 0, .slice va vn vc]) (fun sa sn sc w_3 => 
    (stD w_3 b1 6 [.slice sa sn sc] fun w_4 => 
    (∃ HardTerm2 : Int, ∃ HardVote2 : Int, ∃ SnapIndex2 : Int, ∃ SnapTerm2 : Int, ∃ SnapConfig2 : Int, ∃ SnapData2 : ByteArray, ∃ (Entriesa2 : Option Addr) (Entriesn2 Entriesc2 : Nat), rdRow w_4 b1 0 [.int .u64 HardTerm2, .int .i64 HardVote2, .int .u64 SnapIndex2, .int .u64 SnapTerm2, .int .u64 SnapConfig2, .string SnapData2, .slice Entriesa2 Entriesn2 Entriesc2] ∧ 
    (stD w_4 b2 0 [.int .u64 HardTerm2, .int .i64 HardVote2, .int .u64 SnapIndex2, .int .u64 SnapTerm2, .int .u64 SnapConfig2, .string SnapData2, .slice Entriesa2 Entriesn2 Entriesc2] fun w_5 => 
    (∃ HardTerm3 : Int, ∃ HardVote3 : Int, ∃ SnapIndex3 : Int, ∃ SnapTerm3 : Int, ∃ SnapConfig3 : Int, ∃ SnapData3 : ByteArray, ∃ (Entriesa3 : Option Addr) (Entriesn3 Entriesc3 : Nat), rdRow w_5 b2 0 [.int .u64 HardTerm3, .int .i64 HardVote3, .int .u64 SnapIndex3, .int .u64 SnapTerm3, .int .u64 SnapConfig3, .string SnapData3, .slice Entriesa3 Entriesn3 Entriesc3] ∧ 
    R (.agg #[.int .u64 HardTerm3, .int .i64 HardVote3, .int .u64 SnapIndex3, .int .u64 SnapTerm3, .int .u64 SnapConfig3, .string SnapData3, .slice Entriesa3 Entriesn3 Entriesc3]) w_5))))) w_2))))

def store_State_copied.H : Hints := { nret := [], nld := [], loops := [], joins := [], unroll := [], plans := [], nx := [] }

theorem store_State_copied.eq (HardTerm : Int) (HardVote : Int) (SnapIndex : Int) (SnapTerm : Int) (SnapConfig : Int) (SnapData : ByteArray) (Entriesa : Option Addr) (Entriesn Entriesc : Nat) (R : Value → World → Prop) (w : World) : store_State_copied.m HardTerm HardVote SnapIndex SnapTerm SnapConfig SnapData Entriesa Entriesn Entriesc R w = fnD Tryz.prog store_State_copied.H Tryz.f24 [.agg #[.int .u64 HardTerm, .int .i64 HardVote, .int .u64 SnapIndex, .int .u64 SnapTerm, .int .u64 SnapConfig, .string SnapData, .slice Entriesa Entriesn Entriesc]] R w := by kernel_rfl

theorem store_State_copied.ok (HardTerm : Int) (HardVote : Int) (SnapIndex : Int) (SnapTerm : Int) (SnapConfig : Int) (SnapData : ByteArray) (Entriesa : Option Addr) (Entriesn Entriesc : Nat) {R : Value → World → Prop} {w : World} (h : store_State_copied.m HardTerm HardVote SnapIndex SnapTerm SnapConfig SnapData Entriesa Entriesn Entriesc R w) : Calls Tryz.prog 24 #[.agg #[.int .u64 HardTerm, .int .i64 HardVote, .int .u64 SnapIndex, .int .u64 SnapTerm, .int .u64 SnapConfig, .string SnapData, .slice Entriesa Entriesn Entriesc]] w fun e w' => ∃ v, e = .returned v ∧ R v w' :=
  @fn_sound Tryz.prog store_State_copied.H 24 Tryz.f24 [.agg #[.int .u64 HardTerm, .int .i64 HardVote, .int .u64 SnapIndex, .int .u64 SnapTerm, .int .u64 SnapConfig, .string SnapData, .slice Entriesa Entriesn Entriesc]] R w Tryz.mixed Tryz.func24 (by kernel_rfl) (by rw [← store_State_copied.eq]; exact h)

set_option maxRecDepth 100000
/-- (tontine/store.State).last -/
def store_State_last.m (HardTerm : Int) (HardVote : Int) (SnapIndex : Int) (SnapTerm : Int) (SnapConfig : Int) (SnapData : ByteArray) (Entriesa : Option Addr) (Entriesn Entriesc : Nat) (R : Value → World → Prop) (w : World) : Prop :=
  (alD w (.cells #[.int .u64 HardTerm, .int .i64 HardVote, .int .u64 SnapIndex, .int .u64 SnapTerm, .int .u64 SnapConfig, .string SnapData, .slice Entriesa Entriesn Entriesc] 45 (0, 0)) fun b1 w_ => 
    (∃ (va : Option Addr) (vn vc : Nat), World.cell? w_ ⟨b1, 6, none⟩ = some (.slice va vn vc) ∧ (bif (decide ((vn : Int) > 0)) then (drewD w_ fun w_2 => 
    (∃ (va2 : Option Addr) (vn2 vc2 : Nat), World.cell? w_2 ⟨b1, 6, none⟩ = some (.slice va2 vn2 vc2) ∧ (∃ b2 o1 : Nat, va2 = some ⟨b2, o1, none⟩ ∧ (0 : Int) ≤ (w64 ((vn : Int) - 1)) ∧ 
    (w64 ((vn : Int) - 1)) < (vn2 : Int) ∧ (∃ v1 : Int, World.cell? w_2 ⟨b2, ((o1 + ((w64 ((vn : Int) - 1)) : Int).toNat * 4) + 1), none⟩ = some (.int .u64 v1) ∧ 
    (∃ (va3 : Option Addr) (vn3 vc3 : Nat), World.cell? w_2 ⟨b1, 6, none⟩ = some (.slice va3 vn3 vc3) ∧ (∃ b3 o2 : Nat, va3 = some ⟨b3, o2, none⟩ ∧ (0 : Int) ≤ (w64 ((vn : Int) - 1)) ∧ 
    (w64 ((vn : Int) - 1)) < (vn3 : Int) ∧ (∃ v2 : Int, World.cell? w_2 ⟨b3, (o2 + ((w64 ((vn : Int) - 1)) : Int).toNat * 4), none⟩ = some (.int .u64 v2) ∧ 
    R (.tuple #[.int .u64 v1, .int .u64 v2]) w_2))))))) else (drewD w_ fun w_3 => (∃ v3 : Int, World.cell? w_3 ⟨b1, 2, none⟩ = some (.int .u64 v3) ∧ 
    (∃ v4 : Int, World.cell? w_3 ⟨b1, 3, none⟩ = some (.int .u64 v4) ∧ R (.tuple #[.int .u64 v3, .int .u64 v4]) w_3))))))

def store_State_last.H : Hints := { nret := [], nld := [], loops := [], joins := [], unroll := [], plans := [(3, (.take 0 (.take 1 (.take 2 (.take 3 (.take 4 (.take 5 (.take 6 (.take 7 (.take 8 (.take 9 (.take 10 (.take 11 (.take 12 (.take 13 (.take 14 (.take 15 .done))))))))))))))))), (4, (.take 0 (.take 1 (.take 2 (.take 3 (.take 4 (.take 5 (.take 6 (.take 7 .done)))))))))], nx := [] }

theorem store_State_last.eq (HardTerm : Int) (HardVote : Int) (SnapIndex : Int) (SnapTerm : Int) (SnapConfig : Int) (SnapData : ByteArray) (Entriesa : Option Addr) (Entriesn Entriesc : Nat) (R : Value → World → Prop) (w : World) : store_State_last.m HardTerm HardVote SnapIndex SnapTerm SnapConfig SnapData Entriesa Entriesn Entriesc R w = fnD Tryz.prog store_State_last.H Tryz.f38 [.agg #[.int .u64 HardTerm, .int .i64 HardVote, .int .u64 SnapIndex, .int .u64 SnapTerm, .int .u64 SnapConfig, .string SnapData, .slice Entriesa Entriesn Entriesc]] R w := by kernel_rfl

theorem store_State_last.ok (HardTerm : Int) (HardVote : Int) (SnapIndex : Int) (SnapTerm : Int) (SnapConfig : Int) (SnapData : ByteArray) (Entriesa : Option Addr) (Entriesn Entriesc : Nat) {R : Value → World → Prop} {w : World} (h : store_State_last.m HardTerm HardVote SnapIndex SnapTerm SnapConfig SnapData Entriesa Entriesn Entriesc R w) : Calls Tryz.prog 38 #[.agg #[.int .u64 HardTerm, .int .i64 HardVote, .int .u64 SnapIndex, .int .u64 SnapTerm, .int .u64 SnapConfig, .string SnapData, .slice Entriesa Entriesn Entriesc]] w fun e w' => ∃ v, e = .returned v ∧ R v w' :=
  @fn_sound Tryz.prog store_State_last.H 38 Tryz.f38 [.agg #[.int .u64 HardTerm, .int .i64 HardVote, .int .u64 SnapIndex, .int .u64 SnapTerm, .int .u64 SnapConfig, .string SnapData, .slice Entriesa Entriesn Entriesc]] R w Tryz.mixed Tryz.func38 (by kernel_rfl) (by rw [← store_State_last.eq]; exact h)

set_option maxRecDepth 100000
/-- tontine/store.hard -/
def store_hard.m (Term : Int) (Vote : Int) (R : Value → World → Prop) (w : World) : Prop :=
  (alD w (.cells #[.int .u64 Term, .int .i64 Vote] 40 (0, 0)) fun b1 w_ => (drewD w_ fun w_2 => (∃ v1 : Int, World.cell? w_2 ⟨b1, 0, none⟩ = some (.int .u64 v1) ∧ 
    (∃ v2 : Int, World.cell? w_2 ⟨b1, 1, none⟩ = some (.int .i64 v2) ∧ (alD w_2 (.cells #[.slice none 0 0] 127 (0, 0)) fun b2 w_3 => World.cell? w_3 ⟨b1, 1, none⟩ = some (.int .i64 v2) ∧ 
    World.cell? w_3 ⟨b1, 0, none⟩ = some (.int .u64 v1) ∧ (Calls Tryz.prog 60 #[pv b2 0, .int .u64 1] w_3 fun e_ w_4 => (∃ rb ro : Nat, e_ = .returned (pv rb ro) ∧ 
    World.cell? w_4 ⟨b1, 1, none⟩ = some (.int .i64 v2) ∧ World.cell? w_4 ⟨b1, 0, none⟩ = some (.int .u64 v1) ∧ (Calls Tryz.prog 60 #[pv rb ro, .int .u64 v1] w_4 fun e_2 w_5 => 
    (∃ rb2 ro2 : Nat, e_2 = .returned (pv rb2 ro2) ∧ World.cell? w_5 ⟨b1, 1, none⟩ = some (.int .i64 v2) ∧ (Calls Tryz.prog 60 #[pv rb2 ro2, .int .u64 (wu64 (w64 (v2 + 1)))] w_5 fun e_3 w_6 => 
    (∃ rb3 ro3 : Nat, e_3 = .returned (pv rb3 ro3) ∧ World.cell? w_6 ⟨b1, 1, none⟩ = some (.int .i64 v2) ∧ (Calls Tryz.prog 61 #[pv rb3 ro3] w_6 fun e_4 w_7 => 
    (∃ r1 : ByteArray, e_4 = .returned (.string r1) ∧ World.cell? w_7 ⟨b1, 1, none⟩ = some (.int .i64 v2) ∧ R (.string r1) w_7)))))))))))))

def store_hard.H : Hints := { nret := [], nld := [], loops := [], joins := [], unroll := [], plans := [(1, (.take 2 (.take 3 (.take 5 (.take 6 (.take 7 (.take 8 (.eff 0 (.eff 1 (.eff 4 (.eff 9 (.eff 10 (.take 11 .done)))))))))))))], nx := [] }

theorem store_hard.eq (Term : Int) (Vote : Int) (R : Value → World → Prop) (w : World) : store_hard.m Term Vote R w = fnD Tryz.prog store_hard.H Tryz.f29 [.agg #[.int .u64 Term, .int .i64 Vote]] R w := by kernel_rfl

theorem store_hard.ok (Term : Int) (Vote : Int) {R : Value → World → Prop} {w : World} (h : store_hard.m Term Vote R w) : Calls Tryz.prog 29 #[.agg #[.int .u64 Term, .int .i64 Vote]] w fun e w' => ∃ v, e = .returned v ∧ R v w' :=
  @fn_sound Tryz.prog store_hard.H 29 Tryz.f29 [.agg #[.int .u64 Term, .int .i64 Vote]] R w Tryz.mixed Tryz.func29 (by kernel_rfl) (by rw [← store_hard.eq]; exact h)

set_option maxRecDepth 100000
/-- tontine/store.snap -/
def store_snap.m (Index : Int) (Term : Int) (Config : Int) (Data : ByteArray) (R : Value → World → Prop) (w : World) : Prop :=
  (alD w (.cells #[.int .u64 Index, .int .u64 Term, .int .u64 Config, .string Data] 42 (0, 0)) fun b1 w_ => (drewD w_ fun w_2 => (∃ v1 : Int, World.cell? w_2 ⟨b1, 0, none⟩ = some (.int .u64 v1) ∧ 
    (∃ v2 : Int, World.cell? w_2 ⟨b1, 1, none⟩ = some (.int .u64 v2) ∧ (∃ v3 : Int, World.cell? w_2 ⟨b1, 2, none⟩ = some (.int .u64 v3) ∧ 
    (∃ v4 : ByteArray, World.cell? w_2 ⟨b1, 3, none⟩ = some (.string v4) ∧ (alD w_2 (.cells #[.slice none 0 0] 127 (0, 0)) fun b2 w_3 => World.cell? w_3 ⟨b1, 3, none⟩ = some (.string v4) ∧ 
    World.cell? w_3 ⟨b1, 2, none⟩ = some (.int .u64 v3) ∧ World.cell? w_3 ⟨b1, 1, none⟩ = some (.int .u64 v2) ∧ World.cell? w_3 ⟨b1, 0, none⟩ = some (.int .u64 v1) ∧ 
    (Calls Tryz.prog 60 #[pv b2 0, .int .u64 4] w_3 fun e_ w_4 => (∃ rb ro : Nat, e_ = .returned (pv rb ro) ∧ World.cell? w_4 ⟨b1, 3, none⟩ = some (.string v4) ∧ 
    World.cell? w_4 ⟨b1, 2, none⟩ = some (.int .u64 v3) ∧ World.cell? w_4 ⟨b1, 1, none⟩ = some (.int .u64 v2) ∧ World.cell? w_4 ⟨b1, 0, none⟩ = some (.int .u64 v1) ∧ 
    (Calls Tryz.prog 60 #[pv rb ro, .int .u64 v1] w_4 fun e_2 w_5 => (∃ rb2 ro2 : Nat, e_2 = .returned (pv rb2 ro2) ∧ World.cell? w_5 ⟨b1, 3, none⟩ = some (.string v4) ∧ 
    World.cell? w_5 ⟨b1, 2, none⟩ = some (.int .u64 v3) ∧ World.cell? w_5 ⟨b1, 1, none⟩ = some (.int .u64 v2) ∧ (Calls Tryz.prog 60 #[pv rb2 ro2, .int .u64 v2] w_5 fun e_3 w_6 => 
    (∃ rb3 ro3 : Nat, e_3 = .returned (pv rb3 ro3) ∧ World.cell? w_6 ⟨b1, 3, none⟩ = some (.string v4) ∧ World.cell? w_6 ⟨b1, 2, none⟩ = some (.int .u64 v3) ∧ 
    (Calls Tryz.prog 60 #[pv rb3 ro3, .int .u64 v3] w_6 fun e_4 w_7 => (∃ rb4 ro4 : Nat, e_4 = .returned (pv rb4 ro4) ∧ World.cell? w_7 ⟨b1, 3, none⟩ = some (.string v4) ∧ 
    (Calls Tryz.prog 62 #[pv rb4 ro4, .string v4] w_7 fun e_5 w_8 => (∃ rb5 ro5 : Nat, e_5 = .returned (pv rb5 ro5) ∧ (Calls Tryz.prog 61 #[pv rb5 ro5] w_8 fun e_6 w_9 => 
    (∃ r1 : ByteArray, e_6 = .returned (.string r1) ∧ R (.string r1) w_9)))))))))))))))))))

def store_snap.H : Hints := { nret := [], nld := [], loops := [], joins := [], unroll := [], plans := [(1, (.take 2 (.take 3 (.take 5 (.take 6 (.take 8 (.take 9 (.take 11 (.take 12 (.eff 0 (.eff 1 (.eff 4 (.eff 7 (.eff 10 (.eff 13 (.eff 14 (.take 15 .done)))))))))))))))))], nx := [] }

theorem store_snap.eq (Index : Int) (Term : Int) (Config : Int) (Data : ByteArray) (R : Value → World → Prop) (w : World) : store_snap.m Index Term Config Data R w = fnD Tryz.prog store_snap.H Tryz.f30 [.agg #[.int .u64 Index, .int .u64 Term, .int .u64 Config, .string Data]] R w := by kernel_rfl

theorem store_snap.ok (Index : Int) (Term : Int) (Config : Int) (Data : ByteArray) {R : Value → World → Prop} {w : World} (h : store_snap.m Index Term Config Data R w) : Calls Tryz.prog 30 #[.agg #[.int .u64 Index, .int .u64 Term, .int .u64 Config, .string Data]] w fun e w' => ∃ v, e = .returned v ∧ R v w' :=
  @fn_sound Tryz.prog store_snap.H 30 Tryz.f30 [.agg #[.int .u64 Index, .int .u64 Term, .int .u64 Config, .string Data]] R w Tryz.mixed Tryz.func30 (by kernel_rfl) (by rw [← store_snap.eq]; exact h)

set_option maxRecDepth 100000
/-- tontine/store.entry -/
def store_entry.m (Term : Int) (Index : Int) (Kind : Int) (Data : ByteArray) (R : Value → World → Prop) (w : World) : Prop :=
  (alD w (.cells #[.int .u64 Term, .int .u64 Index, .int .i64 Kind, .string Data] 69 (0, 0)) fun b1 w_ => (drewD w_ fun w_2 => (∃ v1 : Int, World.cell? w_2 ⟨b1, 0, none⟩ = some (.int .u64 v1) ∧ 
    (∃ v2 : Int, World.cell? w_2 ⟨b1, 1, none⟩ = some (.int .u64 v2) ∧ (∃ v3 : Int, World.cell? w_2 ⟨b1, 2, none⟩ = some (.int .i64 v3) ∧ 
    (∃ v4 : ByteArray, World.cell? w_2 ⟨b1, 3, none⟩ = some (.string v4) ∧ (alD w_2 (.cells #[.slice none 0 0] 127 (0, 0)) fun b2 w_3 => World.cell? w_3 ⟨b1, 3, none⟩ = some (.string v4) ∧ 
    World.cell? w_3 ⟨b1, 2, none⟩ = some (.int .i64 v3) ∧ World.cell? w_3 ⟨b1, 1, none⟩ = some (.int .u64 v2) ∧ World.cell? w_3 ⟨b1, 0, none⟩ = some (.int .u64 v1) ∧ 
    (Calls Tryz.prog 60 #[pv b2 0, .int .u64 2] w_3 fun e_ w_4 => (∃ rb ro : Nat, e_ = .returned (pv rb ro) ∧ World.cell? w_4 ⟨b1, 3, none⟩ = some (.string v4) ∧ 
    World.cell? w_4 ⟨b1, 2, none⟩ = some (.int .i64 v3) ∧ World.cell? w_4 ⟨b1, 1, none⟩ = some (.int .u64 v2) ∧ World.cell? w_4 ⟨b1, 0, none⟩ = some (.int .u64 v1) ∧ 
    (Calls Tryz.prog 60 #[pv rb ro, .int .u64 v1] w_4 fun e_2 w_5 => (∃ rb2 ro2 : Nat, e_2 = .returned (pv rb2 ro2) ∧ World.cell? w_5 ⟨b1, 3, none⟩ = some (.string v4) ∧ 
    World.cell? w_5 ⟨b1, 2, none⟩ = some (.int .i64 v3) ∧ World.cell? w_5 ⟨b1, 1, none⟩ = some (.int .u64 v2) ∧ (Calls Tryz.prog 60 #[pv rb2 ro2, .int .u64 v2] w_5 fun e_3 w_6 => 
    (∃ rb3 ro3 : Nat, e_3 = .returned (pv rb3 ro3) ∧ World.cell? w_6 ⟨b1, 3, none⟩ = some (.string v4) ∧ World.cell? w_6 ⟨b1, 2, none⟩ = some (.int .i64 v3) ∧ 
    (Calls Tryz.prog 60 #[pv rb3 ro3, .int .u64 (wu64 v3)] w_6 fun e_4 w_7 => (∃ rb4 ro4 : Nat, e_4 = .returned (pv rb4 ro4) ∧ World.cell? w_7 ⟨b1, 3, none⟩ = some (.string v4) ∧ 
    World.cell? w_7 ⟨b1, 2, none⟩ = some (.int .i64 v3) ∧ (Calls Tryz.prog 62 #[pv rb4 ro4, .string v4] w_7 fun e_5 w_8 => (∃ rb5 ro5 : Nat, e_5 = .returned (pv rb5 ro5) ∧ 
    World.cell? w_8 ⟨b1, 2, none⟩ = some (.int .i64 v3) ∧ (Calls Tryz.prog 61 #[pv rb5 ro5] w_8 fun e_6 w_9 => (∃ r1 : ByteArray, e_6 = .returned (.string r1) ∧ 
    World.cell? w_9 ⟨b1, 2, none⟩ = some (.int .i64 v3) ∧ R (.string r1) w_9)))))))))))))))))))

def store_entry.H : Hints := { nret := [], nld := [], loops := [], joins := [], unroll := [], plans := [(1, (.take 2 (.take 3 (.take 5 (.take 6 (.take 8 (.take 9 (.take 10 (.take 12 (.take 13 (.eff 0 (.eff 1 (.eff 4 (.eff 7 (.eff 11 (.eff 14 (.eff 15 (.take 16 .done))))))))))))))))))], nx := [] }

theorem store_entry.eq (Term : Int) (Index : Int) (Kind : Int) (Data : ByteArray) (R : Value → World → Prop) (w : World) : store_entry.m Term Index Kind Data R w = fnD Tryz.prog store_entry.H Tryz.f31 [.agg #[.int .u64 Term, .int .u64 Index, .int .i64 Kind, .string Data]] R w := by kernel_rfl

theorem store_entry.ok (Term : Int) (Index : Int) (Kind : Int) (Data : ByteArray) {R : Value → World → Prop} {w : World} (h : store_entry.m Term Index Kind Data R w) : Calls Tryz.prog 31 #[.agg #[.int .u64 Term, .int .u64 Index, .int .i64 Kind, .string Data]] w fun e w' => ∃ v, e = .returned v ∧ R v w' :=
  @fn_sound Tryz.prog store_entry.H 31 Tryz.f31 [.agg #[.int .u64 Term, .int .u64 Index, .int .i64 Kind, .string Data]] R w Tryz.mixed Tryz.func31 (by kernel_rfl) (by rw [← store_entry.eq]; exact h)

set_option maxRecDepth 100000
/-- tontine/store.cut -/
def store_cut.m (i1 : Int) (R : Value → World → Prop) (w : World) : Prop :=
  (alD w (.cells #[.slice none 0 0] 127 (0, 0)) fun b1 w_ => (Calls Tryz.prog 60 #[pv b1 0, .int .u64 3] w_ fun e_ w_2 => (∃ rb ro : Nat, e_ = .returned (pv rb ro) ∧ 
    (Calls Tryz.prog 60 #[pv rb ro, .int .u64 i1] w_2 fun e_2 w_3 => (∃ rb2 ro2 : Nat, e_2 = .returned (pv rb2 ro2) ∧ (Calls Tryz.prog 61 #[pv rb2 ro2] w_3 fun e_3 w_4 => 
    (∃ r1 : ByteArray, e_3 = .returned (.string r1) ∧ R (.string r1) w_4)))))))

def store_cut.H : Hints := { nret := [], nld := [], loops := [], joins := [], unroll := [], plans := [], nx := [] }

theorem store_cut.eq (i1 : Int) (R : Value → World → Prop) (w : World) : store_cut.m i1 R w = fnD Tryz.prog store_cut.H Tryz.f39 [.int .u64 i1] R w := by kernel_rfl

theorem store_cut.ok (i1 : Int) {R : Value → World → Prop} {w : World} (h : store_cut.m i1 R w) : Calls Tryz.prog 39 #[.int .u64 i1] w fun e w' => ∃ v, e = .returned v ∧ R v w' :=
  @fn_sound Tryz.prog store_cut.H 39 Tryz.f39 [.int .u64 i1] R w Tryz.mixed Tryz.func39 (by kernel_rfl) (by rw [← store_cut.eq]; exact h)

set_option maxRecDepth 100000
/-- tontine/store.Open -/
def store_Open.m (db do_ : Nat) (n1 : Int) (members : Int) (R : Value → World → Prop) (w : World) : Prop :=
  (alD w (.cells #[.int .u64 0, .int .i64 0, .int .u64 0, .int .u64 0, .int .u64 0, .string ⟨#[]⟩, .slice none 0 0] 45 (0, 0)) fun b1 w_ => (Calls Tryz.prog 20 #[.int .u64 members] w_ fun e_ w_2 => 
    (∃ r1 : Bool, e_ = .returned (.bool r1) ∧ (bif (!r1) then (stD w_2 b1 0 [.int .u64 0, .int .i64 0, .int .u64 0, .int .u64 0, .int .u64 0, .string ⟨#[]⟩, .slice none 0 0] fun w_3 => 
    (∃ HardTerm : Int, ∃ HardVote : Int, ∃ SnapIndex : Int, ∃ SnapTerm : Int, ∃ SnapConfig : Int, ∃ SnapData : ByteArray, ∃ (Entriesa : Option Addr) (Entriesn Entriesc : Nat), rdRow w_3 b1 0 [.int .u64 HardTerm, .int .i64 HardVote, .int .u64 SnapIndex, .int .u64 SnapTerm, .int .u64 SnapConfig, .string SnapData, .slice Entriesa Entriesn Entriesc] ∧ 
    R (.tuple #[.pointer none, .agg #[.int .u64 HardTerm, .int .i64 HardVote, .int .u64 SnapIndex, .int .u64 SnapTerm, .int .u64 SnapConfig, .string SnapData, .slice Entriesa Entriesn Entriesc], .int .i64 1]) w_3))
     else (Calls Tryz.prog 21 #[pv db do_, .int .i64 n1] w_2 fun e_2 w_4 => 
    (((∃ (ra : Option Addr) (rn rc : Nat), (∃ r2 : Int, e_2 = .returned (.tuple #[.pointer none, .slice ra rn rc, .int .i64 r2]) ∧ (bif (r2 != 0) then 
    (stD w_4 b1 0 [.int .u64 0, .int .i64 0, .int .u64 0, .int .u64 0, .int .u64 0, .string ⟨#[]⟩, .slice none 0 0] fun w_5 => 
    (∃ HardTerm2 : Int, ∃ HardVote2 : Int, ∃ SnapIndex2 : Int, ∃ SnapTerm2 : Int, ∃ SnapConfig2 : Int, ∃ SnapData2 : ByteArray, ∃ (Entriesa2 : Option Addr) (Entriesn2 Entriesc2 : Nat), rdRow w_5 b1 0 [.int .u64 HardTerm2, .int .i64 HardVote2, .int .u64 SnapIndex2, .int .u64 SnapTerm2, .int .u64 SnapConfig2, .string SnapData2, .slice Entriesa2 Entriesn2 Entriesc2] ∧ 
    R (.tuple #[.pointer none, .agg #[.int .u64 HardTerm2, .int .i64 HardVote2, .int .u64 SnapIndex2, .int .u64 SnapTerm2, .int .u64 SnapConfig2, .string SnapData2, .slice Entriesa2 Entriesn2 Entriesc2], .int .i64 r2]) w_5))
     else (alD w_4 (.cells #[.int .u64 0, .int .i64 0, .int .u64 0, .int .u64 0, .int .u64 0, .string ⟨#[]⟩, .slice none 0 0] 45 (0, 0)) fun b2 w_6 => 
    (stD w_6 b2 0 [.int .u64 0, .int .i64 (-1), .int .u64 0, .int .u64 0, .int .u64 members, .string ⟨#[]⟩, .slice none 0 0] fun w_7 => (∃ (I1 : Int → World → Prop) (M1 : Int → World → Nat), I1 0 w_7 ∧ 
    ∀ (jk : Env) (i1 : Int) (w_8 : World), I1 i1 w_8 → (bif (decide (i1 < (rn : Int))) then (∃ b3 o1 : Nat, ra = some ⟨b3, o1, none⟩ ∧ (0 : Int) ≤ i1 ∧ i1 < (rn : Int) ∧ 
    (∃ v1 : ByteArray, World.cell? w_8 ⟨b3, (o1 + (i1 : Int).toNat * 1), none⟩ = some (.string v1) ∧ (Calls Tryz.prog 22 #[pv b2 0, .string v1] w_8 fun e_3 w_9 => 
    (∃ r3 : Bool, e_3 = .returned (.bool r3) ∧ (bif (!r3) then (stD w_9 b1 0 [.int .u64 0, .int .i64 0, .int .u64 0, .int .u64 0, .int .u64 0, .string ⟨#[]⟩, .slice none 0 0] fun w_10 => 
    (∃ HardTerm3 : Int, ∃ HardVote3 : Int, ∃ SnapIndex3 : Int, ∃ SnapTerm3 : Int, ∃ SnapConfig3 : Int, ∃ SnapData3 : ByteArray, ∃ (Entriesa3 : Option Addr) (Entriesn3 Entriesc3 : Nat), rdRow w_10 b1 0 [.int .u64 HardTerm3, .int .i64 HardVote3, .int .u64 SnapIndex3, .int .u64 SnapTerm3, .int .u64 SnapConfig3, .string SnapData3, .slice Entriesa3 Entriesn3 Entriesc3] ∧ 
    R (.tuple #[.pointer none, .agg #[.int .u64 HardTerm3, .int .i64 HardVote3, .int .u64 SnapIndex3, .int .u64 SnapTerm3, .int .u64 SnapConfig3, .string SnapData3, .slice Entriesa3 Entriesn3 Entriesc3], .int .i64 2]) w_10))
     else (I1 (w64 (i1 + 1)) w_9 ∧ M1 (w64 (i1 + 1)) w_9 < M1 i1 w_8))))))
     else (∃ HardTerm4 : Int, ∃ HardVote4 : Int, ∃ SnapIndex4 : Int, ∃ SnapTerm4 : Int, ∃ SnapConfig4 : Int, ∃ SnapData4 : ByteArray, ∃ (Entriesa4 : Option Addr) (Entriesn4 Entriesc4 : Nat), rdRow w_8 b2 0 [.int .u64 HardTerm4, .int .i64 HardVote4, .int .u64 SnapIndex4, .int .u64 SnapTerm4, .int .u64 SnapConfig4, .string SnapData4, .slice Entriesa4 Entriesn4 Entriesc4] ∧ 
    (Calls Tryz.prog 23 #[.agg #[.int .u64 HardTerm4, .int .i64 HardVote4, .int .u64 SnapIndex4, .int .u64 SnapTerm4, .int .u64 SnapConfig4, .string SnapData4, .slice Entriesa4 Entriesn4 Entriesc4]] w_8 fun e_4 w_11 => 
    (∃ r4 : Bool, e_4 = .returned (.bool r4) ∧ (bif (!r4) then (stD w_11 b1 0 [.int .u64 0, .int .i64 0, .int .u64 0, .int .u64 0, .int .u64 0, .string ⟨#[]⟩, .slice none 0 0] fun w_12 => 
    (∃ HardTerm5 : Int, ∃ HardVote5 : Int, ∃ SnapIndex5 : Int, ∃ SnapTerm5 : Int, ∃ SnapConfig5 : Int, ∃ SnapData5 : ByteArray, ∃ (Entriesa5 : Option Addr) (Entriesn5 Entriesc5 : Nat), rdRow w_12 b1 0 [.int .u64 HardTerm5, .int .i64 HardVote5, .int .u64 SnapIndex5, .int .u64 SnapTerm5, .int .u64 SnapConfig5, .string SnapData5, .slice Entriesa5 Entriesn5 Entriesc5] ∧ 
    R (.tuple #[.pointer none, .agg #[.int .u64 HardTerm5, .int .i64 HardVote5, .int .u64 SnapIndex5, .int .u64 SnapTerm5, .int .u64 SnapConfig5, .string SnapData5, .slice Entriesa5 Entriesn5 Entriesc5], .int .i64 2]) w_12))
     else (drewD w_11 fun w_13 => 
    (∃ HardTerm6 : Int, ∃ HardVote6 : Int, ∃ SnapIndex6 : Int, ∃ SnapTerm6 : Int, ∃ SnapConfig6 : Int, ∃ SnapData6 : ByteArray, ∃ (Entriesa6 : Option Addr) (Entriesn6 Entriesc6 : Nat), rdRow w_13 b2 0 [.int .u64 HardTerm6, .int .i64 HardVote6, .int .u64 SnapIndex6, .int .u64 SnapTerm6, .int .u64 SnapConfig6, .string SnapData6, .slice Entriesa6 Entriesn6 Entriesc6] ∧ 
    (∃ HardTerm7 : Int, ∃ HardVote7 : Int, ∃ SnapIndex7 : Int, ∃ SnapTerm7 : Int, ∃ SnapConfig7 : Int, ∃ SnapData7 : ByteArray, ∃ (Entriesa7 : Option Addr) (Entriesn7 Entriesc7 : Nat), rdRow w_13 b2 0 [.int .u64 HardTerm7, .int .i64 HardVote7, .int .u64 SnapIndex7, .int .u64 SnapTerm7, .int .u64 SnapConfig7, .string SnapData7, .slice Entriesa7 Entriesn7 Entriesc7] ∧ 
    ((alD w_13 (.cells #[.pointer none, .int .u64 HardTerm6, .int .i64 HardVote6, .int .u64 SnapIndex6, .int .u64 SnapTerm6, .int .u64 SnapConfig6, .string SnapData6, .slice Entriesa6 Entriesn6 Entriesc6] 81 (0, 0)) fun b4 w_14 => 
    rdRow w_14 b2 0 [.int .u64 HardTerm7, .int .i64 HardVote7, .int .u64 SnapIndex7, .int .u64 SnapTerm7, .int .u64 SnapConfig7, .string SnapData7, .slice Entriesa7 Entriesn7 Entriesc7] ∧ 
    rdRow w_14 b2 0 [.int .u64 HardTerm6, .int .i64 HardVote6, .int .u64 SnapIndex6, .int .u64 SnapTerm6, .int .u64 SnapConfig6, .string SnapData6, .slice Entriesa6 Entriesn6 Entriesc6] ∧ 
    (Calls Tryz.prog 24 #[.agg #[.int .u64 HardTerm7, .int .i64 HardVote7, .int .u64 SnapIndex7, .int .u64 SnapTerm7, .int .u64 SnapConfig7, .string SnapData7, .slice Entriesa7 Entriesn7 Entriesc7]] w_14 fun e_5 w_15 => 
    (∃ HardTerm8 : Int, ∃ HardVote8 : Int, ∃ SnapIndex8 : Int, ∃ SnapTerm8 : Int, ∃ SnapConfig8 : Int, ∃ SnapData8 : ByteArray, ∃ (Entriesa8 : Option Addr) (Entriesn8 Entriesc8 : Nat), e_5 = .returned (.agg #[.int .u64 HardTerm8, .int .i64 HardVote8, .int .u64 SnapIndex8, .int .u64 SnapTerm8, .int .u64 SnapConfig8, .string SnapData8, .slice Entriesa8 Entriesn8 Entriesc8]) ∧ 
    rdRow w_15 b2 0 [.int .u64 HardTerm6, .int .i64 HardVote6, .int .u64 SnapIndex6, .int .u64 SnapTerm6, .int .u64 SnapConfig6, .string SnapData6, .slice Entriesa6 Entriesn6 Entriesc6] ∧ 
    (stD w_15 b1 0 [.int .u64 HardTerm8, .int .i64 HardVote8, .int .u64 SnapIndex8, .int .u64 SnapTerm8, .int .u64 SnapConfig8, .string SnapData8, .slice Entriesa8 Entriesn8 Entriesc8] fun w_16 => 
    (∃ HardTerm9 : Int, ∃ HardVote9 : Int, ∃ SnapIndex9 : Int, ∃ SnapTerm9 : Int, ∃ SnapConfig9 : Int, ∃ SnapData9 : ByteArray, ∃ (Entriesa9 : Option Addr) (Entriesn9 Entriesc9 : Nat), rdRow w_16 b1 0 [.int .u64 HardTerm9, .int .i64 HardVote9, .int .u64 SnapIndex9, .int .u64 SnapTerm9, .int .u64 SnapConfig9, .string SnapData9, .slice Entriesa9 Entriesn9 Entriesc9] ∧ 
    R (.tuple #[pv b4 0, .agg #[.int .u64 HardTerm9, .int .i64 HardVote9, .int .u64 SnapIndex9, .int .u64 SnapTerm9, .int .u64 SnapConfig9, .string SnapData9, .slice Entriesa9 Entriesn9 Entriesc9], .int .i64 0]) w_16))))) ∧ 
    (Calls Tryz.prog 24 #[.agg #[.int .u64 HardTerm7, .int .i64 HardVote7, .int .u64 SnapIndex7, .int .u64 SnapTerm7, .int .u64 SnapConfig7, .string SnapData7, .slice Entriesa7 Entriesn7 Entriesc7]] w_13 fun e_6 w_17 => 
    (∃ HardTerm10 : Int, ∃ HardVote10 : Int, ∃ SnapIndex10 : Int, ∃ SnapTerm10 : Int, ∃ SnapConfig10 : Int, ∃ SnapData10 : ByteArray, ∃ (Entriesa10 : Option Addr) (Entriesn10 Entriesc10 : Nat), e_6 = .returned (.agg #[.int .u64 HardTerm10, .int .i64 HardVote10, .int .u64 SnapIndex10, .int .u64 SnapTerm10, .int .u64 SnapConfig10, .string SnapData10, .slice Entriesa10 Entriesn10 Entriesc10]) ∧ 
    rdRow w_17 b2 0 [.int .u64 HardTerm6, .int .i64 HardVote6, .int .u64 SnapIndex6, .int .u64 SnapTerm6, .int .u64 SnapConfig6, .string SnapData6, .slice Entriesa6 Entriesn6 Entriesc6] ∧ 
    (alD w_17 (.cells #[.pointer none, .int .u64 HardTerm6, .int .i64 HardVote6, .int .u64 SnapIndex6, .int .u64 SnapTerm6, .int .u64 SnapConfig6, .string SnapData6, .slice Entriesa6 Entriesn6 Entriesc6] 81 (0, 0)) fun b5 w_18 => 
    rdRow w_18 b2 0 [.int .u64 HardTerm6, .int .i64 HardVote6, .int .u64 SnapIndex6, .int .u64 SnapTerm6, .int .u64 SnapConfig6, .string SnapData6, .slice Entriesa6 Entriesn6 Entriesc6] ∧ 
    (stD w_18 b1 0 [.int .u64 HardTerm10, .int .i64 HardVote10, .int .u64 SnapIndex10, .int .u64 SnapTerm10, .int .u64 SnapConfig10, .string SnapData10, .slice Entriesa10 Entriesn10 Entriesc10] fun w_19 => 
    (∃ HardTerm11 : Int, ∃ HardVote11 : Int, ∃ SnapIndex11 : Int, ∃ SnapTerm11 : Int, ∃ SnapConfig11 : Int, ∃ SnapData11 : ByteArray, ∃ (Entriesa11 : Option Addr) (Entriesn11 Entriesc11 : Nat), rdRow w_19 b1 0 [.int .u64 HardTerm11, .int .i64 HardVote11, .int .u64 SnapIndex11, .int .u64 SnapTerm11, .int .u64 SnapConfig11, .string SnapData11, .slice Entriesa11 Entriesn11 Entriesc11] ∧ 
    R (.tuple #[pv b5 0, .agg #[.int .u64 HardTerm11, .int .i64 HardVote11, .int .u64 SnapIndex11, .int .u64 SnapTerm11, .int .u64 SnapConfig11, .string SnapData11, .slice Entriesa11 Entriesn11 Entriesc11], .int .i64 0]) w_19))))))))))))))))))))) ∨ ∃ rb ro : Nat, ((∃ (ra2 : Option Addr) (rn2 rc2 : Nat), (∃ r5 : Int, e_2 = .returned (.tuple #[pv rb ro, .slice ra2 rn2 rc2, .int .i64 r5]) ∧ 
    (bif (r5 != 0) then (stD w_4 b1 0 [.int .u64 0, .int .i64 0, .int .u64 0, .int .u64 0, .int .u64 0, .string ⟨#[]⟩, .slice none 0 0] fun w_20 => 
    (∃ HardTerm12 : Int, ∃ HardVote12 : Int, ∃ SnapIndex12 : Int, ∃ SnapTerm12 : Int, ∃ SnapConfig12 : Int, ∃ SnapData12 : ByteArray, ∃ (Entriesa12 : Option Addr) (Entriesn12 Entriesc12 : Nat), rdRow w_20 b1 0 [.int .u64 HardTerm12, .int .i64 HardVote12, .int .u64 SnapIndex12, .int .u64 SnapTerm12, .int .u64 SnapConfig12, .string SnapData12, .slice Entriesa12 Entriesn12 Entriesc12] ∧ 
    R (.tuple #[.pointer none, .agg #[.int .u64 HardTerm12, .int .i64 HardVote12, .int .u64 SnapIndex12, .int .u64 SnapTerm12, .int .u64 SnapConfig12, .string SnapData12, .slice Entriesa12 Entriesn12 Entriesc12], .int .i64 r5]) w_20))
     else (alD w_4 (.cells #[.int .u64 0, .int .i64 0, .int .u64 0, .int .u64 0, .int .u64 0, .string ⟨#[]⟩, .slice none 0 0] 45 (0, 0)) fun b6 w_21 => 
    (stD w_21 b6 0 [.int .u64 0, .int .i64 (-1), .int .u64 0, .int .u64 0, .int .u64 members, .string ⟨#[]⟩, .slice none 0 0] fun w_22 => 
    (∃ (I2 : Int → World → Prop) (M2 : Int → World → Nat), I2 0 w_22 ∧ ∀ (jk2 : Env) (i2 : Int) (w_23 : World), I2 i2 w_23 → (bif (decide (i2 < (rn2 : Int))) then 
    (∃ b7 o2 : Nat, ra2 = some ⟨b7, o2, none⟩ ∧ (0 : Int) ≤ i2 ∧ i2 < (rn2 : Int) ∧ (∃ v2 : ByteArray, World.cell? w_23 ⟨b7, (o2 + (i2 : Int).toNat * 1), none⟩ = some (.string v2) ∧ 
    (Calls Tryz.prog 22 #[pv b6 0, .string v2] w_23 fun e_7 w_24 => (∃ r6 : Bool, e_7 = .returned (.bool r6) ∧ (bif (!r6) then 
    (stD w_24 b1 0 [.int .u64 0, .int .i64 0, .int .u64 0, .int .u64 0, .int .u64 0, .string ⟨#[]⟩, .slice none 0 0] fun w_25 => 
    (∃ HardTerm13 : Int, ∃ HardVote13 : Int, ∃ SnapIndex13 : Int, ∃ SnapTerm13 : Int, ∃ SnapConfig13 : Int, ∃ SnapData13 : ByteArray, ∃ (Entriesa13 : Option Addr) (Entriesn13 Entriesc13 : Nat), rdRow w_25 b1 0 [.int .u64 HardTerm13, .int .i64 HardVote13, .int .u64 SnapIndex13, .int .u64 SnapTerm13, .int .u64 SnapConfig13, .string SnapData13, .slice Entriesa13 Entriesn13 Entriesc13] ∧ 
    R (.tuple #[.pointer none, .agg #[.int .u64 HardTerm13, .int .i64 HardVote13, .int .u64 SnapIndex13, .int .u64 SnapTerm13, .int .u64 SnapConfig13, .string SnapData13, .slice Entriesa13 Entriesn13 Entriesc13], .int .i64 2]) w_25))
     else (I2 (w64 (i2 + 1)) w_24 ∧ M2 (w64 (i2 + 1)) w_24 < M2 i2 w_23))))))
     else (∃ HardTerm14 : Int, ∃ HardVote14 : Int, ∃ SnapIndex14 : Int, ∃ SnapTerm14 : Int, ∃ SnapConfig14 : Int, ∃ SnapData14 : ByteArray, ∃ (Entriesa14 : Option Addr) (Entriesn14 Entriesc14 : Nat), rdRow w_23 b6 0 [.int .u64 HardTerm14, .int .i64 HardVote14, .int .u64 SnapIndex14, .int .u64 SnapTerm14, .int .u64 SnapConfig14, .string SnapData14, .slice Entriesa14 Entriesn14 Entriesc14] ∧ 
    (Calls Tryz.prog 23 #[.agg #[.int .u64 HardTerm14, .int .i64 HardVote14, .int .u64 SnapIndex14, .int .u64 SnapTerm14, .int .u64 SnapConfig14, .string SnapData14, .slice Entriesa14 Entriesn14 Entriesc14]] w_23 fun e_8 w_26 => 
    (∃ r7 : Bool, e_8 = .returned (.bool r7) ∧ (bif (!r7) then (stD w_26 b1 0 [.int .u64 0, .int .i64 0, .int .u64 0, .int .u64 0, .int .u64 0, .string ⟨#[]⟩, .slice none 0 0] fun w_27 => 
    (∃ HardTerm15 : Int, ∃ HardVote15 : Int, ∃ SnapIndex15 : Int, ∃ SnapTerm15 : Int, ∃ SnapConfig15 : Int, ∃ SnapData15 : ByteArray, ∃ (Entriesa15 : Option Addr) (Entriesn15 Entriesc15 : Nat), rdRow w_27 b1 0 [.int .u64 HardTerm15, .int .i64 HardVote15, .int .u64 SnapIndex15, .int .u64 SnapTerm15, .int .u64 SnapConfig15, .string SnapData15, .slice Entriesa15 Entriesn15 Entriesc15] ∧ 
    R (.tuple #[.pointer none, .agg #[.int .u64 HardTerm15, .int .i64 HardVote15, .int .u64 SnapIndex15, .int .u64 SnapTerm15, .int .u64 SnapConfig15, .string SnapData15, .slice Entriesa15 Entriesn15 Entriesc15], .int .i64 2]) w_27))
     else (drewD w_26 fun w_28 => 
    (∃ HardTerm16 : Int, ∃ HardVote16 : Int, ∃ SnapIndex16 : Int, ∃ SnapTerm16 : Int, ∃ SnapConfig16 : Int, ∃ SnapData16 : ByteArray, ∃ (Entriesa16 : Option Addr) (Entriesn16 Entriesc16 : Nat), rdRow w_28 b6 0 [.int .u64 HardTerm16, .int .i64 HardVote16, .int .u64 SnapIndex16, .int .u64 SnapTerm16, .int .u64 SnapConfig16, .string SnapData16, .slice Entriesa16 Entriesn16 Entriesc16] ∧ 
    (∃ HardTerm17 : Int, ∃ HardVote17 : Int, ∃ SnapIndex17 : Int, ∃ SnapTerm17 : Int, ∃ SnapConfig17 : Int, ∃ SnapData17 : ByteArray, ∃ (Entriesa17 : Option Addr) (Entriesn17 Entriesc17 : Nat), rdRow w_28 b6 0 [.int .u64 HardTerm17, .int .i64 HardVote17, .int .u64 SnapIndex17, .int .u64 SnapTerm17, .int .u64 SnapConfig17, .string SnapData17, .slice Entriesa17 Entriesn17 Entriesc17] ∧ 
    ((alD w_28 (.cells #[pv rb ro, .int .u64 HardTerm16, .int .i64 HardVote16, .int .u64 SnapIndex16, .int .u64 SnapTerm16, .int .u64 SnapConfig16, .string SnapData16, .slice Entriesa16 Entriesn16 Entriesc16] 81 (0, 0)) fun b8 w_29 => 
    rdRow w_29 b6 0 [.int .u64 HardTerm17, .int .i64 HardVote17, .int .u64 SnapIndex17, .int .u64 SnapTerm17, .int .u64 SnapConfig17, .string SnapData17, .slice Entriesa17 Entriesn17 Entriesc17] ∧ 
    rdRow w_29 b6 0 [.int .u64 HardTerm16, .int .i64 HardVote16, .int .u64 SnapIndex16, .int .u64 SnapTerm16, .int .u64 SnapConfig16, .string SnapData16, .slice Entriesa16 Entriesn16 Entriesc16] ∧ 
    (Calls Tryz.prog 24 #[.agg #[.int .u64 HardTerm17, .int .i64 HardVote17, .int .u64 SnapIndex17, .int .u64 SnapTerm17, .int .u64 SnapConfig17, .string SnapData17, .slice Entriesa17 Entriesn17 Entriesc17]] w_29 fun e_9 w_30 => 
    (∃ HardTerm18 : Int, ∃ HardVote18 : Int, ∃ SnapIndex18 : Int, ∃ SnapTerm18 : Int, ∃ SnapConfig18 : Int, ∃ SnapData18 : ByteArray, ∃ (Entriesa18 : Option Addr) (Entriesn18 Entriesc18 : Nat), e_9 = .returned (.agg #[.int .u64 HardTerm18, .int .i64 HardVote18, .int .u64 SnapIndex18, .int .u64 SnapTerm18, .int .u64 SnapConfig18, .string SnapData18, .slice Entriesa18 Entriesn18 Entriesc18]) ∧ 
    rdRow w_30 b6 0 [.int .u64 HardTerm16, .int .i64 HardVote16, .int .u64 SnapIndex16, .int .u64 SnapTerm16, .int .u64 SnapConfig16, .string SnapData16, .slice Entriesa16 Entriesn16 Entriesc16] ∧ 
    (stD w_30 b1 0 [.int .u64 HardTerm18, .int .i64 HardVote18, .int .u64 SnapIndex18, .int .u64 SnapTerm18, .int .u64 SnapConfig18, .string SnapData18, .slice Entriesa18 Entriesn18 Entriesc18] fun w_31 => 
    (∃ HardTerm19 : Int, ∃ HardVote19 : Int, ∃ SnapIndex19 : Int, ∃ SnapTerm19 : Int, ∃ SnapConfig19 : Int, ∃ SnapData19 : ByteArray, ∃ (Entriesa19 : Option Addr) (Entriesn19 Entriesc19 : Nat), rdRow w_31 b1 0 [.int .u64 HardTerm19, .int .i64 HardVote19, .int .u64 SnapIndex19, .int .u64 SnapTerm19, .int .u64 SnapConfig19, .string SnapData19, .slice Entriesa19 Entriesn19 Entriesc19] ∧ 
    R (.tuple #[pv b8 0, .agg #[.int .u64 HardTerm19, .int .i64 HardVote19, .int .u64 SnapIndex19, .int .u64 SnapTerm19, .int .u64 SnapConfig19, .string SnapData19, .slice Entriesa19 Entriesn19 Entriesc19], .int .i64 0]) w_31))))) ∧ 
    (Calls Tryz.prog 24 #[.agg #[.int .u64 HardTerm17, .int .i64 HardVote17, .int .u64 SnapIndex17, .int .u64 SnapTerm17, .int .u64 SnapConfig17, .string SnapData17, .slice Entriesa17 Entriesn17 Entriesc17]] w_28 fun e_10 w_32 => 
    (∃ HardTerm20 : Int, ∃ HardVote20 : Int, ∃ SnapIndex20 : Int, ∃ SnapTerm20 : Int, ∃ SnapConfig20 : Int, ∃ SnapData20 : ByteArray, ∃ (Entriesa20 : Option Addr) (Entriesn20 Entriesc20 : Nat), e_10 = .returned (.agg #[.int .u64 HardTerm20, .int .i64 HardVote20, .int .u64 SnapIndex20, .int .u64 SnapTerm20, .int .u64 SnapConfig20, .string SnapData20, .slice Entriesa20 Entriesn20 Entriesc20]) ∧ 
    rdRow w_32 b6 0 [.int .u64 HardTerm16, .int .i64 HardVote16, .int .u64 SnapIndex16, .int .u64 SnapTerm16, .int .u64 SnapConfig16, .string SnapData16, .slice Entriesa16 Entriesn16 Entriesc16] ∧ 
    (alD w_32 (.cells #[pv rb ro, .int .u64 HardTerm16, .int .i64 HardVote16, .int .u64 SnapIndex16, .int .u64 SnapTerm16, .int .u64 SnapConfig16, .string SnapData16, .slice Entriesa16 Entriesn16 Entriesc16] 81 (0, 0)) fun b9 w_33 => 
    rdRow w_33 b6 0 [.int .u64 HardTerm16, .int .i64 HardVote16, .int .u64 SnapIndex16, .int .u64 SnapTerm16, .int .u64 SnapConfig16, .string SnapData16, .slice Entriesa16 Entriesn16 Entriesc16] ∧ 
    (stD w_33 b1 0 [.int .u64 HardTerm20, .int .i64 HardVote20, .int .u64 SnapIndex20, .int .u64 SnapTerm20, .int .u64 SnapConfig20, .string SnapData20, .slice Entriesa20 Entriesn20 Entriesc20] fun w_34 => 
    (∃ HardTerm21 : Int, ∃ HardVote21 : Int, ∃ SnapIndex21 : Int, ∃ SnapTerm21 : Int, ∃ SnapConfig21 : Int, ∃ SnapData21 : ByteArray, ∃ (Entriesa21 : Option Addr) (Entriesn21 Entriesc21 : Nat), rdRow w_34 b1 0 [.int .u64 HardTerm21, .int .i64 HardVote21, .int .u64 SnapIndex21, .int .u64 SnapTerm21, .int .u64 SnapConfig21, .string SnapData21, .slice Entriesa21 Entriesn21 Entriesc21] ∧ 
    R (.tuple #[pv b9 0, .agg #[.int .u64 HardTerm21, .int .i64 HardVote21, .int .u64 SnapIndex21, .int .u64 SnapTerm21, .int .u64 SnapConfig21, .string SnapData21, .slice Entriesa21 Entriesn21 Entriesc21], .int .i64 0]) w_34)))))))))))))))))))))))))))

def store_Open.H : Hints := { nret := [21], nld := [], loops := [(8, [(36, .int .i64)])], joins := [], unroll := [], plans := [(15, (.take 0 (.take 1 (.take 2 (.take 4 (.both 3 (.eff 5 (.take 6 (.eff 7 (.take 8 .done)))) 5 (.eff 3 (.take 6 (.eff 7 (.take 8 .done))))))))))], nx := [] }

theorem store_Open.eq (db do_ : Nat) (n1 : Int) (members : Int) (R : Value → World → Prop) (w : World) : store_Open.m db do_ n1 members R w = fnD Tryz.prog store_Open.H Tryz.f9 [pv db do_, .int .i64 n1, .int .u64 members] R w := by kernel_rfl

theorem store_Open.ok (db do_ : Nat) (n1 : Int) (members : Int) {R : Value → World → Prop} {w : World} (h : store_Open.m db do_ n1 members R w) : Calls Tryz.prog 9 #[pv db do_, .int .i64 n1, .int .u64 members] w fun e w' => ∃ v, e = .returned v ∧ R v w' :=
  @fn_sound Tryz.prog store_Open.H 9 Tryz.f9 [pv db do_, .int .i64 n1, .int .u64 members] R w Tryz.mixed Tryz.func9 (by kernel_rfl) (by rw [← store_Open.eq]; exact h)

set_option maxRecDepth 100000
/-- (*tontine/store.Store).State -/
def store_Store_State.m (tb to_ : Nat) (R : Value → World → Prop) (w : World) : Prop :=
  (alD w (.cells #[.int .u64 0, .int .i64 0, .int .u64 0, .int .u64 0, .int .u64 0, .string ⟨#[]⟩, .slice none 0 0] 45 (0, 0)) fun b1 w_ => 
    (∃ HardTerm : Int, ∃ HardVote : Int, ∃ SnapIndex : Int, ∃ SnapTerm : Int, ∃ SnapConfig : Int, ∃ SnapData : ByteArray, ∃ (Entriesa : Option Addr) (Entriesn Entriesc : Nat), rdRow w_ tb (to_ + 1) [.int .u64 HardTerm, .int .i64 HardVote, .int .u64 SnapIndex, .int .u64 SnapTerm, .int .u64 SnapConfig, .string SnapData, .slice Entriesa Entriesn Entriesc] ∧ 
    (Calls Tryz.prog 24 #[.agg #[.int .u64 HardTerm, .int .i64 HardVote, .int .u64 SnapIndex, .int .u64 SnapTerm, .int .u64 SnapConfig, .string SnapData, .slice Entriesa Entriesn Entriesc]] w_ fun e_ w_2 => 
    (∃ HardTerm2 : Int, ∃ HardVote2 : Int, ∃ SnapIndex2 : Int, ∃ SnapTerm2 : Int, ∃ SnapConfig2 : Int, ∃ SnapData2 : ByteArray, ∃ (Entriesa2 : Option Addr) (Entriesn2 Entriesc2 : Nat), e_ = .returned (.agg #[.int .u64 HardTerm2, .int .i64 HardVote2, .int .u64 SnapIndex2, .int .u64 SnapTerm2, .int .u64 SnapConfig2, .string SnapData2, .slice Entriesa2 Entriesn2 Entriesc2]) ∧ 
    (stD w_2 b1 0 [.int .u64 HardTerm2, .int .i64 HardVote2, .int .u64 SnapIndex2, .int .u64 SnapTerm2, .int .u64 SnapConfig2, .string SnapData2, .slice Entriesa2 Entriesn2 Entriesc2] fun w_3 => 
    (∃ HardTerm3 : Int, ∃ HardVote3 : Int, ∃ SnapIndex3 : Int, ∃ SnapTerm3 : Int, ∃ SnapConfig3 : Int, ∃ SnapData3 : ByteArray, ∃ (Entriesa3 : Option Addr) (Entriesn3 Entriesc3 : Nat), rdRow w_3 b1 0 [.int .u64 HardTerm3, .int .i64 HardVote3, .int .u64 SnapIndex3, .int .u64 SnapTerm3, .int .u64 SnapConfig3, .string SnapData3, .slice Entriesa3 Entriesn3 Entriesc3] ∧ 
    R (.agg #[.int .u64 HardTerm3, .int .i64 HardVote3, .int .u64 SnapIndex3, .int .u64 SnapTerm3, .int .u64 SnapConfig3, .string SnapData3, .slice Entriesa3 Entriesn3 Entriesc3]) w_3))))))

def store_Store_State.H : Hints := { nret := [], nld := [], loops := [], joins := [], unroll := [], plans := [], nx := [] }

theorem store_Store_State.eq (tb to_ : Nat) (R : Value → World → Prop) (w : World) : store_Store_State.m tb to_ R w = fnD Tryz.prog store_Store_State.H Tryz.f18 [pv tb to_] R w := by kernel_rfl

theorem store_Store_State.ok (tb to_ : Nat) {R : Value → World → Prop} {w : World} (h : store_Store_State.m tb to_ R w) : Calls Tryz.prog 18 #[pv tb to_] w fun e w' => ∃ v, e = .returned v ∧ R v w' :=
  @fn_sound Tryz.prog store_Store_State.H 18 Tryz.f18 [pv tb to_] R w Tryz.mixed Tryz.func18 (by kernel_rfl) (by rw [← store_Store_State.eq]; exact h)

set_option maxRecDepth 100000
/-- (*tontine/store.Store).Save -/
def store_Store_Save.m (Lb Lo : Nat) (Term : Int) (Vote : Int) (sa : Option Addr) (sn sc : Nat) (R : Value → World → Prop) (w : World) : Prop :=
  (alD w (.cells #[.int .u64 Term, .int .i64 Vote] 40 (0, 0)) fun b1 w_ => 
    (∃ HardTerm : Int, ∃ HardVote : Int, ∃ SnapIndex : Int, ∃ SnapTerm : Int, ∃ SnapConfig : Int, ∃ SnapData : ByteArray, ∃ (Entriesa : Option Addr) (Entriesn Entriesc : Nat), rdRow w_ Lb (Lo + 1) [.int .u64 HardTerm, .int .i64 HardVote, .int .u64 SnapIndex, .int .u64 SnapTerm, .int .u64 SnapConfig, .string SnapData, .slice Entriesa Entriesn Entriesc] ∧ 
    (Calls Tryz.prog 24 #[.agg #[.int .u64 HardTerm, .int .i64 HardVote, .int .u64 SnapIndex, .int .u64 SnapTerm, .int .u64 SnapConfig, .string SnapData, .slice Entriesa Entriesn Entriesc]] w_ fun e_ w_2 => 
    (∃ HardTerm2 : Int, ∃ HardVote2 : Int, ∃ SnapIndex2 : Int, ∃ SnapTerm2 : Int, ∃ SnapConfig2 : Int, ∃ SnapData2 : ByteArray, ∃ (Entriesa2 : Option Addr) (Entriesn2 Entriesc2 : Nat), e_ = .returned (.agg #[.int .u64 HardTerm2, .int .i64 HardVote2, .int .u64 SnapIndex2, .int .u64 SnapTerm2, .int .u64 SnapConfig2, .string SnapData2, .slice Entriesa2 Entriesn2 Entriesc2]) ∧ 
    (alD w_2 (.cells #[.int .u64 0, .int .i64 0, .int .u64 0, .int .u64 0, .int .u64 0, .string ⟨#[]⟩, .slice none 0 0] 45 (0, 0)) fun b2 w_3 => 
    (stD w_3 b2 0 [.int .u64 HardTerm2, .int .i64 HardVote2, .int .u64 SnapIndex2, .int .u64 SnapTerm2, .int .u64 SnapConfig2, .string SnapData2, .slice Entriesa2 Entriesn2 Entriesc2] fun w_4 => 
    (∃ J1 : Option Addr → Nat → Nat → World → Prop, (∃ Term2 : Int, ∃ Vote2 : Int, rdRow w_4 b1 0 [.int .u64 Term2, .int .i64 Vote2] ∧ 
    (∃ Term3 : Int, ∃ Vote3 : Int, rdRow w_4 b2 0 [.int .u64 Term3, .int .i64 Vote3] ∧ 
    (∃ q1 : Bool, eqRuns Tryz.prog .neq 40 (.tmp 23) (.tmp 25) (.agg #[.int .u64 Term2, .int .i64 Vote2]) (.agg #[.int .u64 Term3, .int .i64 Vote3]) q1 ∧ (bif q1 then 
    (∃ Term4 : Int, ∃ Vote4 : Int, rdRow w_4 b1 0 [.int .u64 Term4, .int .i64 Vote4] ∧ (Calls Tryz.prog 29 #[.agg #[.int .u64 Term4, .int .i64 Vote4]] w_4 fun e_2 w_6 => 
    (∃ r1 : ByteArray, e_2 = .returned (.string r1) ∧ (alD w_6 (.cells #[.string r1] 9 (0, 0)) fun b3 w_7 => 
    (exSl Tryz.prog (Builtin.append_ #[76, 76] 76 #[.slice none 0 0, .slice (some ⟨b3, 0, none⟩) 1 1]) (fun sa2 sn2 sc2 w_8 => J1 sa2 sn2 sc2 w_8) w_7))))) else J1 none 0 0 w_4)))) ∧ 
    ∀ (jk : Env) (ra : Option Addr) (rn rc : Nat) (w_5 : World), J1 ra rn rc w_5 → (∃ J2 : Option Addr → Nat → Nat → World → Prop, (bif (decide ((sn : Int) > 0)) then 
    (∃ HardTerm3 : Int, ∃ HardVote3 : Int, ∃ SnapIndex3 : Int, ∃ SnapTerm3 : Int, ∃ SnapConfig3 : Int, ∃ SnapData3 : ByteArray, ∃ (Entriesa3 : Option Addr) (Entriesn3 Entriesc3 : Nat), rdRow w_5 b2 0 [.int .u64 HardTerm3, .int .i64 HardVote3, .int .u64 SnapIndex3, .int .u64 SnapTerm3, .int .u64 SnapConfig3, .string SnapData3, .slice Entriesa3 Entriesn3 Entriesc3] ∧ 
    (Calls Tryz.prog 38 #[.agg #[.int .u64 HardTerm3, .int .i64 HardVote3, .int .u64 SnapIndex3, .int .u64 SnapTerm3, .int .u64 SnapConfig3, .string SnapData3, .slice Entriesa3 Entriesn3 Entriesc3]] w_5 fun e_3 w_10 => 
    (∃ r2 : Int, (∃ r3 : Int, e_3 = .returned (.tuple #[.int .u64 r2, .int .u64 r3]) ∧ (∃ b4 o1 : Nat, sa = some ⟨b4, o1, none⟩ ∧ (0 : Int) ≤ 0 ∧ 0 < (sn : Int) ∧ 
    (∃ v1 : Int, World.cell? w_10 ⟨b4, (o1 + 1), none⟩ = some (.int .u64 v1) ∧ (bif (decide (v1 ≤ r2)) then (∃ b5 o2 : Nat, sa = some ⟨b5, o2, none⟩ ∧ (0 : Int) ≤ 0 ∧ 0 < (sn : Int) ∧ 
    (∃ v2 : Int, World.cell? w_10 ⟨b5, (o2 + 1), none⟩ = some (.int .u64 v2) ∧ (Calls Tryz.prog 39 #[.int .u64 v2] w_10 fun e_4 w_11 => (∃ r4 : ByteArray, e_4 = .returned (.string r4) ∧ 
    (alD w_11 (.cells #[.string r4] 9 (0, 0)) fun b6 w_12 => (exSl Tryz.prog (Builtin.append_ #[76, 76] 76 #[.slice ra rn rc, .slice (some ⟨b6, 0, none⟩) 1 1]) (fun sa3 sn3 sc3 w_13 => 
    J2 sa3 sn3 sc3 w_13) w_12)))))) else J2 ra rn rc w_10))))))) else J2 ra rn rc w_5) ∧ 
    ∀ (jk2 : Env) (ra2 : Option Addr) (rn2 rc2 : Nat) (w_9 : World), J2 ra2 rn2 rc2 w_9 → (∃ (I1 : Option Addr → Nat → Nat → Int → World → Prop) (M1 : Option Addr → Nat → Nat → Int → World → Nat), I1 ra2 rn2 rc2 0 w_9 ∧ 
    ∀ (jk3 : Env) (ra3 : Option Addr) (rn3 rc3 : Nat) (i1 : Int) (w_14 : World), I1 ra3 rn3 rc3 i1 w_14 → (bif (decide (i1 < (sn : Int))) then (∃ b7 o3 : Nat, sa = some ⟨b7, o3, none⟩ ∧ 
    (0 : Int) ≤ i1 ∧ i1 < (sn : Int) ∧ 
    (∃ Term5 : Int, ∃ Index : Int, ∃ Kind : Int, ∃ Data : ByteArray, rdRow w_14 b7 (o3 + (i1 : Int).toNat * 4) [.int .u64 Term5, .int .u64 Index, .int .i64 Kind, .string Data] ∧ 
    (alD w_14 (.cells #[.int .u64 0, .int .u64 0, .int .i64 0, .string ⟨#[]⟩] 69 (0, 0)) fun b8 w_15 => (stD w_15 b8 0 [.int .u64 Term5, .int .u64 Index, .int .i64 Kind, .string Data] fun w_16 => 
    (∃ Term6 : Int, ∃ Index2 : Int, ∃ Kind2 : Int, ∃ Data2 : ByteArray, rdRow w_16 b8 0 [.int .u64 Term6, .int .u64 Index2, .int .i64 Kind2, .string Data2] ∧ 
    (Calls Tryz.prog 31 #[.agg #[.int .u64 Term6, .int .u64 Index2, .int .i64 Kind2, .string Data2]] w_16 fun e_5 w_17 => (∃ r5 : ByteArray, e_5 = .returned (.string r5) ∧ 
    (alD w_17 (.cells #[.string r5] 9 (0, 0)) fun b9 w_18 => (exSl Tryz.prog (Builtin.append_ #[76, 76] 76 #[.slice ra3 rn3 rc3, .slice (some ⟨b9, 0, none⟩) 1 1]) (fun sa4 sn4 sc4 w_19 => 
    (I1 sa4 sn4 sc4 (w64 (i1 + 1)) w_19 ∧ M1 sa4 sn4 sc4 (w64 (i1 + 1)) w_19 < M1 ra3 rn3 rc3 i1 w_14)) w_18))))))))) else (∃ (I2 : Int → World → Prop) (M2 : Int → World → Nat), I2 0 w_14 ∧ 
    ∀ (jk4 : Env) (i2 : Int) (w_20 : World), I2 i2 w_20 → (bif (decide (i2 < (rn3 : Int))) then (∃ b10 o4 : Nat, ra3 = some ⟨b10, o4, none⟩ ∧ (0 : Int) ≤ i2 ∧ i2 < (rn3 : Int) ∧ 
    (∃ v3 : ByteArray, World.cell? w_20 ⟨b10, (o4 + (i2 : Int).toNat * 1), none⟩ = some (.string v3) ∧ (Calls Tryz.prog 22 #[pv b2 0, .string v3] w_20 fun e_6 w_21 => 
    (∃ r6 : Bool, e_6 = .returned (.bool r6) ∧ (bif (!r6) then R (.int .i64 1) w_21 else (I2 (w64 (i2 + 1)) w_21 ∧ M2 (w64 (i2 + 1)) w_21 < M2 i2 w_20))))))
     else (∃ HardTerm4 : Int, ∃ HardVote4 : Int, ∃ SnapIndex4 : Int, ∃ SnapTerm4 : Int, ∃ SnapConfig4 : Int, ∃ SnapData4 : ByteArray, ∃ (Entriesa4 : Option Addr) (Entriesn4 Entriesc4 : Nat), rdRow w_20 b2 0 [.int .u64 HardTerm4, .int .i64 HardVote4, .int .u64 SnapIndex4, .int .u64 SnapTerm4, .int .u64 SnapConfig4, .string SnapData4, .slice Entriesa4 Entriesn4 Entriesc4] ∧ 
    (Calls Tryz.prog 23 #[.agg #[.int .u64 HardTerm4, .int .i64 HardVote4, .int .u64 SnapIndex4, .int .u64 SnapTerm4, .int .u64 SnapConfig4, .string SnapData4, .slice Entriesa4 Entriesn4 Entriesc4]] w_20 fun e_7 w_22 => 
    (∃ r7 : Bool, e_7 = .returned (.bool r7) ∧ (bif (!r7) then R (.int .i64 1) w_22 else (bif ((rn3 : Int) == 0) then R (.int .i64 0) w_22
     else (∃ vb vo : Nat, World.cell? w_22 ⟨Lb, Lo, none⟩ = some (pv vb vo) ∧ (Calls Tryz.prog 40 #[pv vb vo, .slice ra3 rn3 rc3] w_22 fun e_8 w_23 => (∃ r8 : Int, e_8 = .returned (.int .i64 r8) ∧ 
    (bif (r8 != 0) then R (.int .i64 r8) w_23
     else (∃ HardTerm5 : Int, ∃ HardVote5 : Int, ∃ SnapIndex5 : Int, ∃ SnapTerm5 : Int, ∃ SnapConfig5 : Int, ∃ SnapData5 : ByteArray, ∃ (Entriesa5 : Option Addr) (Entriesn5 Entriesc5 : Nat), rdRow w_23 b2 0 [.int .u64 HardTerm5, .int .i64 HardVote5, .int .u64 SnapIndex5, .int .u64 SnapTerm5, .int .u64 SnapConfig5, .string SnapData5, .slice Entriesa5 Entriesn5 Entriesc5] ∧ 
    (stD w_23 Lb (Lo + 1) [.int .u64 HardTerm5, .int .i64 HardVote5, .int .u64 SnapIndex5, .int .u64 SnapTerm5, .int .u64 SnapConfig5, .string SnapData5, .slice Entriesa5 Entriesn5 Entriesc5] fun w_24 => 
    R (.int .i64 0) w_24)))))))))))))))))))))))

def store_Store_Save.H : Hints := { nret := [], nld := [], loops := [(12, [(8, .slice), (56, .int .i64)]), (17, [(68, .int .i64)])], joins := [(7, [(8, .slice)]), (11, [(8, .slice)])], unroll := [], plans := [], nx := [] }

theorem store_Store_Save.eq (Lb Lo : Nat) (Term : Int) (Vote : Int) (sa : Option Addr) (sn sc : Nat) (R : Value → World → Prop) (w : World) : store_Store_Save.m Lb Lo Term Vote sa sn sc R w = fnD Tryz.prog store_Store_Save.H Tryz.f14 [pv Lb Lo, .agg #[.int .u64 Term, .int .i64 Vote], .slice sa sn sc] R w := by kernel_rfl

theorem store_Store_Save.ok (Lb Lo : Nat) (Term : Int) (Vote : Int) (sa : Option Addr) (sn sc : Nat) {R : Value → World → Prop} {w : World} (h : store_Store_Save.m Lb Lo Term Vote sa sn sc R w) : Calls Tryz.prog 14 #[pv Lb Lo, .agg #[.int .u64 Term, .int .i64 Vote], .slice sa sn sc] w fun e w' => ∃ v, e = .returned v ∧ R v w' :=
  @fn_sound Tryz.prog store_Store_Save.H 14 Tryz.f14 [pv Lb Lo, .agg #[.int .u64 Term, .int .i64 Vote], .slice sa sn sc] R w Tryz.mixed Tryz.func14 (by kernel_rfl) (by rw [← store_Store_Save.eq]; exact h)

set_option maxRecDepth 100000
/-- (*tontine/store.Store).Anew -/
def store_Store_Anew.m (tb to_ : Nat) (HardTerm : Int) (HardVote : Int) (SnapIndex : Int) (SnapTerm : Int) (SnapConfig : Int) (SnapData : ByteArray) (Entriesa : Option Addr) (Entriesn Entriesc : Nat) (R : Value → World → Prop) (w : World) : Prop :=
  (alD w (.cells #[.int .u64 HardTerm, .int .i64 HardVote, .int .u64 SnapIndex, .int .u64 SnapTerm, .int .u64 SnapConfig, .string SnapData, .slice Entriesa Entriesn Entriesc] 45 (0, 0)) fun b1 w_ => 
    (∃ HardTerm2 : Int, ∃ HardVote2 : Int, ∃ SnapIndex2 : Int, ∃ SnapTerm2 : Int, ∃ SnapConfig2 : Int, ∃ SnapData2 : ByteArray, ∃ (Entriesa2 : Option Addr) (Entriesn2 Entriesc2 : Nat), rdRow w_ b1 0 [.int .u64 HardTerm2, .int .i64 HardVote2, .int .u64 SnapIndex2, .int .u64 SnapTerm2, .int .u64 SnapConfig2, .string SnapData2, .slice Entriesa2 Entriesn2 Entriesc2] ∧ 
    (Calls Tryz.prog 23 #[.agg #[.int .u64 HardTerm2, .int .i64 HardVote2, .int .u64 SnapIndex2, .int .u64 SnapTerm2, .int .u64 SnapConfig2, .string SnapData2, .slice Entriesa2 Entriesn2 Entriesc2]] w_ fun e_ w_2 => 
    (∃ r1 : Bool, e_ = .returned (.bool r1) ∧ (bif (!r1) then R (.int .i64 1) w_2 else (∃ v1 : ByteArray, World.cell? w_2 ⟨b1, 5, none⟩ = some (.string v1) ∧ 
    (bif (decide ((v1.size : Int) > 32768)) then R (.int .i64 1) w_2 else (drewD w_2 fun w_3 => (∃ Term : Int, ∃ Vote : Int, rdRow w_3 b1 0 [.int .u64 Term, .int .i64 Vote] ∧ 
    (∃ Index : Int, ∃ Term2 : Int, ∃ Config : Int, ∃ Data : ByteArray, rdRow w_3 b1 2 [.int .u64 Index, .int .u64 Term2, .int .u64 Config, .string Data] ∧ 
    (Calls Tryz.prog 29 #[.agg #[.int .u64 Term, .int .i64 Vote]] w_3 fun e_2 w_4 => (∃ r2 : ByteArray, e_2 = .returned (.string r2) ∧ 
    rdRow w_4 b1 2 [.int .u64 Index, .int .u64 Term2, .int .u64 Config, .string Data] ∧ 
    (Calls Tryz.prog 30 #[.agg #[.int .u64 Index, .int .u64 Term2, .int .u64 Config, .string Data]] w_4 fun e_3 w_5 => (∃ r3 : ByteArray, e_3 = .returned (.string r3) ∧ 
    (alD w_5 (.cells #[.string r2, .string r3] 9 (0, 0)) fun b2 w_6 => (∃ (va : Option Addr) (vn vc : Nat), World.cell? w_6 ⟨b1, 6, none⟩ = some (.slice va vn vc) ∧ 
    (∃ (I1 : Option Addr → Nat → Nat → Int → World → Prop) (M1 : Option Addr → Nat → Nat → Int → World → Nat), I1 (some ⟨b2, 0, none⟩) 2 2 0 w_6 ∧ 
    ∀ (jk : Env) (outa : Option Addr) (outn outc : Nat) (i1 : Int) (w_7 : World), I1 outa outn outc i1 w_7 → (bif (decide (i1 < (vn : Int))) then (∃ b3 o1 : Nat, va = some ⟨b3, o1, none⟩ ∧ 
    (0 : Int) ≤ i1 ∧ i1 < (vn : Int) ∧ 
    (∃ Term3 : Int, ∃ Index2 : Int, ∃ Kind : Int, ∃ Data2 : ByteArray, rdRow w_7 b3 (o1 + (i1 : Int).toNat * 4) [.int .u64 Term3, .int .u64 Index2, .int .i64 Kind, .string Data2] ∧ 
    (alD w_7 (.cells #[.int .u64 0, .int .u64 0, .int .i64 0, .string ⟨#[]⟩] 69 (0, 0)) fun b4 w_8 => (stD w_8 b4 0 [.int .u64 Term3, .int .u64 Index2, .int .i64 Kind, .string Data2] fun w_9 => 
    (∃ Term4 : Int, ∃ Index3 : Int, ∃ Kind2 : Int, ∃ Data3 : ByteArray, rdRow w_9 b4 0 [.int .u64 Term4, .int .u64 Index3, .int .i64 Kind2, .string Data3] ∧ 
    (Calls Tryz.prog 31 #[.agg #[.int .u64 Term4, .int .u64 Index3, .int .i64 Kind2, .string Data3]] w_9 fun e_4 w_10 => (∃ r4 : ByteArray, e_4 = .returned (.string r4) ∧ 
    (alD w_10 (.cells #[.string r4] 9 (0, 0)) fun b5 w_11 => (exSl Tryz.prog (Builtin.append_ #[76, 76] 76 #[.slice outa outn outc, .slice (some ⟨b5, 0, none⟩) 1 1]) (fun sa sn sc w_12 => 
    (I1 sa sn sc (w64 (i1 + 1)) w_12 ∧ M1 sa sn sc (w64 (i1 + 1)) w_12 < M1 outa outn outc i1 w_7)) w_11))))))))) else (∃ vb vo : Nat, World.cell? w_7 ⟨tb, to_, none⟩ = some (pv vb vo) ∧ 
    (Calls Tryz.prog 32 #[pv vb vo, .slice outa outn outc] w_7 fun e_5 w_13 => (∃ r5 : Int, e_5 = .returned (.int .i64 r5) ∧ (bif (r5 != 0) then R (.int .i64 r5) w_13
     else (∃ HardTerm3 : Int, ∃ HardVote3 : Int, ∃ SnapIndex3 : Int, ∃ SnapTerm3 : Int, ∃ SnapConfig3 : Int, ∃ SnapData3 : ByteArray, ∃ (Entriesa3 : Option Addr) (Entriesn3 Entriesc3 : Nat), rdRow w_13 b1 0 [.int .u64 HardTerm3, .int .i64 HardVote3, .int .u64 SnapIndex3, .int .u64 SnapTerm3, .int .u64 SnapConfig3, .string SnapData3, .slice Entriesa3 Entriesn3 Entriesc3] ∧ 
    (Calls Tryz.prog 24 #[.agg #[.int .u64 HardTerm3, .int .i64 HardVote3, .int .u64 SnapIndex3, .int .u64 SnapTerm3, .int .u64 SnapConfig3, .string SnapData3, .slice Entriesa3 Entriesn3 Entriesc3]] w_13 fun e_6 w_14 => 
    (∃ HardTerm4 : Int, ∃ HardVote4 : Int, ∃ SnapIndex4 : Int, ∃ SnapTerm4 : Int, ∃ SnapConfig4 : Int, ∃ SnapData4 : ByteArray, ∃ (Entriesa4 : Option Addr) (Entriesn4 Entriesc4 : Nat), e_6 = .returned (.agg #[.int .u64 HardTerm4, .int .i64 HardVote4, .int .u64 SnapIndex4, .int .u64 SnapTerm4, .int .u64 SnapConfig4, .string SnapData4, .slice Entriesa4 Entriesn4 Entriesc4]) ∧ 
    (stD w_14 tb (to_ + 1) [.int .u64 HardTerm4, .int .i64 HardVote4, .int .u64 SnapIndex4, .int .u64 SnapTerm4, .int .u64 SnapConfig4, .string SnapData4, .slice Entriesa4 Entriesn4 Entriesc4] fun w_15 => 
    R (.int .i64 0) w_15))))))))))))))))))))))))))

def store_Store_Anew.H : Hints := { nret := [], nld := [], loops := [(7, [(5, .slice), (31, .int .i64)])], joins := [], unroll := [], plans := [(5, (.take 0 (.take 1 (.take 3 (.take 4 (.eff 2 (.eff 5 (.eff 6 (.take 7 .done)))))))))], nx := [] }

theorem store_Store_Anew.eq (tb to_ : Nat) (HardTerm : Int) (HardVote : Int) (SnapIndex : Int) (SnapTerm : Int) (SnapConfig : Int) (SnapData : ByteArray) (Entriesa : Option Addr) (Entriesn Entriesc : Nat) (R : Value → World → Prop) (w : World) : store_Store_Anew.m tb to_ HardTerm HardVote SnapIndex SnapTerm SnapConfig SnapData Entriesa Entriesn Entriesc R w = fnD Tryz.prog store_Store_Anew.H Tryz.f12 [pv tb to_, .agg #[.int .u64 HardTerm, .int .i64 HardVote, .int .u64 SnapIndex, .int .u64 SnapTerm, .int .u64 SnapConfig, .string SnapData, .slice Entriesa Entriesn Entriesc]] R w := by kernel_rfl

theorem store_Store_Anew.ok (tb to_ : Nat) (HardTerm : Int) (HardVote : Int) (SnapIndex : Int) (SnapTerm : Int) (SnapConfig : Int) (SnapData : ByteArray) (Entriesa : Option Addr) (Entriesn Entriesc : Nat) {R : Value → World → Prop} {w : World} (h : store_Store_Anew.m tb to_ HardTerm HardVote SnapIndex SnapTerm SnapConfig SnapData Entriesa Entriesn Entriesc R w) : Calls Tryz.prog 12 #[pv tb to_, .agg #[.int .u64 HardTerm, .int .i64 HardVote, .int .u64 SnapIndex, .int .u64 SnapTerm, .int .u64 SnapConfig, .string SnapData, .slice Entriesa Entriesn Entriesc]] w fun e w' => ∃ v, e = .returned v ∧ R v w' :=
  @fn_sound Tryz.prog store_Store_Anew.H 12 Tryz.f12 [pv tb to_, .agg #[.int .u64 HardTerm, .int .i64 HardVote, .int .u64 SnapIndex, .int .u64 SnapTerm, .int .u64 SnapConfig, .string SnapData, .slice Entriesa Entriesn Entriesc]] R w Tryz.mixed Tryz.func12 (by kernel_rfl) (by rw [← store_Store_Anew.eq]; exact h)

set_option maxRecDepth 100000
/-- tontine/tontineref08.nums -/
def tontineref08_nums.m (la : Option Addr) (ln lc : Nat) (R : Value → World → Prop) (w : World) : Prop :=
  (∃ (I1 : ByteArray → Int → World → Prop) (M1 : ByteArray → Int → World → Nat), I1 ⟨#[]⟩ 0 w ∧ ∀ (jk : Env) (s1 : ByteArray) (i1 : Int) (w_ : World), I1 s1 i1 w_ → (bif (decide (i1 < (ln : Int))) then 
    (∃ b1 o1 : Nat, la = some ⟨b1, o1, none⟩ ∧ (0 : Int) ≤ i1 ∧ i1 < (ln : Int) ∧ (∃ v1 : Int, World.cell? w_ ⟨b1, (o1 + (i1 : Int).toNat * 1), none⟩ = some (.int .u64 v1) ∧ 
    (Calls Tryz.prog 88 #[.int .u64 v1] w_ fun e_ w_2 => (∃ r1 : ByteArray, e_ = .returned (.string r1) ∧ (catD s1 r1 fun cat => (I1 cat (w64 (i1 + 1)) w_2 ∧ 
    M1 cat (w64 (i1 + 1)) w_2 < M1 s1 i1 w_)))))) else R (.string s1) w_))

def tontineref08_nums.H : Hints := { nret := [], nld := [], loops := [(3, [(3, .str), (4, .int .i64)])], joins := [], unroll := [], plans := [], nx := [] }

theorem tontineref08_nums.eq (la : Option Addr) (ln lc : Nat) (R : Value → World → Prop) (w : World) : tontineref08_nums.m la ln lc R w = fnD Tryz.prog tontineref08_nums.H Tryz.f65 [.slice la ln lc] R w := by kernel_rfl

theorem tontineref08_nums.ok (la : Option Addr) (ln lc : Nat) {R : Value → World → Prop} {w : World} (h : tontineref08_nums.m la ln lc R w) : Calls Tryz.prog 65 #[.slice la ln lc] w fun e w' => ∃ v, e = .returned v ∧ R v w' :=
  @fn_sound Tryz.prog tontineref08_nums.H 65 Tryz.f65 [.slice la ln lc] R w Tryz.mixed Tryz.func65 (by kernel_rfl) (by rw [← tontineref08_nums.eq]; exact h)

set_option maxRecDepth 100000
/-- tontine/tontineref08.Hard -/
def tontineref08_Hard.m (Term : Int) (Vote : Int) (R : Value → World → Prop) (w : World) : Prop :=
  (alD w (.cells #[.int .u64 Term, .int .i64 Vote] 40 (0, 0)) fun b1 w_ => (∃ v1 : Int, World.cell? w_ ⟨b1, 0, none⟩ = some (.int .u64 v1) ∧ 
    (∃ v2 : Int, World.cell? w_ ⟨b1, 1, none⟩ = some (.int .i64 v2) ∧ (alD w_ (.cells #[.int .u64 1, .int .u64 v1, .int .u64 (wu64 (w64 (v2 + 1)))] 38 (0, 0)) fun b2 w_2 => 
    (Calls Tryz.prog 65 #[.slice (some ⟨b2, 0, none⟩) 3 3] w_2 fun e_ w_3 => (∃ r1 : ByteArray, e_ = .returned (.string r1) ∧ R (.string r1) w_3))))))

def tontineref08_Hard.H : Hints := { nret := [], nld := [], loops := [], joins := [], unroll := [], plans := [], nx := [] }

theorem tontineref08_Hard.eq (Term : Int) (Vote : Int) (R : Value → World → Prop) (w : World) : tontineref08_Hard.m Term Vote R w = fnD Tryz.prog tontineref08_Hard.H Tryz.f34 [.agg #[.int .u64 Term, .int .i64 Vote]] R w := by kernel_rfl

theorem tontineref08_Hard.ok (Term : Int) (Vote : Int) {R : Value → World → Prop} {w : World} (h : tontineref08_Hard.m Term Vote R w) : Calls Tryz.prog 34 #[.agg #[.int .u64 Term, .int .i64 Vote]] w fun e w' => ∃ v, e = .returned v ∧ R v w' :=
  @fn_sound Tryz.prog tontineref08_Hard.H 34 Tryz.f34 [.agg #[.int .u64 Term, .int .i64 Vote]] R w Tryz.mixed Tryz.func34 (by kernel_rfl) (by rw [← tontineref08_Hard.eq]; exact h)

set_option maxRecDepth 100000
/-- tontine/tontineref08.Cut -/
def tontineref08_Cut.m (i1 : Int) (R : Value → World → Prop) (w : World) : Prop :=
  (alD w (.cells #[.int .u64 3, .int .u64 i1] 38 (0, 0)) fun b1 w_ => (Calls Tryz.prog 65 #[.slice (some ⟨b1, 0, none⟩) 2 2] w_ fun e_ w_2 => (∃ r1 : ByteArray, e_ = .returned (.string r1) ∧ 
    R (.string r1) w_2)))

def tontineref08_Cut.H : Hints := { nret := [], nld := [], loops := [], joins := [], unroll := [], plans := [], nx := [] }

theorem tontineref08_Cut.eq (i1 : Int) (R : Value → World → Prop) (w : World) : tontineref08_Cut.m i1 R w = fnD Tryz.prog tontineref08_Cut.H Tryz.f69 [.int .u64 i1] R w := by kernel_rfl

theorem tontineref08_Cut.ok (i1 : Int) {R : Value → World → Prop} {w : World} (h : tontineref08_Cut.m i1 R w) : Calls Tryz.prog 69 #[.int .u64 i1] w fun e w' => ∃ v, e = .returned v ∧ R v w' :=
  @fn_sound Tryz.prog tontineref08_Cut.H 69 Tryz.f69 [.int .u64 i1] R w Tryz.mixed Tryz.func69 (by kernel_rfl) (by rw [← tontineref08_Cut.eq]; exact h)

set_option maxRecDepth 100000
/-- tontine/tontineref08.Entry -/
def tontineref08_Entry.m (Term : Int) (Index : Int) (Kind : Int) (Data : ByteArray) (R : Value → World → Prop) (w : World) : Prop :=
  (alD w (.cells #[.int .u64 Term, .int .u64 Index, .int .i64 Kind, .string Data] 69 (0, 0)) fun b1 w_ => (drewD w_ fun w_2 => (∃ v1 : Int, World.cell? w_2 ⟨b1, 0, none⟩ = some (.int .u64 v1) ∧ 
    (∃ v2 : Int, World.cell? w_2 ⟨b1, 1, none⟩ = some (.int .u64 v2) ∧ (∃ v3 : Int, World.cell? w_2 ⟨b1, 2, none⟩ = some (.int .i64 v3) ∧ 
    (∃ v4 : ByteArray, World.cell? w_2 ⟨b1, 3, none⟩ = some (.string v4) ∧ (alD w_2 (.cells #[.int .u64 2, .int .u64 v1, .int .u64 v2, .int .u64 (wu64 v3)] 38 (0, 0)) fun b2 w_3 => 
    World.cell? w_3 ⟨b1, 3, none⟩ = some (.string v4) ∧ World.cell? w_3 ⟨b1, 2, none⟩ = some (.int .i64 v3) ∧ (Calls Tryz.prog 65 #[.slice (some ⟨b2, 0, none⟩) 4 4] w_3 fun e_ w_4 => 
    (∃ r1 : ByteArray, e_ = .returned (.string r1) ∧ World.cell? w_4 ⟨b1, 3, none⟩ = some (.string v4) ∧ World.cell? w_4 ⟨b1, 2, none⟩ = some (.int .i64 v3) ∧ 
    (Calls Tryz.prog 66 #[.string v4] w_4 fun e_2 w_5 => (∃ r2 : ByteArray, e_2 = .returned (.string r2) ∧ World.cell? w_5 ⟨b1, 2, none⟩ = some (.int .i64 v3) ∧ (catD r1 r2 fun cat => 
    R (.string cat) w_5))))))))))))

def tontineref08_Entry.H : Hints := { nret := [], nld := [], loops := [], joins := [], unroll := [], plans := [(1, (.take 0 (.take 1 (.take 2 (.take 3 (.take 4 (.take 5 (.take 6 (.take 9 (.take 10 (.eff 7 (.eff 8 (.eff 11 (.take 12 (.take 13 .done)))))))))))))))], nx := [] }

theorem tontineref08_Entry.eq (Term : Int) (Index : Int) (Kind : Int) (Data : ByteArray) (R : Value → World → Prop) (w : World) : tontineref08_Entry.m Term Index Kind Data R w = fnD Tryz.prog tontineref08_Entry.H Tryz.f36 [.agg #[.int .u64 Term, .int .u64 Index, .int .i64 Kind, .string Data]] R w := by kernel_rfl

theorem tontineref08_Entry.ok (Term : Int) (Index : Int) (Kind : Int) (Data : ByteArray) {R : Value → World → Prop} {w : World} (h : tontineref08_Entry.m Term Index Kind Data R w) : Calls Tryz.prog 36 #[.agg #[.int .u64 Term, .int .u64 Index, .int .i64 Kind, .string Data]] w fun e w' => ∃ v, e = .returned v ∧ R v w' :=
  @fn_sound Tryz.prog tontineref08_Entry.H 36 Tryz.f36 [.agg #[.int .u64 Term, .int .u64 Index, .int .i64 Kind, .string Data]] R w Tryz.mixed Tryz.func36 (by kernel_rfl) (by rw [← tontineref08_Entry.eq]; exact h)

set_option maxRecDepth 100000
/-- tontine/tontineref08.Snap -/
def tontineref08_Snap.m (Index : Int) (Term : Int) (Config : Int) (Data : ByteArray) (R : Value → World → Prop) (w : World) : Prop :=
  (alD w (.cells #[.int .u64 Index, .int .u64 Term, .int .u64 Config, .string Data] 42 (0, 0)) fun b1 w_ => (drewD w_ fun w_2 => (∃ v1 : Int, World.cell? w_2 ⟨b1, 0, none⟩ = some (.int .u64 v1) ∧ 
    (∃ v2 : Int, World.cell? w_2 ⟨b1, 1, none⟩ = some (.int .u64 v2) ∧ (∃ v3 : Int, World.cell? w_2 ⟨b1, 2, none⟩ = some (.int .u64 v3) ∧ 
    (∃ v4 : ByteArray, World.cell? w_2 ⟨b1, 3, none⟩ = some (.string v4) ∧ (alD w_2 (.cells #[.int .u64 4, .int .u64 v1, .int .u64 v2, .int .u64 v3] 38 (0, 0)) fun b2 w_3 => 
    World.cell? w_3 ⟨b1, 3, none⟩ = some (.string v4) ∧ (Calls Tryz.prog 65 #[.slice (some ⟨b2, 0, none⟩) 4 4] w_3 fun e_ w_4 => (∃ r1 : ByteArray, e_ = .returned (.string r1) ∧ 
    World.cell? w_4 ⟨b1, 3, none⟩ = some (.string v4) ∧ (Calls Tryz.prog 66 #[.string v4] w_4 fun e_2 w_5 => (∃ r2 : ByteArray, e_2 = .returned (.string r2) ∧ (catD r1 r2 fun cat => 
    R (.string cat) w_5))))))))))))

def tontineref08_Snap.H : Hints := { nret := [], nld := [], loops := [], joins := [], unroll := [], plans := [(1, (.take 0 (.take 1 (.take 2 (.take 3 (.take 4 (.take 5 (.take 8 (.take 9 (.eff 6 (.eff 7 (.eff 10 (.take 11 (.take 12 .done))))))))))))))], nx := [] }

theorem tontineref08_Snap.eq (Index : Int) (Term : Int) (Config : Int) (Data : ByteArray) (R : Value → World → Prop) (w : World) : tontineref08_Snap.m Index Term Config Data R w = fnD Tryz.prog tontineref08_Snap.H Tryz.f35 [.agg #[.int .u64 Index, .int .u64 Term, .int .u64 Config, .string Data]] R w := by kernel_rfl

theorem tontineref08_Snap.ok (Index : Int) (Term : Int) (Config : Int) (Data : ByteArray) {R : Value → World → Prop} {w : World} (h : tontineref08_Snap.m Index Term Config Data R w) : Calls Tryz.prog 35 #[.agg #[.int .u64 Index, .int .u64 Term, .int .u64 Config, .string Data]] w fun e w' => ∃ v, e = .returned v ∧ R v w' :=
  @fn_sound Tryz.prog tontineref08_Snap.H 35 Tryz.f35 [.agg #[.int .u64 Index, .int .u64 Term, .int .u64 Config, .string Data]] R w Tryz.mixed Tryz.func35 (by kernel_rfl) (by rw [← tontineref08_Snap.eq]; exact h)

set_option maxRecDepth 100000
/-- tontine/tontineref08.take -/
def tontineref08_take.m (HardTerm : Int) (HardVote : Int) (SnapIndex : Int) (SnapTerm : Int) (SnapConfig : Int) (SnapData : ByteArray) (Entriesa : Option Addr) (Entriesn Entriesc : Nat) (i1 : ByteArray) (R : Value → World → Prop) (w : World) : Prop :=
  (alD w (.cells #[.int .u64 HardTerm, .int .i64 HardVote, .int .u64 SnapIndex, .int .u64 SnapTerm, .int .u64 SnapConfig, .string SnapData, .slice Entriesa Entriesn Entriesc] 53 (0, 0)) fun b1 w_ => 
    (alD w_ (.cells #[.int .u64 0, .int .i64 0, .int .u64 0, .int .u64 0, .int .u64 0, .string ⟨#[]⟩, .slice none 0 0] 53 (0, 0)) fun b2 w_2 => 
    (alD w_2 (.cells #[.string i1, .bool false] 155 (0, 0)) fun b3 w_3 => (Calls Tryz.prog 83 #[pv b3 0] w_3 fun e_ w_4 => (∃ r1 : Int, e_ = .returned (.int .u64 r1) ∧ (bif (r1 == 1) then 
    (Calls Tryz.prog 83 #[pv b3 0] w_4 fun e_2 w_5 => (∃ r2 : Int, e_2 = .returned (.int .u64 r2) ∧ (stD w_5 b1 0 [.int .u64 r2] fun w_6 => 
    (Calls Tryz.prog 84 #[pv b3 0, .int .i64 7] w_6 fun e_3 w_7 => (∃ r3 : Int, e_3 = .returned (.int .i64 r3) ∧ (stD w_7 b1 1 [.int .i64 (w64 (r3 - 1))] fun w_8 => (drewD w_8 fun w_9 => 
    (∃ HardTerm2 : Int, ∃ HardVote2 : Int, ∃ SnapIndex2 : Int, ∃ SnapTerm2 : Int, ∃ SnapConfig2 : Int, ∃ SnapData2 : ByteArray, ∃ (Entriesa2 : Option Addr) (Entriesn2 Entriesc2 : Nat), rdRow w_9 b1 0 [.int .u64 HardTerm2, .int .i64 HardVote2, .int .u64 SnapIndex2, .int .u64 SnapTerm2, .int .u64 SnapConfig2, .string SnapData2, .slice Entriesa2 Entriesn2 Entriesc2] ∧ 
    (∃ v1 : Bool, World.cell? w_9 ⟨b3, 1, none⟩ = some (.bool v1) ∧ (bif (!v1) then (∃ v2 : ByteArray, World.cell? w_9 ⟨b3, 0, none⟩ = some (.string v2) ∧ 
    (stD w_9 b2 0 [.int .u64 HardTerm2, .int .i64 HardVote2, .int .u64 SnapIndex2, .int .u64 SnapTerm2, .int .u64 SnapConfig2, .string SnapData2, .slice Entriesa2 Entriesn2 Entriesc2] fun w_10 => 
    World.cell? w_10 ⟨b3, 0, none⟩ = some (.string v2) ∧ World.cell? w_10 ⟨b3, 1, none⟩ = some (.bool v1) ∧ 
    (∃ HardTerm3 : Int, ∃ HardVote3 : Int, ∃ SnapIndex3 : Int, ∃ SnapTerm3 : Int, ∃ SnapConfig3 : Int, ∃ SnapData3 : ByteArray, ∃ (Entriesa3 : Option Addr) (Entriesn3 Entriesc3 : Nat), rdRow w_10 b2 0 [.int .u64 HardTerm3, .int .i64 HardVote3, .int .u64 SnapIndex3, .int .u64 SnapTerm3, .int .u64 SnapConfig3, .string SnapData3, .slice Entriesa3 Entriesn3 Entriesc3] ∧ 
    R (.tuple #[.agg #[.int .u64 HardTerm3, .int .i64 HardVote3, .int .u64 SnapIndex3, .int .u64 SnapTerm3, .int .u64 SnapConfig3, .string SnapData3, .slice Entriesa3 Entriesn3 Entriesc3], .bool (strEq v2 ⟨#[]⟩)]) w_10)))
     else (stD w_9 b2 0 [.int .u64 HardTerm2, .int .i64 HardVote2, .int .u64 SnapIndex2, .int .u64 SnapTerm2, .int .u64 SnapConfig2, .string SnapData2, .slice Entriesa2 Entriesn2 Entriesc2] fun w_11 => 
    World.cell? w_11 ⟨b3, 1, none⟩ = some (.bool v1) ∧ 
    (∃ HardTerm4 : Int, ∃ HardVote4 : Int, ∃ SnapIndex4 : Int, ∃ SnapTerm4 : Int, ∃ SnapConfig4 : Int, ∃ SnapData4 : ByteArray, ∃ (Entriesa4 : Option Addr) (Entriesn4 Entriesc4 : Nat), rdRow w_11 b2 0 [.int .u64 HardTerm4, .int .i64 HardVote4, .int .u64 SnapIndex4, .int .u64 SnapTerm4, .int .u64 SnapConfig4, .string SnapData4, .slice Entriesa4 Entriesn4 Entriesc4] ∧ 
    R (.tuple #[.agg #[.int .u64 HardTerm4, .int .i64 HardVote4, .int .u64 SnapIndex4, .int .u64 SnapTerm4, .int .u64 SnapConfig4, .string SnapData4, .slice Entriesa4 Entriesn4 Entriesc4], .bool false]) w_11))))))))))))
     else (bif (r1 == 2) then (Calls Tryz.prog 83 #[pv b3 0] w_4 fun e_4 w_12 => (∃ r4 : Int, e_4 = .returned (.int .u64 r4) ∧ 
    (alD w_12 (.cells #[.int .u64 0, .int .u64 0, .int .i64 0, .string ⟨#[]⟩] 69 (0, 0)) fun b4 w_13 => (stD w_13 b4 0 [.int .u64 r4, .int .u64 0, .int .i64 0, .string ⟨#[]⟩] fun w_14 => 
    (Calls Tryz.prog 83 #[pv b3 0] w_14 fun e_5 w_15 => (∃ r5 : Int, e_5 = .returned (.int .u64 r5) ∧ (stD w_15 b4 1 [.int .u64 r5] fun w_16 => 
    (Calls Tryz.prog 84 #[pv b3 0, .int .i64 2] w_16 fun e_6 w_17 => (∃ r6 : Int, e_6 = .returned (.int .i64 r6) ∧ (stD w_17 b4 2 [.int .i64 r6] fun w_18 => 
    (Calls Tryz.prog 85 #[pv b3 0, .int .i64 65536] w_18 fun e_7 w_19 => (∃ r7 : ByteArray, e_7 = .returned (.string r7) ∧ (stD w_19 b4 3 [.string r7] fun w_20 => (drewD w_20 fun w_21 => 
    (∃ (va : Option Addr) (vn vc : Nat), World.cell? w_21 ⟨b1, 6, none⟩ = some (.slice va vn vc) ∧ 
    (∃ Term : Int, ∃ Index : Int, ∃ Kind : Int, ∃ Data : ByteArray, rdRow w_21 b4 0 [.int .u64 Term, .int .u64 Index, .int .i64 Kind, .string Data] ∧ 
    ((exSl Tryz.prog (Builtin.append_ #[43, 43] 43 #[.slice none 0 0, .slice va vn vc]) (fun sa sn sc w_22 => rdRow w_22 b4 0 [.int .u64 Term, .int .u64 Index, .int .i64 Kind, .string Data] ∧ 
    (alD w_22 (.cells #[.int .u64 Term, .int .u64 Index, .int .i64 Kind, .string Data] 69 (0, 0)) fun b5 w_23 => 
    (exSl Tryz.prog (Builtin.append_ #[43, 43] 43 #[.slice sa sn sc, .slice (some ⟨b5, 0, none⟩) 1 1]) (fun sa2 sn2 sc2 w_24 => (stD w_24 b1 6 [.slice sa2 sn2 sc2] fun w_25 => (drewD w_25 fun w_26 => 
    (∃ HardTerm5 : Int, ∃ HardVote5 : Int, ∃ SnapIndex5 : Int, ∃ SnapTerm5 : Int, ∃ SnapConfig5 : Int, ∃ SnapData5 : ByteArray, ∃ (Entriesa5 : Option Addr) (Entriesn5 Entriesc5 : Nat), rdRow w_26 b1 0 [.int .u64 HardTerm5, .int .i64 HardVote5, .int .u64 SnapIndex5, .int .u64 SnapTerm5, .int .u64 SnapConfig5, .string SnapData5, .slice Entriesa5 Entriesn5 Entriesc5] ∧ 
    (∃ v3 : Bool, World.cell? w_26 ⟨b3, 1, none⟩ = some (.bool v3) ∧ (bif (!v3) then (∃ v4 : ByteArray, World.cell? w_26 ⟨b3, 0, none⟩ = some (.string v4) ∧ 
    (stD w_26 b2 0 [.int .u64 HardTerm5, .int .i64 HardVote5, .int .u64 SnapIndex5, .int .u64 SnapTerm5, .int .u64 SnapConfig5, .string SnapData5, .slice Entriesa5 Entriesn5 Entriesc5] fun w_27 => 
    World.cell? w_27 ⟨b3, 0, none⟩ = some (.string v4) ∧ World.cell? w_27 ⟨b3, 1, none⟩ = some (.bool v3) ∧ 
    (∃ HardTerm6 : Int, ∃ HardVote6 : Int, ∃ SnapIndex6 : Int, ∃ SnapTerm6 : Int, ∃ SnapConfig6 : Int, ∃ SnapData6 : ByteArray, ∃ (Entriesa6 : Option Addr) (Entriesn6 Entriesc6 : Nat), rdRow w_27 b2 0 [.int .u64 HardTerm6, .int .i64 HardVote6, .int .u64 SnapIndex6, .int .u64 SnapTerm6, .int .u64 SnapConfig6, .string SnapData6, .slice Entriesa6 Entriesn6 Entriesc6] ∧ 
    R (.tuple #[.agg #[.int .u64 HardTerm6, .int .i64 HardVote6, .int .u64 SnapIndex6, .int .u64 SnapTerm6, .int .u64 SnapConfig6, .string SnapData6, .slice Entriesa6 Entriesn6 Entriesc6], .bool (strEq v4 ⟨#[]⟩)]) w_27)))
     else (stD w_26 b2 0 [.int .u64 HardTerm5, .int .i64 HardVote5, .int .u64 SnapIndex5, .int .u64 SnapTerm5, .int .u64 SnapConfig5, .string SnapData5, .slice Entriesa5 Entriesn5 Entriesc5] fun w_28 => 
    World.cell? w_28 ⟨b3, 1, none⟩ = some (.bool v3) ∧ 
    (∃ HardTerm7 : Int, ∃ HardVote7 : Int, ∃ SnapIndex7 : Int, ∃ SnapTerm7 : Int, ∃ SnapConfig7 : Int, ∃ SnapData7 : ByteArray, ∃ (Entriesa7 : Option Addr) (Entriesn7 Entriesc7 : Nat), rdRow w_28 b2 0 [.int .u64 HardTerm7, .int .i64 HardVote7, .int .u64 SnapIndex7, .int .u64 SnapTerm7, .int .u64 SnapConfig7, .string SnapData7, .slice Entriesa7 Entriesn7 Entriesc7] ∧ 
    R (.tuple #[.agg #[.int .u64 HardTerm7, .int .i64 HardVote7, .int .u64 SnapIndex7, .int .u64 SnapTerm7, .int .u64 SnapConfig7, .string SnapData7, .slice Entriesa7 Entriesn7 Entriesc7], .bool false]) w_28)))))))) w_23))) w_21) ∧ 
    (alD w_21 (.cells #[.int .u64 Term, .int .u64 Index, .int .i64 Kind, .string Data] 69 (0, 0)) fun b6 w_29 => World.cell? w_29 ⟨b1, 6, none⟩ = some (.slice va vn vc) ∧ 
    (exSl Tryz.prog (Builtin.append_ #[43, 43] 43 #[.slice none 0 0, .slice va vn vc]) (fun sa3 sn3 sc3 w_30 => 
    (exSl Tryz.prog (Builtin.append_ #[43, 43] 43 #[.slice sa3 sn3 sc3, .slice (some ⟨b6, 0, none⟩) 1 1]) (fun sa4 sn4 sc4 w_31 => (stD w_31 b1 6 [.slice sa4 sn4 sc4] fun w_32 => 
    (drewD w_32 fun w_33 => 
    (∃ HardTerm8 : Int, ∃ HardVote8 : Int, ∃ SnapIndex8 : Int, ∃ SnapTerm8 : Int, ∃ SnapConfig8 : Int, ∃ SnapData8 : ByteArray, ∃ (Entriesa8 : Option Addr) (Entriesn8 Entriesc8 : Nat), rdRow w_33 b1 0 [.int .u64 HardTerm8, .int .i64 HardVote8, .int .u64 SnapIndex8, .int .u64 SnapTerm8, .int .u64 SnapConfig8, .string SnapData8, .slice Entriesa8 Entriesn8 Entriesc8] ∧ 
    (∃ v5 : Bool, World.cell? w_33 ⟨b3, 1, none⟩ = some (.bool v5) ∧ (bif (!v5) then (∃ v6 : ByteArray, World.cell? w_33 ⟨b3, 0, none⟩ = some (.string v6) ∧ 
    (stD w_33 b2 0 [.int .u64 HardTerm8, .int .i64 HardVote8, .int .u64 SnapIndex8, .int .u64 SnapTerm8, .int .u64 SnapConfig8, .string SnapData8, .slice Entriesa8 Entriesn8 Entriesc8] fun w_34 => 
    World.cell? w_34 ⟨b3, 0, none⟩ = some (.string v6) ∧ World.cell? w_34 ⟨b3, 1, none⟩ = some (.bool v5) ∧ 
    (∃ HardTerm9 : Int, ∃ HardVote9 : Int, ∃ SnapIndex9 : Int, ∃ SnapTerm9 : Int, ∃ SnapConfig9 : Int, ∃ SnapData9 : ByteArray, ∃ (Entriesa9 : Option Addr) (Entriesn9 Entriesc9 : Nat), rdRow w_34 b2 0 [.int .u64 HardTerm9, .int .i64 HardVote9, .int .u64 SnapIndex9, .int .u64 SnapTerm9, .int .u64 SnapConfig9, .string SnapData9, .slice Entriesa9 Entriesn9 Entriesc9] ∧ 
    R (.tuple #[.agg #[.int .u64 HardTerm9, .int .i64 HardVote9, .int .u64 SnapIndex9, .int .u64 SnapTerm9, .int .u64 SnapConfig9, .string SnapData9, .slice Entriesa9 Entriesn9 Entriesc9], .bool (strEq v6 ⟨#[]⟩)]) w_34)))
     else (stD w_33 b2 0 [.int .u64 HardTerm8, .int .i64 HardVote8, .int .u64 SnapIndex8, .int .u64 SnapTerm8, .int .u64 SnapConfig8, .string SnapData8, .slice Entriesa8 Entriesn8 Entriesc8] fun w_35 => 
    World.cell? w_35 ⟨b3, 1, none⟩ = some (.bool v5) ∧ 
    (∃ HardTerm10 : Int, ∃ HardVote10 : Int, ∃ SnapIndex10 : Int, ∃ SnapTerm10 : Int, ∃ SnapConfig10 : Int, ∃ SnapData10 : ByteArray, ∃ (Entriesa10 : Option Addr) (Entriesn10 Entriesc10 : Nat), rdRow w_35 b2 0 [.int .u64 HardTerm10, .int .i64 HardVote10, .int .u64 SnapIndex10, .int .u64 SnapTerm10, .int .u64 SnapConfig10, .string SnapData10, .slice Entriesa10 Entriesn10 Entriesc10] ∧ 
    R (.tuple #[.agg #[.int .u64 HardTerm10, .int .i64 HardVote10, .int .u64 SnapIndex10, .int .u64 SnapTerm10, .int .u64 SnapConfig10, .string SnapData10, .slice Entriesa10 Entriesn10 Entriesc10], .bool false]) w_35)))))))) w_30)) w_29)))))))))))))))))))
     else (bif (r1 == 3) then (Calls Tryz.prog 83 #[pv b3 0] w_4 fun e_8 w_36 => (∃ r8 : Int, e_8 = .returned (.int .u64 r8) ∧ 
    (∃ (I1 : Option Addr → Nat → Nat → Int → World → Prop) (M1 : Option Addr → Nat → Nat → Int → World → Nat), I1 none 0 0 0 w_36 ∧ 
    ∀ (jk : Env) (aa : Option Addr) (an ac : Nat) (y1 : Int) (w_37 : World), I1 aa an ac y1 w_37 → (∃ (va2 : Option Addr) (vn2 vc2 : Nat), World.cell? w_37 ⟨b1, 6, none⟩ = some (.slice va2 vn2 vc2) ∧ 
    (bif (decide (y1 < (vn2 : Int))) then (∃ (va3 : Option Addr) (vn3 vc3 : Nat), World.cell? w_37 ⟨b1, 6, none⟩ = some (.slice va3 vn3 vc3) ∧ (∃ b7 o1 : Nat, va3 = some ⟨b7, o1, none⟩ ∧ 
    (0 : Int) ≤ y1 ∧ y1 < (vn3 : Int) ∧ (∃ v7 : Int, World.cell? w_37 ⟨b7, ((o1 + (y1 : Int).toNat * 4) + 1), none⟩ = some (.int .u64 v7) ∧ (bif (decide (v7 < r8)) then 
    (∃ (va4 : Option Addr) (vn4 vc4 : Nat), World.cell? w_37 ⟨b1, 6, none⟩ = some (.slice va4 vn4 vc4) ∧ (∃ b8 o2 : Nat, va4 = some ⟨b8, o2, none⟩ ∧ (0 : Int) ≤ y1 ∧ y1 < (vn4 : Int) ∧ 
    (∃ Term2 : Int, ∃ Index2 : Int, ∃ Kind2 : Int, ∃ Data2 : ByteArray, rdRow w_37 b8 (o2 + (y1 : Int).toNat * 4) [.int .u64 Term2, .int .u64 Index2, .int .i64 Kind2, .string Data2] ∧ 
    (alD w_37 (.cells #[.int .u64 Term2, .int .u64 Index2, .int .i64 Kind2, .string Data2] 69 (0, 0)) fun b9 w_38 => 
    (exSl Tryz.prog (Builtin.append_ #[43, 43] 43 #[.slice aa an ac, .slice (some ⟨b9, 0, none⟩) 1 1]) (fun sa5 sn5 sc5 w_39 => (I1 sa5 sn5 sc5 (w64 (y1 + 1)) w_39 ∧ 
    M1 sa5 sn5 sc5 (w64 (y1 + 1)) w_39 < M1 aa an ac y1 w_37)) w_38))))) else (stD w_37 b1 6 [.slice aa an ac] fun w_40 => (drewD w_40 fun w_41 => 
    (∃ HardTerm11 : Int, ∃ HardVote11 : Int, ∃ SnapIndex11 : Int, ∃ SnapTerm11 : Int, ∃ SnapConfig11 : Int, ∃ SnapData11 : ByteArray, ∃ (Entriesa11 : Option Addr) (Entriesn11 Entriesc11 : Nat), rdRow w_41 b1 0 [.int .u64 HardTerm11, .int .i64 HardVote11, .int .u64 SnapIndex11, .int .u64 SnapTerm11, .int .u64 SnapConfig11, .string SnapData11, .slice Entriesa11 Entriesn11 Entriesc11] ∧ 
    (∃ v8 : Bool, World.cell? w_41 ⟨b3, 1, none⟩ = some (.bool v8) ∧ (bif (!v8) then (∃ v9 : ByteArray, World.cell? w_41 ⟨b3, 0, none⟩ = some (.string v9) ∧ 
    (stD w_41 b2 0 [.int .u64 HardTerm11, .int .i64 HardVote11, .int .u64 SnapIndex11, .int .u64 SnapTerm11, .int .u64 SnapConfig11, .string SnapData11, .slice Entriesa11 Entriesn11 Entriesc11] fun w_42 => 
    World.cell? w_42 ⟨b3, 0, none⟩ = some (.string v9) ∧ World.cell? w_42 ⟨b3, 1, none⟩ = some (.bool v8) ∧ 
    (∃ HardTerm12 : Int, ∃ HardVote12 : Int, ∃ SnapIndex12 : Int, ∃ SnapTerm12 : Int, ∃ SnapConfig12 : Int, ∃ SnapData12 : ByteArray, ∃ (Entriesa12 : Option Addr) (Entriesn12 Entriesc12 : Nat), rdRow w_42 b2 0 [.int .u64 HardTerm12, .int .i64 HardVote12, .int .u64 SnapIndex12, .int .u64 SnapTerm12, .int .u64 SnapConfig12, .string SnapData12, .slice Entriesa12 Entriesn12 Entriesc12] ∧ 
    R (.tuple #[.agg #[.int .u64 HardTerm12, .int .i64 HardVote12, .int .u64 SnapIndex12, .int .u64 SnapTerm12, .int .u64 SnapConfig12, .string SnapData12, .slice Entriesa12 Entriesn12 Entriesc12], .bool (strEq v9 ⟨#[]⟩)]) w_42)))
     else (stD w_41 b2 0 [.int .u64 HardTerm11, .int .i64 HardVote11, .int .u64 SnapIndex11, .int .u64 SnapTerm11, .int .u64 SnapConfig11, .string SnapData11, .slice Entriesa11 Entriesn11 Entriesc11] fun w_43 => 
    World.cell? w_43 ⟨b3, 1, none⟩ = some (.bool v8) ∧ 
    (∃ HardTerm13 : Int, ∃ HardVote13 : Int, ∃ SnapIndex13 : Int, ∃ SnapTerm13 : Int, ∃ SnapConfig13 : Int, ∃ SnapData13 : ByteArray, ∃ (Entriesa13 : Option Addr) (Entriesn13 Entriesc13 : Nat), rdRow w_43 b2 0 [.int .u64 HardTerm13, .int .i64 HardVote13, .int .u64 SnapIndex13, .int .u64 SnapTerm13, .int .u64 SnapConfig13, .string SnapData13, .slice Entriesa13 Entriesn13 Entriesc13] ∧ 
    R (.tuple #[.agg #[.int .u64 HardTerm13, .int .i64 HardVote13, .int .u64 SnapIndex13, .int .u64 SnapTerm13, .int .u64 SnapConfig13, .string SnapData13, .slice Entriesa13 Entriesn13 Entriesc13], .bool false]) w_43)))))))))))
     else (stD w_37 b1 6 [.slice aa an ac] fun w_44 => (drewD w_44 fun w_45 => 
    (∃ HardTerm14 : Int, ∃ HardVote14 : Int, ∃ SnapIndex14 : Int, ∃ SnapTerm14 : Int, ∃ SnapConfig14 : Int, ∃ SnapData14 : ByteArray, ∃ (Entriesa14 : Option Addr) (Entriesn14 Entriesc14 : Nat), rdRow w_45 b1 0 [.int .u64 HardTerm14, .int .i64 HardVote14, .int .u64 SnapIndex14, .int .u64 SnapTerm14, .int .u64 SnapConfig14, .string SnapData14, .slice Entriesa14 Entriesn14 Entriesc14] ∧ 
    (∃ v10 : Bool, World.cell? w_45 ⟨b3, 1, none⟩ = some (.bool v10) ∧ (bif (!v10) then (∃ v11 : ByteArray, World.cell? w_45 ⟨b3, 0, none⟩ = some (.string v11) ∧ 
    (stD w_45 b2 0 [.int .u64 HardTerm14, .int .i64 HardVote14, .int .u64 SnapIndex14, .int .u64 SnapTerm14, .int .u64 SnapConfig14, .string SnapData14, .slice Entriesa14 Entriesn14 Entriesc14] fun w_46 => 
    World.cell? w_46 ⟨b3, 0, none⟩ = some (.string v11) ∧ World.cell? w_46 ⟨b3, 1, none⟩ = some (.bool v10) ∧ 
    (∃ HardTerm15 : Int, ∃ HardVote15 : Int, ∃ SnapIndex15 : Int, ∃ SnapTerm15 : Int, ∃ SnapConfig15 : Int, ∃ SnapData15 : ByteArray, ∃ (Entriesa15 : Option Addr) (Entriesn15 Entriesc15 : Nat), rdRow w_46 b2 0 [.int .u64 HardTerm15, .int .i64 HardVote15, .int .u64 SnapIndex15, .int .u64 SnapTerm15, .int .u64 SnapConfig15, .string SnapData15, .slice Entriesa15 Entriesn15 Entriesc15] ∧ 
    R (.tuple #[.agg #[.int .u64 HardTerm15, .int .i64 HardVote15, .int .u64 SnapIndex15, .int .u64 SnapTerm15, .int .u64 SnapConfig15, .string SnapData15, .slice Entriesa15 Entriesn15 Entriesc15], .bool (strEq v11 ⟨#[]⟩)]) w_46)))
     else (stD w_45 b2 0 [.int .u64 HardTerm14, .int .i64 HardVote14, .int .u64 SnapIndex14, .int .u64 SnapTerm14, .int .u64 SnapConfig14, .string SnapData14, .slice Entriesa14 Entriesn14 Entriesc14] fun w_47 => 
    World.cell? w_47 ⟨b3, 1, none⟩ = some (.bool v10) ∧ 
    (∃ HardTerm16 : Int, ∃ HardVote16 : Int, ∃ SnapIndex16 : Int, ∃ SnapTerm16 : Int, ∃ SnapConfig16 : Int, ∃ SnapData16 : ByteArray, ∃ (Entriesa16 : Option Addr) (Entriesn16 Entriesc16 : Nat), rdRow w_47 b2 0 [.int .u64 HardTerm16, .int .i64 HardVote16, .int .u64 SnapIndex16, .int .u64 SnapTerm16, .int .u64 SnapConfig16, .string SnapData16, .slice Entriesa16 Entriesn16 Entriesc16] ∧ 
    R (.tuple #[.agg #[.int .u64 HardTerm16, .int .i64 HardVote16, .int .u64 SnapIndex16, .int .u64 SnapTerm16, .int .u64 SnapConfig16, .string SnapData16, .slice Entriesa16 Entriesn16 Entriesc16], .bool false]) w_47))))))))))))
     else (bif (r1 == 4) then (Calls Tryz.prog 83 #[pv b3 0] w_4 fun e_9 w_48 => (∃ r9 : Int, e_9 = .returned (.int .u64 r9) ∧ (stD w_48 b1 2 [.int .u64 r9] fun w_49 => 
    (Calls Tryz.prog 83 #[pv b3 0] w_49 fun e_10 w_50 => (∃ r10 : Int, e_10 = .returned (.int .u64 r10) ∧ (stD w_50 b1 3 [.int .u64 r10] fun w_51 => (Calls Tryz.prog 83 #[pv b3 0] w_51 fun e_11 w_52 => 
    (∃ r11 : Int, e_11 = .returned (.int .u64 r11) ∧ (stD w_52 b1 4 [.int .u64 r11] fun w_53 => (Calls Tryz.prog 85 #[pv b3 0, .int .i64 65536] w_53 fun e_12 w_54 => 
    (∃ r12 : ByteArray, e_12 = .returned (.string r12) ∧ (stD w_54 b1 5 [.string r12] fun w_55 => (stD w_55 b1 6 [.slice none 0 0] fun w_56 => (drewD w_56 fun w_57 => 
    (∃ HardTerm17 : Int, ∃ HardVote17 : Int, ∃ SnapIndex17 : Int, ∃ SnapTerm17 : Int, ∃ SnapConfig17 : Int, ∃ SnapData17 : ByteArray, ∃ (Entriesa17 : Option Addr) (Entriesn17 Entriesc17 : Nat), rdRow w_57 b1 0 [.int .u64 HardTerm17, .int .i64 HardVote17, .int .u64 SnapIndex17, .int .u64 SnapTerm17, .int .u64 SnapConfig17, .string SnapData17, .slice Entriesa17 Entriesn17 Entriesc17] ∧ 
    (∃ v12 : Bool, World.cell? w_57 ⟨b3, 1, none⟩ = some (.bool v12) ∧ (bif (!v12) then (∃ v13 : ByteArray, World.cell? w_57 ⟨b3, 0, none⟩ = some (.string v13) ∧ 
    (stD w_57 b2 0 [.int .u64 HardTerm17, .int .i64 HardVote17, .int .u64 SnapIndex17, .int .u64 SnapTerm17, .int .u64 SnapConfig17, .string SnapData17, .slice Entriesa17 Entriesn17 Entriesc17] fun w_58 => 
    World.cell? w_58 ⟨b3, 0, none⟩ = some (.string v13) ∧ World.cell? w_58 ⟨b3, 1, none⟩ = some (.bool v12) ∧ 
    (∃ HardTerm18 : Int, ∃ HardVote18 : Int, ∃ SnapIndex18 : Int, ∃ SnapTerm18 : Int, ∃ SnapConfig18 : Int, ∃ SnapData18 : ByteArray, ∃ (Entriesa18 : Option Addr) (Entriesn18 Entriesc18 : Nat), rdRow w_58 b2 0 [.int .u64 HardTerm18, .int .i64 HardVote18, .int .u64 SnapIndex18, .int .u64 SnapTerm18, .int .u64 SnapConfig18, .string SnapData18, .slice Entriesa18 Entriesn18 Entriesc18] ∧ 
    R (.tuple #[.agg #[.int .u64 HardTerm18, .int .i64 HardVote18, .int .u64 SnapIndex18, .int .u64 SnapTerm18, .int .u64 SnapConfig18, .string SnapData18, .slice Entriesa18 Entriesn18 Entriesc18], .bool (strEq v13 ⟨#[]⟩)]) w_58)))
     else (stD w_57 b2 0 [.int .u64 HardTerm17, .int .i64 HardVote17, .int .u64 SnapIndex17, .int .u64 SnapTerm17, .int .u64 SnapConfig17, .string SnapData17, .slice Entriesa17 Entriesn17 Entriesc17] fun w_59 => 
    World.cell? w_59 ⟨b3, 1, none⟩ = some (.bool v12) ∧ 
    (∃ HardTerm19 : Int, ∃ HardVote19 : Int, ∃ SnapIndex19 : Int, ∃ SnapTerm19 : Int, ∃ SnapConfig19 : Int, ∃ SnapData19 : ByteArray, ∃ (Entriesa19 : Option Addr) (Entriesn19 Entriesc19 : Nat), rdRow w_59 b2 0 [.int .u64 HardTerm19, .int .i64 HardVote19, .int .u64 SnapIndex19, .int .u64 SnapTerm19, .int .u64 SnapConfig19, .string SnapData19, .slice Entriesa19 Entriesn19 Entriesc19] ∧ 
    R (.tuple #[.agg #[.int .u64 HardTerm19, .int .i64 HardVote19, .int .u64 SnapIndex19, .int .u64 SnapTerm19, .int .u64 SnapConfig19, .string SnapData19, .slice Entriesa19 Entriesn19 Entriesc19], .bool false]) w_59)))))))))))))))))))
     else (∃ HardTerm20 : Int, ∃ HardVote20 : Int, ∃ SnapIndex20 : Int, ∃ SnapTerm20 : Int, ∃ SnapConfig20 : Int, ∃ SnapData20 : ByteArray, ∃ (Entriesa20 : Option Addr) (Entriesn20 Entriesc20 : Nat), rdRow w_4 b1 0 [.int .u64 HardTerm20, .int .i64 HardVote20, .int .u64 SnapIndex20, .int .u64 SnapTerm20, .int .u64 SnapConfig20, .string SnapData20, .slice Entriesa20 Entriesn20 Entriesc20] ∧ 
    (stD w_4 b2 0 [.int .u64 HardTerm20, .int .i64 HardVote20, .int .u64 SnapIndex20, .int .u64 SnapTerm20, .int .u64 SnapConfig20, .string SnapData20, .slice Entriesa20 Entriesn20 Entriesc20] fun w_60 => 
    (∃ HardTerm21 : Int, ∃ HardVote21 : Int, ∃ SnapIndex21 : Int, ∃ SnapTerm21 : Int, ∃ SnapConfig21 : Int, ∃ SnapData21 : ByteArray, ∃ (Entriesa21 : Option Addr) (Entriesn21 Entriesc21 : Nat), rdRow w_60 b2 0 [.int .u64 HardTerm21, .int .i64 HardVote21, .int .u64 SnapIndex21, .int .u64 SnapTerm21, .int .u64 SnapConfig21, .string SnapData21, .slice Entriesa21 Entriesn21 Entriesc21] ∧ 
    R (.tuple #[.agg #[.int .u64 HardTerm21, .int .i64 HardVote21, .int .u64 SnapIndex21, .int .u64 SnapTerm21, .int .u64 SnapConfig21, .string SnapData21, .slice Entriesa21 Entriesn21 Entriesc21], .bool false]) w_60))))))))))))

def tontineref08_take.H : Hints := { nret := [], nld := [], loops := [(18, [(10, .slice), (11, .int .i64)])], joins := [], unroll := [], plans := [(28, (.take 0 (.take 1 (.take 2 (.take 3 (.take 4 (.take 5 (.take 6 (.take 7 (.take 8 (.take 9 (.take 10 (.take 11 (.take 12 (.eff 13 (.take 14 .done)))))))))))))))), (13, (.take 0 (.take 1 (.take 3 (.both 2 (.eff 4 (.eff 5 (.take 6 (.eff 7 .done)))) 4 (.eff 2 (.eff 5 (.take 6 (.eff 7 .done)))))))))], nx := [] }

theorem tontineref08_take.eq (HardTerm : Int) (HardVote : Int) (SnapIndex : Int) (SnapTerm : Int) (SnapConfig : Int) (SnapData : ByteArray) (Entriesa : Option Addr) (Entriesn Entriesc : Nat) (i1 : ByteArray) (R : Value → World → Prop) (w : World) : tontineref08_take.m HardTerm HardVote SnapIndex SnapTerm SnapConfig SnapData Entriesa Entriesn Entriesc i1 R w = fnD Tryz.prog tontineref08_take.H Tryz.f58 [.agg #[.int .u64 HardTerm, .int .i64 HardVote, .int .u64 SnapIndex, .int .u64 SnapTerm, .int .u64 SnapConfig, .string SnapData, .slice Entriesa Entriesn Entriesc], .string i1] R w := by kernel_rfl

theorem tontineref08_take.ok (HardTerm : Int) (HardVote : Int) (SnapIndex : Int) (SnapTerm : Int) (SnapConfig : Int) (SnapData : ByteArray) (Entriesa : Option Addr) (Entriesn Entriesc : Nat) (i1 : ByteArray) {R : Value → World → Prop} {w : World} (h : tontineref08_take.m HardTerm HardVote SnapIndex SnapTerm SnapConfig SnapData Entriesa Entriesn Entriesc i1 R w) : Calls Tryz.prog 58 #[.agg #[.int .u64 HardTerm, .int .i64 HardVote, .int .u64 SnapIndex, .int .u64 SnapTerm, .int .u64 SnapConfig, .string SnapData, .slice Entriesa Entriesn Entriesc], .string i1] w fun e w' => ∃ v, e = .returned v ∧ R v w' :=
  @fn_sound Tryz.prog tontineref08_take.H 58 Tryz.f58 [.agg #[.int .u64 HardTerm, .int .i64 HardVote, .int .u64 SnapIndex, .int .u64 SnapTerm, .int .u64 SnapConfig, .string SnapData, .slice Entriesa Entriesn Entriesc], .string i1] R w Tryz.mixed Tryz.func58 (by kernel_rfl) (by rw [← tontineref08_take.eq]; exact h)

set_option maxRecDepth 100000
/-- tontine/tontineref08.Right -/
def tontineref08_Right.m (HardTerm : Int) (HardVote : Int) (SnapIndex : Int) (SnapTerm : Int) (SnapConfig : Int) (SnapData : ByteArray) (Entriesa : Option Addr) (Entriesn Entriesc : Nat) (R : Value → World → Prop) (w : World) : Prop :=
  (alD w (.cells #[.int .u64 HardTerm, .int .i64 HardVote, .int .u64 SnapIndex, .int .u64 SnapTerm, .int .u64 SnapConfig, .string SnapData, .slice Entriesa Entriesn Entriesc] 53 (0, 0)) fun b1 w_ => 
    (∃ Index : Int, ∃ Term : Int, ∃ Config : Int, ∃ Data : ByteArray, rdRow w_ b1 2 [.int .u64 Index, .int .u64 Term, .int .u64 Config, .string Data] ∧ 
    (∃ (va : Option Addr) (vn vc : Nat), World.cell? w_ ⟨b1, 6, none⟩ = some (.slice va vn vc) ∧ 
    (Calls Tryz.prog 64 #[.agg #[.int .u64 Index, .int .u64 Term, .int .u64 Config, .string Data], .slice va vn vc] w_ fun e_ w_2 => 
    (((∃ r1 : Int, e_ = .returned (.tuple #[.pointer none, .int .i64 r1]) ∧ (bif (r1 == 0) then (∃ v1 : Int, World.cell? w_2 ⟨b1, 1, none⟩ = some (.int .i64 v1) ∧ (bif (decide (v1 ≥ (-1))) then 
    (∃ v2 : Int, World.cell? w_2 ⟨b1, 1, none⟩ = some (.int .i64 v2) ∧ R (.bool (decide (v2 ≤ 6))) w_2) else R (.bool false) w_2))
     else R (.bool false) w_2))) ∨ ∃ rb ro : Nat, ((∃ r2 : Int, e_ = .returned (.tuple #[pv rb ro, .int .i64 r2]) ∧ (bif (r2 == 0) then 
    (∃ v3 : Int, World.cell? w_2 ⟨b1, 1, none⟩ = some (.int .i64 v3) ∧ (bif (decide (v3 ≥ (-1))) then (∃ v4 : Int, World.cell? w_2 ⟨b1, 1, none⟩ = some (.int .i64 v4) ∧ R (.bool (decide (v4 ≤ 6))) w_2)
     else R (.bool false) w_2)) else R (.bool false) w_2))))))))

def tontineref08_Right.H : Hints := { nret := [64], nld := [], loops := [], joins := [], unroll := [], plans := [], nx := [] }

theorem tontineref08_Right.eq (HardTerm : Int) (HardVote : Int) (SnapIndex : Int) (SnapTerm : Int) (SnapConfig : Int) (SnapData : ByteArray) (Entriesa : Option Addr) (Entriesn Entriesc : Nat) (R : Value → World → Prop) (w : World) : tontineref08_Right.m HardTerm HardVote SnapIndex SnapTerm SnapConfig SnapData Entriesa Entriesn Entriesc R w = fnD Tryz.prog tontineref08_Right.H Tryz.f33 [.agg #[.int .u64 HardTerm, .int .i64 HardVote, .int .u64 SnapIndex, .int .u64 SnapTerm, .int .u64 SnapConfig, .string SnapData, .slice Entriesa Entriesn Entriesc]] R w := by kernel_rfl

theorem tontineref08_Right.ok (HardTerm : Int) (HardVote : Int) (SnapIndex : Int) (SnapTerm : Int) (SnapConfig : Int) (SnapData : ByteArray) (Entriesa : Option Addr) (Entriesn Entriesc : Nat) {R : Value → World → Prop} {w : World} (h : tontineref08_Right.m HardTerm HardVote SnapIndex SnapTerm SnapConfig SnapData Entriesa Entriesn Entriesc R w) : Calls Tryz.prog 33 #[.agg #[.int .u64 HardTerm, .int .i64 HardVote, .int .u64 SnapIndex, .int .u64 SnapTerm, .int .u64 SnapConfig, .string SnapData, .slice Entriesa Entriesn Entriesc]] w fun e w' => ∃ v, e = .returned v ∧ R v w' :=
  @fn_sound Tryz.prog tontineref08_Right.H 33 Tryz.f33 [.agg #[.int .u64 HardTerm, .int .i64 HardVote, .int .u64 SnapIndex, .int .u64 SnapTerm, .int .u64 SnapConfig, .string SnapData, .slice Entriesa Entriesn Entriesc]] R w Tryz.mixed Tryz.func33 (by kernel_rfl) (by rw [← tontineref08_Right.eq]; exact h)

set_option maxRecDepth 100000
/-- tontine/tontineref08.First -/
def tontineref08_First.m (members : Int) (R : Value → World → Prop) (w : World) : Prop :=
  (alD w (.cells #[.int .u64 0, .int .i64 0, .int .u64 0, .int .u64 0, .int .u64 0, .string ⟨#[]⟩, .slice none 0 0] 53 (0, 0)) fun b1 w_ => 
    (stD w_ b1 0 [.int .u64 0, .int .i64 (-1), .int .u64 0, .int .u64 0, .int .u64 members, .string ⟨#[]⟩, .slice none 0 0] fun w_2 => 
    (∃ HardTerm : Int, ∃ HardVote : Int, ∃ SnapIndex : Int, ∃ SnapTerm : Int, ∃ SnapConfig : Int, ∃ SnapData : ByteArray, ∃ (Entriesa : Option Addr) (Entriesn Entriesc : Nat), rdRow w_2 b1 0 [.int .u64 HardTerm, .int .i64 HardVote, .int .u64 SnapIndex, .int .u64 SnapTerm, .int .u64 SnapConfig, .string SnapData, .slice Entriesa Entriesn Entriesc] ∧ 
    R (.agg #[.int .u64 HardTerm, .int .i64 HardVote, .int .u64 SnapIndex, .int .u64 SnapTerm, .int .u64 SnapConfig, .string SnapData, .slice Entriesa Entriesn Entriesc]) w_2)))

def tontineref08_First.H : Hints := { nret := [], nld := [], loops := [], joins := [], unroll := [], plans := [], nx := [] }

theorem tontineref08_First.eq (members : Int) (R : Value → World → Prop) (w : World) : tontineref08_First.m members R w = fnD Tryz.prog tontineref08_First.H Tryz.f57 [.int .u64 members] R w := by kernel_rfl

theorem tontineref08_First.ok (members : Int) {R : Value → World → Prop} {w : World} (h : tontineref08_First.m members R w) : Calls Tryz.prog 57 #[.int .u64 members] w fun e w' => ∃ v, e = .returned v ∧ R v w' :=
  @fn_sound Tryz.prog tontineref08_First.H 57 Tryz.f57 [.int .u64 members] R w Tryz.mixed Tryz.func57 (by kernel_rfl) (by rw [← tontineref08_First.eq]; exact h)

set_option maxRecDepth 100000
/-- tontine/tontineref08.Said -/
def tontineref08_Said.m (members : Int) (la : Option Addr) (ln lc : Nat) (R : Value → World → Prop) (w : World) : Prop :=
  (alD w (.cells #[.int .u64 0, .int .i64 0, .int .u64 0, .int .u64 0, .int .u64 0, .string ⟨#[]⟩, .slice none 0 0] 53 (0, 0)) fun b1 w_ => (Calls Tryz.prog 57 #[.int .u64 members] w_ fun e_ w_2 => 
    (∃ HardTerm : Int, ∃ HardVote : Int, ∃ SnapIndex : Int, ∃ SnapTerm : Int, ∃ SnapConfig : Int, ∃ SnapData : ByteArray, ∃ (Entriesa : Option Addr) (Entriesn Entriesc : Nat), e_ = .returned (.agg #[.int .u64 HardTerm, .int .i64 HardVote, .int .u64 SnapIndex, .int .u64 SnapTerm, .int .u64 SnapConfig, .string SnapData, .slice Entriesa Entriesn Entriesc]) ∧ 
    (alD w_2 (.cells #[.int .u64 0, .int .i64 0, .int .u64 0, .int .u64 0, .int .u64 0, .string ⟨#[]⟩, .slice none 0 0] 53 (0, 0)) fun b2 w_3 => 
    (stD w_3 b2 0 [.int .u64 HardTerm, .int .i64 HardVote, .int .u64 SnapIndex, .int .u64 SnapTerm, .int .u64 SnapConfig, .string SnapData, .slice Entriesa Entriesn Entriesc] fun w_4 => 
    (∃ (I1 : Int → World → Prop) (M1 : Int → World → Nat), I1 0 w_4 ∧ ∀ (jk : Env) (i1 : Int) (w_5 : World), I1 i1 w_5 → (bif (decide (i1 < (ln : Int))) then (drewD w_5 fun w_6 => 
    (∃ HardTerm2 : Int, ∃ HardVote2 : Int, ∃ SnapIndex2 : Int, ∃ SnapTerm2 : Int, ∃ SnapConfig2 : Int, ∃ SnapData2 : ByteArray, ∃ (Entriesa2 : Option Addr) (Entriesn2 Entriesc2 : Nat), rdRow w_6 b2 0 [.int .u64 HardTerm2, .int .i64 HardVote2, .int .u64 SnapIndex2, .int .u64 SnapTerm2, .int .u64 SnapConfig2, .string SnapData2, .slice Entriesa2 Entriesn2 Entriesc2] ∧ 
    (∃ b3 o1 : Nat, la = some ⟨b3, o1, none⟩ ∧ (0 : Int) ≤ i1 ∧ i1 < (ln : Int) ∧ (∃ v1 : ByteArray, World.cell? w_6 ⟨b3, (o1 + (i1 : Int).toNat * 1), none⟩ = some (.string v1) ∧ 
    ((Calls Tryz.prog 58 #[.agg #[.int .u64 HardTerm2, .int .i64 HardVote2, .int .u64 SnapIndex2, .int .u64 SnapTerm2, .int .u64 SnapConfig2, .string SnapData2, .slice Entriesa2 Entriesn2 Entriesc2], .string v1] w_6 fun e_2 w_7 => 
    (∃ HardTerm3 : Int, ∃ HardVote3 : Int, ∃ SnapIndex3 : Int, ∃ SnapTerm3 : Int, ∃ SnapConfig3 : Int, ∃ SnapData3 : ByteArray, ∃ (Entriesa3 : Option Addr) (Entriesn3 Entriesc3 : Nat), (∃ r1 : Bool, e_2 = .returned (.tuple #[.agg #[.int .u64 HardTerm3, .int .i64 HardVote3, .int .u64 SnapIndex3, .int .u64 SnapTerm3, .int .u64 SnapConfig3, .string SnapData3, .slice Entriesa3 Entriesn3 Entriesc3], .bool r1]) ∧ 
    (alD w_7 (.cells #[.int .u64 0, .int .i64 0, .int .u64 0, .int .u64 0, .int .u64 0, .string ⟨#[]⟩, .slice none 0 0] 53 (0, 0)) fun b4 w_8 => 
    (stD w_8 b4 0 [.int .u64 HardTerm3, .int .i64 HardVote3, .int .u64 SnapIndex3, .int .u64 SnapTerm3, .int .u64 SnapConfig3, .string SnapData3, .slice Entriesa3 Entriesn3 Entriesc3] fun w_9 => 
    (bif (!r1) then (stD w_9 b1 0 [.int .u64 0, .int .i64 0, .int .u64 0, .int .u64 0, .int .u64 0, .string ⟨#[]⟩, .slice none 0 0] fun w_10 => 
    (∃ HardTerm4 : Int, ∃ HardVote4 : Int, ∃ SnapIndex4 : Int, ∃ SnapTerm4 : Int, ∃ SnapConfig4 : Int, ∃ SnapData4 : ByteArray, ∃ (Entriesa4 : Option Addr) (Entriesn4 Entriesc4 : Nat), rdRow w_10 b1 0 [.int .u64 HardTerm4, .int .i64 HardVote4, .int .u64 SnapIndex4, .int .u64 SnapTerm4, .int .u64 SnapConfig4, .string SnapData4, .slice Entriesa4 Entriesn4 Entriesc4] ∧ 
    R (.tuple #[.agg #[.int .u64 HardTerm4, .int .i64 HardVote4, .int .u64 SnapIndex4, .int .u64 SnapTerm4, .int .u64 SnapConfig4, .string SnapData4, .slice Entriesa4 Entriesn4 Entriesc4], .bool false]) w_10))
     else (∃ HardTerm5 : Int, ∃ HardVote5 : Int, ∃ SnapIndex5 : Int, ∃ SnapTerm5 : Int, ∃ SnapConfig5 : Int, ∃ SnapData5 : ByteArray, ∃ (Entriesa5 : Option Addr) (Entriesn5 Entriesc5 : Nat), rdRow w_9 b4 0 [.int .u64 HardTerm5, .int .i64 HardVote5, .int .u64 SnapIndex5, .int .u64 SnapTerm5, .int .u64 SnapConfig5, .string SnapData5, .slice Entriesa5 Entriesn5 Entriesc5] ∧ 
    (stD w_9 b2 0 [.int .u64 HardTerm5, .int .i64 HardVote5, .int .u64 SnapIndex5, .int .u64 SnapTerm5, .int .u64 SnapConfig5, .string SnapData5, .slice Entriesa5 Entriesn5 Entriesc5] fun w_11 => 
    (I1 (w64 (i1 + 1)) w_11 ∧ M1 (w64 (i1 + 1)) w_11 < M1 i1 w_5))))))))) ∧ 
    (alD w_6 (.cells #[.int .u64 0, .int .i64 0, .int .u64 0, .int .u64 0, .int .u64 0, .string ⟨#[]⟩, .slice none 0 0] 53 (0, 0)) fun b5 w_12 => 
    World.cell? w_12 ⟨b3, (o1 + (i1 : Int).toNat * 1), none⟩ = some (.string v1) ∧ 
    rdRow w_12 b2 0 [.int .u64 HardTerm2, .int .i64 HardVote2, .int .u64 SnapIndex2, .int .u64 SnapTerm2, .int .u64 SnapConfig2, .string SnapData2, .slice Entriesa2 Entriesn2 Entriesc2] ∧ 
    (Calls Tryz.prog 58 #[.agg #[.int .u64 HardTerm2, .int .i64 HardVote2, .int .u64 SnapIndex2, .int .u64 SnapTerm2, .int .u64 SnapConfig2, .string SnapData2, .slice Entriesa2 Entriesn2 Entriesc2], .string v1] w_12 fun e_3 w_13 => 
    (∃ HardTerm6 : Int, ∃ HardVote6 : Int, ∃ SnapIndex6 : Int, ∃ SnapTerm6 : Int, ∃ SnapConfig6 : Int, ∃ SnapData6 : ByteArray, ∃ (Entriesa6 : Option Addr) (Entriesn6 Entriesc6 : Nat), (∃ r2 : Bool, e_3 = .returned (.tuple #[.agg #[.int .u64 HardTerm6, .int .i64 HardVote6, .int .u64 SnapIndex6, .int .u64 SnapTerm6, .int .u64 SnapConfig6, .string SnapData6, .slice Entriesa6 Entriesn6 Entriesc6], .bool r2]) ∧ 
    (stD w_13 b5 0 [.int .u64 HardTerm6, .int .i64 HardVote6, .int .u64 SnapIndex6, .int .u64 SnapTerm6, .int .u64 SnapConfig6, .string SnapData6, .slice Entriesa6 Entriesn6 Entriesc6] fun w_14 => 
    (bif (!r2) then (stD w_14 b1 0 [.int .u64 0, .int .i64 0, .int .u64 0, .int .u64 0, .int .u64 0, .string ⟨#[]⟩, .slice none 0 0] fun w_15 => 
    (∃ HardTerm7 : Int, ∃ HardVote7 : Int, ∃ SnapIndex7 : Int, ∃ SnapTerm7 : Int, ∃ SnapConfig7 : Int, ∃ SnapData7 : ByteArray, ∃ (Entriesa7 : Option Addr) (Entriesn7 Entriesc7 : Nat), rdRow w_15 b1 0 [.int .u64 HardTerm7, .int .i64 HardVote7, .int .u64 SnapIndex7, .int .u64 SnapTerm7, .int .u64 SnapConfig7, .string SnapData7, .slice Entriesa7 Entriesn7 Entriesc7] ∧ 
    R (.tuple #[.agg #[.int .u64 HardTerm7, .int .i64 HardVote7, .int .u64 SnapIndex7, .int .u64 SnapTerm7, .int .u64 SnapConfig7, .string SnapData7, .slice Entriesa7 Entriesn7 Entriesc7], .bool false]) w_15))
     else (∃ HardTerm8 : Int, ∃ HardVote8 : Int, ∃ SnapIndex8 : Int, ∃ SnapTerm8 : Int, ∃ SnapConfig8 : Int, ∃ SnapData8 : ByteArray, ∃ (Entriesa8 : Option Addr) (Entriesn8 Entriesc8 : Nat), rdRow w_14 b5 0 [.int .u64 HardTerm8, .int .i64 HardVote8, .int .u64 SnapIndex8, .int .u64 SnapTerm8, .int .u64 SnapConfig8, .string SnapData8, .slice Entriesa8 Entriesn8 Entriesc8] ∧ 
    (stD w_14 b2 0 [.int .u64 HardTerm8, .int .i64 HardVote8, .int .u64 SnapIndex8, .int .u64 SnapTerm8, .int .u64 SnapConfig8, .string SnapData8, .slice Entriesa8 Entriesn8 Entriesc8] fun w_16 => 
    (I1 (w64 (i1 + 1)) w_16 ∧ M1 (w64 (i1 + 1)) w_16 < M1 i1 w_5)))))))))))))) else (drewD w_5 fun w_17 => 
    (∃ HardTerm9 : Int, ∃ HardVote9 : Int, ∃ SnapIndex9 : Int, ∃ SnapTerm9 : Int, ∃ SnapConfig9 : Int, ∃ SnapData9 : ByteArray, ∃ (Entriesa9 : Option Addr) (Entriesn9 Entriesc9 : Nat), rdRow w_17 b2 0 [.int .u64 HardTerm9, .int .i64 HardVote9, .int .u64 SnapIndex9, .int .u64 SnapTerm9, .int .u64 SnapConfig9, .string SnapData9, .slice Entriesa9 Entriesn9 Entriesc9] ∧ 
    (∃ HardTerm10 : Int, ∃ HardVote10 : Int, ∃ SnapIndex10 : Int, ∃ SnapTerm10 : Int, ∃ SnapConfig10 : Int, ∃ SnapData10 : ByteArray, ∃ (Entriesa10 : Option Addr) (Entriesn10 Entriesc10 : Nat), rdRow w_17 b2 0 [.int .u64 HardTerm10, .int .i64 HardVote10, .int .u64 SnapIndex10, .int .u64 SnapTerm10, .int .u64 SnapConfig10, .string SnapData10, .slice Entriesa10 Entriesn10 Entriesc10] ∧ 
    (Calls Tryz.prog 33 #[.agg #[.int .u64 HardTerm10, .int .i64 HardVote10, .int .u64 SnapIndex10, .int .u64 SnapTerm10, .int .u64 SnapConfig10, .string SnapData10, .slice Entriesa10 Entriesn10 Entriesc10]] w_17 fun e_4 w_18 => 
    (∃ r3 : Bool, e_4 = .returned (.bool r3) ∧ 
    rdRow w_18 b2 0 [.int .u64 HardTerm9, .int .i64 HardVote9, .int .u64 SnapIndex9, .int .u64 SnapTerm9, .int .u64 SnapConfig9, .string SnapData9, .slice Entriesa9 Entriesn9 Entriesc9] ∧ 
    (stD w_18 b1 0 [.int .u64 HardTerm9, .int .i64 HardVote9, .int .u64 SnapIndex9, .int .u64 SnapTerm9, .int .u64 SnapConfig9, .string SnapData9, .slice Entriesa9 Entriesn9 Entriesc9] fun w_19 => 
    (∃ HardTerm11 : Int, ∃ HardVote11 : Int, ∃ SnapIndex11 : Int, ∃ SnapTerm11 : Int, ∃ SnapConfig11 : Int, ∃ SnapData11 : ByteArray, ∃ (Entriesa11 : Option Addr) (Entriesn11 Entriesc11 : Nat), rdRow w_19 b1 0 [.int .u64 HardTerm11, .int .i64 HardVote11, .int .u64 SnapIndex11, .int .u64 SnapTerm11, .int .u64 SnapConfig11, .string SnapData11, .slice Entriesa11 Entriesn11 Entriesc11] ∧ 
    R (.tuple #[.agg #[.int .u64 HardTerm11, .int .i64 HardVote11, .int .u64 SnapIndex11, .int .u64 SnapTerm11, .int .u64 SnapConfig11, .string SnapData11, .slice Entriesa11 Entriesn11 Entriesc11], .bool r3]) w_19))))))))))))))

def tontineref08_Said.H : Hints := { nret := [], nld := [], loops := [(3, [(7, .int .i64)])], joins := [], unroll := [], plans := [(5, (.take 0 (.take 1 (.take 2 (.take 3 (.take 4 (.both 5 (.take 6 (.take 7 (.take 8 (.eff 9 (.eff 10 (.take 11 .done)))))) 9 (.eff 5 (.take 6 (.take 7 (.take 8 (.eff 10 (.take 11 .done))))))))))))), (9, (.take 0 (.take 1 (.eff 2 (.eff 3 (.take 4 .done))))))], nx := [] }

theorem tontineref08_Said.eq (members : Int) (la : Option Addr) (ln lc : Nat) (R : Value → World → Prop) (w : World) : tontineref08_Said.m members la ln lc R w = fnD Tryz.prog tontineref08_Said.H Tryz.f27 [.int .u64 members, .slice la ln lc] R w := by kernel_rfl

theorem tontineref08_Said.ok (members : Int) (la : Option Addr) (ln lc : Nat) {R : Value → World → Prop} {w : World} (h : tontineref08_Said.m members la ln lc R w) : Calls Tryz.prog 27 #[.int .u64 members, .slice la ln lc] w fun e w' => ∃ v, e = .returned v ∧ R v w' :=
  @fn_sound Tryz.prog tontineref08_Said.H 27 Tryz.f27 [.int .u64 members, .slice la ln lc] R w Tryz.mixed Tryz.func27 (by kernel_rfl) (by rw [← tontineref08_Said.eq]; exact h)

set_option maxRecDepth 100000
/-- tontine/tontineref08.Open -/
def tontineref08_Open.m (db do_ : Nat) (n1 : Int) (members : Int) (R : Value → World → Prop) (w : World) : Prop :=
  (Calls Tryz.prog 25 #[.int .u64 members] w fun e_ w_ => (∃ r1 : Bool, e_ = .returned (.bool r1) ∧ (bif (!r1) then R (.tuple #[.pointer none, .int .i64 1]) w_
     else (Calls Tryz.prog 26 #[pv db do_, .int .i64 n1] w_ fun e_2 w_2 => (((∃ (ra : Option Addr) (rn rc : Nat), (∃ r2 : Int, e_2 = .returned (.tuple #[.pointer none, .slice ra rn rc, .int .i64 r2]) ∧ 
    (bif (r2 != 0) then R (.tuple #[.pointer none, .int .i64 r2]) w_2 else (Calls Tryz.prog 27 #[.int .u64 members, .slice ra rn rc] w_2 fun e_3 w_3 => 
    (∃ HardTerm : Int, ∃ HardVote : Int, ∃ SnapIndex : Int, ∃ SnapTerm : Int, ∃ SnapConfig : Int, ∃ SnapData : ByteArray, ∃ (Entriesa : Option Addr) (Entriesn Entriesc : Nat), (∃ r3 : Bool, e_3 = .returned (.tuple #[.agg #[.int .u64 HardTerm, .int .i64 HardVote, .int .u64 SnapIndex, .int .u64 SnapTerm, .int .u64 SnapConfig, .string SnapData, .slice Entriesa Entriesn Entriesc], .bool r3]) ∧ 
    (alD w_3 (.cells #[.int .u64 0, .int .i64 0, .int .u64 0, .int .u64 0, .int .u64 0, .string ⟨#[]⟩, .slice none 0 0] 53 (0, 0)) fun b1 w_4 => 
    (stD w_4 b1 0 [.int .u64 HardTerm, .int .i64 HardVote, .int .u64 SnapIndex, .int .u64 SnapTerm, .int .u64 SnapConfig, .string SnapData, .slice Entriesa Entriesn Entriesc] fun w_5 => (bif (!r3) then 
    R (.tuple #[.pointer none, .int .i64 2]) w_5
     else (∃ HardTerm2 : Int, ∃ HardVote2 : Int, ∃ SnapIndex2 : Int, ∃ SnapTerm2 : Int, ∃ SnapConfig2 : Int, ∃ SnapData2 : ByteArray, ∃ (Entriesa2 : Option Addr) (Entriesn2 Entriesc2 : Nat), rdRow w_5 b1 0 [.int .u64 HardTerm2, .int .i64 HardVote2, .int .u64 SnapIndex2, .int .u64 SnapTerm2, .int .u64 SnapConfig2, .string SnapData2, .slice Entriesa2 Entriesn2 Entriesc2] ∧ 
    (alD w_5 (.cells #[.pointer none, .int .u64 HardTerm2, .int .i64 HardVote2, .int .u64 SnapIndex2, .int .u64 SnapTerm2, .int .u64 SnapConfig2, .string SnapData2, .slice Entriesa2 Entriesn2 Entriesc2] 55 (0, 0)) fun b2 w_6 => 
    R (.tuple #[pv b2 0, .int .i64 0]) w_6)))))))))))) ∨ ∃ rb ro : Nat, ((∃ (ra2 : Option Addr) (rn2 rc2 : Nat), (∃ r4 : Int, e_2 = .returned (.tuple #[pv rb ro, .slice ra2 rn2 rc2, .int .i64 r4]) ∧ 
    (bif (r4 != 0) then R (.tuple #[.pointer none, .int .i64 r4]) w_2 else (Calls Tryz.prog 27 #[.int .u64 members, .slice ra2 rn2 rc2] w_2 fun e_4 w_7 => 
    (∃ HardTerm3 : Int, ∃ HardVote3 : Int, ∃ SnapIndex3 : Int, ∃ SnapTerm3 : Int, ∃ SnapConfig3 : Int, ∃ SnapData3 : ByteArray, ∃ (Entriesa3 : Option Addr) (Entriesn3 Entriesc3 : Nat), (∃ r5 : Bool, e_4 = .returned (.tuple #[.agg #[.int .u64 HardTerm3, .int .i64 HardVote3, .int .u64 SnapIndex3, .int .u64 SnapTerm3, .int .u64 SnapConfig3, .string SnapData3, .slice Entriesa3 Entriesn3 Entriesc3], .bool r5]) ∧ 
    (alD w_7 (.cells #[.int .u64 0, .int .i64 0, .int .u64 0, .int .u64 0, .int .u64 0, .string ⟨#[]⟩, .slice none 0 0] 53 (0, 0)) fun b3 w_8 => 
    (stD w_8 b3 0 [.int .u64 HardTerm3, .int .i64 HardVote3, .int .u64 SnapIndex3, .int .u64 SnapTerm3, .int .u64 SnapConfig3, .string SnapData3, .slice Entriesa3 Entriesn3 Entriesc3] fun w_9 => 
    (bif (!r5) then R (.tuple #[.pointer none, .int .i64 2]) w_9
     else (∃ HardTerm4 : Int, ∃ HardVote4 : Int, ∃ SnapIndex4 : Int, ∃ SnapTerm4 : Int, ∃ SnapConfig4 : Int, ∃ SnapData4 : ByteArray, ∃ (Entriesa4 : Option Addr) (Entriesn4 Entriesc4 : Nat), rdRow w_9 b3 0 [.int .u64 HardTerm4, .int .i64 HardVote4, .int .u64 SnapIndex4, .int .u64 SnapTerm4, .int .u64 SnapConfig4, .string SnapData4, .slice Entriesa4 Entriesn4 Entriesc4] ∧ 
    (alD w_9 (.cells #[pv rb ro, .int .u64 HardTerm4, .int .i64 HardVote4, .int .u64 SnapIndex4, .int .u64 SnapTerm4, .int .u64 SnapConfig4, .string SnapData4, .slice Entriesa4 Entriesn4 Entriesc4] 55 (0, 0)) fun b4 w_10 => 
    R (.tuple #[pv b4 0, .int .i64 0]) w_10)))))))))))))))))

def tontineref08_Open.H : Hints := { nret := [26], nld := [], loops := [], joins := [], unroll := [], plans := [], nx := [] }

theorem tontineref08_Open.eq (db do_ : Nat) (n1 : Int) (members : Int) (R : Value → World → Prop) (w : World) : tontineref08_Open.m db do_ n1 members R w = fnD Tryz.prog tontineref08_Open.H Tryz.f10 [pv db do_, .int .i64 n1, .int .u64 members] R w := by kernel_rfl

theorem tontineref08_Open.ok (db do_ : Nat) (n1 : Int) (members : Int) {R : Value → World → Prop} {w : World} (h : tontineref08_Open.m db do_ n1 members R w) : Calls Tryz.prog 10 #[pv db do_, .int .i64 n1, .int .u64 members] w fun e w' => ∃ v, e = .returned v ∧ R v w' :=
  @fn_sound Tryz.prog tontineref08_Open.H 10 Tryz.f10 [pv db do_, .int .i64 n1, .int .u64 members] R w Tryz.mixed Tryz.func10 (by kernel_rfl) (by rw [← tontineref08_Open.eq]; exact h)

set_option maxRecDepth 100000
/-- tontine/tontineref08.Records -/
def tontineref08_Records.m (HardTerm : Int) (HardVote : Int) (SnapIndex : Int) (SnapTerm : Int) (SnapConfig : Int) (SnapData : ByteArray) (Entriesa : Option Addr) (Entriesn Entriesc : Nat) (Term : Int) (Vote : Int) (sa : Option Addr) (sn sc : Nat) (R : Value → World → Prop) (w : World) : Prop :=
  (alD w (.cells #[.int .u64 HardTerm, .int .i64 HardVote, .int .u64 SnapIndex, .int .u64 SnapTerm, .int .u64 SnapConfig, .string SnapData, .slice Entriesa Entriesn Entriesc] 53 (0, 0)) fun b1 w_ => 
    (alD w_ (.cells #[.int .u64 Term, .int .i64 Vote] 40 (0, 0)) fun b2 w_2 => 
    (alD w_2 (.cells #[.int .u64 0, .int .i64 0, .int .u64 0, .int .u64 0, .int .u64 0, .string ⟨#[]⟩, .slice none 0 0] 53 (0, 0)) fun b3 w_3 => 
    (∃ J1 : Option Addr → Nat → Nat → World → Prop, (∃ Term2 : Int, ∃ Vote2 : Int, rdRow w_3 b2 0 [.int .u64 Term2, .int .i64 Vote2] ∧ 
    (∃ Term3 : Int, ∃ Vote3 : Int, rdRow w_3 b1 0 [.int .u64 Term3, .int .i64 Vote3] ∧ 
    (∃ q1 : Bool, eqRuns Tryz.prog .neq 40 (.tmp 15) (.tmp 17) (.agg #[.int .u64 Term2, .int .i64 Vote2]) (.agg #[.int .u64 Term3, .int .i64 Vote3]) q1 ∧ (bif q1 then 
    (∃ Term4 : Int, ∃ Vote4 : Int, rdRow w_3 b2 0 [.int .u64 Term4, .int .i64 Vote4] ∧ (Calls Tryz.prog 34 #[.agg #[.int .u64 Term4, .int .i64 Vote4]] w_3 fun e_ w_5 => 
    (∃ r1 : ByteArray, e_ = .returned (.string r1) ∧ (alD w_5 (.cells #[.string r1] 9 (0, 0)) fun b4 w_6 => 
    (exSl Tryz.prog (Builtin.append_ #[76, 76] 76 #[.slice none 0 0, .slice (some ⟨b4, 0, none⟩) 1 1]) (fun sa2 sn2 sc2 w_7 => J1 sa2 sn2 sc2 w_7) w_6))))) else J1 none 0 0 w_3)))) ∧ 
    ∀ (jk : Env) (ra : Option Addr) (rn rc : Nat) (w_4 : World), J1 ra rn rc w_4 → (∃ v1 : Int, World.cell? w_4 ⟨b1, 2, none⟩ = some (.int .u64 v1) ∧ 
    (∃ J2 : Int → World → Prop, (∃ (va : Option Addr) (vn vc : Nat), World.cell? w_4 ⟨b1, 6, none⟩ = some (.slice va vn vc) ∧ (bif (decide ((vn : Int) > 0)) then 
    (∃ (va2 : Option Addr) (vn2 vc2 : Nat), World.cell? w_4 ⟨b1, 6, none⟩ = some (.slice va2 vn2 vc2) ∧ 
    (∃ (va3 : Option Addr) (vn3 vc3 : Nat), World.cell? w_4 ⟨b1, 6, none⟩ = some (.slice va3 vn3 vc3) ∧ (∃ b5 o1 : Nat, va2 = some ⟨b5, o1, none⟩ ∧ (0 : Int) ≤ (w64 ((vn3 : Int) - 1)) ∧ 
    (w64 ((vn3 : Int) - 1)) < (vn2 : Int) ∧ (∃ v2 : Int, World.cell? w_4 ⟨b5, ((o1 + ((w64 ((vn3 : Int) - 1)) : Int).toNat * 4) + 1), none⟩ = some (.int .u64 v2) ∧ J2 v2 w_4)))) else J2 v1 w_4)) ∧ 
    ∀ (jk2 : Env) (a1 : Int) (w_8 : World), J2 a1 w_8 → (∃ J3 : Option Addr → Nat → Nat → World → Prop, (bif (decide ((sn : Int) > 0)) then (∃ b6 o2 : Nat, sa = some ⟨b6, o2, none⟩ ∧ (0 : Int) ≤ 0 ∧ 
    0 < (sn : Int) ∧ (∃ v3 : Int, World.cell? w_8 ⟨b6, (o2 + 1), none⟩ = some (.int .u64 v3) ∧ (bif (decide (v3 ≤ a1)) then (∃ b7 o3 : Nat, sa = some ⟨b7, o3, none⟩ ∧ (0 : Int) ≤ 0 ∧ 0 < (sn : Int) ∧ 
    (∃ v4 : Int, World.cell? w_8 ⟨b7, (o3 + 1), none⟩ = some (.int .u64 v4) ∧ (Calls Tryz.prog 69 #[.int .u64 v4] w_8 fun e_2 w_10 => (∃ r2 : ByteArray, e_2 = .returned (.string r2) ∧ 
    (alD w_10 (.cells #[.string r2] 9 (0, 0)) fun b8 w_11 => (exSl Tryz.prog (Builtin.append_ #[76, 76] 76 #[.slice ra rn rc, .slice (some ⟨b8, 0, none⟩) 1 1]) (fun sa3 sn3 sc3 w_12 => 
    J3 sa3 sn3 sc3 w_12) w_11)))))) else J3 ra rn rc w_8))) else J3 ra rn rc w_8) ∧ 
    ∀ (jk3 : Env) (ra2 : Option Addr) (rn2 rc2 : Nat) (w_9 : World), J3 ra2 rn2 rc2 w_9 → (∃ (I1 : Option Addr → Nat → Nat → Int → World → Prop) (M1 : Option Addr → Nat → Nat → Int → World → Nat), I1 ra2 rn2 rc2 0 w_9 ∧ 
    ∀ (jk4 : Env) (ra3 : Option Addr) (rn3 rc3 : Nat) (y1 : Int) (w_13 : World), I1 ra3 rn3 rc3 y1 w_13 → (bif (decide (y1 < (sn : Int))) then (∃ b9 o4 : Nat, sa = some ⟨b9, o4, none⟩ ∧ 
    (0 : Int) ≤ y1 ∧ y1 < (sn : Int) ∧ 
    (∃ Term5 : Int, ∃ Index : Int, ∃ Kind : Int, ∃ Data : ByteArray, rdRow w_13 b9 (o4 + (y1 : Int).toNat * 4) [.int .u64 Term5, .int .u64 Index, .int .i64 Kind, .string Data] ∧ 
    (Calls Tryz.prog 36 #[.agg #[.int .u64 Term5, .int .u64 Index, .int .i64 Kind, .string Data]] w_13 fun e_3 w_14 => (∃ r3 : ByteArray, e_3 = .returned (.string r3) ∧ 
    (alD w_14 (.cells #[.string r3] 9 (0, 0)) fun b10 w_15 => (exSl Tryz.prog (Builtin.append_ #[76, 76] 76 #[.slice ra3 rn3 rc3, .slice (some ⟨b10, 0, none⟩) 1 1]) (fun sa4 sn4 sc4 w_16 => 
    (I1 sa4 sn4 sc4 (w64 (y1 + 1)) w_16 ∧ M1 sa4 sn4 sc4 (w64 (y1 + 1)) w_16 < M1 ra3 rn3 rc3 y1 w_13)) w_15)))))) else (∃ (I2 : Int → World → Prop) (M2 : Int → World → Nat), I2 0 w_13 ∧ 
    ∀ (jk5 : Env) (i1 : Int) (w_17 : World), I2 i1 w_17 → (bif (decide (i1 < (rn3 : Int))) then (drewD w_17 fun w_18 => 
    (∃ HardTerm2 : Int, ∃ HardVote2 : Int, ∃ SnapIndex2 : Int, ∃ SnapTerm2 : Int, ∃ SnapConfig2 : Int, ∃ SnapData2 : ByteArray, ∃ (Entriesa2 : Option Addr) (Entriesn2 Entriesc2 : Nat), rdRow w_18 b1 0 [.int .u64 HardTerm2, .int .i64 HardVote2, .int .u64 SnapIndex2, .int .u64 SnapTerm2, .int .u64 SnapConfig2, .string SnapData2, .slice Entriesa2 Entriesn2 Entriesc2] ∧ 
    (∃ b11 o5 : Nat, ra3 = some ⟨b11, o5, none⟩ ∧ (0 : Int) ≤ i1 ∧ i1 < (rn3 : Int) ∧ (∃ v5 : ByteArray, World.cell? w_18 ⟨b11, (o5 + (i1 : Int).toNat * 1), none⟩ = some (.string v5) ∧ 
    ((Calls Tryz.prog 58 #[.agg #[.int .u64 HardTerm2, .int .i64 HardVote2, .int .u64 SnapIndex2, .int .u64 SnapTerm2, .int .u64 SnapConfig2, .string SnapData2, .slice Entriesa2 Entriesn2 Entriesc2], .string v5] w_18 fun e_4 w_19 => 
    (∃ HardTerm3 : Int, ∃ HardVote3 : Int, ∃ SnapIndex3 : Int, ∃ SnapTerm3 : Int, ∃ SnapConfig3 : Int, ∃ SnapData3 : ByteArray, ∃ (Entriesa3 : Option Addr) (Entriesn3 Entriesc3 : Nat), (∃ r4 : Bool, e_4 = .returned (.tuple #[.agg #[.int .u64 HardTerm3, .int .i64 HardVote3, .int .u64 SnapIndex3, .int .u64 SnapTerm3, .int .u64 SnapConfig3, .string SnapData3, .slice Entriesa3 Entriesn3 Entriesc3], .bool r4]) ∧ 
    (alD w_19 (.cells #[.int .u64 0, .int .i64 0, .int .u64 0, .int .u64 0, .int .u64 0, .string ⟨#[]⟩, .slice none 0 0] 53 (0, 0)) fun b12 w_20 => 
    (stD w_20 b12 0 [.int .u64 HardTerm3, .int .i64 HardVote3, .int .u64 SnapIndex3, .int .u64 SnapTerm3, .int .u64 SnapConfig3, .string SnapData3, .slice Entriesa3 Entriesn3 Entriesc3] fun w_21 => 
    (bif (!r4) then (stD w_21 b3 0 [.int .u64 0, .int .i64 0, .int .u64 0, .int .u64 0, .int .u64 0, .string ⟨#[]⟩, .slice none 0 0] fun w_22 => 
    (∃ HardTerm4 : Int, ∃ HardVote4 : Int, ∃ SnapIndex4 : Int, ∃ SnapTerm4 : Int, ∃ SnapConfig4 : Int, ∃ SnapData4 : ByteArray, ∃ (Entriesa4 : Option Addr) (Entriesn4 Entriesc4 : Nat), rdRow w_22 b3 0 [.int .u64 HardTerm4, .int .i64 HardVote4, .int .u64 SnapIndex4, .int .u64 SnapTerm4, .int .u64 SnapConfig4, .string SnapData4, .slice Entriesa4 Entriesn4 Entriesc4] ∧ 
    R (.tuple #[.slice none 0 0, .agg #[.int .u64 HardTerm4, .int .i64 HardVote4, .int .u64 SnapIndex4, .int .u64 SnapTerm4, .int .u64 SnapConfig4, .string SnapData4, .slice Entriesa4 Entriesn4 Entriesc4], .bool false]) w_22))
     else (∃ HardTerm5 : Int, ∃ HardVote5 : Int, ∃ SnapIndex5 : Int, ∃ SnapTerm5 : Int, ∃ SnapConfig5 : Int, ∃ SnapData5 : ByteArray, ∃ (Entriesa5 : Option Addr) (Entriesn5 Entriesc5 : Nat), rdRow w_21 b12 0 [.int .u64 HardTerm5, .int .i64 HardVote5, .int .u64 SnapIndex5, .int .u64 SnapTerm5, .int .u64 SnapConfig5, .string SnapData5, .slice Entriesa5 Entriesn5 Entriesc5] ∧ 
    (stD w_21 b1 0 [.int .u64 HardTerm5, .int .i64 HardVote5, .int .u64 SnapIndex5, .int .u64 SnapTerm5, .int .u64 SnapConfig5, .string SnapData5, .slice Entriesa5 Entriesn5 Entriesc5] fun w_23 => 
    (I2 (w64 (i1 + 1)) w_23 ∧ M2 (w64 (i1 + 1)) w_23 < M2 i1 w_17))))))))) ∧ 
    (alD w_18 (.cells #[.int .u64 0, .int .i64 0, .int .u64 0, .int .u64 0, .int .u64 0, .string ⟨#[]⟩, .slice none 0 0] 53 (0, 0)) fun b13 w_24 => 
    World.cell? w_24 ⟨b11, (o5 + (i1 : Int).toNat * 1), none⟩ = some (.string v5) ∧ 
    rdRow w_24 b1 0 [.int .u64 HardTerm2, .int .i64 HardVote2, .int .u64 SnapIndex2, .int .u64 SnapTerm2, .int .u64 SnapConfig2, .string SnapData2, .slice Entriesa2 Entriesn2 Entriesc2] ∧ 
    (Calls Tryz.prog 58 #[.agg #[.int .u64 HardTerm2, .int .i64 HardVote2, .int .u64 SnapIndex2, .int .u64 SnapTerm2, .int .u64 SnapConfig2, .string SnapData2, .slice Entriesa2 Entriesn2 Entriesc2], .string v5] w_24 fun e_5 w_25 => 
    (∃ HardTerm6 : Int, ∃ HardVote6 : Int, ∃ SnapIndex6 : Int, ∃ SnapTerm6 : Int, ∃ SnapConfig6 : Int, ∃ SnapData6 : ByteArray, ∃ (Entriesa6 : Option Addr) (Entriesn6 Entriesc6 : Nat), (∃ r5 : Bool, e_5 = .returned (.tuple #[.agg #[.int .u64 HardTerm6, .int .i64 HardVote6, .int .u64 SnapIndex6, .int .u64 SnapTerm6, .int .u64 SnapConfig6, .string SnapData6, .slice Entriesa6 Entriesn6 Entriesc6], .bool r5]) ∧ 
    (stD w_25 b13 0 [.int .u64 HardTerm6, .int .i64 HardVote6, .int .u64 SnapIndex6, .int .u64 SnapTerm6, .int .u64 SnapConfig6, .string SnapData6, .slice Entriesa6 Entriesn6 Entriesc6] fun w_26 => 
    (bif (!r5) then (stD w_26 b3 0 [.int .u64 0, .int .i64 0, .int .u64 0, .int .u64 0, .int .u64 0, .string ⟨#[]⟩, .slice none 0 0] fun w_27 => 
    (∃ HardTerm7 : Int, ∃ HardVote7 : Int, ∃ SnapIndex7 : Int, ∃ SnapTerm7 : Int, ∃ SnapConfig7 : Int, ∃ SnapData7 : ByteArray, ∃ (Entriesa7 : Option Addr) (Entriesn7 Entriesc7 : Nat), rdRow w_27 b3 0 [.int .u64 HardTerm7, .int .i64 HardVote7, .int .u64 SnapIndex7, .int .u64 SnapTerm7, .int .u64 SnapConfig7, .string SnapData7, .slice Entriesa7 Entriesn7 Entriesc7] ∧ 
    R (.tuple #[.slice none 0 0, .agg #[.int .u64 HardTerm7, .int .i64 HardVote7, .int .u64 SnapIndex7, .int .u64 SnapTerm7, .int .u64 SnapConfig7, .string SnapData7, .slice Entriesa7 Entriesn7 Entriesc7], .bool false]) w_27))
     else (∃ HardTerm8 : Int, ∃ HardVote8 : Int, ∃ SnapIndex8 : Int, ∃ SnapTerm8 : Int, ∃ SnapConfig8 : Int, ∃ SnapData8 : ByteArray, ∃ (Entriesa8 : Option Addr) (Entriesn8 Entriesc8 : Nat), rdRow w_26 b13 0 [.int .u64 HardTerm8, .int .i64 HardVote8, .int .u64 SnapIndex8, .int .u64 SnapTerm8, .int .u64 SnapConfig8, .string SnapData8, .slice Entriesa8 Entriesn8 Entriesc8] ∧ 
    (stD w_26 b1 0 [.int .u64 HardTerm8, .int .i64 HardVote8, .int .u64 SnapIndex8, .int .u64 SnapTerm8, .int .u64 SnapConfig8, .string SnapData8, .slice Entriesa8 Entriesn8 Entriesc8] fun w_28 => 
    (I2 (w64 (i1 + 1)) w_28 ∧ M2 (w64 (i1 + 1)) w_28 < M2 i1 w_17)))))))))))))) else (drewD w_17 fun w_29 => 
    (∃ HardTerm9 : Int, ∃ HardVote9 : Int, ∃ SnapIndex9 : Int, ∃ SnapTerm9 : Int, ∃ SnapConfig9 : Int, ∃ SnapData9 : ByteArray, ∃ (Entriesa9 : Option Addr) (Entriesn9 Entriesc9 : Nat), rdRow w_29 b1 0 [.int .u64 HardTerm9, .int .i64 HardVote9, .int .u64 SnapIndex9, .int .u64 SnapTerm9, .int .u64 SnapConfig9, .string SnapData9, .slice Entriesa9 Entriesn9 Entriesc9] ∧ 
    (∃ HardTerm10 : Int, ∃ HardVote10 : Int, ∃ SnapIndex10 : Int, ∃ SnapTerm10 : Int, ∃ SnapConfig10 : Int, ∃ SnapData10 : ByteArray, ∃ (Entriesa10 : Option Addr) (Entriesn10 Entriesc10 : Nat), rdRow w_29 b1 0 [.int .u64 HardTerm10, .int .i64 HardVote10, .int .u64 SnapIndex10, .int .u64 SnapTerm10, .int .u64 SnapConfig10, .string SnapData10, .slice Entriesa10 Entriesn10 Entriesc10] ∧ 
    (Calls Tryz.prog 33 #[.agg #[.int .u64 HardTerm10, .int .i64 HardVote10, .int .u64 SnapIndex10, .int .u64 SnapTerm10, .int .u64 SnapConfig10, .string SnapData10, .slice Entriesa10 Entriesn10 Entriesc10]] w_29 fun e_6 w_30 => 
    (∃ r6 : Bool, e_6 = .returned (.bool r6) ∧ 
    rdRow w_30 b1 0 [.int .u64 HardTerm9, .int .i64 HardVote9, .int .u64 SnapIndex9, .int .u64 SnapTerm9, .int .u64 SnapConfig9, .string SnapData9, .slice Entriesa9 Entriesn9 Entriesc9] ∧ 
    (stD w_30 b3 0 [.int .u64 HardTerm9, .int .i64 HardVote9, .int .u64 SnapIndex9, .int .u64 SnapTerm9, .int .u64 SnapConfig9, .string SnapData9, .slice Entriesa9 Entriesn9 Entriesc9] fun w_31 => 
    (∃ HardTerm11 : Int, ∃ HardVote11 : Int, ∃ SnapIndex11 : Int, ∃ SnapTerm11 : Int, ∃ SnapConfig11 : Int, ∃ SnapData11 : ByteArray, ∃ (Entriesa11 : Option Addr) (Entriesn11 Entriesc11 : Nat), rdRow w_31 b3 0 [.int .u64 HardTerm11, .int .i64 HardVote11, .int .u64 SnapIndex11, .int .u64 SnapTerm11, .int .u64 SnapConfig11, .string SnapData11, .slice Entriesa11 Entriesn11 Entriesc11] ∧ 
    R (.tuple #[.slice ra3 rn3 rc3, .agg #[.int .u64 HardTerm11, .int .i64 HardVote11, .int .u64 SnapIndex11, .int .u64 SnapTerm11, .int .u64 SnapConfig11, .string SnapData11, .slice Entriesa11 Entriesn11 Entriesc11], .bool r6]) w_31))))))))))))))))))

def tontineref08_Records.H : Hints := { nret := [], nld := [], loops := [(10, [(9, .slice), (11, .int .i64)]), (14, [(12, .int .i64)])], joins := [(4, [(9, .slice)]), (7, [(10, .int .u64)]), (9, [(9, .slice)])], unroll := [], plans := [(16, (.take 0 (.take 1 (.take 2 (.take 3 (.take 4 (.both 5 (.take 6 (.take 7 (.take 8 (.eff 9 (.eff 10 (.take 11 .done)))))) 9 (.eff 5 (.take 6 (.take 7 (.take 8 (.eff 10 (.take 11 .done))))))))))))), (20, (.take 0 (.take 1 (.take 2 (.eff 3 (.take 4 (.eff 5 (.take 6 .done))))))))], nx := [] }

theorem tontineref08_Records.eq (HardTerm : Int) (HardVote : Int) (SnapIndex : Int) (SnapTerm : Int) (SnapConfig : Int) (SnapData : ByteArray) (Entriesa : Option Addr) (Entriesn Entriesc : Nat) (Term : Int) (Vote : Int) (sa : Option Addr) (sn sc : Nat) (R : Value → World → Prop) (w : World) : tontineref08_Records.m HardTerm HardVote SnapIndex SnapTerm SnapConfig SnapData Entriesa Entriesn Entriesc Term Vote sa sn sc R w = fnD Tryz.prog tontineref08_Records.H Tryz.f41 [.agg #[.int .u64 HardTerm, .int .i64 HardVote, .int .u64 SnapIndex, .int .u64 SnapTerm, .int .u64 SnapConfig, .string SnapData, .slice Entriesa Entriesn Entriesc], .agg #[.int .u64 Term, .int .i64 Vote], .slice sa sn sc] R w := by kernel_rfl

theorem tontineref08_Records.ok (HardTerm : Int) (HardVote : Int) (SnapIndex : Int) (SnapTerm : Int) (SnapConfig : Int) (SnapData : ByteArray) (Entriesa : Option Addr) (Entriesn Entriesc : Nat) (Term : Int) (Vote : Int) (sa : Option Addr) (sn sc : Nat) {R : Value → World → Prop} {w : World} (h : tontineref08_Records.m HardTerm HardVote SnapIndex SnapTerm SnapConfig SnapData Entriesa Entriesn Entriesc Term Vote sa sn sc R w) : Calls Tryz.prog 41 #[.agg #[.int .u64 HardTerm, .int .i64 HardVote, .int .u64 SnapIndex, .int .u64 SnapTerm, .int .u64 SnapConfig, .string SnapData, .slice Entriesa Entriesn Entriesc], .agg #[.int .u64 Term, .int .i64 Vote], .slice sa sn sc] w fun e w' => ∃ v, e = .returned v ∧ R v w' :=
  @fn_sound Tryz.prog tontineref08_Records.H 41 Tryz.f41 [.agg #[.int .u64 HardTerm, .int .i64 HardVote, .int .u64 SnapIndex, .int .u64 SnapTerm, .int .u64 SnapConfig, .string SnapData, .slice Entriesa Entriesn Entriesc], .agg #[.int .u64 Term, .int .i64 Vote], .slice sa sn sc] R w Tryz.mixed Tryz.func41 (by kernel_rfl) (by rw [← tontineref08_Records.eq]; exact h)

set_option maxRecDepth 100000
/-- (*tontine/tontineref08.Store).Save -/
def tontineref08_Store_Save.m (tb to_ : Nat) (Term : Int) (Vote : Int) (la : Option Addr) (ln lc : Nat) (R : Value → World → Prop) (w : World) : Prop :=
  (alD w (.cells #[.int .u64 Term, .int .i64 Vote] 40 (0, 0)) fun b1 w_ => (drewD w_ fun w_2 => 
    (∃ HardTerm : Int, ∃ HardVote : Int, ∃ SnapIndex : Int, ∃ SnapTerm : Int, ∃ SnapConfig : Int, ∃ SnapData : ByteArray, ∃ (Entriesa : Option Addr) (Entriesn Entriesc : Nat), rdRow w_2 tb (to_ + 1) [.int .u64 HardTerm, .int .i64 HardVote, .int .u64 SnapIndex, .int .u64 SnapTerm, .int .u64 SnapConfig, .string SnapData, .slice Entriesa Entriesn Entriesc] ∧ 
    (∃ Term2 : Int, ∃ Vote2 : Int, rdRow w_2 b1 0 [.int .u64 Term2, .int .i64 Vote2] ∧ 
    ((Calls Tryz.prog 41 #[.agg #[.int .u64 HardTerm, .int .i64 HardVote, .int .u64 SnapIndex, .int .u64 SnapTerm, .int .u64 SnapConfig, .string SnapData, .slice Entriesa Entriesn Entriesc], .agg #[.int .u64 Term2, .int .i64 Vote2], .slice la ln lc] w_2 fun e_ w_3 => 
    (∃ (ra : Option Addr) (rn rc : Nat), (∃ HardTerm2 : Int, ∃ HardVote2 : Int, ∃ SnapIndex2 : Int, ∃ SnapTerm2 : Int, ∃ SnapConfig2 : Int, ∃ SnapData2 : ByteArray, ∃ (Entriesa2 : Option Addr) (Entriesn2 Entriesc2 : Nat), (∃ r1 : Bool, e_ = .returned (.tuple #[.slice ra rn rc, .agg #[.int .u64 HardTerm2, .int .i64 HardVote2, .int .u64 SnapIndex2, .int .u64 SnapTerm2, .int .u64 SnapConfig2, .string SnapData2, .slice Entriesa2 Entriesn2 Entriesc2], .bool r1]) ∧ 
    (alD w_3 (.cells #[.int .u64 0, .int .i64 0, .int .u64 0, .int .u64 0, .int .u64 0, .string ⟨#[]⟩, .slice none 0 0] 53 (0, 0)) fun b2 w_4 => 
    (stD w_4 b2 0 [.int .u64 HardTerm2, .int .i64 HardVote2, .int .u64 SnapIndex2, .int .u64 SnapTerm2, .int .u64 SnapConfig2, .string SnapData2, .slice Entriesa2 Entriesn2 Entriesc2] fun w_5 => 
    (bif (!r1) then R (.int .i64 1) w_5 else (bif ((rn : Int) == 0) then R (.int .i64 0) w_5 else (∃ vb vo : Nat, World.cell? w_5 ⟨tb, to_, none⟩ = some (pv vb vo) ∧ 
    (Calls Tryz.prog 42 #[pv vb vo, .slice ra rn rc] w_5 fun e_2 w_6 => (∃ r2 : Int, e_2 = .returned (.int .i64 r2) ∧ (bif (r2 == 0) then 
    (∃ HardTerm3 : Int, ∃ HardVote3 : Int, ∃ SnapIndex3 : Int, ∃ SnapTerm3 : Int, ∃ SnapConfig3 : Int, ∃ SnapData3 : ByteArray, ∃ (Entriesa3 : Option Addr) (Entriesn3 Entriesc3 : Nat), rdRow w_6 b2 0 [.int .u64 HardTerm3, .int .i64 HardVote3, .int .u64 SnapIndex3, .int .u64 SnapTerm3, .int .u64 SnapConfig3, .string SnapData3, .slice Entriesa3 Entriesn3 Entriesc3] ∧ 
    (stD w_6 tb (to_ + 1) [.int .u64 HardTerm3, .int .i64 HardVote3, .int .u64 SnapIndex3, .int .u64 SnapTerm3, .int .u64 SnapConfig3, .string SnapData3, .slice Entriesa3 Entriesn3 Entriesc3] fun w_7 => 
    R (.int .i64 r2) w_7)) else R (.int .i64 r2) w_6)))))))))))) ∧ 
    (alD w_2 (.cells #[.int .u64 0, .int .i64 0, .int .u64 0, .int .u64 0, .int .u64 0, .string ⟨#[]⟩, .slice none 0 0] 53 (0, 0)) fun b3 w_8 => rdRow w_8 b1 0 [.int .u64 Term2, .int .i64 Vote2] ∧ 
    rdRow w_8 tb (to_ + 1) [.int .u64 HardTerm, .int .i64 HardVote, .int .u64 SnapIndex, .int .u64 SnapTerm, .int .u64 SnapConfig, .string SnapData, .slice Entriesa Entriesn Entriesc] ∧ 
    (Calls Tryz.prog 41 #[.agg #[.int .u64 HardTerm, .int .i64 HardVote, .int .u64 SnapIndex, .int .u64 SnapTerm, .int .u64 SnapConfig, .string SnapData, .slice Entriesa Entriesn Entriesc], .agg #[.int .u64 Term2, .int .i64 Vote2], .slice la ln lc] w_8 fun e_3 w_9 => 
    (∃ (ra2 : Option Addr) (rn2 rc2 : Nat), (∃ HardTerm4 : Int, ∃ HardVote4 : Int, ∃ SnapIndex4 : Int, ∃ SnapTerm4 : Int, ∃ SnapConfig4 : Int, ∃ SnapData4 : ByteArray, ∃ (Entriesa4 : Option Addr) (Entriesn4 Entriesc4 : Nat), (∃ r3 : Bool, e_3 = .returned (.tuple #[.slice ra2 rn2 rc2, .agg #[.int .u64 HardTerm4, .int .i64 HardVote4, .int .u64 SnapIndex4, .int .u64 SnapTerm4, .int .u64 SnapConfig4, .string SnapData4, .slice Entriesa4 Entriesn4 Entriesc4], .bool r3]) ∧ 
    (stD w_9 b3 0 [.int .u64 HardTerm4, .int .i64 HardVote4, .int .u64 SnapIndex4, .int .u64 SnapTerm4, .int .u64 SnapConfig4, .string SnapData4, .slice Entriesa4 Entriesn4 Entriesc4] fun w_10 => 
    (bif (!r3) then R (.int .i64 1) w_10 else (bif ((rn2 : Int) == 0) then R (.int .i64 0) w_10 else (∃ vb2 vo2 : Nat, World.cell? w_10 ⟨tb, to_, none⟩ = some (pv vb2 vo2) ∧ 
    (Calls Tryz.prog 42 #[pv vb2 vo2, .slice ra2 rn2 rc2] w_10 fun e_4 w_11 => (∃ r4 : Int, e_4 = .returned (.int .i64 r4) ∧ (bif (r4 == 0) then 
    (∃ HardTerm5 : Int, ∃ HardVote5 : Int, ∃ SnapIndex5 : Int, ∃ SnapTerm5 : Int, ∃ SnapConfig5 : Int, ∃ SnapData5 : ByteArray, ∃ (Entriesa5 : Option Addr) (Entriesn5 Entriesc5 : Nat), rdRow w_11 b3 0 [.int .u64 HardTerm5, .int .i64 HardVote5, .int .u64 SnapIndex5, .int .u64 SnapTerm5, .int .u64 SnapConfig5, .string SnapData5, .slice Entriesa5 Entriesn5 Entriesc5] ∧ 
    (stD w_11 tb (to_ + 1) [.int .u64 HardTerm5, .int .i64 HardVote5, .int .u64 SnapIndex5, .int .u64 SnapTerm5, .int .u64 SnapConfig5, .string SnapData5, .slice Entriesa5 Entriesn5 Entriesc5] fun w_12 => 
    R (.int .i64 r4) w_12)) else R (.int .i64 r4) w_11)))))))))))))))))

def tontineref08_Store_Save.H : Hints := { nret := [], nld := [], loops := [], joins := [], unroll := [], plans := [(1, (.take 0 (.take 1 (.take 2 (.take 3 (.take 4 (.take 5 (.both 6 (.take 7 (.take 8 (.take 9 (.take 10 (.eff 11 (.take 12 (.eff 13 (.take 14 .done)))))))) 11 (.eff 6 (.take 7 (.take 8 (.take 9 (.take 10 (.take 12 (.eff 13 (.take 14 .done))))))))))))))))], nx := [] }

theorem tontineref08_Store_Save.eq (tb to_ : Nat) (Term : Int) (Vote : Int) (la : Option Addr) (ln lc : Nat) (R : Value → World → Prop) (w : World) : tontineref08_Store_Save.m tb to_ Term Vote la ln lc R w = fnD Tryz.prog tontineref08_Store_Save.H Tryz.f15 [pv tb to_, .agg #[.int .u64 Term, .int .i64 Vote], .slice la ln lc] R w := by kernel_rfl

theorem tontineref08_Store_Save.ok (tb to_ : Nat) (Term : Int) (Vote : Int) (la : Option Addr) (ln lc : Nat) {R : Value → World → Prop} {w : World} (h : tontineref08_Store_Save.m tb to_ Term Vote la ln lc R w) : Calls Tryz.prog 15 #[pv tb to_, .agg #[.int .u64 Term, .int .i64 Vote], .slice la ln lc] w fun e w' => ∃ v, e = .returned v ∧ R v w' :=
  @fn_sound Tryz.prog tontineref08_Store_Save.H 15 Tryz.f15 [pv tb to_, .agg #[.int .u64 Term, .int .i64 Vote], .slice la ln lc] R w Tryz.mixed Tryz.func15 (by kernel_rfl) (by rw [← tontineref08_Store_Save.eq]; exact h)

set_option maxRecDepth 100000
/-- (*tontine/tontineref08.Store).Anew -/
def tontineref08_Store_Anew.m (tb to_ : Nat) (HardTerm : Int) (HardVote : Int) (SnapIndex : Int) (SnapTerm : Int) (SnapConfig : Int) (SnapData : ByteArray) (Entriesa : Option Addr) (Entriesn Entriesc : Nat) (R : Value → World → Prop) (w : World) : Prop :=
  (alD w (.cells #[.int .u64 HardTerm, .int .i64 HardVote, .int .u64 SnapIndex, .int .u64 SnapTerm, .int .u64 SnapConfig, .string SnapData, .slice Entriesa Entriesn Entriesc] 53 (0, 0)) fun b1 w_ => 
    (∃ HardTerm2 : Int, ∃ HardVote2 : Int, ∃ SnapIndex2 : Int, ∃ SnapTerm2 : Int, ∃ SnapConfig2 : Int, ∃ SnapData2 : ByteArray, ∃ (Entriesa2 : Option Addr) (Entriesn2 Entriesc2 : Nat), rdRow w_ b1 0 [.int .u64 HardTerm2, .int .i64 HardVote2, .int .u64 SnapIndex2, .int .u64 SnapTerm2, .int .u64 SnapConfig2, .string SnapData2, .slice Entriesa2 Entriesn2 Entriesc2] ∧ 
    (Calls Tryz.prog 33 #[.agg #[.int .u64 HardTerm2, .int .i64 HardVote2, .int .u64 SnapIndex2, .int .u64 SnapTerm2, .int .u64 SnapConfig2, .string SnapData2, .slice Entriesa2 Entriesn2 Entriesc2]] w_ fun e_ w_2 => 
    (∃ r1 : Bool, e_ = .returned (.bool r1) ∧ (bif (!r1) then R (.int .i64 1) w_2 else (∃ v1 : ByteArray, World.cell? w_2 ⟨b1, 5, none⟩ = some (.string v1) ∧ 
    (bif (decide ((v1.size : Int) > 32768)) then R (.int .i64 1) w_2 else (drewD w_2 fun w_3 => (∃ Term : Int, ∃ Vote : Int, rdRow w_3 b1 0 [.int .u64 Term, .int .i64 Vote] ∧ 
    (∃ Index : Int, ∃ Term2 : Int, ∃ Config : Int, ∃ Data : ByteArray, rdRow w_3 b1 2 [.int .u64 Index, .int .u64 Term2, .int .u64 Config, .string Data] ∧ 
    (Calls Tryz.prog 34 #[.agg #[.int .u64 Term, .int .i64 Vote]] w_3 fun e_2 w_4 => (∃ r2 : ByteArray, e_2 = .returned (.string r2) ∧ 
    rdRow w_4 b1 2 [.int .u64 Index, .int .u64 Term2, .int .u64 Config, .string Data] ∧ 
    (Calls Tryz.prog 35 #[.agg #[.int .u64 Index, .int .u64 Term2, .int .u64 Config, .string Data]] w_4 fun e_3 w_5 => (∃ r3 : ByteArray, e_3 = .returned (.string r3) ∧ 
    (alD w_5 (.cells #[.string r2, .string r3] 9 (0, 0)) fun b2 w_6 => 
    (∃ (I1 : Option Addr → Nat → Nat → Int → World → Prop) (M1 : Option Addr → Nat → Nat → Int → World → Nat), I1 (some ⟨b2, 0, none⟩) 2 2 0 w_6 ∧ 
    ∀ (jk : Env) (outa : Option Addr) (outn outc : Nat) (i1 : Int) (w_7 : World), I1 outa outn outc i1 w_7 → (∃ (va : Option Addr) (vn vc : Nat), World.cell? w_7 ⟨b1, 6, none⟩ = some (.slice va vn vc) ∧ 
    (bif (decide (i1 < (vn : Int))) then (∃ (va2 : Option Addr) (vn2 vc2 : Nat), World.cell? w_7 ⟨b1, 6, none⟩ = some (.slice va2 vn2 vc2) ∧ (∃ b3 o1 : Nat, va2 = some ⟨b3, o1, none⟩ ∧ (0 : Int) ≤ i1 ∧ 
    i1 < (vn2 : Int) ∧ (∃ Term3 : Int, ∃ Index2 : Int, ∃ Kind : Int, ∃ Data2 : ByteArray, rdRow w_7 b3 (o1 + (i1 : Int).toNat * 4) [.int .u64 Term3, .int .u64 Index2, .int .i64 Kind, .string Data2] ∧ 
    (Calls Tryz.prog 36 #[.agg #[.int .u64 Term3, .int .u64 Index2, .int .i64 Kind, .string Data2]] w_7 fun e_4 w_8 => (∃ r4 : ByteArray, e_4 = .returned (.string r4) ∧ 
    (alD w_8 (.cells #[.string r4] 9 (0, 0)) fun b4 w_9 => (exSl Tryz.prog (Builtin.append_ #[76, 76] 76 #[.slice outa outn outc, .slice (some ⟨b4, 0, none⟩) 1 1]) (fun sa sn sc w_10 => 
    (I1 sa sn sc (w64 (i1 + 1)) w_10 ∧ M1 sa sn sc (w64 (i1 + 1)) w_10 < M1 outa outn outc i1 w_7)) w_9))))))) else (∃ vb vo : Nat, World.cell? w_7 ⟨tb, to_, none⟩ = some (pv vb vo) ∧ 
    (Calls Tryz.prog 37 #[pv vb vo, .slice outa outn outc] w_7 fun e_5 w_11 => (∃ r5 : Int, e_5 = .returned (.int .i64 r5) ∧ (bif (r5 == 0) then (drewD w_11 fun w_12 => 
    (∃ Term4 : Int, ∃ Vote2 : Int, rdRow w_12 b1 0 [.int .u64 Term4, .int .i64 Vote2] ∧ 
    (∃ Index3 : Int, ∃ Term5 : Int, ∃ Config2 : Int, ∃ Data3 : ByteArray, rdRow w_12 b1 2 [.int .u64 Index3, .int .u64 Term5, .int .u64 Config2, .string Data3] ∧ 
    (∃ (va3 : Option Addr) (vn3 vc3 : Nat), World.cell? w_12 ⟨b1, 6, none⟩ = some (.slice va3 vn3 vc3) ∧ 
    (exSl Tryz.prog (Builtin.append_ #[43, 43] 43 #[.slice none 0 0, .slice va3 vn3 vc3]) (fun sa2 sn2 sc2 w_13 => 
    rdRow w_13 b1 2 [.int .u64 Index3, .int .u64 Term5, .int .u64 Config2, .string Data3] ∧ rdRow w_13 b1 0 [.int .u64 Term4, .int .i64 Vote2] ∧ 
    (stD w_13 tb (to_ + 1) [.int .u64 Term4, .int .i64 Vote2, .int .u64 Index3, .int .u64 Term5, .int .u64 Config2, .string Data3, .slice sa2 sn2 sc2] fun w_14 => R (.int .i64 r5) w_14)) w_12)))))
     else R (.int .i64 r5) w_11))))))))))))))))))))))

def tontineref08_Store_Anew.H : Hints := { nret := [], nld := [], loops := [(5, [(5, .slice), (6, .int .i64)])], joins := [], unroll := [], plans := [(3, (.take 0 (.take 1 (.take 3 (.take 4 (.eff 2 (.eff 5 (.eff 6 (.take 7 .done))))))))), (10, (.take 0 (.take 1 (.take 2 (.take 3 (.take 4 (.take 5 (.take 6 (.eff 7 (.take 8 (.take 9 (.take 10 (.eff 11 .done)))))))))))))], nx := [] }

theorem tontineref08_Store_Anew.eq (tb to_ : Nat) (HardTerm : Int) (HardVote : Int) (SnapIndex : Int) (SnapTerm : Int) (SnapConfig : Int) (SnapData : ByteArray) (Entriesa : Option Addr) (Entriesn Entriesc : Nat) (R : Value → World → Prop) (w : World) : tontineref08_Store_Anew.m tb to_ HardTerm HardVote SnapIndex SnapTerm SnapConfig SnapData Entriesa Entriesn Entriesc R w = fnD Tryz.prog tontineref08_Store_Anew.H Tryz.f13 [pv tb to_, .agg #[.int .u64 HardTerm, .int .i64 HardVote, .int .u64 SnapIndex, .int .u64 SnapTerm, .int .u64 SnapConfig, .string SnapData, .slice Entriesa Entriesn Entriesc]] R w := by kernel_rfl

theorem tontineref08_Store_Anew.ok (tb to_ : Nat) (HardTerm : Int) (HardVote : Int) (SnapIndex : Int) (SnapTerm : Int) (SnapConfig : Int) (SnapData : ByteArray) (Entriesa : Option Addr) (Entriesn Entriesc : Nat) {R : Value → World → Prop} {w : World} (h : tontineref08_Store_Anew.m tb to_ HardTerm HardVote SnapIndex SnapTerm SnapConfig SnapData Entriesa Entriesn Entriesc R w) : Calls Tryz.prog 13 #[pv tb to_, .agg #[.int .u64 HardTerm, .int .i64 HardVote, .int .u64 SnapIndex, .int .u64 SnapTerm, .int .u64 SnapConfig, .string SnapData, .slice Entriesa Entriesn Entriesc]] w fun e w' => ∃ v, e = .returned v ∧ R v w' :=
  @fn_sound Tryz.prog tontineref08_Store_Anew.H 13 Tryz.f13 [pv tb to_, .agg #[.int .u64 HardTerm, .int .i64 HardVote, .int .u64 SnapIndex, .int .u64 SnapTerm, .int .u64 SnapConfig, .string SnapData, .slice Entriesa Entriesn Entriesc]] R w Tryz.mixed Tryz.func13 (by kernel_rfl) (by rw [← tontineref08_Store_Anew.eq]; exact h)

set_option maxRecDepth 100000
/-- tontine/tontineref08.Same -/
def tontineref08_Same.m (HardTerm : Int) (HardVote : Int) (SnapIndex : Int) (SnapTerm : Int) (SnapConfig : Int) (SnapData : ByteArray) (Entriesa : Option Addr) (Entriesn Entriesc : Nat) (HardTerm2 : Int) (HardVote2 : Int) (SnapIndex2 : Int) (SnapTerm2 : Int) (SnapConfig2 : Int) (SnapData2 : ByteArray) (Entriesa2 : Option Addr) (Entriesn2 Entriesc2 : Nat) (R : Value → World → Prop) (w : World) : Prop :=
  (alD w (.cells #[.int .u64 HardTerm, .int .i64 HardVote, .int .u64 SnapIndex, .int .u64 SnapTerm, .int .u64 SnapConfig, .string SnapData, .slice Entriesa Entriesn Entriesc] 53 (0, 0)) fun b1 w_ => 
    (alD w_ (.cells #[.int .u64 HardTerm2, .int .i64 HardVote2, .int .u64 SnapIndex2, .int .u64 SnapTerm2, .int .u64 SnapConfig2, .string SnapData2, .slice Entriesa2 Entriesn2 Entriesc2] 53 (0, 0)) fun b2 w_2 => 
    (∃ Term : Int, ∃ Vote : Int, rdRow w_2 b1 0 [.int .u64 Term, .int .i64 Vote] ∧ (∃ Term2 : Int, ∃ Vote2 : Int, rdRow w_2 b2 0 [.int .u64 Term2, .int .i64 Vote2] ∧ 
    (∃ q1 : Bool, eqRuns Tryz.prog .eql 40 (.tmp 6) (.tmp 8) (.agg #[.int .u64 Term, .int .i64 Vote]) (.agg #[.int .u64 Term2, .int .i64 Vote2]) q1 ∧ (bif q1 then 
    (∃ Index : Int, ∃ Term3 : Int, ∃ Config : Int, ∃ Data : ByteArray, rdRow w_2 b1 2 [.int .u64 Index, .int .u64 Term3, .int .u64 Config, .string Data] ∧ 
    (∃ Index2 : Int, ∃ Term4 : Int, ∃ Config2 : Int, ∃ Data2 : ByteArray, rdRow w_2 b2 2 [.int .u64 Index2, .int .u64 Term4, .int .u64 Config2, .string Data2] ∧ 
    (∃ q2 : Bool, eqRuns Tryz.prog .eql 42 (.tmp 12) (.tmp 14) (.agg #[.int .u64 Index, .int .u64 Term3, .int .u64 Config, .string Data]) (.agg #[.int .u64 Index2, .int .u64 Term4, .int .u64 Config2, .string Data2]) q2 ∧ 
    (bif q2 then (∃ (va : Option Addr) (vn vc : Nat), World.cell? w_2 ⟨b1, 6, none⟩ = some (.slice va vn vc) ∧ 
    (∃ (va2 : Option Addr) (vn2 vc2 : Nat), World.cell? w_2 ⟨b2, 6, none⟩ = some (.slice va2 vn2 vc2) ∧ (Calls Tryz.prog 59 #[.slice va vn vc, .slice va2 vn2 vc2] w_2 fun e_ w_3 => 
    (∃ r1 : Bool, e_ = .returned (.bool r1) ∧ R (.bool r1) w_3)))) else R (.bool false) w_2)))) else R (.bool false) w_2))))))

def tontineref08_Same.H : Hints := { nret := [], nld := [], loops := [], joins := [], unroll := [], plans := [], nx := [] }

theorem tontineref08_Same.eq (HardTerm : Int) (HardVote : Int) (SnapIndex : Int) (SnapTerm : Int) (SnapConfig : Int) (SnapData : ByteArray) (Entriesa : Option Addr) (Entriesn Entriesc : Nat) (HardTerm2 : Int) (HardVote2 : Int) (SnapIndex2 : Int) (SnapTerm2 : Int) (SnapConfig2 : Int) (SnapData2 : ByteArray) (Entriesa2 : Option Addr) (Entriesn2 Entriesc2 : Nat) (R : Value → World → Prop) (w : World) : tontineref08_Same.m HardTerm HardVote SnapIndex SnapTerm SnapConfig SnapData Entriesa Entriesn Entriesc HardTerm2 HardVote2 SnapIndex2 SnapTerm2 SnapConfig2 SnapData2 Entriesa2 Entriesn2 Entriesc2 R w = fnD Tryz.prog tontineref08_Same.H Tryz.f28 [.agg #[.int .u64 HardTerm, .int .i64 HardVote, .int .u64 SnapIndex, .int .u64 SnapTerm, .int .u64 SnapConfig, .string SnapData, .slice Entriesa Entriesn Entriesc], .agg #[.int .u64 HardTerm2, .int .i64 HardVote2, .int .u64 SnapIndex2, .int .u64 SnapTerm2, .int .u64 SnapConfig2, .string SnapData2, .slice Entriesa2 Entriesn2 Entriesc2]] R w := by kernel_rfl

theorem tontineref08_Same.ok (HardTerm : Int) (HardVote : Int) (SnapIndex : Int) (SnapTerm : Int) (SnapConfig : Int) (SnapData : ByteArray) (Entriesa : Option Addr) (Entriesn Entriesc : Nat) (HardTerm2 : Int) (HardVote2 : Int) (SnapIndex2 : Int) (SnapTerm2 : Int) (SnapConfig2 : Int) (SnapData2 : ByteArray) (Entriesa2 : Option Addr) (Entriesn2 Entriesc2 : Nat) {R : Value → World → Prop} {w : World} (h : tontineref08_Same.m HardTerm HardVote SnapIndex SnapTerm SnapConfig SnapData Entriesa Entriesn Entriesc HardTerm2 HardVote2 SnapIndex2 SnapTerm2 SnapConfig2 SnapData2 Entriesa2 Entriesn2 Entriesc2 R w) : Calls Tryz.prog 28 #[.agg #[.int .u64 HardTerm, .int .i64 HardVote, .int .u64 SnapIndex, .int .u64 SnapTerm, .int .u64 SnapConfig, .string SnapData, .slice Entriesa Entriesn Entriesc], .agg #[.int .u64 HardTerm2, .int .i64 HardVote2, .int .u64 SnapIndex2, .int .u64 SnapTerm2, .int .u64 SnapConfig2, .string SnapData2, .slice Entriesa2 Entriesn2 Entriesc2]] w fun e w' => ∃ v, e = .returned v ∧ R v w' :=
  @fn_sound Tryz.prog tontineref08_Same.H 28 Tryz.f28 [.agg #[.int .u64 HardTerm, .int .i64 HardVote, .int .u64 SnapIndex, .int .u64 SnapTerm, .int .u64 SnapConfig, .string SnapData, .slice Entriesa Entriesn Entriesc], .agg #[.int .u64 HardTerm2, .int .i64 HardVote2, .int .u64 SnapIndex2, .int .u64 SnapTerm2, .int .u64 SnapConfig2, .string SnapData2, .slice Entriesa2 Entriesn2 Entriesc2]] R w Tryz.mixed Tryz.func28 (by kernel_rfl) (by rw [← tontineref08_Same.eq]; exact h)

set_option maxRecDepth 100000
/-- tontine/tontinelaw08.begun -/
def tontinelaw08_begun.m  (R : Value → World → Prop) (w : World) : Prop :=
  (Calls Tryz.prog 6 #[.int .i64 1000] w fun e_ w_ => (∃ rb ro : Nat, (∃ r1 : Int, e_ = .returned (.tuple #[pv rb ro, .int .i64 r1]) ∧ 
    (Calls Tryz.prog 9 #[pv rb ro, .int .i64 0, .int .u64 7] w_ fun e_2 w_2 => 
    (∃ rb2 ro2 : Nat, (∃ HardTerm : Int, ∃ HardVote : Int, ∃ SnapIndex : Int, ∃ SnapTerm : Int, ∃ SnapConfig : Int, ∃ SnapData : ByteArray, ∃ (Entriesa : Option Addr) (Entriesn Entriesc : Nat), (∃ r2 : Int, e_2 = .returned (.tuple #[pv rb2 ro2, .agg #[.int .u64 HardTerm, .int .i64 HardVote, .int .u64 SnapIndex, .int .u64 SnapTerm, .int .u64 SnapConfig, .string SnapData, .slice Entriesa Entriesn Entriesc], .int .i64 r2]) ∧ 
    (alD w_2 (.cells #[.int .u64 0, .int .i64 0, .int .u64 0, .int .u64 0, .int .u64 0, .string ⟨#[]⟩, .slice none 0 0] 45 (0, 0)) fun b1 w_3 => 
    (stD w_3 b1 0 [.int .u64 HardTerm, .int .i64 HardVote, .int .u64 SnapIndex, .int .u64 SnapTerm, .int .u64 SnapConfig, .string SnapData, .slice Entriesa Entriesn Entriesc] fun w_4 => 
    (alD w_4 (.cells #[.int .u64 3, .int .u64 1, .int .i64 0, .string ⟨#[]⟩] 69 (0, 0)) fun b2 w_5 => 
    (Calls Tryz.prog 14 #[pv rb2 ro2, .agg #[.int .u64 3, .int .i64 1], .slice (some ⟨b2, 0, none⟩) 1 1] w_5 fun e_3 w_6 => (∃ r3 : Int, e_3 = .returned (.int .i64 r3) ∧ 
    (Calls Tryz.prog 19 #[pv rb ro, .slice none 0 0] w_6 fun e_4 w_7 => (∃ rb3 ro3 : Nat, e_4 = .returned (pv rb3 ro3) ∧ (Calls Tryz.prog 9 #[pv rb3 ro3, .int .i64 0, .int .u64 7] w_7 fun e_5 w_8 => 
    (∃ rb4 ro4 : Nat, (∃ HardTerm2 : Int, ∃ HardVote2 : Int, ∃ SnapIndex2 : Int, ∃ SnapTerm2 : Int, ∃ SnapConfig2 : Int, ∃ SnapData2 : ByteArray, ∃ (Entriesa2 : Option Addr) (Entriesn2 Entriesc2 : Nat), (∃ r4 : Int, e_5 = .returned (.tuple #[pv rb4 ro4, .agg #[.int .u64 HardTerm2, .int .i64 HardVote2, .int .u64 SnapIndex2, .int .u64 SnapTerm2, .int .u64 SnapConfig2, .string SnapData2, .slice Entriesa2 Entriesn2 Entriesc2], .int .i64 r4]) ∧ 
    (alD w_8 (.cells #[.int .u64 0, .int .i64 0, .int .u64 0, .int .u64 0, .int .u64 0, .string ⟨#[]⟩, .slice none 0 0] 45 (0, 0)) fun b3 w_9 => 
    (stD w_9 b3 0 [.int .u64 HardTerm2, .int .i64 HardVote2, .int .u64 SnapIndex2, .int .u64 SnapTerm2, .int .u64 SnapConfig2, .string SnapData2, .slice Entriesa2 Entriesn2 Entriesc2] fun w_10 => 
    (bif (r2 == 0) then (bif (r3 == 0) then (bif (r4 == 0) then (∃ v1 : Int, World.cell? w_10 ⟨b1, 1, none⟩ = some (.int .i64 v1) ∧ (bif (v1 == (-1)) then 
    (∃ Term : Int, ∃ Vote : Int, rdRow w_10 b3 0 [.int .u64 Term, .int .i64 Vote] ∧ 
    (∃ q1 : Bool, eqRuns Tryz.prog .eql 40 (.tmp 50) (.tmp 51) (.agg #[.int .u64 Term, .int .i64 Vote]) (.agg #[.int .u64 3, .int .i64 1]) q1 ∧ (bif q1 then 
    (∃ (va : Option Addr) (vn vc : Nat), World.cell? w_10 ⟨b3, 6, none⟩ = some (.slice va vn vc) ∧ R (.bool ((vn : Int) == 1)) w_10) else R (.bool false) w_10))) else R (.bool false) w_10))
     else R (.bool false) w_10) else R (.bool false) w_10) else R (.bool false) w_10)))))))))))))))))))))

def tontinelaw08_begun.H : Hints := { nret := [], nld := [], loops := [], joins := [], unroll := [], plans := [], nx := [] }

theorem tontinelaw08_begun.eq  (R : Value → World → Prop) (w : World) : tontinelaw08_begun.m  R w = fnD Tryz.prog tontinelaw08_begun.H Tryz.f4 [] R w := by kernel_rfl

theorem tontinelaw08_begun.ok  {R : Value → World → Prop} {w : World} (h : tontinelaw08_begun.m  R w) : Calls Tryz.prog 4 #[] w fun e w' => ∃ v, e = .returned v ∧ R v w' :=
  @fn_sound Tryz.prog tontinelaw08_begun.H 4 Tryz.f4 [] R w Tryz.mixed Tryz.func4 (by kernel_rfl) (by rw [← tontinelaw08_begun.eq]; exact h)

set_option maxRecDepth 100000
/-- tontine/tontinelaw08.same -/
def tontinelaw08_same.m (HardTerm : Int) (HardVote : Int) (SnapIndex : Int) (SnapTerm : Int) (SnapConfig : Int) (SnapData : ByteArray) (Entriesa : Option Addr) (Entriesn Entriesc : Nat) (HardTerm2 : Int) (HardVote2 : Int) (SnapIndex2 : Int) (SnapTerm2 : Int) (SnapConfig2 : Int) (SnapData2 : ByteArray) (Entriesa2 : Option Addr) (Entriesn2 Entriesc2 : Nat) (R : Value → World → Prop) (w : World) : Prop :=
  (alD w (.cells #[.int .u64 HardTerm, .int .i64 HardVote, .int .u64 SnapIndex, .int .u64 SnapTerm, .int .u64 SnapConfig, .string SnapData, .slice Entriesa Entriesn Entriesc] 45 (0, 0)) fun b1 w_ => 
    (alD w_ (.cells #[.int .u64 HardTerm2, .int .i64 HardVote2, .int .u64 SnapIndex2, .int .u64 SnapTerm2, .int .u64 SnapConfig2, .string SnapData2, .slice Entriesa2 Entriesn2 Entriesc2] 53 (0, 0)) fun b2 w_2 => 
    (∃ Term : Int, ∃ Vote : Int, rdRow w_2 b1 0 [.int .u64 Term, .int .i64 Vote] ∧ 
    (∃ Index : Int, ∃ Term2 : Int, ∃ Config : Int, ∃ Data : ByteArray, rdRow w_2 b1 2 [.int .u64 Index, .int .u64 Term2, .int .u64 Config, .string Data] ∧ 
    (∃ (va : Option Addr) (vn vc : Nat), World.cell? w_2 ⟨b1, 6, none⟩ = some (.slice va vn vc) ∧ 
    (∃ HardTerm3 : Int, ∃ HardVote3 : Int, ∃ SnapIndex3 : Int, ∃ SnapTerm3 : Int, ∃ SnapConfig3 : Int, ∃ SnapData3 : ByteArray, ∃ (Entriesa3 : Option Addr) (Entriesn3 Entriesc3 : Nat), rdRow w_2 b2 0 [.int .u64 HardTerm3, .int .i64 HardVote3, .int .u64 SnapIndex3, .int .u64 SnapTerm3, .int .u64 SnapConfig3, .string SnapData3, .slice Entriesa3 Entriesn3 Entriesc3] ∧ 
    (Calls Tryz.prog 28 #[.agg #[.int .u64 Term, .int .i64 Vote, .int .u64 Index, .int .u64 Term2, .int .u64 Config, .string Data, .slice va vn vc], .agg #[.int .u64 HardTerm3, .int .i64 HardVote3, .int .u64 SnapIndex3, .int .u64 SnapTerm3, .int .u64 SnapConfig3, .string SnapData3, .slice Entriesa3 Entriesn3 Entriesc3]] w_2 fun e_ w_3 => 
    (∃ r1 : Bool, e_ = .returned (.bool r1) ∧ R (.bool r1) w_3))))))))

def tontinelaw08_same.H : Hints := { nret := [], nld := [], loops := [], joins := [], unroll := [], plans := [], nx := [] }

theorem tontinelaw08_same.eq (HardTerm : Int) (HardVote : Int) (SnapIndex : Int) (SnapTerm : Int) (SnapConfig : Int) (SnapData : ByteArray) (Entriesa : Option Addr) (Entriesn Entriesc : Nat) (HardTerm2 : Int) (HardVote2 : Int) (SnapIndex2 : Int) (SnapTerm2 : Int) (SnapConfig2 : Int) (SnapData2 : ByteArray) (Entriesa2 : Option Addr) (Entriesn2 Entriesc2 : Nat) (R : Value → World → Prop) (w : World) : tontinelaw08_same.m HardTerm HardVote SnapIndex SnapTerm SnapConfig SnapData Entriesa Entriesn Entriesc HardTerm2 HardVote2 SnapIndex2 SnapTerm2 SnapConfig2 SnapData2 Entriesa2 Entriesn2 Entriesc2 R w = fnD Tryz.prog tontinelaw08_same.H Tryz.f11 [.agg #[.int .u64 HardTerm, .int .i64 HardVote, .int .u64 SnapIndex, .int .u64 SnapTerm, .int .u64 SnapConfig, .string SnapData, .slice Entriesa Entriesn Entriesc], .agg #[.int .u64 HardTerm2, .int .i64 HardVote2, .int .u64 SnapIndex2, .int .u64 SnapTerm2, .int .u64 SnapConfig2, .string SnapData2, .slice Entriesa2 Entriesn2 Entriesc2]] R w := by kernel_rfl

theorem tontinelaw08_same.ok (HardTerm : Int) (HardVote : Int) (SnapIndex : Int) (SnapTerm : Int) (SnapConfig : Int) (SnapData : ByteArray) (Entriesa : Option Addr) (Entriesn Entriesc : Nat) (HardTerm2 : Int) (HardVote2 : Int) (SnapIndex2 : Int) (SnapTerm2 : Int) (SnapConfig2 : Int) (SnapData2 : ByteArray) (Entriesa2 : Option Addr) (Entriesn2 Entriesc2 : Nat) {R : Value → World → Prop} {w : World} (h : tontinelaw08_same.m HardTerm HardVote SnapIndex SnapTerm SnapConfig SnapData Entriesa Entriesn Entriesc HardTerm2 HardVote2 SnapIndex2 SnapTerm2 SnapConfig2 SnapData2 Entriesa2 Entriesn2 Entriesc2 R w) : Calls Tryz.prog 11 #[.agg #[.int .u64 HardTerm, .int .i64 HardVote, .int .u64 SnapIndex, .int .u64 SnapTerm, .int .u64 SnapConfig, .string SnapData, .slice Entriesa Entriesn Entriesc], .agg #[.int .u64 HardTerm2, .int .i64 HardVote2, .int .u64 SnapIndex2, .int .u64 SnapTerm2, .int .u64 SnapConfig2, .string SnapData2, .slice Entriesa2 Entriesn2 Entriesc2]] w fun e w' => ∃ v, e = .returned v ∧ R v w' :=
  @fn_sound Tryz.prog tontinelaw08_same.H 11 Tryz.f11 [.agg #[.int .u64 HardTerm, .int .i64 HardVote, .int .u64 SnapIndex, .int .u64 SnapTerm, .int .u64 SnapConfig, .string SnapData, .slice Entriesa Entriesn Entriesc], .agg #[.int .u64 HardTerm2, .int .i64 HardVote2, .int .u64 SnapIndex2, .int .u64 SnapTerm2, .int .u64 SnapConfig2, .string SnapData2, .slice Entriesa2 Entriesn2 Entriesc2]] R w Tryz.mixed Tryz.func11 (by kernel_rfl) (by rw [← tontinelaw08_same.eq]; exact h)

set_option maxRecDepth 100000
/-- tontine/tontinelaw08.light -/
def tontinelaw08_light.m (callsa : Option Addr) (callsn callsc : Nat) (R : Value → World → Prop) (w : World) : Prop :=
  (∃ (I1 : Int → Int → World → Prop) (M1 : Int → Int → World → Nat), I1 0 0 w ∧ ∀ (jk : Env) (n1 : Int) (i1 : Int) (w_ : World), I1 n1 i1 w_ → (bif (decide (i1 < (callsn : Int))) then 
    (∃ b1 o1 : Nat, callsa = some ⟨b1, o1, none⟩ ∧ (0 : Int) ≤ i1 ∧ i1 < (callsn : Int) ∧ 
    (∃ Anew : Bool, ∃ HardTerm : Int, ∃ HardVote : Int, ∃ SnapIndex : Int, ∃ SnapTerm : Int, ∃ SnapConfig : Int, ∃ SnapData : ByteArray, ∃ (La : Option Addr) (Ln Lc : Nat), rdRow w_ b1 (o1 + (i1 : Int).toNat * 8) [.bool Anew, .int .u64 HardTerm, .int .i64 HardVote, .int .u64 SnapIndex, .int .u64 SnapTerm, .int .u64 SnapConfig, .string SnapData, .slice La Ln Lc] ∧ 
    (alD w_ (.cells #[.bool false, .int .u64 0, .int .i64 0, .int .u64 0, .int .u64 0, .int .u64 0, .string ⟨#[]⟩, .slice none 0 0] 57 (0, 0)) fun b2 w_2 => 
    (stD w_2 b2 0 [.bool Anew, .int .u64 HardTerm, .int .i64 HardVote, .int .u64 SnapIndex, .int .u64 SnapTerm, .int .u64 SnapConfig, .string SnapData, .slice La Ln Lc] fun w_3 => 
    (∃ (va : Option Addr) (vn vc : Nat), World.cell? w_3 ⟨b2, 7, none⟩ = some (.slice va vn vc) ∧ (∃ v1 : ByteArray, World.cell? w_3 ⟨b2, 6, none⟩ = some (.string v1) ∧ 
    (∃ (va2 : Option Addr) (vn2 vc2 : Nat), World.cell? w_3 ⟨b2, 7, none⟩ = some (.slice va2 vn2 vc2) ∧ 
    (∃ (I2 : Int → Int → World → Prop) (M2 : Int → Int → World → Nat), I2 (w64 (n1 + (w64 ((w64 (1 + (vn : Int))) + (w64 (Int.tdiv (v1.size : Int) 50)))))) 0 w_3 ∧ 
    ∀ (jk2 : Env) (n2 : Int) (i2 : Int) (w_4 : World), I2 n2 i2 w_4 → (bif (decide (i2 < (vn2 : Int))) then (∃ b3 o2 : Nat, va2 = some ⟨b3, o2, none⟩ ∧ (0 : Int) ≤ i2 ∧ i2 < (vn2 : Int) ∧ 
    (∃ Term : Int, ∃ Index : Int, ∃ Kind : Int, ∃ Data : ByteArray, rdRow w_4 b3 (o2 + (i2 : Int).toNat * 4) [.int .u64 Term, .int .u64 Index, .int .i64 Kind, .string Data] ∧ 
    (alD w_4 (.cells #[.int .u64 0, .int .u64 0, .int .i64 0, .string ⟨#[]⟩] 69 (0, 0)) fun b4 w_5 => (stD w_5 b4 0 [.int .u64 Term, .int .u64 Index, .int .i64 Kind, .string Data] fun w_6 => 
    (∃ v2 : ByteArray, World.cell? w_6 ⟨b4, 3, none⟩ = some (.string v2) ∧ (I2 (w64 (n2 + (w64 (Int.tdiv (v2.size : Int) 50)))) (w64 (i2 + 1)) w_6 ∧ 
    M2 (w64 (n2 + (w64 (Int.tdiv (v2.size : Int) 50)))) (w64 (i2 + 1)) w_6 < M2 n2 i2 w_4)))))) else (I1 n2 (w64 (i1 + 1)) w_4 ∧ M1 n2 (w64 (i1 + 1)) w_4 < M1 n1 i1 w_))))))))))
     else R (.bool (decide (n1 ≤ 400))) w_))

def tontinelaw08_light.H : Hints := { nret := [], nld := [], loops := [(3, [(3, .int .i64), (10, .int .i64)]), (7, [(3, .int .i64), (29, .int .i64)])], joins := [], unroll := [], plans := [], nx := [] }

theorem tontinelaw08_light.eq (callsa : Option Addr) (callsn callsc : Nat) (R : Value → World → Prop) (w : World) : tontinelaw08_light.m callsa callsn callsc R w = fnD Tryz.prog tontinelaw08_light.H Tryz.f5 [.slice callsa callsn callsc] R w := by kernel_rfl

theorem tontinelaw08_light.ok (callsa : Option Addr) (callsn callsc : Nat) {R : Value → World → Prop} {w : World} (h : tontinelaw08_light.m callsa callsn callsc R w) : Calls Tryz.prog 5 #[.slice callsa callsn callsc] w fun e w' => ∃ v, e = .returned v ∧ R v w' :=
  @fn_sound Tryz.prog tontinelaw08_light.H 5 Tryz.f5 [.slice callsa callsn callsc] R w Tryz.mixed Tryz.func5 (by kernel_rfl) (by rw [← tontinelaw08_light.eq]; exact h)

set_option maxRecDepth 100000
/-- tontine/tontinelaw08.StoreRuns -/
def tontinelaw08_StoreRuns.m (L1 : Int) (ia : Option Addr) (in_ ic : Nat) (R : Value → World → Prop) (w : World) : Prop :=
  (Calls Tryz.prog 4 #[] w fun e_ w_ => (∃ r1 : Bool, e_ = .returned (.bool r1) ∧ (bif (!r1) then R (.bool false) w_ else (Calls Tryz.prog 5 #[.slice ia in_ ic] w_ fun e_2 w_2 => 
    (∃ r2 : Bool, e_2 = .returned (.bool r2) ∧ (bif (!r2) then R (.bool true) w_2 else (Calls Tryz.prog 6 #[.int .i64 60000] w_2 fun e_3 w_3 => 
    (∃ rb ro : Nat, (∃ r3 : Int, e_3 = .returned (.tuple #[pv rb ro, .int .i64 r3]) ∧ (Calls Tryz.prog 7 #[.int .i64 60000] w_3 fun e_4 w_4 => 
    (∃ rb2 ro2 : Nat, (∃ r4 : Int, e_4 = .returned (.tuple #[pv rb2 ro2, .int .i64 r4]) ∧ (Calls Tryz.prog 8 #[pv rb ro, .int .i64 L1] w_4 fun e_5 w_5 => e_5 = .returned (.tuple #[]) ∧ 
    (stD w_5 rb2 (ro2 + 49) [.int .i64 (maxV L1 (-1))] fun w_6 => (Calls Tryz.prog 9 #[pv rb ro, .int .i64 1, .int .u64 7] w_6 fun e_6 w_7 => 
    (((∃ HardTerm : Int, ∃ HardVote : Int, ∃ SnapIndex : Int, ∃ SnapTerm : Int, ∃ SnapConfig : Int, ∃ SnapData : ByteArray, ∃ (Entriesa : Option Addr) (Entriesn Entriesc : Nat), (∃ r5 : Int, e_6 = .returned (.tuple #[.pointer none, .agg #[.int .u64 HardTerm, .int .i64 HardVote, .int .u64 SnapIndex, .int .u64 SnapTerm, .int .u64 SnapConfig, .string SnapData, .slice Entriesa Entriesn Entriesc], .int .i64 r5]) ∧ 
    (alD w_7 (.cells #[.int .u64 0, .int .i64 0, .int .u64 0, .int .u64 0, .int .u64 0, .string ⟨#[]⟩, .slice none 0 0] 45 (0, 0)) fun b1 w_8 => 
    (stD w_8 b1 0 [.int .u64 HardTerm, .int .i64 HardVote, .int .u64 SnapIndex, .int .u64 SnapTerm, .int .u64 SnapConfig, .string SnapData, .slice Entriesa Entriesn Entriesc] fun w_9 => 
    (Calls Tryz.prog 10 #[pv rb2 ro2, .int .i64 1, .int .u64 7] w_9 fun e_7 w_10 => (((∃ r6 : Int, e_7 = .returned (.tuple #[.pointer none, .int .i64 r6]) ∧ (bif (r5 != 0) then (bif (r5 == r6) then 
    R (.bool true) w_10 else R (.bool false) w_10) else (bif (r6 != 0) then (bif (r5 == r6) then R (.bool true) w_10 else R (.bool false) w_10) else (drewD w_10 fun w_11 => 
    (∃ HardTerm2 : Int, ∃ HardVote2 : Int, ∃ SnapIndex2 : Int, ∃ SnapTerm2 : Int, ∃ SnapConfig2 : Int, ∃ SnapData2 : ByteArray, ∃ (Entriesa2 : Option Addr) (Entriesn2 Entriesc2 : Nat), rdRow w_11 b1 0 [.int .u64 HardTerm2, .int .i64 HardVote2, .int .u64 SnapIndex2, .int .u64 SnapTerm2, .int .u64 SnapConfig2, .string SnapData2, .slice Entriesa2 Entriesn2 Entriesc2] ∧ 
    False)))))) ∨ ∃ rb3 ro3 : Nat, ((∃ r7 : Int, e_7 = .returned (.tuple #[pv rb3 ro3, .int .i64 r7]) ∧ (bif (r5 != 0) then (bif (r5 == r7) then R (.bool true) w_10 else R (.bool false) w_10)
     else (bif (r7 != 0) then (bif (r5 == r7) then R (.bool true) w_10 else R (.bool false) w_10) else (drewD w_10 fun w_12 => 
    (∃ HardTerm3 : Int, ∃ HardVote3 : Int, ∃ SnapIndex3 : Int, ∃ SnapTerm3 : Int, ∃ SnapConfig3 : Int, ∃ SnapData3 : ByteArray, ∃ (Entriesa3 : Option Addr) (Entriesn3 Entriesc3 : Nat), rdRow w_12 b1 0 [.int .u64 HardTerm3, .int .i64 HardVote3, .int .u64 SnapIndex3, .int .u64 SnapTerm3, .int .u64 SnapConfig3, .string SnapData3, .slice Entriesa3 Entriesn3 Entriesc3] ∧ 
    (∃ HardTerm4 : Int, ∃ HardVote4 : Int, ∃ SnapIndex4 : Int, ∃ SnapTerm4 : Int, ∃ SnapConfig4 : Int, ∃ SnapData4 : ByteArray, ∃ (Entriesa4 : Option Addr) (Entriesn4 Entriesc4 : Nat), rdRow w_12 rb3 (ro3 + 1) [.int .u64 HardTerm4, .int .i64 HardVote4, .int .u64 SnapIndex4, .int .u64 SnapTerm4, .int .u64 SnapConfig4, .string SnapData4, .slice Entriesa4 Entriesn4 Entriesc4] ∧ 
    (Calls Tryz.prog 11 #[.agg #[.int .u64 HardTerm3, .int .i64 HardVote3, .int .u64 SnapIndex3, .int .u64 SnapTerm3, .int .u64 SnapConfig3, .string SnapData3, .slice Entriesa3 Entriesn3 Entriesc3], .agg #[.int .u64 HardTerm4, .int .i64 HardVote4, .int .u64 SnapIndex4, .int .u64 SnapTerm4, .int .u64 SnapConfig4, .string SnapData4, .slice Entriesa4 Entriesn4 Entriesc4]] w_12 fun e_8 w_13 => 
    (∃ r8 : Bool, e_8 = .returned (.bool r8) ∧ (bif (!r8) then R (.bool false) w_13 else (∃ (I1 : Int → World → Prop) (M1 : Int → World → Nat), I1 0 w_13 ∧ 
    ∀ (jk : Env) (i1 : Int) (w_14 : World), I1 i1 w_14 → (bif (decide (i1 < (in_ : Int))) then (∃ b2 o1 : Nat, ia = some ⟨b2, o1, none⟩ ∧ (0 : Int) ≤ i1 ∧ i1 < (in_ : Int) ∧ 
    (∃ Anew : Bool, ∃ HardTerm5 : Int, ∃ HardVote5 : Int, ∃ SnapIndex5 : Int, ∃ SnapTerm5 : Int, ∃ SnapConfig5 : Int, ∃ SnapData5 : ByteArray, ∃ (La : Option Addr) (Ln Lc : Nat), rdRow w_14 b2 (o1 + (i1 : Int).toNat * 8) [.bool Anew, .int .u64 HardTerm5, .int .i64 HardVote5, .int .u64 SnapIndex5, .int .u64 SnapTerm5, .int .u64 SnapConfig5, .string SnapData5, .slice La Ln Lc] ∧ 
    (alD w_14 (.cells #[.bool false, .int .u64 0, .int .i64 0, .int .u64 0, .int .u64 0, .int .u64 0, .string ⟨#[]⟩, .slice none 0 0] 57 (0, 0)) fun b3 w_15 => 
    (stD w_15 b3 0 [.bool Anew, .int .u64 HardTerm5, .int .i64 HardVote5, .int .u64 SnapIndex5, .int .u64 SnapTerm5, .int .u64 SnapConfig5, .string SnapData5, .slice La Ln Lc] fun w_16 => 
    (∃ J1 : Int → Int → World → Prop, (∃ v1 : Bool, World.cell? w_16 ⟨b3, 0, none⟩ = some (.bool v1) ∧ (bif v1 then (drewD w_16 fun w_18 => 
    (∃ Term : Int, ∃ Vote : Int, rdRow w_18 b3 1 [.int .u64 Term, .int .i64 Vote] ∧ 
    (∃ Index : Int, ∃ Term2 : Int, ∃ Config : Int, ∃ Data : ByteArray, rdRow w_18 b3 3 [.int .u64 Index, .int .u64 Term2, .int .u64 Config, .string Data] ∧ 
    (∃ (va : Option Addr) (vn vc : Nat), World.cell? w_18 ⟨b3, 7, none⟩ = some (.slice va vn vc) ∧ (∃ Term3 : Int, ∃ Vote2 : Int, rdRow w_18 b3 1 [.int .u64 Term3, .int .i64 Vote2] ∧ 
    (∃ Index2 : Int, ∃ Term4 : Int, ∃ Config2 : Int, ∃ Data2 : ByteArray, rdRow w_18 b3 3 [.int .u64 Index2, .int .u64 Term4, .int .u64 Config2, .string Data2] ∧ 
    (∃ (va2 : Option Addr) (vn2 vc2 : Nat), World.cell? w_18 ⟨b3, 7, none⟩ = some (.slice va2 vn2 vc2) ∧ 
    (Calls Tryz.prog 12 #[.pointer none, .agg #[.int .u64 Term, .int .i64 Vote, .int .u64 Index, .int .u64 Term2, .int .u64 Config, .string Data, .slice va vn vc]] w_18 fun e_9 w_19 => 
    (∃ r9 : Int, e_9 = .returned (.int .i64 r9) ∧ World.cell? w_19 ⟨b3, 7, none⟩ = some (.slice va2 vn2 vc2) ∧ rdRow w_19 b3 3 [.int .u64 Index2, .int .u64 Term4, .int .u64 Config2, .string Data2] ∧ 
    rdRow w_19 b3 1 [.int .u64 Term3, .int .i64 Vote2] ∧ World.cell? w_19 ⟨b3, 7, none⟩ = some (.slice va vn vc) ∧ rdRow w_19 b3 3 [.int .u64 Index, .int .u64 Term2, .int .u64 Config, .string Data] ∧ 
    rdRow w_19 b3 1 [.int .u64 Term, .int .i64 Vote] ∧ 
    (Calls Tryz.prog 13 #[pv rb3 ro3, .agg #[.int .u64 Term3, .int .i64 Vote2, .int .u64 Index2, .int .u64 Term4, .int .u64 Config2, .string Data2, .slice va2 vn2 vc2]] w_19 fun e_10 w_20 => 
    (∃ r10 : Int, e_10 = .returned (.int .i64 r10) ∧ World.cell? w_20 ⟨b3, 7, none⟩ = some (.slice va2 vn2 vc2) ∧ rdRow w_20 b3 3 [.int .u64 Index2, .int .u64 Term4, .int .u64 Config2, .string Data2] ∧ 
    rdRow w_20 b3 1 [.int .u64 Term3, .int .i64 Vote2] ∧ World.cell? w_20 ⟨b3, 7, none⟩ = some (.slice va vn vc) ∧ rdRow w_20 b3 3 [.int .u64 Index, .int .u64 Term2, .int .u64 Config, .string Data] ∧ 
    rdRow w_20 b3 1 [.int .u64 Term, .int .i64 Vote] ∧ J1 r9 r10 w_20))))))))))) else (drewD w_16 fun w_21 => (∃ Term5 : Int, ∃ Vote3 : Int, rdRow w_21 b3 1 [.int .u64 Term5, .int .i64 Vote3] ∧ 
    (∃ (va3 : Option Addr) (vn3 vc3 : Nat), World.cell? w_21 ⟨b3, 7, none⟩ = some (.slice va3 vn3 vc3) ∧ (∃ Term6 : Int, ∃ Vote4 : Int, rdRow w_21 b3 1 [.int .u64 Term6, .int .i64 Vote4] ∧ 
    (∃ (va4 : Option Addr) (vn4 vc4 : Nat), World.cell? w_21 ⟨b3, 7, none⟩ = some (.slice va4 vn4 vc4) ∧ 
    (Calls Tryz.prog 14 #[.pointer none, .agg #[.int .u64 Term5, .int .i64 Vote3], .slice va3 vn3 vc3] w_21 fun e_11 w_22 => (∃ r11 : Int, e_11 = .returned (.int .i64 r11) ∧ 
    World.cell? w_22 ⟨b3, 7, none⟩ = some (.slice va4 vn4 vc4) ∧ rdRow w_22 b3 1 [.int .u64 Term6, .int .i64 Vote4] ∧ 
    (Calls Tryz.prog 15 #[pv rb3 ro3, .agg #[.int .u64 Term6, .int .i64 Vote4], .slice va4 vn4 vc4] w_22 fun e_12 w_23 => (∃ r12 : Int, e_12 = .returned (.int .i64 r12) ∧ J1 r11 r12 w_23))))))))))) ∧ 
    ∀ (jk2 : Env) (y1 : Int) (i2 : Int) (w_17 : World), J1 y1 i2 w_17 → (Calls Tryz.prog 16 #[pv rb ro, .int .i64 1] w_17 fun e_13 w_24 => 
    (∃ r13 : ByteArray, (∃ r14 : Int, e_13 = .returned (.tuple #[.string r13, .int .i64 r14]) ∧ (Calls Tryz.prog 17 #[pv rb2 ro2, .int .i64 1] w_24 fun e_14 w_25 => 
    (∃ r15 : ByteArray, (∃ r16 : Int, e_14 = .returned (.tuple #[.string r15, .int .i64 r16]) ∧ (drewD w_25 fun w_26 => (bif (y1 != i2) then R (.bool false) w_26
     else (∃ HardTerm6 : Int, ∃ HardVote6 : Int, ∃ SnapIndex6 : Int, ∃ SnapTerm6 : Int, ∃ SnapConfig6 : Int, ∃ SnapData6 : ByteArray, ∃ (Entriesa5 : Option Addr) (Entriesn5 Entriesc5 : Nat), rdRow w_26 rb3 (ro3 + 1) [.int .u64 HardTerm6, .int .i64 HardVote6, .int .u64 SnapIndex6, .int .u64 SnapTerm6, .int .u64 SnapConfig6, .string SnapData6, .slice Entriesa5 Entriesn5 Entriesc5] ∧ 
    (Calls Tryz.prog 18 #[.pointer none] w_26 fun e_15 w_27 => 
    (∃ HardTerm7 : Int, ∃ HardVote7 : Int, ∃ SnapIndex7 : Int, ∃ SnapTerm7 : Int, ∃ SnapConfig7 : Int, ∃ SnapData7 : ByteArray, ∃ (Entriesa6 : Option Addr) (Entriesn6 Entriesc6 : Nat), e_15 = .returned (.agg #[.int .u64 HardTerm7, .int .i64 HardVote7, .int .u64 SnapIndex7, .int .u64 SnapTerm7, .int .u64 SnapConfig7, .string SnapData7, .slice Entriesa6 Entriesn6 Entriesc6]) ∧ 
    rdRow w_27 rb3 (ro3 + 1) [.int .u64 HardTerm6, .int .i64 HardVote6, .int .u64 SnapIndex6, .int .u64 SnapTerm6, .int .u64 SnapConfig6, .string SnapData6, .slice Entriesa5 Entriesn5 Entriesc5] ∧ 
    (Calls Tryz.prog 11 #[.agg #[.int .u64 HardTerm7, .int .i64 HardVote7, .int .u64 SnapIndex7, .int .u64 SnapTerm7, .int .u64 SnapConfig7, .string SnapData7, .slice Entriesa6 Entriesn6 Entriesc6], .agg #[.int .u64 HardTerm6, .int .i64 HardVote6, .int .u64 SnapIndex6, .int .u64 SnapTerm6, .int .u64 SnapConfig6, .string SnapData6, .slice Entriesa5 Entriesn5 Entriesc5]] w_27 fun e_16 w_28 => 
    (∃ r17 : Bool, e_16 = .returned (.bool r17) ∧ (bif (!r17) then R (.bool false) w_28 else (bif (!strEq r13 r15) then R (.bool false) w_28 else (I1 (w64 (i1 + 1)) w_28 ∧ 
    M1 (w64 (i1 + 1)) w_28 < M1 i1 w_14)))))))))))))))))))))
     else R (.bool true) w_14))))))))))))))))))) ∨ ∃ rb4 ro4 : Nat, ((∃ HardTerm8 : Int, ∃ HardVote8 : Int, ∃ SnapIndex8 : Int, ∃ SnapTerm8 : Int, ∃ SnapConfig8 : Int, ∃ SnapData8 : ByteArray, ∃ (Entriesa7 : Option Addr) (Entriesn7 Entriesc7 : Nat), (∃ r18 : Int, e_6 = .returned (.tuple #[pv rb4 ro4, .agg #[.int .u64 HardTerm8, .int .i64 HardVote8, .int .u64 SnapIndex8, .int .u64 SnapTerm8, .int .u64 SnapConfig8, .string SnapData8, .slice Entriesa7 Entriesn7 Entriesc7], .int .i64 r18]) ∧ 
    (alD w_7 (.cells #[.int .u64 0, .int .i64 0, .int .u64 0, .int .u64 0, .int .u64 0, .string ⟨#[]⟩, .slice none 0 0] 45 (0, 0)) fun b4 w_29 => 
    (stD w_29 b4 0 [.int .u64 HardTerm8, .int .i64 HardVote8, .int .u64 SnapIndex8, .int .u64 SnapTerm8, .int .u64 SnapConfig8, .string SnapData8, .slice Entriesa7 Entriesn7 Entriesc7] fun w_30 => 
    (Calls Tryz.prog 10 #[pv rb2 ro2, .int .i64 1, .int .u64 7] w_30 fun e_17 w_31 => (((∃ r19 : Int, e_17 = .returned (.tuple #[.pointer none, .int .i64 r19]) ∧ (bif (r18 != 0) then 
    (bif (r18 == r19) then R (.bool false) w_31 else R (.bool false) w_31) else (bif (r19 != 0) then (bif (r18 == r19) then R (.bool false) w_31 else R (.bool false) w_31) else (drewD w_31 fun w_32 => 
    (∃ HardTerm9 : Int, ∃ HardVote9 : Int, ∃ SnapIndex9 : Int, ∃ SnapTerm9 : Int, ∃ SnapConfig9 : Int, ∃ SnapData9 : ByteArray, ∃ (Entriesa8 : Option Addr) (Entriesn8 Entriesc8 : Nat), rdRow w_32 b4 0 [.int .u64 HardTerm9, .int .i64 HardVote9, .int .u64 SnapIndex9, .int .u64 SnapTerm9, .int .u64 SnapConfig9, .string SnapData9, .slice Entriesa8 Entriesn8 Entriesc8] ∧ 
    False)))))) ∨ ∃ rb5 ro5 : Nat, ((∃ r20 : Int, e_17 = .returned (.tuple #[pv rb5 ro5, .int .i64 r20]) ∧ (bif (r18 != 0) then (bif (r18 == r20) then R (.bool false) w_31 else R (.bool false) w_31)
     else (bif (r20 != 0) then (bif (r18 == r20) then R (.bool false) w_31 else R (.bool false) w_31) else (drewD w_31 fun w_33 => 
    (∃ HardTerm10 : Int, ∃ HardVote10 : Int, ∃ SnapIndex10 : Int, ∃ SnapTerm10 : Int, ∃ SnapConfig10 : Int, ∃ SnapData10 : ByteArray, ∃ (Entriesa9 : Option Addr) (Entriesn9 Entriesc9 : Nat), rdRow w_33 b4 0 [.int .u64 HardTerm10, .int .i64 HardVote10, .int .u64 SnapIndex10, .int .u64 SnapTerm10, .int .u64 SnapConfig10, .string SnapData10, .slice Entriesa9 Entriesn9 Entriesc9] ∧ 
    (∃ HardTerm11 : Int, ∃ HardVote11 : Int, ∃ SnapIndex11 : Int, ∃ SnapTerm11 : Int, ∃ SnapConfig11 : Int, ∃ SnapData11 : ByteArray, ∃ (Entriesa10 : Option Addr) (Entriesn10 Entriesc10 : Nat), rdRow w_33 rb5 (ro5 + 1) [.int .u64 HardTerm11, .int .i64 HardVote11, .int .u64 SnapIndex11, .int .u64 SnapTerm11, .int .u64 SnapConfig11, .string SnapData11, .slice Entriesa10 Entriesn10 Entriesc10] ∧ 
    (Calls Tryz.prog 11 #[.agg #[.int .u64 HardTerm10, .int .i64 HardVote10, .int .u64 SnapIndex10, .int .u64 SnapTerm10, .int .u64 SnapConfig10, .string SnapData10, .slice Entriesa9 Entriesn9 Entriesc9], .agg #[.int .u64 HardTerm11, .int .i64 HardVote11, .int .u64 SnapIndex11, .int .u64 SnapTerm11, .int .u64 SnapConfig11, .string SnapData11, .slice Entriesa10 Entriesn10 Entriesc10]] w_33 fun e_18 w_34 => 
    (∃ r21 : Bool, e_18 = .returned (.bool r21) ∧ (bif (!r21) then R (.bool false) w_34 else (∃ (I2 : Int → World → Prop) (M2 : Int → World → Nat), I2 0 w_34 ∧ 
    ∀ (jk3 : Env) (i3 : Int) (w_35 : World), I2 i3 w_35 → (bif (decide (i3 < (in_ : Int))) then (∃ b5 o2 : Nat, ia = some ⟨b5, o2, none⟩ ∧ (0 : Int) ≤ i3 ∧ i3 < (in_ : Int) ∧ 
    (∃ Anew2 : Bool, ∃ HardTerm12 : Int, ∃ HardVote12 : Int, ∃ SnapIndex12 : Int, ∃ SnapTerm12 : Int, ∃ SnapConfig12 : Int, ∃ SnapData12 : ByteArray, ∃ (La2 : Option Addr) (Ln2 Lc2 : Nat), rdRow w_35 b5 (o2 + (i3 : Int).toNat * 8) [.bool Anew2, .int .u64 HardTerm12, .int .i64 HardVote12, .int .u64 SnapIndex12, .int .u64 SnapTerm12, .int .u64 SnapConfig12, .string SnapData12, .slice La2 Ln2 Lc2] ∧ 
    (alD w_35 (.cells #[.bool false, .int .u64 0, .int .i64 0, .int .u64 0, .int .u64 0, .int .u64 0, .string ⟨#[]⟩, .slice none 0 0] 57 (0, 0)) fun b6 w_36 => 
    (stD w_36 b6 0 [.bool Anew2, .int .u64 HardTerm12, .int .i64 HardVote12, .int .u64 SnapIndex12, .int .u64 SnapTerm12, .int .u64 SnapConfig12, .string SnapData12, .slice La2 Ln2 Lc2] fun w_37 => 
    (∃ J2 : Int → Int → World → Prop, (∃ v2 : Bool, World.cell? w_37 ⟨b6, 0, none⟩ = some (.bool v2) ∧ (bif v2 then (drewD w_37 fun w_39 => 
    (∃ Term7 : Int, ∃ Vote5 : Int, rdRow w_39 b6 1 [.int .u64 Term7, .int .i64 Vote5] ∧ 
    (∃ Index3 : Int, ∃ Term8 : Int, ∃ Config3 : Int, ∃ Data3 : ByteArray, rdRow w_39 b6 3 [.int .u64 Index3, .int .u64 Term8, .int .u64 Config3, .string Data3] ∧ 
    (∃ (va5 : Option Addr) (vn5 vc5 : Nat), World.cell? w_39 ⟨b6, 7, none⟩ = some (.slice va5 vn5 vc5) ∧ (∃ Term9 : Int, ∃ Vote6 : Int, rdRow w_39 b6 1 [.int .u64 Term9, .int .i64 Vote6] ∧ 
    (∃ Index4 : Int, ∃ Term10 : Int, ∃ Config4 : Int, ∃ Data4 : ByteArray, rdRow w_39 b6 3 [.int .u64 Index4, .int .u64 Term10, .int .u64 Config4, .string Data4] ∧ 
    (∃ (va6 : Option Addr) (vn6 vc6 : Nat), World.cell? w_39 ⟨b6, 7, none⟩ = some (.slice va6 vn6 vc6) ∧ 
    (Calls Tryz.prog 12 #[pv rb4 ro4, .agg #[.int .u64 Term7, .int .i64 Vote5, .int .u64 Index3, .int .u64 Term8, .int .u64 Config3, .string Data3, .slice va5 vn5 vc5]] w_39 fun e_19 w_40 => 
    (∃ r22 : Int, e_19 = .returned (.int .i64 r22) ∧ World.cell? w_40 ⟨b6, 7, none⟩ = some (.slice va6 vn6 vc6) ∧ 
    rdRow w_40 b6 3 [.int .u64 Index4, .int .u64 Term10, .int .u64 Config4, .string Data4] ∧ rdRow w_40 b6 1 [.int .u64 Term9, .int .i64 Vote6] ∧ 
    World.cell? w_40 ⟨b6, 7, none⟩ = some (.slice va5 vn5 vc5) ∧ rdRow w_40 b6 3 [.int .u64 Index3, .int .u64 Term8, .int .u64 Config3, .string Data3] ∧ 
    rdRow w_40 b6 1 [.int .u64 Term7, .int .i64 Vote5] ∧ 
    (Calls Tryz.prog 13 #[pv rb5 ro5, .agg #[.int .u64 Term9, .int .i64 Vote6, .int .u64 Index4, .int .u64 Term10, .int .u64 Config4, .string Data4, .slice va6 vn6 vc6]] w_40 fun e_20 w_41 => 
    (∃ r23 : Int, e_20 = .returned (.int .i64 r23) ∧ World.cell? w_41 ⟨b6, 7, none⟩ = some (.slice va6 vn6 vc6) ∧ 
    rdRow w_41 b6 3 [.int .u64 Index4, .int .u64 Term10, .int .u64 Config4, .string Data4] ∧ rdRow w_41 b6 1 [.int .u64 Term9, .int .i64 Vote6] ∧ 
    World.cell? w_41 ⟨b6, 7, none⟩ = some (.slice va5 vn5 vc5) ∧ rdRow w_41 b6 3 [.int .u64 Index3, .int .u64 Term8, .int .u64 Config3, .string Data3] ∧ 
    rdRow w_41 b6 1 [.int .u64 Term7, .int .i64 Vote5] ∧ J2 r22 r23 w_41))))))))))) else (drewD w_37 fun w_42 => (∃ Term11 : Int, ∃ Vote7 : Int, rdRow w_42 b6 1 [.int .u64 Term11, .int .i64 Vote7] ∧ 
    (∃ (va7 : Option Addr) (vn7 vc7 : Nat), World.cell? w_42 ⟨b6, 7, none⟩ = some (.slice va7 vn7 vc7) ∧ (∃ Term12 : Int, ∃ Vote8 : Int, rdRow w_42 b6 1 [.int .u64 Term12, .int .i64 Vote8] ∧ 
    (∃ (va8 : Option Addr) (vn8 vc8 : Nat), World.cell? w_42 ⟨b6, 7, none⟩ = some (.slice va8 vn8 vc8) ∧ 
    (Calls Tryz.prog 14 #[pv rb4 ro4, .agg #[.int .u64 Term11, .int .i64 Vote7], .slice va7 vn7 vc7] w_42 fun e_21 w_43 => (∃ r24 : Int, e_21 = .returned (.int .i64 r24) ∧ 
    World.cell? w_43 ⟨b6, 7, none⟩ = some (.slice va8 vn8 vc8) ∧ rdRow w_43 b6 1 [.int .u64 Term12, .int .i64 Vote8] ∧ 
    (Calls Tryz.prog 15 #[pv rb5 ro5, .agg #[.int .u64 Term12, .int .i64 Vote8], .slice va8 vn8 vc8] w_43 fun e_22 w_44 => (∃ r25 : Int, e_22 = .returned (.int .i64 r25) ∧ J2 r24 r25 w_44))))))))))) ∧ 
    ∀ (jk4 : Env) (y2 : Int) (i4 : Int) (w_38 : World), J2 y2 i4 w_38 → (Calls Tryz.prog 16 #[pv rb ro, .int .i64 1] w_38 fun e_23 w_45 => 
    (∃ r26 : ByteArray, (∃ r27 : Int, e_23 = .returned (.tuple #[.string r26, .int .i64 r27]) ∧ (Calls Tryz.prog 17 #[pv rb2 ro2, .int .i64 1] w_45 fun e_24 w_46 => 
    (∃ r28 : ByteArray, (∃ r29 : Int, e_24 = .returned (.tuple #[.string r28, .int .i64 r29]) ∧ (drewD w_46 fun w_47 => (bif (y2 != i4) then R (.bool false) w_47
     else (∃ HardTerm13 : Int, ∃ HardVote13 : Int, ∃ SnapIndex13 : Int, ∃ SnapTerm13 : Int, ∃ SnapConfig13 : Int, ∃ SnapData13 : ByteArray, ∃ (Entriesa11 : Option Addr) (Entriesn11 Entriesc11 : Nat), rdRow w_47 rb5 (ro5 + 1) [.int .u64 HardTerm13, .int .i64 HardVote13, .int .u64 SnapIndex13, .int .u64 SnapTerm13, .int .u64 SnapConfig13, .string SnapData13, .slice Entriesa11 Entriesn11 Entriesc11] ∧ 
    (Calls Tryz.prog 18 #[pv rb4 ro4] w_47 fun e_25 w_48 => 
    (∃ HardTerm14 : Int, ∃ HardVote14 : Int, ∃ SnapIndex14 : Int, ∃ SnapTerm14 : Int, ∃ SnapConfig14 : Int, ∃ SnapData14 : ByteArray, ∃ (Entriesa12 : Option Addr) (Entriesn12 Entriesc12 : Nat), e_25 = .returned (.agg #[.int .u64 HardTerm14, .int .i64 HardVote14, .int .u64 SnapIndex14, .int .u64 SnapTerm14, .int .u64 SnapConfig14, .string SnapData14, .slice Entriesa12 Entriesn12 Entriesc12]) ∧ 
    rdRow w_48 rb5 (ro5 + 1) [.int .u64 HardTerm13, .int .i64 HardVote13, .int .u64 SnapIndex13, .int .u64 SnapTerm13, .int .u64 SnapConfig13, .string SnapData13, .slice Entriesa11 Entriesn11 Entriesc11] ∧ 
    (Calls Tryz.prog 11 #[.agg #[.int .u64 HardTerm14, .int .i64 HardVote14, .int .u64 SnapIndex14, .int .u64 SnapTerm14, .int .u64 SnapConfig14, .string SnapData14, .slice Entriesa12 Entriesn12 Entriesc12], .agg #[.int .u64 HardTerm13, .int .i64 HardVote13, .int .u64 SnapIndex13, .int .u64 SnapTerm13, .int .u64 SnapConfig13, .string SnapData13, .slice Entriesa11 Entriesn11 Entriesc11]] w_48 fun e_26 w_49 => 
    (∃ r30 : Bool, e_26 = .returned (.bool r30) ∧ (bif (!r30) then R (.bool false) w_49 else (bif (!strEq r26 r28) then R (.bool false) w_49 else (I2 (w64 (i3 + 1)) w_49 ∧ 
    M2 (w64 (i3 + 1)) w_49 < M2 i3 w_35))))))))))))))))))))) else R (.bool true) w_35)))))))))))))))))))))))))))))))))))

def tontinelaw08_StoreRuns.H : Hints := { nret := [9, 10], nld := [], loops := [(16, [(74, .int .i64)])], joins := [(21, [(11, .int .i64), (13, .int .i64)])], unroll := [], plans := [(13, (.take 0 (.take 1 (.take 2 (.take 3 (.take 4 (.eff 5 (.take 6 .done)))))))), (19, (.take 0 (.take 1 (.take 2 (.take 3 (.take 4 (.take 5 (.take 6 (.take 7 (.take 9 (.take 10 (.take 11 (.take 12 (.take 13 (.take 14 (.take 15 (.take 16 (.eff 8 (.eff 17 (.take 18 (.take 19 .done))))))))))))))))))))), (20, (.take 0 (.take 1 (.take 2 (.take 3 (.take 4 (.take 6 (.take 7 (.take 8 (.take 9 (.take 10 (.eff 5 (.eff 11 (.take 12 (.take 13 .done))))))))))))))), (23, (.take 0 (.take 1 (.take 2 (.take 3 (.take 4 (.take 6 (.take 7 (.take 8 (.take 9 (.eff 5 (.eff 10 (.take 11 (.take 12 (.take 13 (.take 14 (.take 15 (.take 16 (.take 17 .done)))))))))))))))))))], nx := [] }

theorem tontinelaw08_StoreRuns.eq (L1 : Int) (ia : Option Addr) (in_ ic : Nat) (R : Value → World → Prop) (w : World) : tontinelaw08_StoreRuns.m L1 ia in_ ic R w = fnD Tryz.prog tontinelaw08_StoreRuns.H Tryz.f3 [.int .i64 L1, .slice ia in_ ic] R w := by kernel_rfl

theorem tontinelaw08_StoreRuns.ok (L1 : Int) (ia : Option Addr) (in_ ic : Nat) {R : Value → World → Prop} {w : World} (h : tontinelaw08_StoreRuns.m L1 ia in_ ic R w) : Calls Tryz.prog 3 #[.int .i64 L1, .slice ia in_ ic] w fun e w' => ∃ v, e = .returned v ∧ R v w' :=
  @fn_sound Tryz.prog tontinelaw08_StoreRuns.H 3 Tryz.f3 [.int .i64 L1, .slice ia in_ ic] R w Tryz.mixed Tryz.func3 (by kernel_rfl) (by rw [← tontinelaw08_StoreRuns.eq]; exact h)

end Go.Proofs.YtbcepafeiocobaaGreat
