/-
  Clean forms of Go functions, and that each is enough for the call (written by a program of this work, lift.py).
-/
import Derived.Test.YtbcepafeiocobaaGreatXBase
namespace Go.Proofs.YtbcepafeiocobaaGreat
open Go.X

set_option maxRecDepth 100000
/-- tontine/pack.From -/
def pack_From.m (s1 : ByteArray) (R : Value → World → Prop) (w : World) : Prop :=
  (alD w (.cells #[.string s1, .bool false] 146 (0, 0)) fun b1 w_ => R (pv b1 0) w_)

def pack_From.H : Hints := { nret := [], nld := [], loops := [], joins := [], unroll := [], plans := [], nx := [] }

theorem pack_From.eq (s1 : ByteArray) (R : Value → World → Prop) (w : World) : pack_From.m s1 R w = fnD Tryz.prog pack_From.H Tryz.f48 [.string s1] R w := by kernel_rfl

theorem pack_From.ok (s1 : ByteArray) {R : Value → World → Prop} {w : World} (h : pack_From.m s1 R w) : Calls Tryz.prog 48 #[.string s1] w fun e w' => ∃ v, e = .returned v ∧ R v w' :=
  @fn_sound Tryz.prog pack_From.H 48 Tryz.f48 [.string s1] R w Tryz.mixed Tryz.func48 (by kernel_rfl) (by rw [← pack_From.eq]; exact h)

set_option maxRecDepth 100000
/-- (*tontine/pack.Reader).fail -/
def pack_Reader_fail.m (rb ro : Nat) (R : Value → World → Prop) (w : World) : Prop :=
  (stD w rb ro [.string ⟨#[]⟩] fun w_ => (stD w_ rb (ro + 1) [.bool true] fun w_2 => R (.int .u64 0) w_2))

def pack_Reader_fail.H : Hints := { nret := [], nld := [], loops := [], joins := [], unroll := [], plans := [], nx := [] }

theorem pack_Reader_fail.eq (rb ro : Nat) (R : Value → World → Prop) (w : World) : pack_Reader_fail.m rb ro R w = fnD Tryz.prog pack_Reader_fail.H Tryz.f76 [pv rb ro] R w := by kernel_rfl

theorem pack_Reader_fail.ok (rb ro : Nat) {R : Value → World → Prop} {w : World} (h : pack_Reader_fail.m rb ro R w) : Calls Tryz.prog 76 #[pv rb ro] w fun e w' => ∃ v, e = .returned v ∧ R v w' :=
  @fn_sound Tryz.prog pack_Reader_fail.H 76 Tryz.f76 [pv rb ro] R w Tryz.mixed Tryz.func76 (by kernel_rfl) (by rw [← pack_Reader_fail.eq]; exact h)

set_option maxRecDepth 100000
/-- (*tontine/pack.Reader).Num -/
def pack_Reader_Num.m (Lb Lo : Nat) (R : Value → World → Prop) (w : World) : Prop :=
  (∃ v1 : ByteArray, World.cell? w ⟨Lb, Lo, none⟩ = some (.string v1) ∧ (bif (strEq v1 ⟨#[]⟩) then (Calls Tryz.prog 76 #[pv Lb Lo] w fun e_ w_ => (∃ r1 : Int, e_ = .returned (.int .u64 r1) ∧ 
    R (.int .u64 r1) w_)) else (∃ v2 : ByteArray, World.cell? w ⟨Lb, Lo, none⟩ = some (.string v2) ∧ ((0 : Int) ≤ 0 ∧ ∃ ch : UInt8, (v2 : ByteArray)[(0 : Int).toNat]? = some ch ∧ 
    (∃ J1 : World → Prop, (bif (decide ((w64 (ch.toNat : Int)) > 8)) then (Calls Tryz.prog 76 #[pv Lb Lo] w fun e_2 w_3 => (∃ r2 : Int, e_2 = .returned (.int .u64 r2) ∧ R (.int .u64 r2) w_3))
     else (∃ v3 : ByteArray, World.cell? w ⟨Lb, Lo, none⟩ = some (.string v3) ∧ (bif (decide ((w64 (ch.toNat : Int)) > (w64 ((v3.size : Int) - 1)))) then 
    (Calls Tryz.prog 76 #[pv Lb Lo] w fun e_3 w_4 => (∃ r3 : Int, e_3 = .returned (.int .u64 r3) ∧ R (.int .u64 r3) w_4)) else (bif (decide ((w64 (ch.toNat : Int)) > 0)) then 
    (∃ v4 : ByteArray, World.cell? w ⟨Lb, Lo, none⟩ = some (.string v4) ∧ ((0 : Int) ≤ 1 ∧ ∃ ch2 : UInt8, (v4 : ByteArray)[(1 : Int).toNat]? = some ch2 ∧ (bif ((ch2.toNat : Int) == 0) then 
    (Calls Tryz.prog 76 #[pv Lb Lo] w fun e_4 w_5 => (∃ r4 : Int, e_4 = .returned (.int .u64 r4) ∧ R (.int .u64 r4) w_5)) else J1 w))) else J1 w)))) ∧ 
    ∀ (jk : Env)  (w_2 : World), J1 w_2 → (∃ (I1 : Int → Int → World → Prop) (M1 : Int → Int → World → Nat), I1 0 1 w_2 ∧ 
    ∀ (jk2 : Env) (x1 : Int) (t1 : Int) (w_6 : World), I1 x1 t1 w_6 → (bif (decide (t1 ≤ (w64 (ch.toNat : Int)))) then (∃ v5 : ByteArray, World.cell? w_6 ⟨Lb, Lo, none⟩ = some (.string v5) ∧ 
    ((0 : Int) ≤ t1 ∧ ∃ ch3 : UInt8, (v5 : ByteArray)[(t1 : Int).toNat]? = some ch3 ∧ (I1 (orV .u64 (shlV .u64 x1 8) (wu64 (ch3.toNat : Int))) (w64 (t1 + 1)) w_6 ∧ 
    M1 (orV .u64 (shlV .u64 x1 8) (wu64 (ch3.toNat : Int))) (w64 (t1 + 1)) w_6 < M1 x1 t1 w_6))) else (∃ v6 : ByteArray, World.cell? w_6 ⟨Lb, Lo, none⟩ = some (.string v6) ∧ 
    ((0 : Int) ≤ (w64 ((w64 (ch.toNat : Int)) + 1)) ∧ (w64 ((w64 (ch.toNat : Int)) + 1)) ≤ ((v6 : ByteArray).size : Int) ∧ 
    (stD w_6 Lb Lo [.string (ByteArray.extract v6 ((w64 ((w64 (ch.toNat : Int)) + 1)) : Int).toNat (v6 : ByteArray).size)] fun w_7 => R (.int .u64 x1) w_7))))))))))

def pack_Reader_Num.H : Hints := { nret := [], nld := [], loops := [(8, [(4, .int .u64), (5, .int .i64)])], joins := [(6, [])], unroll := [], plans := [], nx := [] }

theorem pack_Reader_Num.eq (Lb Lo : Nat) (R : Value → World → Prop) (w : World) : pack_Reader_Num.m Lb Lo R w = fnD Tryz.prog pack_Reader_Num.H Tryz.f49 [pv Lb Lo] R w := by kernel_rfl

theorem pack_Reader_Num.ok (Lb Lo : Nat) {R : Value → World → Prop} {w : World} (h : pack_Reader_Num.m Lb Lo R w) : Calls Tryz.prog 49 #[pv Lb Lo] w fun e w' => ∃ v, e = .returned v ∧ R v w' :=
  @fn_sound Tryz.prog pack_Reader_Num.H 49 Tryz.f49 [pv Lb Lo] R w Tryz.mixed Tryz.func49 (by kernel_rfl) (by rw [← pack_Reader_Num.eq]; exact h)

set_option maxRecDepth 100000
/-- (*tontine/pack.Reader).Up -/
def pack_Reader_Up.m (rb ro : Nat) (limit : Int) (R : Value → World → Prop) (w : World) : Prop :=
  (Calls Tryz.prog 49 #[pv rb ro] w fun e_ w_ => (∃ r1 : Int, e_ = .returned (.int .u64 r1) ∧ (bif (decide (limit < 0)) then (Calls Tryz.prog 76 #[pv rb ro] w_ fun e_2 w_2 => 
    (∃ r2 : Int, e_2 = .returned (.int .u64 r2) ∧ R (.int .i64 (w64 r2)) w_2)) else (bif (decide (r1 > (wu64 limit))) then (Calls Tryz.prog 76 #[pv rb ro] w_ fun e_3 w_3 => 
    (∃ r3 : Int, e_3 = .returned (.int .u64 r3) ∧ R (.int .i64 (w64 r3)) w_3)) else R (.int .i64 (w64 r1)) w_))))

def pack_Reader_Up.H : Hints := { nret := [], nld := [], loops := [], joins := [], unroll := [], plans := [], nx := [] }

theorem pack_Reader_Up.eq (rb ro : Nat) (limit : Int) (R : Value → World → Prop) (w : World) : pack_Reader_Up.m rb ro limit R w = fnD Tryz.prog pack_Reader_Up.H Tryz.f50 [pv rb ro, .int .i64 limit] R w := by kernel_rfl

theorem pack_Reader_Up.ok (rb ro : Nat) (limit : Int) {R : Value → World → Prop} {w : World} (h : pack_Reader_Up.m rb ro limit R w) : Calls Tryz.prog 50 #[pv rb ro, .int .i64 limit] w fun e w' => ∃ v, e = .returned v ∧ R v w' :=
  @fn_sound Tryz.prog pack_Reader_Up.H 50 Tryz.f50 [pv rb ro, .int .i64 limit] R w Tryz.mixed Tryz.func50 (by kernel_rfl) (by rw [← pack_Reader_Up.eq]; exact h)

set_option maxRecDepth 100000
/-- (*tontine/pack.Reader).Text -/
def pack_Reader_Text.m (rb ro : Nat) (limit : Int) (R : Value → World → Prop) (w : World) : Prop :=
  (Calls Tryz.prog 50 #[pv rb ro, .int .i64 limit] w fun e_ w_ => (∃ r1 : Int, e_ = .returned (.int .i64 r1) ∧ (∃ v1 : ByteArray, World.cell? w_ ⟨rb, ro, none⟩ = some (.string v1) ∧ 
    (bif (decide (r1 > (v1.size : Int))) then (Calls Tryz.prog 76 #[pv rb ro] w_ fun e_2 w_2 => (∃ r2 : Int, e_2 = .returned (.int .u64 r2) ∧ R (.string ⟨#[]⟩) w_2))
     else (∃ v2 : ByteArray, World.cell? w_ ⟨rb, ro, none⟩ = some (.string v2) ∧ ((0 : Int) ≤ r1 ∧ r1 ≤ ((v2 : ByteArray).size : Int) ∧ 
    (∃ v3 : ByteArray, World.cell? w_ ⟨rb, ro, none⟩ = some (.string v3) ∧ ((0 : Int) ≤ r1 ∧ r1 ≤ ((v3 : ByteArray).size : Int) ∧ 
    (stD w_ rb ro [.string (ByteArray.extract v3 (r1 : Int).toNat (v3 : ByteArray).size)] fun w_3 => R (.string (ByteArray.extract v2 0 (r1 : Int).toNat)) w_3)))))))))

def pack_Reader_Text.H : Hints := { nret := [], nld := [], loops := [], joins := [], unroll := [], plans := [], nx := [] }

theorem pack_Reader_Text.eq (rb ro : Nat) (limit : Int) (R : Value → World → Prop) (w : World) : pack_Reader_Text.m rb ro limit R w = fnD Tryz.prog pack_Reader_Text.H Tryz.f52 [pv rb ro, .int .i64 limit] R w := by kernel_rfl

theorem pack_Reader_Text.ok (rb ro : Nat) (limit : Int) {R : Value → World → Prop} {w : World} (h : pack_Reader_Text.m rb ro limit R w) : Calls Tryz.prog 52 #[pv rb ro, .int .i64 limit] w fun e w' => ∃ v, e = .returned v ∧ R v w' :=
  @fn_sound Tryz.prog pack_Reader_Text.H 52 Tryz.f52 [pv rb ro, .int .i64 limit] R w Tryz.mixed Tryz.func52 (by kernel_rfl) (by rw [← pack_Reader_Text.eq]; exact h)

set_option maxRecDepth 100000
/-- (*tontine/pack.Reader).Left -/
def pack_Reader_Left.m (rb ro : Nat) (R : Value → World → Prop) (w : World) : Prop :=
  (drewD w fun w_ => (∃ v1 : ByteArray, World.cell? w_ ⟨rb, ro, none⟩ = some (.string v1) ∧ (∃ v2 : Bool, World.cell? w_ ⟨rb, (ro + 1), none⟩ = some (.bool v2) ∧ 
    R (.tuple #[.int .i64 (v1.size : Int), .bool (!v2)]) w_)))

def pack_Reader_Left.H : Hints := { nret := [], nld := [], loops := [], joins := [], unroll := [], plans := [(3, (.take 0 (.take 1 (.take 2 (.take 3 (.take 4 (.take 5 (.take 6 (.take 7 (.take 8 (.take 9 (.take 10 (.take 11 .done)))))))))))))], nx := [] }

theorem pack_Reader_Left.eq (rb ro : Nat) (R : Value → World → Prop) (w : World) : pack_Reader_Left.m rb ro R w = fnD Tryz.prog pack_Reader_Left.H Tryz.f77 [pv rb ro] R w := by kernel_rfl

theorem pack_Reader_Left.ok (rb ro : Nat) {R : Value → World → Prop} {w : World} (h : pack_Reader_Left.m rb ro R w) : Calls Tryz.prog 77 #[pv rb ro] w fun e w' => ∃ v, e = .returned v ∧ R v w' :=
  @fn_sound Tryz.prog pack_Reader_Left.H 77 Tryz.f77 [pv rb ro] R w Tryz.mixed Tryz.func77 (by kernel_rfl) (by rw [← pack_Reader_Left.eq]; exact h)

set_option maxRecDepth 100000
/-- (*tontine/pack.Reader).Done -/
def pack_Reader_Done.m (rb ro : Nat) (R : Value → World → Prop) (w : World) : Prop :=
  (Calls Tryz.prog 77 #[pv rb ro] w fun e_ w_ => (∃ r1 : Int, (∃ r2 : Bool, e_ = .returned (.tuple #[.int .i64 r1, .bool r2]) ∧ (bif (r1 == 0) then R (.bool r2) w_ else R (.bool false) w_))))

def pack_Reader_Done.H : Hints := { nret := [], nld := [], loops := [], joins := [], unroll := [], plans := [], nx := [] }

theorem pack_Reader_Done.eq (rb ro : Nat) (R : Value → World → Prop) (w : World) : pack_Reader_Done.m rb ro R w = fnD Tryz.prog pack_Reader_Done.H Tryz.f51 [pv rb ro] R w := by kernel_rfl

theorem pack_Reader_Done.ok (rb ro : Nat) {R : Value → World → Prop} {w : World} (h : pack_Reader_Done.m rb ro R w) : Calls Tryz.prog 51 #[pv rb ro] w fun e w' => ∃ v, e = .returned v ∧ R v w' :=
  @fn_sound Tryz.prog pack_Reader_Done.H 51 Tryz.f51 [pv rb ro] R w Tryz.mixed Tryz.func51 (by kernel_rfl) (by rw [← pack_Reader_Done.eq]; exact h)

set_option maxRecDepth 100000
/-- (*tontine/pack.Writer).Num -/
def pack_Writer_Num.m (wb wo : Nat) (x1 : Int) (R : Value → World → Prop) (w : World) : Prop :=
  (∃ (I1 : Int → Int → World → Prop) (M1 : Int → Int → World → Nat), I1 0 x1 w ∧ ∀ (jk : Env) (n1 : Int) (y1 : Int) (w_ : World), I1 n1 y1 w_ → (bif (decide (y1 > 0)) then 
    (I1 (w64 (n1 + 1)) (shrV .u64 y1 8) w_ ∧ M1 (w64 (n1 + 1)) (shrV .u64 y1 8) w_ < M1 n1 y1 w_) else (∃ (va : Option Addr) (vn vc : Nat), World.cell? w_ ⟨wb, wo, none⟩ = some (.slice va vn vc) ∧ 
    (alD w_ (.cells #[.int .u8 (wu8 n1)] 5 (0, 0)) fun b1 w_2 => (exSl Tryz.prog (Builtin.append_ #[125, 125] 125 #[.slice va vn vc, .slice (some ⟨b1, 0, none⟩) 1 1]) (fun sa sn sc w_3 => 
    (stD w_3 wb wo [.slice sa sn sc] fun w_4 => (∃ (I2 : Int → World → Prop) (M2 : Int → World → Nat), I2 (w64 (n1 - 1)) w_4 ∧ 
    ∀ (jk2 : Env) (i1 : Int) (w_5 : World), I2 i1 w_5 → (bif (decide (i1 ≥ 0)) then (drewD w_5 fun w_6 => 
    (∃ (va2 : Option Addr) (vn2 vc2 : Nat), World.cell? w_6 ⟨wb, wo, none⟩ = some (.slice va2 vn2 vc2) ∧ ((0 : Int) ≤ (w64 (8 * i1)) ∧ 
    (alD w_6 (.cells #[.int .u8 (wu8 (shrV .u64 x1 (w64 (8 * i1))))] 5 (0, 0)) fun b2 w_7 => World.cell? w_7 ⟨wb, wo, none⟩ = some (.slice va2 vn2 vc2) ∧ 
    (exSl Tryz.prog (Builtin.append_ #[125, 125] 125 #[.slice va2 vn2 vc2, .slice (some ⟨b2, 0, none⟩) 1 1]) (fun sa2 sn2 sc2 w_8 => (stD w_8 wb wo [.slice sa2 sn2 sc2] fun w_9 => 
    (I2 (w64 (i1 - 1)) w_9 ∧ M2 (w64 (i1 - 1)) w_9 < M2 i1 w_5))) w_7))))) else R (pv wb wo) w_5)))) w_2)))))

def pack_Writer_Num.H : Hints := { nret := [], nld := [], loops := [(5, [(5, .int .i64), (6, .int .u64)]), (10, [(7, .int .i64)])], joins := [], unroll := [], plans := [(12, (.take 0 (.take 1 (.take 2 (.take 3 (.take 4 (.take 5 (.take 6 (.take 7 (.take 8 (.take 9 (.eff 10 (.eff 11 (.take 12 (.take 13 (.eff 14 .done))))))))))))))))], nx := [] }

theorem pack_Writer_Num.eq (wb wo : Nat) (x1 : Int) (R : Value → World → Prop) (w : World) : pack_Writer_Num.m wb wo x1 R w = fnD Tryz.prog pack_Writer_Num.H Tryz.f60 [pv wb wo, .int .u64 x1] R w := by kernel_rfl

theorem pack_Writer_Num.ok (wb wo : Nat) (x1 : Int) {R : Value → World → Prop} {w : World} (h : pack_Writer_Num.m wb wo x1 R w) : Calls Tryz.prog 60 #[pv wb wo, .int .u64 x1] w fun e w' => ∃ v, e = .returned v ∧ R v w' :=
  @fn_sound Tryz.prog pack_Writer_Num.H 60 Tryz.f60 [pv wb wo, .int .u64 x1] R w Tryz.mixed Tryz.func60 (by kernel_rfl) (by rw [← pack_Writer_Num.eq]; exact h)

set_option maxRecDepth 100000
/-- (*tontine/pack.Writer).Text -/
def pack_Writer_Text.m (wb wo : Nat) (s1 : ByteArray) (R : Value → World → Prop) (w : World) : Prop :=
  (Calls Tryz.prog 60 #[pv wb wo, .int .u64 (wu64 (s1.size : Int))] w fun e_ w_ => (∃ rb ro : Nat, e_ = .returned (pv rb ro) ∧ 
    (∃ (va : Option Addr) (vn vc : Nat), World.cell? w_ ⟨wb, wo, none⟩ = some (.slice va vn vc) ∧ (exSl Tryz.prog (Builtin.append_ #[125, 9] 125 #[.slice va vn vc, .string s1]) (fun sa sn sc w_2 => 
    (stD w_2 wb wo [.slice sa sn sc] fun w_3 => R (pv wb wo) w_3)) w_))))

def pack_Writer_Text.H : Hints := { nret := [], nld := [], loops := [], joins := [], unroll := [], plans := [], nx := [] }

theorem pack_Writer_Text.eq (wb wo : Nat) (s1 : ByteArray) (R : Value → World → Prop) (w : World) : pack_Writer_Text.m wb wo s1 R w = fnD Tryz.prog pack_Writer_Text.H Tryz.f62 [pv wb wo, .string s1] R w := by kernel_rfl

theorem pack_Writer_Text.ok (wb wo : Nat) (s1 : ByteArray) {R : Value → World → Prop} {w : World} (h : pack_Writer_Text.m wb wo s1 R w) : Calls Tryz.prog 62 #[pv wb wo, .string s1] w fun e w' => ∃ v, e = .returned v ∧ R v w' :=
  @fn_sound Tryz.prog pack_Writer_Text.H 62 Tryz.f62 [pv wb wo, .string s1] R w Tryz.mixed Tryz.func62 (by kernel_rfl) (by rw [← pack_Writer_Text.eq]; exact h)

set_option maxRecDepth 100000
/-- (*tontine/pack.Writer).Bytes -/
def pack_Writer_Bytes.m (wb wo : Nat) (R : Value → World → Prop) (w : World) : Prop :=
  (∃ (va : Option Addr) (vn vc : Nat), World.cell? w ⟨wb, wo, none⟩ = some (.slice va vn vc) ∧ (∃ str : ByteArray, b2sR Tryz.prog 125 9 (.slice va vn vc) str w ∧ R (.string str) w))

def pack_Writer_Bytes.H : Hints := { nret := [], nld := [], loops := [], joins := [], unroll := [], plans := [], nx := [] }

theorem pack_Writer_Bytes.eq (wb wo : Nat) (R : Value → World → Prop) (w : World) : pack_Writer_Bytes.m wb wo R w = fnD Tryz.prog pack_Writer_Bytes.H Tryz.f61 [pv wb wo] R w := by kernel_rfl

theorem pack_Writer_Bytes.ok (wb wo : Nat) {R : Value → World → Prop} {w : World} (h : pack_Writer_Bytes.m wb wo R w) : Calls Tryz.prog 61 #[pv wb wo] w fun e w' => ∃ v, e = .returned v ∧ R v w' :=
  @fn_sound Tryz.prog pack_Writer_Bytes.H 61 Tryz.f61 [pv wb wo] R w Tryz.mixed Tryz.func61 (by kernel_rfl) (by rw [← pack_Writer_Bytes.eq]; exact h)

set_option maxRecDepth 100000
/-- (*tontine/tontineref03.Reader).Num -/
def tontineref03_Reader_Num.m (Lb Lo : Nat) (R : Value → World → Prop) (w : World) : Prop :=
  (∃ J1 : Int → World → Prop, (∃ r1 : ByteArray, World.cell? w ⟨Lb, Lo, none⟩ = some (.string r1) ∧ (bif (decide ((r1.size : Int) > 0)) then 
    (∃ v1 : ByteArray, World.cell? w ⟨Lb, Lo, none⟩ = some (.string v1) ∧ ((0 : Int) ≤ 0 ∧ ∃ ch : UInt8, (v1 : ByteArray)[(0 : Int).toNat]? = some ch ∧ J1 (w64 (ch.toNat : Int)) w)) else J1 (-1) w)) ∧ 
    ∀ (jk : Env) (t1 : Int) (w_ : World), J1 t1 w_ → (∃ J2 : World → Prop, (bif (decide (t1 < 0)) then (Calls Tryz.prog 93 #[pv Lb Lo] w_ fun e_ w_3 => e_ = .returned (.tuple #[]) ∧ R (.int .u64 0) w_3)
     else (bif (decide (t1 > 8)) then (Calls Tryz.prog 93 #[pv Lb Lo] w_ fun e_2 w_4 => e_2 = .returned (.tuple #[]) ∧ R (.int .u64 0) w_4)
     else (∃ v2 : ByteArray, World.cell? w_ ⟨Lb, Lo, none⟩ = some (.string v2) ∧ (bif (decide ((v2.size : Int) < (w64 (t1 + 1)))) then (Calls Tryz.prog 93 #[pv Lb Lo] w_ fun e_3 w_5 => 
    e_3 = .returned (.tuple #[]) ∧ R (.int .u64 0) w_5) else (bif (decide (t1 > 0)) then (∃ v3 : ByteArray, World.cell? w_ ⟨Lb, Lo, none⟩ = some (.string v3) ∧ ((0 : Int) ≤ 1 ∧ 
    ∃ ch2 : UInt8, (v3 : ByteArray)[(1 : Int).toNat]? = some ch2 ∧ (bif ((ch2.toNat : Int) == 0) then (Calls Tryz.prog 93 #[pv Lb Lo] w_ fun e_4 w_6 => e_4 = .returned (.tuple #[]) ∧ 
    R (.int .u64 0) w_6) else J2 w_))) else J2 w_))))) ∧ ∀ (jk2 : Env)  (w_2 : World), J2 w_2 → (∃ (I1 : Int → Int → World → Prop) (M1 : Int → Int → World → Nat), I1 0 1 w_2 ∧ 
    ∀ (jk3 : Env) (x1 : Int) (t2 : Int) (w_7 : World), I1 x1 t2 w_7 → (bif (decide (t2 ≤ t1)) then (∃ v4 : ByteArray, World.cell? w_7 ⟨Lb, Lo, none⟩ = some (.string v4) ∧ ((0 : Int) ≤ t2 ∧ 
    ∃ ch3 : UInt8, (v4 : ByteArray)[(t2 : Int).toNat]? = some ch3 ∧ (I1 (wu64 ((wu64 (256 * x1)) + (wu64 (ch3.toNat : Int)))) (w64 (t2 + 1)) w_7 ∧ 
    M1 (wu64 ((wu64 (256 * x1)) + (wu64 (ch3.toNat : Int)))) (w64 (t2 + 1)) w_7 < M1 x1 t2 w_7))) else (∃ v5 : ByteArray, World.cell? w_7 ⟨Lb, Lo, none⟩ = some (.string v5) ∧ 
    ((0 : Int) ≤ (w64 (t1 + 1)) ∧ (w64 (t1 + 1)) ≤ ((v5 : ByteArray).size : Int) ∧ (stD w_7 Lb Lo [.string (ByteArray.extract v5 ((w64 (t1 + 1)) : Int).toNat (v5 : ByteArray).size)] fun w_8 => 
    R (.int .u64 x1) w_8)))))))

def tontineref03_Reader_Num.H : Hints := { nret := [], nld := [], loops := [(9, [(4, .int .u64), (5, .int .i64)])], joins := [(4, [(3, .int .i64)]), (7, [])], unroll := [], plans := [], nx := [] }

theorem tontineref03_Reader_Num.eq (Lb Lo : Nat) (R : Value → World → Prop) (w : World) : tontineref03_Reader_Num.m Lb Lo R w = fnD Tryz.prog tontineref03_Reader_Num.H Tryz.f83 [pv Lb Lo] R w := by kernel_rfl

theorem tontineref03_Reader_Num.ok (Lb Lo : Nat) {R : Value → World → Prop} {w : World} (h : tontineref03_Reader_Num.m Lb Lo R w) : Calls Tryz.prog 83 #[pv Lb Lo] w fun e w' => ∃ v, e = .returned v ∧ R v w' :=
  @fn_sound Tryz.prog tontineref03_Reader_Num.H 83 Tryz.f83 [pv Lb Lo] R w Tryz.mixed Tryz.func83 (by kernel_rfl) (by rw [← tontineref03_Reader_Num.eq]; exact h)

set_option maxRecDepth 100000
/-- (*tontine/tontineref03.Reader).Fail -/
def tontineref03_Reader_Fail.m (rb ro : Nat) (R : Value → World → Prop) (w : World) : Prop :=
  (stD w rb ro [.string ⟨#[]⟩] fun w_ => (stD w_ rb (ro + 1) [.bool true] fun w_2 => R (.tuple #[]) w_2))

def tontineref03_Reader_Fail.H : Hints := { nret := [], nld := [], loops := [], joins := [], unroll := [], plans := [], nx := [] }

theorem tontineref03_Reader_Fail.eq (rb ro : Nat) (R : Value → World → Prop) (w : World) : tontineref03_Reader_Fail.m rb ro R w = fnD Tryz.prog tontineref03_Reader_Fail.H Tryz.f93 [pv rb ro] R w := by kernel_rfl

theorem tontineref03_Reader_Fail.ok (rb ro : Nat) {R : Value → World → Prop} {w : World} (h : tontineref03_Reader_Fail.m rb ro R w) : Calls Tryz.prog 93 #[pv rb ro] w fun e w' => ∃ v, e = .returned v ∧ R v w' :=
  @fn_sound Tryz.prog tontineref03_Reader_Fail.H 93 Tryz.f93 [pv rb ro] R w Tryz.mixed Tryz.func93 (by kernel_rfl) (by rw [← tontineref03_Reader_Fail.eq]; exact h)

set_option maxRecDepth 100000
/-- (*tontine/tontineref03.Reader).Up -/
def tontineref03_Reader_Up.m (rb ro : Nat) (limit : Int) (R : Value → World → Prop) (w : World) : Prop :=
  (Calls Tryz.prog 83 #[pv rb ro] w fun e_ w_ => (∃ r1 : Int, e_ = .returned (.int .u64 r1) ∧ (bif (decide (limit < 0)) then (Calls Tryz.prog 93 #[pv rb ro] w_ fun e_2 w_2 => 
    e_2 = .returned (.tuple #[]) ∧ R (.int .i64 0) w_2) else (bif (decide (r1 > (wu64 limit))) then (Calls Tryz.prog 93 #[pv rb ro] w_ fun e_3 w_3 => e_3 = .returned (.tuple #[]) ∧ R (.int .i64 0) w_3)
     else R (.int .i64 (w64 r1)) w_))))

def tontineref03_Reader_Up.H : Hints := { nret := [], nld := [], loops := [], joins := [], unroll := [], plans := [], nx := [] }

theorem tontineref03_Reader_Up.eq (rb ro : Nat) (limit : Int) (R : Value → World → Prop) (w : World) : tontineref03_Reader_Up.m rb ro limit R w = fnD Tryz.prog tontineref03_Reader_Up.H Tryz.f84 [pv rb ro, .int .i64 limit] R w := by kernel_rfl

theorem tontineref03_Reader_Up.ok (rb ro : Nat) (limit : Int) {R : Value → World → Prop} {w : World} (h : tontineref03_Reader_Up.m rb ro limit R w) : Calls Tryz.prog 84 #[pv rb ro, .int .i64 limit] w fun e w' => ∃ v, e = .returned v ∧ R v w' :=
  @fn_sound Tryz.prog tontineref03_Reader_Up.H 84 Tryz.f84 [pv rb ro, .int .i64 limit] R w Tryz.mixed Tryz.func84 (by kernel_rfl) (by rw [← tontineref03_Reader_Up.eq]; exact h)

set_option maxRecDepth 100000
/-- (*tontine/tontineref03.Reader).Text -/
def tontineref03_Reader_Text.m (rb ro : Nat) (limit : Int) (R : Value → World → Prop) (w : World) : Prop :=
  (Calls Tryz.prog 84 #[pv rb ro, .int .i64 limit] w fun e_ w_ => (∃ r1 : Int, e_ = .returned (.int .i64 r1) ∧ (∃ v1 : ByteArray, World.cell? w_ ⟨rb, ro, none⟩ = some (.string v1) ∧ 
    (bif (decide (r1 > (v1.size : Int))) then (Calls Tryz.prog 93 #[pv rb ro] w_ fun e_2 w_2 => e_2 = .returned (.tuple #[]) ∧ R (.string ⟨#[]⟩) w_2)
     else (∃ v2 : ByteArray, World.cell? w_ ⟨rb, ro, none⟩ = some (.string v2) ∧ ((0 : Int) ≤ r1 ∧ r1 ≤ ((v2 : ByteArray).size : Int) ∧ 
    (∃ v3 : ByteArray, World.cell? w_ ⟨rb, ro, none⟩ = some (.string v3) ∧ ((0 : Int) ≤ r1 ∧ r1 ≤ ((v3 : ByteArray).size : Int) ∧ 
    (stD w_ rb ro [.string (ByteArray.extract v3 (r1 : Int).toNat (v3 : ByteArray).size)] fun w_3 => R (.string (ByteArray.extract v2 0 (r1 : Int).toNat)) w_3)))))))))

def tontineref03_Reader_Text.H : Hints := { nret := [], nld := [], loops := [], joins := [], unroll := [], plans := [], nx := [] }

theorem tontineref03_Reader_Text.eq (rb ro : Nat) (limit : Int) (R : Value → World → Prop) (w : World) : tontineref03_Reader_Text.m rb ro limit R w = fnD Tryz.prog tontineref03_Reader_Text.H Tryz.f85 [pv rb ro, .int .i64 limit] R w := by kernel_rfl

theorem tontineref03_Reader_Text.ok (rb ro : Nat) (limit : Int) {R : Value → World → Prop} {w : World} (h : tontineref03_Reader_Text.m rb ro limit R w) : Calls Tryz.prog 85 #[pv rb ro, .int .i64 limit] w fun e w' => ∃ v, e = .returned v ∧ R v w' :=
  @fn_sound Tryz.prog tontineref03_Reader_Text.H 85 Tryz.f85 [pv rb ro, .int .i64 limit] R w Tryz.mixed Tryz.func85 (by kernel_rfl) (by rw [← tontineref03_Reader_Text.eq]; exact h)

set_option maxRecDepth 100000
/-- tontine/tontineref03.Num -/
def tontineref03_Num.m (x1 : Int) (R : Value → World → Prop) (w : World) : Prop :=
  (∃ (I1 : Int → ByteArray → Int → World → Prop) (M1 : Int → ByteArray → Int → World → Nat), I1 x1 ⟨#[]⟩ 0 w ∧ 
    ∀ (jk : Env) (x2 : Int) (s1 : ByteArray) (n1 : Int) (w_ : World), I1 x2 s1 n1 w_ → (bif (decide (x2 > 0)) then (alD w_ (.cells #[.int .u8 (wu8 (Int.tmod x2 256))] 5 (0, 0)) fun b1 w_2 => 
    (∃ str : ByteArray, b2sR Tryz.prog 125 9 (.slice (some ⟨b1, 0, none⟩) 1 1) str w_2 ∧ (catD str s1 fun cat => (I1 (wu64 (Int.tdiv x2 256)) cat (w64 (n1 + 1)) w_2 ∧ 
    M1 (wu64 (Int.tdiv x2 256)) cat (w64 (n1 + 1)) w_2 < M1 x2 s1 n1 w_)))) else (alD w_ (.cells #[.int .u8 (wu8 n1)] 5 (0, 0)) fun b2 w_3 => 
    (∃ str2 : ByteArray, b2sR Tryz.prog 125 9 (.slice (some ⟨b2, 0, none⟩) 1 1) str2 w_3 ∧ (catD str2 s1 fun cat2 => R (.string cat2) w_3)))))

def tontineref03_Num.H : Hints := { nret := [], nld := [], loops := [(3, [(0, .int .u64), (3, .str), (4, .int .i64)])], joins := [], unroll := [], plans := [], nx := [] }

theorem tontineref03_Num.eq (x1 : Int) (R : Value → World → Prop) (w : World) : tontineref03_Num.m x1 R w = fnD Tryz.prog tontineref03_Num.H Tryz.f88 [.int .u64 x1] R w := by kernel_rfl

theorem tontineref03_Num.ok (x1 : Int) {R : Value → World → Prop} {w : World} (h : tontineref03_Num.m x1 R w) : Calls Tryz.prog 88 #[.int .u64 x1] w fun e w' => ∃ v, e = .returned v ∧ R v w' :=
  @fn_sound Tryz.prog tontineref03_Num.H 88 Tryz.f88 [.int .u64 x1] R w Tryz.mixed Tryz.func88 (by kernel_rfl) (by rw [← tontineref03_Num.eq]; exact h)

set_option maxRecDepth 100000
/-- tontine/tontineref03.Text -/
def tontineref03_Text.m (s1 : ByteArray) (R : Value → World → Prop) (w : World) : Prop :=
  (Calls Tryz.prog 88 #[.int .u64 (wu64 (s1.size : Int))] w fun e_ w_ => (∃ r1 : ByteArray, e_ = .returned (.string r1) ∧ (catD r1 s1 fun cat => R (.string cat) w_)))

def tontineref03_Text.H : Hints := { nret := [], nld := [], loops := [], joins := [], unroll := [], plans := [], nx := [] }

theorem tontineref03_Text.eq (s1 : ByteArray) (R : Value → World → Prop) (w : World) : tontineref03_Text.m s1 R w = fnD Tryz.prog tontineref03_Text.H Tryz.f66 [.string s1] R w := by kernel_rfl

theorem tontineref03_Text.ok (s1 : ByteArray) {R : Value → World → Prop} {w : World} (h : tontineref03_Text.m s1 R w) : Calls Tryz.prog 66 #[.string s1] w fun e w' => ∃ v, e = .returned v ∧ R v w' :=
  @fn_sound Tryz.prog tontineref03_Text.H 66 Tryz.f66 [.string s1] R w Tryz.mixed Tryz.func66 (by kernel_rfl) (by rw [← tontineref03_Text.eq]; exact h)

end Go.Proofs.YtbcepafeiocobaaGreat
