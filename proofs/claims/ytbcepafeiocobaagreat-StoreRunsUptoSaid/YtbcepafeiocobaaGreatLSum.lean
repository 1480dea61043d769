/-
  Clean forms of Go functions, and that each is enough for the call (written by a program of this work, lift.py).
-/
import Derived.Test.YtbcepafeiocobaaGreatXBase
namespace Go.Proofs.YtbcepafeiocobaaGreat
open Go.X

set_option maxRecDepth 100000
/-- tontine/crc.Add -/
def crc_Add.m (sum : Int) (ba : Option Addr) (bn bc : Nat) (R : Value → World → Prop) (w : World) : Prop :=
  (∃ (I1 : Int → Int → World → Prop) (M1 : Int → Int → World → Nat), I1 (xorV .u32 4294967295 sum) 0 w ∧ 
    ∀ (jk : Env) (x1 : Int) (i1 : Int) (w_ : World), I1 x1 i1 w_ → (bif (decide (i1 < (bn : Int))) then (∃ b1 o1 : Nat, ba = some ⟨b1, o1, none⟩ ∧ (0 : Int) ≤ i1 ∧ i1 < (bn : Int) ∧ 
    (∃ v1 : Int, World.cell? w_ ⟨b1, (o1 + (i1 : Int).toNat * 1), none⟩ = some (.int .u8 v1) ∧ (∃ (I2 : Int → Int → World → Prop) (M2 : Int → Int → World → Nat), I2 (xorV .u32 x1 (wu32 v1)) 0 w_ ∧ 
    ∀ (jk2 : Env) (x2 : Int) (i2 : Int) (w_2 : World), I2 x2 i2 w_2 → (bif (decide (i2 < 8)) then 
    (I2 (xorV .u32 (shrV .u32 x2 1) (andV .u32 2197175160 (wu32 (0 - (andV .u32 x2 1))))) (w64 (i2 + 1)) w_2 ∧ 
    M2 (xorV .u32 (shrV .u32 x2 1) (andV .u32 2197175160 (wu32 (0 - (andV .u32 x2 1))))) (w64 (i2 + 1)) w_2 < M2 x2 i2 w_2) else (I1 x2 (w64 (i1 + 1)) w_2 ∧ M1 x2 (w64 (i1 + 1)) w_2 < M1 x1 i1 w_)))))
     else R (.int .u32 (xorV .u32 4294967295 x1)) w_))

def crc_Add.H : Hints := { nret := [], nld := [], loops := [(3, [(5, .int .u32), (12, .int .i64)]), (7, [(5, .int .u32), (20, .int .i64)])], joins := [], unroll := [], plans := [], nx := [] }

theorem crc_Add.eq (sum : Int) (ba : Option Addr) (bn bc : Nat) (R : Value → World → Prop) (w : World) : crc_Add.m sum ba bn bc R w = fnD Tryz.prog crc_Add.H Tryz.f90 [.int .u32 sum, .slice ba bn bc] R w := by kernel_rfl

theorem crc_Add.ok (sum : Int) (ba : Option Addr) (bn bc : Nat) {R : Value → World → Prop} {w : World} (h : crc_Add.m sum ba bn bc R w) : Calls Tryz.prog 90 #[.int .u32 sum, .slice ba bn bc] w fun e w' => ∃ v, e = .returned v ∧ R v w' :=
  @fn_sound Tryz.prog crc_Add.H 90 Tryz.f90 [.int .u32 sum, .slice ba bn bc] R w Tryz.mixed Tryz.func90 (by kernel_rfl) (by rw [← crc_Add.eq]; exact h)

set_option maxRecDepth 100000
/-- tontine/crc.Sum -/
def crc_Sum.m (ba : Option Addr) (bn bc : Nat) (R : Value → World → Prop) (w : World) : Prop :=
  (Calls Tryz.prog 90 #[.int .u32 0, .slice ba bn bc] w fun e_ w_ => (∃ r1 : Int, e_ = .returned (.int .u32 r1) ∧ R (.int .u32 r1) w_))

def crc_Sum.H : Hints := { nret := [], nld := [], loops := [], joins := [], unroll := [], plans := [], nx := [] }

theorem crc_Sum.eq (ba : Option Addr) (bn bc : Nat) (R : Value → World → Prop) (w : World) : crc_Sum.m ba bn bc R w = fnD Tryz.prog crc_Sum.H Tryz.f75 [.slice ba bn bc] R w := by kernel_rfl

theorem crc_Sum.ok (ba : Option Addr) (bn bc : Nat) {R : Value → World → Prop} {w : World} (h : crc_Sum.m ba bn bc R w) : Calls Tryz.prog 75 #[.slice ba bn bc] w fun e w' => ∃ v, e = .returned v ∧ R v w' :=
  @fn_sound Tryz.prog crc_Sum.H 75 Tryz.f75 [.slice ba bn bc] R w Tryz.mixed Tryz.func75 (by kernel_rfl) (by rw [← crc_Sum.eq]; exact h)

set_option maxRecDepth 100000
/-- tontine/tontineref02.half -/
def tontineref02_half.m (x1 : Int) (R : Value → World → Prop) (w : World) : Prop :=
  (bif ((Int.tmod x1 2) == 1) then R (.int .u32 (xorV .u32 (wu32 (Int.tdiv x1 2)) 2197175160)) w else R (.int .u32 (wu32 (Int.tdiv x1 2))) w)

def tontineref02_half.H : Hints := { nret := [], nld := [], loops := [], joins := [], unroll := [], plans := [], nx := [] }

theorem tontineref02_half.eq (x1 : Int) (R : Value → World → Prop) (w : World) : tontineref02_half.m x1 R w = fnD Tryz.prog tontineref02_half.H Tryz.f98 [.int .u32 x1] R w := by kernel_rfl

theorem tontineref02_half.ok (x1 : Int) {R : Value → World → Prop} {w : World} (h : tontineref02_half.m x1 R w) : Calls Tryz.prog 98 #[.int .u32 x1] w fun e w' => ∃ v, e = .returned v ∧ R v w' :=
  @fn_sound Tryz.prog tontineref02_half.H 98 Tryz.f98 [.int .u32 x1] R w Tryz.mixed Tryz.func98 (by kernel_rfl) (by rw [← tontineref02_half.eq]; exact h)

set_option maxRecDepth 100000
/-- tontine/tontineref02.Add -/
def tontineref02_Add.m (sum : Int) (ba : Option Addr) (bn bc : Nat) (R : Value → World → Prop) (w : World) : Prop :=
  (∃ (I1 : Int → Int → World → Prop) (M1 : Int → Int → World → Nat), I1 (wu32 (4294967295 - sum)) 0 w ∧ 
    ∀ (jk : Env) (x1 : Int) (i1 : Int) (w_ : World), I1 x1 i1 w_ → (bif (decide (i1 < (bn : Int))) then (∃ b1 o1 : Nat, ba = some ⟨b1, o1, none⟩ ∧ (0 : Int) ≤ i1 ∧ i1 < (bn : Int) ∧ 
    (∃ v1 : Int, World.cell? w_ ⟨b1, (o1 + (i1 : Int).toNat * 1), none⟩ = some (.int .u8 v1) ∧ (∃ (I2 : Int → Int → World → Prop) (M2 : Int → Int → World → Nat), I2 (xorV .u32 x1 (wu32 v1)) 0 w_ ∧ 
    ∀ (jk2 : Env) (x2 : Int) (k1 : Int) (w_2 : World), I2 x2 k1 w_2 → (bif (decide (k1 < 8)) then (Calls Tryz.prog 98 #[.int .u32 x2] w_2 fun e_ w_3 => (∃ r1 : Int, e_ = .returned (.int .u32 r1) ∧ 
    (I2 r1 (w64 (k1 + 1)) w_3 ∧ M2 r1 (w64 (k1 + 1)) w_3 < M2 x2 k1 w_2))) else (I1 x2 (w64 (i1 + 1)) w_2 ∧ M1 x2 (w64 (i1 + 1)) w_2 < M1 x1 i1 w_))))) else R (.int .u32 (wu32 (4294967295 - x1))) w_))

def tontineref02_Add.H : Hints := { nret := [], nld := [], loops := [(3, [(5, .int .u32), (6, .int .i64)]), (7, [(5, .int .u32), (7, .int .i64)])], joins := [], unroll := [], plans := [], nx := [] }

theorem tontineref02_Add.eq (sum : Int) (ba : Option Addr) (bn bc : Nat) (R : Value → World → Prop) (w : World) : tontineref02_Add.m sum ba bn bc R w = fnD Tryz.prog tontineref02_Add.H Tryz.f95 [.int .u32 sum, .slice ba bn bc] R w := by kernel_rfl

theorem tontineref02_Add.ok (sum : Int) (ba : Option Addr) (bn bc : Nat) {R : Value → World → Prop} {w : World} (h : tontineref02_Add.m sum ba bn bc R w) : Calls Tryz.prog 95 #[.int .u32 sum, .slice ba bn bc] w fun e w' => ∃ v, e = .returned v ∧ R v w' :=
  @fn_sound Tryz.prog tontineref02_Add.H 95 Tryz.f95 [.int .u32 sum, .slice ba bn bc] R w Tryz.mixed Tryz.func95 (by kernel_rfl) (by rw [← tontineref02_Add.eq]; exact h)

set_option maxRecDepth 100000
/-- tontine/stuff.Encode -/
def stuff_Encode.m (ba : Option Addr) (bn bc : Nat) (R : Value → World → Prop) (w : World) : Prop :=
  (exSl Tryz.prog (Instr.makeSlice 125 (.int .i64 1) (.int .i64 (w64 ((w64 ((bn : Int) + (w64 (Int.tdiv (bn : Int) 254)))) + 1)))) (fun sa sn sc w_ => 
    (∃ (I1 : Option Addr → Nat → Nat → Int → Int → World → Prop) (M1 : Option Addr → Nat → Nat → Int → Int → World → Nat), I1 sa sn sc 0 0 w_ ∧ 
    ∀ (jk : Env) (outa : Option Addr) (outn outc : Nat) (at_ : Int) (i1 : Int) (w_2 : World), I1 outa outn outc at_ i1 w_2 → (bif (decide (i1 < (bn : Int))) then 
    (∃ b1 o1 : Nat, ba = some ⟨b1, o1, none⟩ ∧ (0 : Int) ≤ i1 ∧ i1 < (bn : Int) ∧ (∃ v1 : Int, World.cell? w_2 ⟨b1, (o1 + (i1 : Int).toNat * 1), none⟩ = some (.int .u8 v1) ∧ 
    (∃ J1 : Option Addr → Nat → Nat → World → Prop, (bif (v1 != 0) then (alD w_2 (.cells #[.int .u8 v1] 5 (0, 0)) fun b2 w_4 => 
    (exSl Tryz.prog (Builtin.append_ #[125, 125] 125 #[.slice outa outn outc, .slice (some ⟨b2, 0, none⟩) 1 1]) (fun sa2 sn2 sc2 w_5 => J1 sa2 sn2 sc2 w_5) w_4)) else J1 outa outn outc w_2) ∧ 
    ∀ (jk2 : Env) (outa2 : Option Addr) (outn2 outc2 : Nat) (w_3 : World), J1 outa2 outn2 outc2 w_3 → (bif (v1 == 0) then (∃ b3 o2 : Nat, outa2 = some ⟨b3, o2, none⟩ ∧ (0 : Int) ≤ at_ ∧ 
    at_ < (outn2 : Int) ∧ (stD w_3 b3 (o2 + (at_ : Int).toNat * 1) [.int .u8 (wu8 (w64 ((outn2 : Int) - at_)))] fun w_6 => (alD w_6 (.cells #[.int .u8 0] 5 (0, 0)) fun b4 w_7 => 
    (exSl Tryz.prog (Builtin.append_ #[125, 125] 125 #[.slice outa2 outn2 outc2, .slice (some ⟨b4, 0, none⟩) 1 1]) (fun sa3 sn3 sc3 w_8 => (I1 sa3 sn3 sc3 (outn2 : Int) (w64 (i1 + 1)) w_8 ∧ 
    M1 sa3 sn3 sc3 (outn2 : Int) (w64 (i1 + 1)) w_8 < M1 outa outn outc at_ i1 w_2)) w_7)))) else (bif ((w64 ((outn2 : Int) - at_)) == 255) then (∃ b5 o3 : Nat, outa2 = some ⟨b5, o3, none⟩ ∧ 
    (0 : Int) ≤ at_ ∧ at_ < (outn2 : Int) ∧ (stD w_3 b5 (o3 + (at_ : Int).toNat * 1) [.int .u8 (wu8 (w64 ((outn2 : Int) - at_)))] fun w_9 => (alD w_9 (.cells #[.int .u8 0] 5 (0, 0)) fun b6 w_10 => 
    (exSl Tryz.prog (Builtin.append_ #[125, 125] 125 #[.slice outa2 outn2 outc2, .slice (some ⟨b6, 0, none⟩) 1 1]) (fun sa4 sn4 sc4 w_11 => (I1 sa4 sn4 sc4 (outn2 : Int) (w64 (i1 + 1)) w_11 ∧ 
    M1 sa4 sn4 sc4 (outn2 : Int) (w64 (i1 + 1)) w_11 < M1 outa outn outc at_ i1 w_2)) w_10)))) else (I1 outa2 outn2 outc2 at_ (w64 (i1 + 1)) w_3 ∧ 
    M1 outa2 outn2 outc2 at_ (w64 (i1 + 1)) w_3 < M1 outa outn outc at_ i1 w_2)))))) else (∃ b7 o4 : Nat, outa = some ⟨b7, o4, none⟩ ∧ (0 : Int) ≤ at_ ∧ at_ < (outn : Int) ∧ 
    (stD w_2 b7 (o4 + (at_ : Int).toNat * 1) [.int .u8 (wu8 (w64 ((outn : Int) - at_)))] fun w_12 => R (.slice outa outn outc) w_12))))) w)

def stuff_Encode.H : Hints := { nret := [], nld := [], loops := [(4, [(3, .slice), (4, .int .i64), (17, .int .i64)])], joins := [(8, [(3, .slice)])], unroll := [], plans := [], nx := [] }

theorem stuff_Encode.eq (ba : Option Addr) (bn bc : Nat) (R : Value → World → Prop) (w : World) : stuff_Encode.m ba bn bc R w = fnD Tryz.prog stuff_Encode.H Tryz.f86 [.slice ba bn bc] R w := by kernel_rfl

theorem stuff_Encode.ok (ba : Option Addr) (bn bc : Nat) {R : Value → World → Prop} {w : World} (h : stuff_Encode.m ba bn bc R w) : Calls Tryz.prog 86 #[.slice ba bn bc] w fun e w' => ∃ v, e = .returned v ∧ R v w' :=
  @fn_sound Tryz.prog stuff_Encode.H 86 Tryz.f86 [.slice ba bn bc] R w Tryz.mixed Tryz.func86 (by kernel_rfl) (by rw [← stuff_Encode.eq]; exact h)

set_option maxRecDepth 100000
/-- tontine/stuff.Decode -/
def stuff_Decode.m (ba : Option Addr) (bn bc : Nat) (R : Value → World → Prop) (w : World) : Prop :=
  (∃ (I1 : Option Addr → Nat → Nat → Option Addr → Nat → Nat → World → Prop) (M1 : Option Addr → Nat → Nat → Option Addr → Nat → Nat → World → Nat), I1 ba bn bc none 0 0 w ∧ 
    ∀ (jk : Env) (ba2 : Option Addr) (bn2 bc2 : Nat) (outa : Option Addr) (outn outc : Nat) (w_ : World), I1 ba2 bn2 bc2 outa outn outc w_ → (bif (decide ((bn2 : Int) > 0)) then 
    (∃ b1 o1 : Nat, ba2 = some ⟨b1, o1, none⟩ ∧ (0 : Int) ≤ 0 ∧ 0 < (bn2 : Int) ∧ (∃ v1 : Int, World.cell? w_ ⟨b1, o1, none⟩ = some (.int .u8 v1) ∧ (bif ((w64 v1) == 0) then 
    R (.tuple #[.slice none 0 0, .int .i64 2]) w_ else (bif (decide ((w64 v1) > (bn2 : Int))) then R (.tuple #[.slice none 0 0, .int .i64 2]) w_ else ((0 : Int) ≤ 1 ∧ 1 ≤ (w64 v1) ∧ 
    (w64 v1) ≤ (bc2 : Int) ∧ (∃ (I2 : Option Addr → Nat → Nat → Int → World → Prop) (M2 : Option Addr → Nat → Nat → Int → World → Nat), I2 outa outn outc 0 w_ ∧ 
    ∀ (jk2 : Env) (outa2 : Option Addr) (outn2 outc2 : Nat) (i1 : Int) (w_2 : World), I2 outa2 outn2 outc2 i1 w_2 → (bif (decide (i1 < (((((w64 v1) : Int).toNat - 1) : Nat) : Int))) then 
    (∃ b2 o2 : Nat, (slcA ba2 bc2 (1) 1) = some ⟨b2, o2, none⟩ ∧ (0 : Int) ≤ i1 ∧ i1 < (((((w64 v1) : Int).toNat - 1) : Nat) : Int) ∧ 
    (∃ v2 : Int, World.cell? w_2 ⟨b2, (o2 + (i1 : Int).toNat * 1), none⟩ = some (.int .u8 v2) ∧ (bif (v2 == 0) then R (.tuple #[.slice none 0 0, .int .i64 2]) w_2
     else (alD w_2 (.cells #[.int .u8 v2] 5 (0, 0)) fun b3 w_3 => (exSl Tryz.prog (Builtin.append_ #[125, 125] 125 #[.slice outa2 outn2 outc2, .slice (some ⟨b3, 0, none⟩) 1 1]) (fun sa sn sc w_4 => 
    (I2 sa sn sc (w64 (i1 + 1)) w_4 ∧ M2 sa sn sc (w64 (i1 + 1)) w_4 < M2 outa2 outn2 outc2 i1 w_2)) w_3))))) else ((0 : Int) ≤ (w64 v1) ∧ (w64 v1) ≤ (bn2 : Int) ∧ 
    (bif ((((bn2 - ((w64 v1) : Int).toNat) : Nat) : Int) == 0) then (bif ((w64 v1) == 255) then R (.tuple #[.slice none 0 0, .int .i64 2]) w_2
     else R (.tuple #[.slice outa2 outn2 outc2, .int .i64 0]) w_2) else (bif (decide ((w64 v1) < 255)) then (alD w_2 (.cells #[.int .u8 0] 5 (0, 0)) fun b4 w_5 => 
    (exSl Tryz.prog (Builtin.append_ #[125, 125] 125 #[.slice outa2 outn2 outc2, .slice (some ⟨b4, 0, none⟩) 1 1]) (fun sa2 sn2 sc2 w_6 => 
    (I1 (slcA ba2 bc2 (((w64 v1) : Int).toNat) 1) (bn2 - ((w64 v1) : Int).toNat) (bc2 - ((w64 v1) : Int).toNat) sa2 sn2 sc2 w_6 ∧ 
    M1 (slcA ba2 bc2 (((w64 v1) : Int).toNat) 1) (bn2 - ((w64 v1) : Int).toNat) (bc2 - ((w64 v1) : Int).toNat) sa2 sn2 sc2 w_6 < M1 ba2 bn2 bc2 outa outn outc w_)) w_5))
     else (I1 (slcA ba2 bc2 (((w64 v1) : Int).toNat) 1) (bn2 - ((w64 v1) : Int).toNat) (bc2 - ((w64 v1) : Int).toNat) outa2 outn2 outc2 w_2 ∧ 
    M1 (slcA ba2 bc2 (((w64 v1) : Int).toNat) 1) (bn2 - ((w64 v1) : Int).toNat) (bc2 - ((w64 v1) : Int).toNat) outa2 outn2 outc2 w_2 < M1 ba2 bn2 bc2 outa outn outc w_)))))))))))
     else R (.tuple #[.slice none 0 0, .int .i64 2]) w_))

def stuff_Decode.H : Hints := { nret := [], nld := [], loops := [(2, [(0, .slice), (4, .slice)]), (7, [(4, .slice), (27, .int .i64)])], joins := [], unroll := [], plans := [], nx := [] }

theorem stuff_Decode.eq (ba : Option Addr) (bn bc : Nat) (R : Value → World → Prop) (w : World) : stuff_Decode.m ba bn bc R w = fnD Tryz.prog stuff_Decode.H Tryz.f74 [.slice ba bn bc] R w := by kernel_rfl

theorem stuff_Decode.ok (ba : Option Addr) (bn bc : Nat) {R : Value → World → Prop} {w : World} (h : stuff_Decode.m ba bn bc R w) : Calls Tryz.prog 74 #[.slice ba bn bc] w fun e w' => ∃ v, e = .returned v ∧ R v w' :=
  @fn_sound Tryz.prog stuff_Decode.H 74 Tryz.f74 [.slice ba bn bc] R w Tryz.mixed Tryz.func74 (by kernel_rfl) (by rw [← stuff_Decode.eq]; exact h)

set_option maxRecDepth 100000
/-- tontine/tontineref01.zero -/
def tontineref01_zero.m (ba : Option Addr) (bn bc : Nat) (R : Value → World → Prop) (w : World) : Prop :=
  (∃ (I1 : Int → World → Prop) (M1 : Int → World → Nat), I1 0 w ∧ ∀ (jk : Env) (i1 : Int) (w_ : World), I1 i1 w_ → (bif (decide (i1 < (bn : Int))) then (∃ b1 o1 : Nat, ba = some ⟨b1, o1, none⟩ ∧ 
    (0 : Int) ≤ i1 ∧ i1 < (bn : Int) ∧ (∃ v1 : Int, World.cell? w_ ⟨b1, (o1 + (i1 : Int).toNat * 1), none⟩ = some (.int .u8 v1) ∧ (bif (v1 == 0) then R (.int .i64 i1) w_ else (I1 (w64 (i1 + 1)) w_ ∧ 
    M1 (w64 (i1 + 1)) w_ < M1 i1 w_)))) else R (.int .i64 (bn : Int)) w_))

def tontineref01_zero.H : Hints := { nret := [], nld := [], loops := [(2, [(3, .int .i64)])], joins := [], unroll := [], plans := [], nx := [] }

theorem tontineref01_zero.eq (ba : Option Addr) (bn bc : Nat) (R : Value → World → Prop) (w : World) : tontineref01_zero.m ba bn bc R w = fnD Tryz.prog tontineref01_zero.H Tryz.f99 [.slice ba bn bc] R w := by kernel_rfl

theorem tontineref01_zero.ok (ba : Option Addr) (bn bc : Nat) {R : Value → World → Prop} {w : World} (h : tontineref01_zero.m ba bn bc R w) : Calls Tryz.prog 99 #[.slice ba bn bc] w fun e w' => ∃ v, e = .returned v ∧ R v w' :=
  @fn_sound Tryz.prog tontineref01_zero.H 99 Tryz.f99 [.slice ba bn bc] R w Tryz.mixed Tryz.func99 (by kernel_rfl) (by rw [← tontineref01_zero.eq]; exact h)

set_option maxRecDepth 100000
/-- tontine/tontineref01.Encode -/
def tontineref01_Encode.m (ba : Option Addr) (bn bc : Nat) (R : Value → World → Prop) (w : World) : Prop :=
  (∃ (I1 : Option Addr → Nat → Nat → Option Addr → Nat → Nat → World → Prop) (M1 : Option Addr → Nat → Nat → Option Addr → Nat → Nat → World → Nat), I1 ba bn bc none 0 0 w ∧ 
    ∀ (jk : Env) (ba2 : Option Addr) (bn2 bc2 : Nat) (outa : Option Addr) (outn outc : Nat) (w_ : World), I1 ba2 bn2 bc2 outa outn outc w_ → (Calls Tryz.prog 99 #[.slice ba2 bn2 bc2] w_ fun e_ w_2 => 
    (∃ r1 : Int, e_ = .returned (.int .i64 r1) ∧ (bif (decide (r1 ≥ 254)) then (alD w_2 (.cells #[.int .u8 255] 5 (0, 0)) fun b1 w_3 => 
    (exSl Tryz.prog (Builtin.append_ #[125, 125] 125 #[.slice outa outn outc, .slice (some ⟨b1, 0, none⟩) 1 1]) (fun sa sn sc w_4 => ((0 : Int) ≤ 254 ∧ 254 ≤ (bc2 : Int) ∧ 
    (exSl Tryz.prog (Builtin.append_ #[125, 125] 125 #[.slice sa sn sc, .slice ba2 (254) bc2]) (fun sa2 sn2 sc2 w_5 => ((0 : Int) ≤ 254 ∧ 254 ≤ (bn2 : Int) ∧ 
    (I1 (slcA ba2 bc2 (254) 1) (bn2 - 254) (bc2 - 254) sa2 sn2 sc2 w_5 ∧ M1 (slcA ba2 bc2 (254) 1) (bn2 - 254) (bc2 - 254) sa2 sn2 sc2 w_5 < M1 ba2 bn2 bc2 outa outn outc w_))) w_4))) w_3))
     else (alD w_2 (.cells #[.int .u8 (wu8 (w64 (r1 + 1)))] 5 (0, 0)) fun b2 w_6 => 
    (exSl Tryz.prog (Builtin.append_ #[125, 125] 125 #[.slice outa outn outc, .slice (some ⟨b2, 0, none⟩) 1 1]) (fun sa3 sn3 sc3 w_7 => ((0 : Int) ≤ r1 ∧ r1 ≤ (bc2 : Int) ∧ 
    (exSl Tryz.prog (Builtin.append_ #[125, 125] 125 #[.slice sa3 sn3 sc3, .slice ba2 ((r1 : Int).toNat) bc2]) (fun sa4 sn4 sc4 w_8 => (bif (r1 == (bn2 : Int)) then R (.slice sa4 sn4 sc4) w_8
     else ((0 : Int) ≤ (w64 (r1 + 1)) ∧ (w64 (r1 + 1)) ≤ (bn2 : Int) ∧ 
    (I1 (slcA ba2 bc2 (((w64 (r1 + 1)) : Int).toNat) 1) (bn2 - ((w64 (r1 + 1)) : Int).toNat) (bc2 - ((w64 (r1 + 1)) : Int).toNat) sa4 sn4 sc4 w_8 ∧ 
    M1 (slcA ba2 bc2 (((w64 (r1 + 1)) : Int).toNat) 1) (bn2 - ((w64 (r1 + 1)) : Int).toNat) (bc2 - ((w64 (r1 + 1)) : Int).toNat) sa4 sn4 sc4 w_8 < M1 ba2 bn2 bc2 outa outn outc w_)))) w_7))) w_6))))))

def tontineref01_Encode.H : Hints := { nret := [], nld := [], loops := [(2, [(0, .slice), (3, .slice)])], joins := [], unroll := [], plans := [], nx := [] }

theorem tontineref01_Encode.eq (ba : Option Addr) (bn bc : Nat) (R : Value → World → Prop) (w : World) : tontineref01_Encode.m ba bn bc R w = fnD Tryz.prog tontineref01_Encode.H Tryz.f96 [.slice ba bn bc] R w := by kernel_rfl

theorem tontineref01_Encode.ok (ba : Option Addr) (bn bc : Nat) {R : Value → World → Prop} {w : World} (h : tontineref01_Encode.m ba bn bc R w) : Calls Tryz.prog 96 #[.slice ba bn bc] w fun e w' => ∃ v, e = .returned v ∧ R v w' :=
  @fn_sound Tryz.prog tontineref01_Encode.H 96 Tryz.f96 [.slice ba bn bc] R w Tryz.mixed Tryz.func96 (by kernel_rfl) (by rw [← tontineref01_Encode.eq]; exact h)

set_option maxRecDepth 100000
/-- tontine/tontineref01.plain -/
def tontineref01_plain.m (ba : Option Addr) (bn bc : Nat) (R : Value → World → Prop) (w : World) : Prop :=
  (∃ (I1 : Option Addr → Nat → Nat → Option Addr → Nat → Nat → Bool → Bool → World → Prop) (M1 : Option Addr → Nat → Nat → Option Addr → Nat → Nat → Bool → Bool → World → Nat), I1 ba bn bc none 0 0 true true w ∧ 
    ∀ (jk : Env) (ba2 : Option Addr) (bn2 bc2 : Nat) (outa : Option Addr) (outn outc : Nat) (full : Bool) (first : Bool) (w_ : World), I1 ba2 bn2 bc2 outa outn outc full first w_ → (bif (decide ((bn2 : Int) > 0)) then 
    (∃ b1 o1 : Nat, ba2 = some ⟨b1, o1, none⟩ ∧ (0 : Int) ≤ 0 ∧ 0 < (bn2 : Int) ∧ (∃ v1 : Int, World.cell? w_ ⟨b1, o1, none⟩ = some (.int .u8 v1) ∧ (bif ((w64 v1) == 0) then 
    R (.tuple #[.slice none 0 0, .bool false]) w_ else (bif (decide ((w64 v1) > (bn2 : Int))) then R (.tuple #[.slice none 0 0, .bool false]) w_ else ((0 : Int) ≤ 1 ∧ 1 ≤ (w64 v1) ∧ 
    (w64 v1) ≤ (bc2 : Int) ∧ (Calls Tryz.prog 99 #[.slice (slcA ba2 bc2 (1) 1) (((w64 v1) : Int).toNat - 1) (bc2 - 1)] w_ fun e_ w_2 => (∃ r1 : Int, e_ = .returned (.int .i64 r1) ∧ 
    (bif (decide (r1 < (w64 ((w64 v1) - 1)))) then R (.tuple #[.slice none 0 0, .bool false]) w_2 else (bif (!first) then (bif (!full) then (alD w_2 (.cells #[.int .u8 0] 5 (0, 0)) fun b2 w_3 => 
    (exSl Tryz.prog (Builtin.append_ #[125, 125] 125 #[.slice outa outn outc, .slice (some ⟨b2, 0, none⟩) 1 1]) (fun sa sn sc w_4 => ((0 : Int) ≤ 1 ∧ 1 ≤ (w64 v1) ∧ (w64 v1) ≤ (bc2 : Int) ∧ 
    (exSl Tryz.prog (Builtin.append_ #[125, 125] 125 #[.slice sa sn sc, .slice (slcA ba2 bc2 (1) 1) (((w64 v1) : Int).toNat - 1) (bc2 - 1)]) (fun sa2 sn2 sc2 w_5 => ((0 : Int) ≤ (w64 v1) ∧ 
    (w64 v1) ≤ (bn2 : Int) ∧ (I1 (slcA ba2 bc2 (((w64 v1) : Int).toNat) 1) (bn2 - ((w64 v1) : Int).toNat) (bc2 - ((w64 v1) : Int).toNat) sa2 sn2 sc2 ((w64 v1) == 255) false w_5 ∧ 
    M1 (slcA ba2 bc2 (((w64 v1) : Int).toNat) 1) (bn2 - ((w64 v1) : Int).toNat) (bc2 - ((w64 v1) : Int).toNat) sa2 sn2 sc2 ((w64 v1) == 255) false w_5 < M1 ba2 bn2 bc2 outa outn outc full first w_))) w_4))) w_3))
     else ((0 : Int) ≤ 1 ∧ 1 ≤ (w64 v1) ∧ (w64 v1) ≤ (bc2 : Int) ∧ 
    (exSl Tryz.prog (Builtin.append_ #[125, 125] 125 #[.slice outa outn outc, .slice (slcA ba2 bc2 (1) 1) (((w64 v1) : Int).toNat - 1) (bc2 - 1)]) (fun sa3 sn3 sc3 w_6 => ((0 : Int) ≤ (w64 v1) ∧ 
    (w64 v1) ≤ (bn2 : Int) ∧ (I1 (slcA ba2 bc2 (((w64 v1) : Int).toNat) 1) (bn2 - ((w64 v1) : Int).toNat) (bc2 - ((w64 v1) : Int).toNat) sa3 sn3 sc3 ((w64 v1) == 255) false w_6 ∧ 
    M1 (slcA ba2 bc2 (((w64 v1) : Int).toNat) 1) (bn2 - ((w64 v1) : Int).toNat) (bc2 - ((w64 v1) : Int).toNat) sa3 sn3 sc3 ((w64 v1) == 255) false w_6 < M1 ba2 bn2 bc2 outa outn outc full first w_))) w_2)))
     else ((0 : Int) ≤ 1 ∧ 1 ≤ (w64 v1) ∧ (w64 v1) ≤ (bc2 : Int) ∧ 
    (exSl Tryz.prog (Builtin.append_ #[125, 125] 125 #[.slice outa outn outc, .slice (slcA ba2 bc2 (1) 1) (((w64 v1) : Int).toNat - 1) (bc2 - 1)]) (fun sa4 sn4 sc4 w_7 => ((0 : Int) ≤ (w64 v1) ∧ 
    (w64 v1) ≤ (bn2 : Int) ∧ (I1 (slcA ba2 bc2 (((w64 v1) : Int).toNat) 1) (bn2 - ((w64 v1) : Int).toNat) (bc2 - ((w64 v1) : Int).toNat) sa4 sn4 sc4 ((w64 v1) == 255) false w_7 ∧ 
    M1 (slcA ba2 bc2 (((w64 v1) : Int).toNat) 1) (bn2 - ((w64 v1) : Int).toNat) (bc2 - ((w64 v1) : Int).toNat) sa4 sn4 sc4 ((w64 v1) == 255) false w_7 < M1 ba2 bn2 bc2 outa outn outc full first w_))) w_2)))))))))))
     else R (.tuple #[.slice outa outn outc, .bool (!first)]) w_))

def tontineref01_plain.H : Hints := { nret := [], nld := [], loops := [(4, [(0, .slice), (4, .slice), (5, .bool), (6, .bool)])], joins := [], unroll := [], plans := [], nx := [] }

theorem tontineref01_plain.eq (ba : Option Addr) (bn bc : Nat) (R : Value → World → Prop) (w : World) : tontineref01_plain.m ba bn bc R w = fnD Tryz.prog tontineref01_plain.H Tryz.f97 [.slice ba bn bc] R w := by kernel_rfl

theorem tontineref01_plain.ok (ba : Option Addr) (bn bc : Nat) {R : Value → World → Prop} {w : World} (h : tontineref01_plain.m ba bn bc R w) : Calls Tryz.prog 97 #[.slice ba bn bc] w fun e w' => ∃ v, e = .returned v ∧ R v w' :=
  @fn_sound Tryz.prog tontineref01_plain.H 97 Tryz.f97 [.slice ba bn bc] R w Tryz.mixed Tryz.func97 (by kernel_rfl) (by rw [← tontineref01_plain.eq]; exact h)

set_option maxRecDepth 100000
/-- tontine/tontineref01.Decode -/
def tontineref01_Decode.m (ba : Option Addr) (bn bc : Nat) (R : Value → World → Prop) (w : World) : Prop :=
  (Calls Tryz.prog 97 #[.slice ba bn bc] w fun e_ w_ => (∃ (ra : Option Addr) (rn rc : Nat), (∃ r1 : Bool, e_ = .returned (.tuple #[.slice ra rn rc, .bool r1]) ∧ (drewD w_ fun w_2 => (bif (!r1) then 
    R (.tuple #[.slice none 0 0, .int .i64 2]) w_2 else (∃ str : ByteArray, b2sR Tryz.prog 125 9 (.slice ba bn bc) str w_2 ∧ (Calls Tryz.prog 96 #[.slice ra rn rc] w_2 fun e_2 w_3 => 
    (∃ (ra2 : Option Addr) (rn2 rc2 : Nat), e_2 = .returned (.slice ra2 rn2 rc2) ∧ b2sR Tryz.prog 125 9 (.slice ba bn bc) str w_3 ∧ 
    (∃ str2 : ByteArray, b2sR Tryz.prog 125 9 (.slice ra2 rn2 rc2) str2 w_3 ∧ (bif (!strEq str2 str) then R (.tuple #[.slice none 0 0, .int .i64 2]) w_3
     else R (.tuple #[.slice ra rn rc, .int .i64 0]) w_3))))))))))

def tontineref01_Decode.H : Hints := { nret := [], nld := [], loops := [], joins := [], unroll := [], plans := [(2, (.take 0 (.take 1 (.take 2 (.take 3 (.take 6 (.take 7 (.eff 4 (.take 5 (.take 8 (.take 9 .done)))))))))))], nx := [] }

theorem tontineref01_Decode.eq (ba : Option Addr) (bn bc : Nat) (R : Value → World → Prop) (w : World) : tontineref01_Decode.m ba bn bc R w = fnD Tryz.prog tontineref01_Decode.H Tryz.f92 [.slice ba bn bc] R w := by kernel_rfl

theorem tontineref01_Decode.ok (ba : Option Addr) (bn bc : Nat) {R : Value → World → Prop} {w : World} (h : tontineref01_Decode.m ba bn bc R w) : Calls Tryz.prog 92 #[.slice ba bn bc] w fun e w' => ∃ v, e = .returned v ∧ R v w' :=
  @fn_sound Tryz.prog tontineref01_Decode.H 92 Tryz.f92 [.slice ba bn bc] R w Tryz.mixed Tryz.func92 (by kernel_rfl) (by rw [← tontineref01_Decode.eq]; exact h)

set_option maxRecDepth 100000
/-- tontine/wal.Frame -/
def wal_Frame.m (s1 : ByteArray) (R : Value → World → Prop) (w : World) : Prop :=
  (exSl Tryz.prog (convert 9 125 (.string s1)) (fun sa sn sc w_ => (Calls Tryz.prog 75 #[.slice sa sn sc] w_ fun e_ w_2 => (∃ r1 : Int, e_ = .returned (.int .u32 r1) ∧ 
    (exSl Tryz.prog (convert 9 125 (.string s1)) (fun sa2 sn2 sc2 w_3 => 
    (alD w_3 (.cells #[.int .u8 (wu8 (shrV .u32 r1 24)), .int .u8 (wu8 (shrV .u32 r1 16)), .int .u8 (wu8 (shrV .u32 r1 8)), .int .u8 (wu8 r1)] 5 (0, 0)) fun b1 w_4 => 
    (exSl Tryz.prog (Builtin.append_ #[125, 125] 125 #[.slice sa2 sn2 sc2, .slice (some ⟨b1, 0, none⟩) 4 4]) (fun sa3 sn3 sc3 w_5 => (Calls Tryz.prog 86 #[.slice sa3 sn3 sc3] w_5 fun e_2 w_6 => 
    (∃ (ra : Option Addr) (rn rc : Nat), e_2 = .returned (.slice ra rn rc) ∧ (alD w_6 (.cells #[.int .u8 0] 5 (0, 0)) fun b2 w_7 => 
    (exSl Tryz.prog (Builtin.append_ #[125, 125] 125 #[.slice ra rn rc, .slice (some ⟨b2, 0, none⟩) 1 1]) (fun sa4 sn4 sc4 w_8 => (∃ str : ByteArray, b2sR Tryz.prog 125 9 (.slice sa4 sn4 sc4) str w_8 ∧ 
    R (.string str) w_8)) w_7))))) w_4))) w_2)))) w)

def wal_Frame.H : Hints := { nret := [], nld := [], loops := [], joins := [], unroll := [], plans := [], nx := [] }

theorem wal_Frame.eq (s1 : ByteArray) (R : Value → World → Prop) (w : World) : wal_Frame.m s1 R w = fnD Tryz.prog wal_Frame.H Tryz.f63 [.string s1] R w := by kernel_rfl

theorem wal_Frame.ok (s1 : ByteArray) {R : Value → World → Prop} {w : World} (h : wal_Frame.m s1 R w) : Calls Tryz.prog 63 #[.string s1] w fun e w' => ∃ v, e = .returned v ∧ R v w' :=
  @fn_sound Tryz.prog wal_Frame.H 63 Tryz.f63 [.string s1] R w Tryz.mixed Tryz.func63 (by kernel_rfl) (by rw [← wal_Frame.eq]; exact h)

set_option maxRecDepth 100000
/-- tontine/wal.Scan -/
def wal_Scan.m (L1 : ByteArray) (R : Value → World → Prop) (w : World) : Prop :=
  (∃ (I1 : Option Addr → Nat → Nat → Int → World → Prop) (M1 : Option Addr → Nat → Nat → Int → World → Nat), I1 none 0 0 0 w ∧ 
    ∀ (jk : Env) (a1 : Option Addr) (n1 c1 : Nat) (t1 : Int) (w_ : World), I1 a1 n1 c1 t1 w_ → (∃ (I2 : Int → World → Prop) (M2 : Int → World → Nat), I2 0 w_ ∧ 
    ∀ (jk2 : Env) (o1 : Int) (w_2 : World), I2 o1 w_2 → (bif (decide ((w64 (t1 + o1)) ≥ (L1.size : Int))) then R (.tuple #[.slice a1 n1 c1, .int .i64 t1]) w_2 else ((0 : Int) ≤ (w64 (t1 + o1)) ∧ 
    ∃ ch : UInt8, (L1 : ByteArray)[((w64 (t1 + o1)) : Int).toNat]? = some ch ∧ (bif ((ch.toNat : Int) == 0) then ((0 : Int) ≤ t1 ∧ t1 ≤ (w64 (t1 + o1)) ∧ 
    (w64 (t1 + o1)) ≤ ((L1 : ByteArray).size : Int) ∧ (exSl Tryz.prog (convert 9 125 (.string (ByteArray.extract L1 (t1 : Int).toNat ((w64 (t1 + o1)) : Int).toNat))) (fun sa sn sc w_3 => 
    (Calls Tryz.prog 74 #[.slice sa sn sc] w_3 fun e_ w_4 => (∃ (ra : Option Addr) (rn rc : Nat), (∃ r1 : Int, e_ = .returned (.tuple #[.slice ra rn rc, .int .i64 r1]) ∧ (bif (r1 != 0) then 
    R (.tuple #[.slice a1 n1 c1, .int .i64 t1]) w_4 else (bif (decide ((rn : Int) < 4)) then R (.tuple #[.slice a1 n1 c1, .int .i64 t1]) w_4 else (drewD w_4 fun w_5 => 
    (∃ b1 o2 : Nat, ra = some ⟨b1, o2, none⟩ ∧ (0 : Int) ≤ (w64 ((rn : Int) - 4)) ∧ (w64 ((rn : Int) - 4)) < (rn : Int) ∧ 
    (∃ v1 : Int, World.cell? w_5 ⟨b1, (o2 + ((w64 ((rn : Int) - 4)) : Int).toNat * 1), none⟩ = some (.int .u8 v1) ∧ (∃ b2 o3 : Nat, ra = some ⟨b2, o3, none⟩ ∧ 
    (0 : Int) ≤ (w64 ((w64 ((rn : Int) - 4)) + 1)) ∧ (w64 ((w64 ((rn : Int) - 4)) + 1)) < (rn : Int) ∧ 
    (∃ v2 : Int, World.cell? w_5 ⟨b2, (o3 + ((w64 ((w64 ((rn : Int) - 4)) + 1)) : Int).toNat * 1), none⟩ = some (.int .u8 v2) ∧ (∃ b3 o4 : Nat, ra = some ⟨b3, o4, none⟩ ∧ 
    (0 : Int) ≤ (w64 ((w64 ((rn : Int) - 4)) + 2)) ∧ (w64 ((w64 ((rn : Int) - 4)) + 2)) < (rn : Int) ∧ 
    (∃ v3 : Int, World.cell? w_5 ⟨b3, (o4 + ((w64 ((w64 ((rn : Int) - 4)) + 2)) : Int).toNat * 1), none⟩ = some (.int .u8 v3) ∧ (∃ b4 o5 : Nat, ra = some ⟨b4, o5, none⟩ ∧ 
    (0 : Int) ≤ (w64 ((w64 ((rn : Int) - 4)) + 3)) ∧ (w64 ((w64 ((rn : Int) - 4)) + 3)) < (rn : Int) ∧ 
    (∃ v4 : Int, World.cell? w_5 ⟨b4, (o5 + ((w64 ((w64 ((rn : Int) - 4)) + 3)) : Int).toNat * 1), none⟩ = some (.int .u8 v4) ∧ ((0 : Int) ≤ (w64 ((rn : Int) - 4)) ∧ 
    (w64 ((rn : Int) - 4)) ≤ (rc : Int) ∧ (Calls Tryz.prog 75 #[.slice ra (((w64 ((rn : Int) - 4)) : Int).toNat) rc] w_5 fun e_2 w_6 => (∃ r2 : Int, e_2 = .returned (.int .u32 r2) ∧ 
    (bif (r2 != (orV .u32 (orV .u32 (orV .u32 (shlV .u32 (wu32 v1) 24) (shlV .u32 (wu32 v2) 16)) (shlV .u32 (wu32 v3) 8)) (wu32 v4))) then R (.tuple #[.slice a1 n1 c1, .int .i64 t1]) w_6
     else (bif (decide ((w64 ((rn : Int) - 4)) > 65536)) then R (.tuple #[.slice a1 n1 c1, .int .i64 t1]) w_6 else ((0 : Int) ≤ (w64 ((rn : Int) - 4)) ∧ (w64 ((rn : Int) - 4)) ≤ (rc : Int) ∧ 
    (∃ str : ByteArray, b2sR Tryz.prog 125 9 (.slice ra (((w64 ((rn : Int) - 4)) : Int).toNat) rc) str w_6 ∧ (alD w_6 (.cells #[.string str] 9 (0, 0)) fun b5 w_7 => 
    (exSl Tryz.prog (Builtin.append_ #[76, 76] 76 #[.slice a1 n1 c1, .slice (some ⟨b5, 0, none⟩) 1 1]) (fun sa2 sn2 sc2 w_8 => (I1 sa2 sn2 sc2 (w64 (t1 + (w64 (o1 + 1)))) w_8 ∧ 
    M1 sa2 sn2 sc2 (w64 (t1 + (w64 (o1 + 1)))) w_8 < M1 a1 n1 c1 t1 w_)) w_7)))))))))))))))))))))))) w_2)) else (I2 (w64 (o1 + 1)) w_2 ∧ M2 (w64 (o1 + 1)) w_2 < M2 o1 w_2))))))

def wal_Scan.H : Hints := { nret := [], nld := [], loops := [(3, [(4, .slice), (5, .int .i64)]), (5, [(6, .int .i64)])], joins := [], unroll := [], plans := [(10, (.take 0 (.take 1 (.take 2 (.take 3 (.take 4 (.take 5 (.take 6 (.take 7 (.take 8 (.take 9 (.take 10 (.take 11 (.take 12 (.take 13 (.take 14 (.take 15 (.take 16 (.take 17 (.take 18 (.take 19 (.take 20 (.take 21 (.take 22 (.take 23 (.take 24 (.take 25 (.take 26 (.take 27 (.take 28 (.take 29 .done)))))))))))))))))))))))))))))))], nx := [] }

theorem wal_Scan.eq (L1 : ByteArray) (R : Value → World → Prop) (w : World) : wal_Scan.m L1 R w = fnD Tryz.prog wal_Scan.H Tryz.f46 [.string L1] R w := by kernel_rfl

theorem wal_Scan.ok (L1 : ByteArray) {R : Value → World → Prop} {w : World} (h : wal_Scan.m L1 R w) : Calls Tryz.prog 46 #[.string L1] w fun e w' => ∃ v, e = .returned v ∧ R v w' :=
  @fn_sound Tryz.prog wal_Scan.H 46 Tryz.f46 [.string L1] R w Tryz.mixed Tryz.func46 (by kernel_rfl) (by rw [← wal_Scan.eq]; exact h)

set_option maxRecDepth 100000
/-- tontine/tontineref05.Frame -/
def tontineref05_Frame.m (s1 : ByteArray) (R : Value → World → Prop) (w : World) : Prop :=
  (exSl Tryz.prog (convert 9 125 (.string s1)) (fun sa sn sc w_ => (Calls Tryz.prog 95 #[.int .u32 0, .slice sa sn sc] w_ fun e_ w_2 => (∃ r1 : Int, e_ = .returned (.int .u32 r1) ∧ 
    (exSl Tryz.prog (convert 9 125 (.string s1)) (fun sa2 sn2 sc2 w_3 => 
    (alD w_3 (.cells #[.int .u8 (wu8 (shrV .u32 r1 24)), .int .u8 (wu8 (shrV .u32 r1 16)), .int .u8 (wu8 (shrV .u32 r1 8)), .int .u8 (wu8 r1)] 5 (0, 0)) fun b1 w_4 => 
    (exSl Tryz.prog (Builtin.append_ #[125, 125] 125 #[.slice sa2 sn2 sc2, .slice (some ⟨b1, 0, none⟩) 4 4]) (fun sa3 sn3 sc3 w_5 => (Calls Tryz.prog 96 #[.slice sa3 sn3 sc3] w_5 fun e_2 w_6 => 
    (∃ (ra : Option Addr) (rn rc : Nat), e_2 = .returned (.slice ra rn rc) ∧ (∃ str : ByteArray, b2sR Tryz.prog 125 9 (.slice ra rn rc) str w_6 ∧ (catD str ⟨#[0]⟩ fun cat => 
    R (.string cat) w_6))))) w_4))) w_2)))) w)

def tontineref05_Frame.H : Hints := { nret := [], nld := [], loops := [], joins := [], unroll := [], plans := [], nx := [] }

theorem tontineref05_Frame.eq (s1 : ByteArray) (R : Value → World → Prop) (w : World) : tontineref05_Frame.m s1 R w = fnD Tryz.prog tontineref05_Frame.H Tryz.f89 [.string s1] R w := by kernel_rfl

theorem tontineref05_Frame.ok (s1 : ByteArray) {R : Value → World → Prop} {w : World} (h : tontineref05_Frame.m s1 R w) : Calls Tryz.prog 89 #[.string s1] w fun e w' => ∃ v, e = .returned v ∧ R v w' :=
  @fn_sound Tryz.prog tontineref05_Frame.H 89 Tryz.f89 [.string s1] R w Tryz.mixed Tryz.func89 (by kernel_rfl) (by rw [← tontineref05_Frame.eq]; exact h)

set_option maxRecDepth 100000
/-- tontine/tontineref05.first -/
def tontineref05_first.m (s1 : ByteArray) (R : Value → World → Prop) (w : World) : Prop :=
  (∃ J1 : Int → World → Prop, (∃ (I1 : Int → World → Prop) (M1 : Int → World → Nat), I1 0 w ∧ ∀ (jk2 : Env) (n1 : Int) (w_2 : World), I1 n1 w_2 → (bif (decide (n1 < (s1.size : Int))) then 
    ((0 : Int) ≤ n1 ∧ ∃ ch : UInt8, (s1 : ByteArray)[(n1 : Int).toNat]? = some ch ∧ (bif ((ch.toNat : Int) != 0) then (I1 (w64 (n1 + 1)) w_2 ∧ M1 (w64 (n1 + 1)) w_2 < M1 n1 w_2) else J1 n1 w_2))
     else J1 n1 w_2)) ∧ ∀ (jk : Env) (n2 : Int) (w_ : World), J1 n2 w_ → (bif (n2 == (s1.size : Int)) then R (.tuple #[.string ⟨#[]⟩, .int .i64 0]) w_ else ((0 : Int) ≤ n2 ∧ 
    n2 ≤ ((s1 : ByteArray).size : Int) ∧ (exSl Tryz.prog (convert 9 125 (.string (ByteArray.extract s1 0 (n2 : Int).toNat))) (fun sa sn sc w_3 => 
    (Calls Tryz.prog 92 #[.slice sa sn sc] w_3 fun e_ w_4 => (∃ (ra : Option Addr) (rn rc : Nat), (∃ r1 : Int, e_ = .returned (.tuple #[.slice ra rn rc, .int .i64 r1]) ∧ (bif (r1 != 0) then 
    R (.tuple #[.string ⟨#[]⟩, .int .i64 0]) w_4 else (bif (decide ((rn : Int) < 4)) then R (.tuple #[.string ⟨#[]⟩, .int .i64 0]) w_4 else (bif (decide ((rn : Int) > 65540)) then 
    R (.tuple #[.string ⟨#[]⟩, .int .i64 0]) w_4 else ((0 : Int) ≤ (w64 ((rn : Int) - 4)) ∧ (w64 ((rn : Int) - 4)) ≤ (rc : Int) ∧ 
    (∃ str : ByteArray, b2sR Tryz.prog 125 9 (.slice ra (((w64 ((rn : Int) - 4)) : Int).toNat) rc) str w_4 ∧ (drewD w_4 fun w_5 => ((0 : Int) ≤ (w64 (n2 + 1)) ∧ 
    (w64 (n2 + 1)) ≤ ((s1 : ByteArray).size : Int) ∧ (Calls Tryz.prog 89 #[.string str] w_5 fun e_2 w_6 => (∃ r2 : ByteArray, e_2 = .returned (.string r2) ∧ 
    (bif (!strEq r2 (ByteArray.extract s1 0 ((w64 (n2 + 1)) : Int).toNat)) then R (.tuple #[.string ⟨#[]⟩, .int .i64 0]) w_6
     else R (.tuple #[.string str, .int .i64 (w64 (n2 + 1))]) w_6)))))))))))))) w_))))

def tontineref05_first.H : Hints := { nret := [], nld := [], loops := [(2, [(4, .int .i64)])], joins := [(4, [(4, .int .i64)])], unroll := [], plans := [(10, (.take 0 (.take 2 (.take 3 (.take 4 (.take 5 (.eff 1 (.take 6 .done))))))))], nx := [] }

theorem tontineref05_first.eq (s1 : ByteArray) (R : Value → World → Prop) (w : World) : tontineref05_first.m s1 R w = fnD Tryz.prog tontineref05_first.H Tryz.f82 [.string s1] R w := by kernel_rfl

theorem tontineref05_first.ok (s1 : ByteArray) {R : Value → World → Prop} {w : World} (h : tontineref05_first.m s1 R w) : Calls Tryz.prog 82 #[.string s1] w fun e w' => ∃ v, e = .returned v ∧ R v w' :=
  @fn_sound Tryz.prog tontineref05_first.H 82 Tryz.f82 [.string s1] R w Tryz.mixed Tryz.func82 (by kernel_rfl) (by rw [← tontineref05_first.eq]; exact h)

set_option maxRecDepth 100000
/-- tontine/tontineref05.Scan -/
def tontineref05_Scan.m (s1 : ByteArray) (R : Value → World → Prop) (w : World) : Prop :=
  (∃ (I1 : Option Addr → Nat → Nat → Int → World → Prop) (M1 : Option Addr → Nat → Nat → Int → World → Nat), I1 none 0 0 0 w ∧ 
    ∀ (jk : Env) (la : Option Addr) (ln lc : Nat) (at_ : Int) (w_ : World), I1 la ln lc at_ w_ → ((0 : Int) ≤ at_ ∧ at_ ≤ ((s1 : ByteArray).size : Int) ∧ 
    (Calls Tryz.prog 82 #[.string (ByteArray.extract s1 (at_ : Int).toNat (s1 : ByteArray).size)] w_ fun e_ w_2 => (∃ r1 : ByteArray, (∃ r2 : Int, e_ = .returned (.tuple #[.string r1, .int .i64 r2]) ∧ 
    (bif (r2 == 0) then R (.tuple #[.slice la ln lc, .int .i64 at_]) w_2 else (alD w_2 (.cells #[.string r1] 9 (0, 0)) fun b1 w_3 => 
    (exSl Tryz.prog (Builtin.append_ #[76, 76] 76 #[.slice la ln lc, .slice (some ⟨b1, 0, none⟩) 1 1]) (fun sa sn sc w_4 => (I1 sa sn sc (w64 (at_ + r2)) w_4 ∧ 
    M1 sa sn sc (w64 (at_ + r2)) w_4 < M1 la ln lc at_ w_)) w_3))))))))

def tontineref05_Scan.H : Hints := { nret := [], nld := [], loops := [(3, [(4, .slice), (5, .int .i64)])], joins := [], unroll := [], plans := [], nx := [] }

theorem tontineref05_Scan.eq (s1 : ByteArray) (R : Value → World → Prop) (w : World) : tontineref05_Scan.m s1 R w = fnD Tryz.prog tontineref05_Scan.H Tryz.f55 [.string s1] R w := by kernel_rfl

theorem tontineref05_Scan.ok (s1 : ByteArray) {R : Value → World → Prop} {w : World} (h : tontineref05_Scan.m s1 R w) : Calls Tryz.prog 55 #[.string s1] w fun e w' => ∃ v, e = .returned v ∧ R v w' :=
  @fn_sound Tryz.prog tontineref05_Scan.H 55 Tryz.f55 [.string s1] R w Tryz.mixed Tryz.func55 (by kernel_rfl) (by rw [← tontineref05_Scan.eq]; exact h)

set_option maxRecDepth 100000
/-- tontine/quorum.Sound -/
def quorum_Sound.m (c1 : Int) (R : Value → World → Prop) (w : World) : Prop :=
  (bif (c1 != 0) then R (.bool ((andNotV .u64 c1 127) == 0)) w else R (.bool false) w)

def quorum_Sound.H : Hints := { nret := [], nld := [], loops := [], joins := [], unroll := [], plans := [], nx := [] }

theorem quorum_Sound.eq (c1 : Int) (R : Value → World → Prop) (w : World) : quorum_Sound.m c1 R w = fnD Tryz.prog quorum_Sound.H Tryz.f20 [.int .u64 c1] R w := by kernel_rfl

theorem quorum_Sound.ok (c1 : Int) {R : Value → World → Prop} {w : World} (h : quorum_Sound.m c1 R w) : Calls Tryz.prog 20 #[.int .u64 c1] w fun e w' => ∃ v, e = .returned v ∧ R v w' :=
  @fn_sound Tryz.prog quorum_Sound.H 20 Tryz.f20 [.int .u64 c1] R w Tryz.mixed Tryz.func20 (by kernel_rfl) (by rw [← quorum_Sound.eq]; exact h)

set_option maxRecDepth 100000
/-- tontine/tontineref06.Sound -/
def tontineref06_Sound.m (c1 : Int) (R : Value → World → Prop) (w : World) : Prop :=
  (bif (decide (c1 > 0)) then R (.bool (decide (c1 < 128))) w else R (.bool false) w)

def tontineref06_Sound.H : Hints := { nret := [], nld := [], loops := [], joins := [], unroll := [], plans := [], nx := [] }

theorem tontineref06_Sound.eq (c1 : Int) (R : Value → World → Prop) (w : World) : tontineref06_Sound.m c1 R w = fnD Tryz.prog tontineref06_Sound.H Tryz.f25 [.int .u64 c1] R w := by kernel_rfl

theorem tontineref06_Sound.ok (c1 : Int) {R : Value → World → Prop} {w : World} (h : tontineref06_Sound.m c1 R w) : Calls Tryz.prog 25 #[.int .u64 c1] w fun e w' => ∃ v, e = .returned v ∧ R v w' :=
  @fn_sound Tryz.prog tontineref06_Sound.H 25 Tryz.f25 [.int .u64 c1] R w Tryz.mixed Tryz.func25 (by kernel_rfl) (by rw [← tontineref06_Sound.eq]; exact h)

end Go.Proofs.YtbcepafeiocobaaGreat
