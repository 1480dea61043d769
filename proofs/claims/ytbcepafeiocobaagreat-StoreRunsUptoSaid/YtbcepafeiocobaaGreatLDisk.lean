/-
  Clean forms of Go functions, and that each is enough for the call (written by a program of this work, lift.py).
-/
import Derived.Test.YtbcepafeiocobaaGreatXBase
namespace Go.Proofs.YtbcepafeiocobaaGreat
open Go.X

set_option maxRecDepth 100000
/-- tontine/disk.New -/
def disk_New.m (room : Int) (R : Value → World → Prop) (w : World) : Prop :=
  (bif (decide (room < 0)) then R (.tuple #[.pointer none, .int .i64 1]) w else (bif (decide (room > 1048576)) then R (.tuple #[.pointer none, .int .i64 1]) w else (alD w (.map #[] 0) fun b1 w_ => 
    (alD w_ (.cells #[.map (some b1), .int .i64 room, .int .i64 (-1), .bool false] 73 (0, 0)) fun b2 w_2 => R (.tuple #[pv b2 0, .int .i64 0]) w_2))))

def disk_New.H : Hints := { nret := [], nld := [], loops := [], joins := [], unroll := [], plans := [], nx := [] }

theorem disk_New.eq (room : Int) (R : Value → World → Prop) (w : World) : disk_New.m room R w = fnD Tryz.prog disk_New.H Tryz.f6 [.int .i64 room] R w := by kernel_rfl

theorem disk_New.ok (room : Int) {R : Value → World → Prop} {w : World} (h : disk_New.m room R w) : Calls Tryz.prog 6 #[.int .i64 room] w fun e w' => ∃ v, e = .returned v ∧ R v w' :=
  @fn_sound Tryz.prog disk_New.H 6 Tryz.f6 [.int .i64 room] R w Tryz.mixed Tryz.func6 (by kernel_rfl) (by rw [← disk_New.eq]; exact h)

set_option maxRecDepth 100000
/-- (*tontine/disk.Disk).Fuel -/
def disk_Disk_Fuel.m (db do_ : Nat) (n1 : Int) (R : Value → World → Prop) (w : World) : Prop :=
  (stD w db (do_ + 2) [.int .i64 (maxV n1 (-1))] fun w_ => R (.tuple #[]) w_)

def disk_Disk_Fuel.H : Hints := { nret := [], nld := [], loops := [], joins := [], unroll := [], plans := [], nx := [] }

theorem disk_Disk_Fuel.eq (db do_ : Nat) (n1 : Int) (R : Value → World → Prop) (w : World) : disk_Disk_Fuel.m db do_ n1 R w = fnD Tryz.prog disk_Disk_Fuel.H Tryz.f8 [pv db do_, .int .i64 n1] R w := by kernel_rfl

theorem disk_Disk_Fuel.ok (db do_ : Nat) (n1 : Int) {R : Value → World → Prop} {w : World} (h : disk_Disk_Fuel.m db do_ n1 R w) : Calls Tryz.prog 8 #[pv db do_, .int .i64 n1] w fun e w' => ∃ v, e = .returned v ∧ R v w' :=
  @fn_sound Tryz.prog disk_Disk_Fuel.H 8 Tryz.f8 [pv db do_, .int .i64 n1] R w Tryz.mixed Tryz.func8 (by kernel_rfl) (by rw [← disk_Disk_Fuel.eq]; exact h)

set_option maxRecDepth 100000
/-- (*tontine/disk.Disk).Off -/
def disk_Disk_Off.m (db do_ : Nat) (R : Value → World → Prop) (w : World) : Prop :=
  (∃ v1 : Bool, World.cell? w ⟨db, (do_ + 3), none⟩ = some (.bool v1) ∧ R (.bool v1) w)

def disk_Disk_Off.H : Hints := { nret := [], nld := [], loops := [], joins := [], unroll := [], plans := [], nx := [] }

theorem disk_Disk_Off.eq (db do_ : Nat) (R : Value → World → Prop) (w : World) : disk_Disk_Off.m db do_ R w = fnD Tryz.prog disk_Disk_Off.H Tryz.f43 [pv db do_] R w := by kernel_rfl

theorem disk_Disk_Off.ok (db do_ : Nat) {R : Value → World → Prop} {w : World} (h : disk_Disk_Off.m db do_ R w) : Calls Tryz.prog 43 #[pv db do_] w fun e w' => ∃ v, e = .returned v ∧ R v w' :=
  @fn_sound Tryz.prog disk_Disk_Off.H 43 Tryz.f43 [pv db do_] R w Tryz.mixed Tryz.func43 (by kernel_rfl) (by rw [← disk_Disk_Off.eq]; exact h)

set_option maxRecDepth 100000
/-- (*tontine/disk.Disk).Used -/
def disk_Disk_Used.m (db do_ : Nat) (R : Value → World → Prop) (w : World) : Prop :=
  (∃ v1 : Nat, World.cell? w ⟨db, do_, none⟩ = some (.map (some v1)) ∧ (exPt Tryz.prog (Instr.range 71 (.map (some v1))) (fun it w_ => (∃ (I1 : Int → World → Prop) (M1 : Int → World → Nat), I1 0 w_ ∧ 
    ∀ (jk : Env) (n1 : Int) (w_2 : World), I1 n1 w_2 → (nextD Tryz.prog (Instr.next (pv it 0) false 0) (fun w_3 => R (.int .i64 n1) w_3) (fun nk nx w_4 => 
    (∃ mk : Int, (∃ firm : ByteArray, ∃ soft : ByteArray, nk = .int .i64 mk ∧ nx = .agg #[.string firm, .string soft] ∧ 
    (∃ mk2 : Int, (∃ firm2 : ByteArray, ∃ soft2 : ByteArray, entR Tryz.prog (pv it 0) (.tuple #[.int .i64 mk2, .agg #[.string firm2, .string soft2]]) w_4 ∧ 
    (alD w_4 (.cells #[.string ⟨#[]⟩, .string ⟨#[]⟩] 99 (0, 0)) fun b1 w_5 => (stD w_5 b1 0 [.string firm2, .string soft2] fun w_6 => 
    (∃ v2 : ByteArray, World.cell? w_6 ⟨b1, 0, none⟩ = some (.string v2) ∧ (∃ v3 : ByteArray, World.cell? w_6 ⟨b1, 1, none⟩ = some (.string v3) ∧ 
    (I1 (w64 (n1 + (w64 ((v2.size : Int) + (v3.size : Int))))) w_6 ∧ M1 (w64 (n1 + (w64 ((v2.size : Int) + (v3.size : Int))))) w_6 < M1 n1 w_2)))))))))) w_2))) w))

def disk_Disk_Used.H : Hints := { nret := [], nld := [], loops := [(4, [(3, .int .i64)])], joins := [], unroll := [], plans := [], nx := [3, 99] }

theorem disk_Disk_Used.eq (db do_ : Nat) (R : Value → World → Prop) (w : World) : disk_Disk_Used.m db do_ R w = fnD Tryz.prog disk_Disk_Used.H Tryz.f72 [pv db do_] R w := by kernel_rfl

theorem disk_Disk_Used.ok (db do_ : Nat) {R : Value → World → Prop} {w : World} (h : disk_Disk_Used.m db do_ R w) : Calls Tryz.prog 72 #[pv db do_] w fun e w' => ∃ v, e = .returned v ∧ R v w' :=
  @fn_sound Tryz.prog disk_Disk_Used.H 72 Tryz.f72 [pv db do_] R w Tryz.mixed Tryz.func72 (by kernel_rfl) (by rw [← disk_Disk_Used.eq]; exact h)

set_option maxRecDepth 100000
/-- (*tontine/disk.Disk).step -/
def disk_Disk_step.m (db do_ : Nat) (R : Value → World → Prop) (w : World) : Prop :=
  (∃ v1 : Bool, World.cell? w ⟨db, (do_ + 3), none⟩ = some (.bool v1) ∧ (bif v1 then R (.bool false) w else (∃ v2 : Int, World.cell? w ⟨db, (do_ + 2), none⟩ = some (.int .i64 v2) ∧ (bif (v2 == 0) then 
    (stD w db (do_ + 3) [.bool true] fun w_ => R (.bool false) w_) else (∃ v3 : Int, World.cell? w ⟨db, (do_ + 2), none⟩ = some (.int .i64 v3) ∧ (bif (decide (v3 > 0)) then 
    (∃ v4 : Int, World.cell? w ⟨db, (do_ + 2), none⟩ = some (.int .i64 v4) ∧ (stD w db (do_ + 2) [.int .i64 (w64 (v4 - 1))] fun w_2 => R (.bool true) w_2)) else R (.bool true) w))))))

def disk_Disk_step.H : Hints := { nret := [], nld := [], loops := [], joins := [], unroll := [], plans := [], nx := [] }

theorem disk_Disk_step.eq (db do_ : Nat) (R : Value → World → Prop) (w : World) : disk_Disk_step.m db do_ R w = fnD Tryz.prog disk_Disk_step.H Tryz.f73 [pv db do_] R w := by kernel_rfl

theorem disk_Disk_step.ok (db do_ : Nat) {R : Value → World → Prop} {w : World} (h : disk_Disk_step.m db do_ R w) : Calls Tryz.prog 73 #[pv db do_] w fun e w' => ∃ v, e = .returned v ∧ R v w' :=
  @fn_sound Tryz.prog disk_Disk_step.H 73 Tryz.f73 [pv db do_] R w Tryz.mixed Tryz.func73 (by kernel_rfl) (by rw [← disk_Disk_step.eq]; exact h)

set_option maxRecDepth 100000
/-- (*tontine/disk.Disk).Append -/
def disk_Disk_Append.m (db do_ : Nat) (n1 : Int) (s1 : ByteArray) (R : Value → World → Prop) (w : World) : Prop :=
  (bif (decide (n1 < 0)) then R (.int .i64 1) w else (bif (decide (n1 ≥ 16)) then R (.int .i64 1) w else (Calls Tryz.prog 43 #[pv db do_] w fun e_ w_ => (∃ r1 : Bool, e_ = .returned (.bool r1) ∧ 
    (bif r1 then R (.int .i64 10) w_ else (drewD w_ fun w_2 => (∃ v1 : Int, World.cell? w_2 ⟨db, (do_ + 1), none⟩ = some (.int .i64 v1) ∧ (Calls Tryz.prog 72 #[pv db do_] w_2 fun e_2 w_3 => 
    (∃ r2 : Int, e_2 = .returned (.int .i64 r2) ∧ World.cell? w_3 ⟨db, (do_ + 1), none⟩ = some (.int .i64 v1) ∧ (bif (decide ((s1.size : Int) > (w64 (v1 - r2)))) then R (.int .i64 11) w_3
     else (Calls Tryz.prog 73 #[pv db do_] w_3 fun e_3 w_4 => (∃ r3 : Bool, e_3 = .returned (.bool r3) ∧ (bif (!r3) then R (.int .i64 10) w_4
     else (∃ v2 : Nat, World.cell? w_4 ⟨db, do_, none⟩ = some (.map (some v2)) ∧ 
    (∃ firm : ByteArray, ∃ soft : ByteArray, lookR Tryz.prog 71 (.map (some v2)) (.int .i64 n1) false (.agg #[.string firm, .string soft]) w_4 ∧ 
    (alD w_4 (.cells #[.string ⟨#[]⟩, .string ⟨#[]⟩] 99 (0, 0)) fun b1 w_5 => (stD w_5 b1 0 [.string firm, .string soft] fun w_6 => 
    (∃ v3 : ByteArray, World.cell? w_6 ⟨b1, 1, none⟩ = some (.string v3) ∧ (catD v3 s1 fun cat => (stD w_6 b1 1 [.string cat] fun w_7 => (drewD w_7 fun w_8 => 
    (∃ v4 : Nat, World.cell? w_8 ⟨db, do_, none⟩ = some (.map (some v4)) ∧ (∃ firm2 : ByteArray, ∃ soft2 : ByteArray, rdRow w_8 b1 0 [.string firm2, .string soft2] ∧ 
    (exU Tryz.prog (Instr.mapUpdate 71 (.map (some v4)) (.int .i64 n1) (.agg #[.string firm2, .string soft2])) (fun w_9 => R (.int .i64 0) w_9) w_8))))))))))))))))))))))))

def disk_Disk_Append.H : Hints := { nret := [], nld := [], loops := [], joins := [], unroll := [], plans := [(5, (.take 0 (.take 1 (.take 2 (.take 3 (.take 4 (.take 5 (.take 6 (.eff 7 (.take 8 (.take 9 (.take 10 .done)))))))))))), (11, (.take 0 (.take 1 (.take 2 (.take 3 (.take 4 (.take 5 (.eff 6 .done))))))))], nx := [] }

theorem disk_Disk_Append.eq (db do_ : Nat) (n1 : Int) (s1 : ByteArray) (R : Value → World → Prop) (w : World) : disk_Disk_Append.m db do_ n1 s1 R w = fnD Tryz.prog disk_Disk_Append.H Tryz.f68 [pv db do_, .int .i64 n1, .string s1] R w := by kernel_rfl

theorem disk_Disk_Append.ok (db do_ : Nat) (n1 : Int) (s1 : ByteArray) {R : Value → World → Prop} {w : World} (h : disk_Disk_Append.m db do_ n1 s1 R w) : Calls Tryz.prog 68 #[pv db do_, .int .i64 n1, .string s1] w fun e w' => ∃ v, e = .returned v ∧ R v w' :=
  @fn_sound Tryz.prog disk_Disk_Append.H 68 Tryz.f68 [pv db do_, .int .i64 n1, .string s1] R w Tryz.mixed Tryz.func68 (by kernel_rfl) (by rw [← disk_Disk_Append.eq]; exact h)

set_option maxRecDepth 100000
/-- (*tontine/disk.Disk).Sync -/
def disk_Disk_Sync.m (db do_ : Nat) (n1 : Int) (R : Value → World → Prop) (w : World) : Prop :=
  (Calls Tryz.prog 43 #[pv db do_] w fun e_ w_ => (∃ r1 : Bool, e_ = .returned (.bool r1) ∧ (bif r1 then R (.int .i64 10) w_ else (∃ v1 : Nat, World.cell? w_ ⟨db, do_, none⟩ = some (.map (some v1)) ∧ 
    (∃ firm : ByteArray, ∃ soft : ByteArray, ∃ ok : Bool, lookR Tryz.prog 71 (.map (some v1)) (.int .i64 n1) true (.tuple #[.agg #[.string firm, .string soft], .bool ok]) w_ ∧ 
    (alD w_ (.cells #[.string ⟨#[]⟩, .string ⟨#[]⟩] 99 (0, 0)) fun b1 w_2 => (stD w_2 b1 0 [.string firm, .string soft] fun w_3 => (bif (!ok) then R (.int .i64 12) w_3
     else (Calls Tryz.prog 73 #[pv db do_] w_3 fun e_2 w_4 => (∃ r2 : Bool, e_2 = .returned (.bool r2) ∧ (bif (!r2) then R (.int .i64 10) w_4 else (drewD w_4 fun w_5 => 
    (∃ v2 : Nat, World.cell? w_5 ⟨db, do_, none⟩ = some (.map (some v2)) ∧ (∃ v3 : ByteArray, World.cell? w_5 ⟨b1, 0, none⟩ = some (.string v3) ∧ 
    (∃ v4 : ByteArray, World.cell? w_5 ⟨b1, 1, none⟩ = some (.string v4) ∧ (catD v3 v4 fun cat => 
    (exU Tryz.prog (Instr.mapUpdate 71 (.map (some v2)) (.int .i64 n1) (.agg #[.string cat, .string ⟨#[]⟩])) (fun w_6 => R (.int .i64 0) w_6) w_5)))))))))))))))))

def disk_Disk_Sync.H : Hints := { nret := [], nld := [], loops := [], joins := [], unroll := [], plans := [(8, (.take 0 (.take 1 (.take 2 (.take 3 (.take 4 (.take 5 (.take 6 (.take 7 (.take 8 (.take 9 (.take 10 (.eff 11 .done)))))))))))))], nx := [] }

theorem disk_Disk_Sync.eq (db do_ : Nat) (n1 : Int) (R : Value → World → Prop) (w : World) : disk_Disk_Sync.m db do_ n1 R w = fnD Tryz.prog disk_Disk_Sync.H Tryz.f47 [pv db do_, .int .i64 n1] R w := by kernel_rfl

theorem disk_Disk_Sync.ok (db do_ : Nat) (n1 : Int) {R : Value → World → Prop} {w : World} (h : disk_Disk_Sync.m db do_ n1 R w) : Calls Tryz.prog 47 #[pv db do_, .int .i64 n1] w fun e w' => ∃ v, e = .returned v ∧ R v w' :=
  @fn_sound Tryz.prog disk_Disk_Sync.H 47 Tryz.f47 [pv db do_, .int .i64 n1] R w Tryz.mixed Tryz.func47 (by kernel_rfl) (by rw [← disk_Disk_Sync.eq]; exact h)

set_option maxRecDepth 100000
/-- (*tontine/disk.Disk).Replace -/
def disk_Disk_Replace.m (db do_ : Nat) (n1 : Int) (s1 : ByteArray) (R : Value → World → Prop) (w : World) : Prop :=
  (alD w (.cells #[.string ⟨#[]⟩, .string ⟨#[]⟩] 99 (0, 0)) fun b1 w_ => (stD w_ b1 0 [.string ⟨#[]⟩, .string ⟨#[]⟩] fun w_2 => (∃ v1 : Nat, World.cell? w_2 ⟨db, do_, none⟩ = some (.map (some v1)) ∧ 
    (∃ firm : ByteArray, ∃ soft : ByteArray, lookR Tryz.prog 71 (.map (some v1)) (.int .i64 n1) false (.agg #[.string firm, .string soft]) w_2 ∧ (stD w_2 b1 0 [.string firm, .string soft] fun w_3 => 
    (∃ J1 : Bool → World → Prop, (bif (decide (n1 < 0)) then J1 true w_3 else J1 (decide (n1 ≥ 16)) w_3) ∧ ∀ (jk : Env) (i1 : Bool) (w_4 : World), J1 i1 w_4 → (bif i1 then R (.int .i64 1) w_4
     else (Calls Tryz.prog 43 #[pv db do_] w_4 fun e_ w_5 => (∃ r1 : Bool, e_ = .returned (.bool r1) ∧ (bif r1 then R (.int .i64 10) w_5 else (drewD w_5 fun w_6 => 
    (∃ v2 : Int, World.cell? w_6 ⟨db, (do_ + 1), none⟩ = some (.int .i64 v2) ∧ (∃ v3 : ByteArray, World.cell? w_6 ⟨b1, 0, none⟩ = some (.string v3) ∧ 
    (∃ v4 : ByteArray, World.cell? w_6 ⟨b1, 1, none⟩ = some (.string v4) ∧ (Calls Tryz.prog 72 #[pv db do_] w_6 fun e_2 w_7 => (∃ r2 : Int, e_2 = .returned (.int .i64 r2) ∧ 
    World.cell? w_7 ⟨b1, 1, none⟩ = some (.string v4) ∧ World.cell? w_7 ⟨b1, 0, none⟩ = some (.string v3) ∧ World.cell? w_7 ⟨db, (do_ + 1), none⟩ = some (.int .i64 v2) ∧ 
    (bif (decide ((s1.size : Int) > (w64 ((w64 ((w64 (v2 - r2)) + (v3.size : Int))) + (v4.size : Int))))) then R (.int .i64 11) w_7 else (Calls Tryz.prog 73 #[pv db do_] w_7 fun e_3 w_8 => 
    (∃ r3 : Bool, e_3 = .returned (.bool r3) ∧ (bif (!r3) then R (.int .i64 10) w_8 else (∃ v5 : Nat, World.cell? w_8 ⟨db, do_, none⟩ = some (.map (some v5)) ∧ 
    (exU Tryz.prog (Instr.mapUpdate 71 (.map (some v5)) (.int .i64 n1) (.agg #[.string s1, .string ⟨#[]⟩])) (fun w_9 => R (.int .i64 0) w_9) w_8))))))))))))))))))))))

def disk_Disk_Replace.H : Hints := { nret := [], nld := [], loops := [], joins := [(5, [(17, .bool)])], unroll := [], plans := [(8, (.take 0 (.take 1 (.take 2 (.take 3 (.take 4 (.take 5 (.take 6 (.take 9 (.take 10 (.take 11 (.take 13 (.take 14 (.take 15 (.eff 7 (.take 8 (.take 12 (.take 16 (.take 17 (.take 18 .done))))))))))))))))))))], nx := [] }

theorem disk_Disk_Replace.eq (db do_ : Nat) (n1 : Int) (s1 : ByteArray) (R : Value → World → Prop) (w : World) : disk_Disk_Replace.m db do_ n1 s1 R w = fnD Tryz.prog disk_Disk_Replace.H Tryz.f45 [pv db do_, .int .i64 n1, .string s1] R w := by kernel_rfl

theorem disk_Disk_Replace.ok (db do_ : Nat) (n1 : Int) (s1 : ByteArray) {R : Value → World → Prop} {w : World} (h : disk_Disk_Replace.m db do_ n1 s1 R w) : Calls Tryz.prog 45 #[pv db do_, .int .i64 n1, .string s1] w fun e w' => ∃ v, e = .returned v ∧ R v w' :=
  @fn_sound Tryz.prog disk_Disk_Replace.H 45 Tryz.f45 [pv db do_, .int .i64 n1, .string s1] R w Tryz.mixed Tryz.func45 (by kernel_rfl) (by rw [← disk_Disk_Replace.eq]; exact h)

set_option maxRecDepth 100000
/-- (*tontine/disk.Disk).Read -/
def disk_Disk_Read.m (db do_ : Nat) (n1 : Int) (R : Value → World → Prop) (w : World) : Prop :=
  (Calls Tryz.prog 43 #[pv db do_] w fun e_ w_ => (∃ r1 : Bool, e_ = .returned (.bool r1) ∧ (bif r1 then R (.tuple #[.string ⟨#[]⟩, .int .i64 10]) w_
     else (∃ v1 : Nat, World.cell? w_ ⟨db, do_, none⟩ = some (.map (some v1)) ∧ 
    (∃ firm : ByteArray, ∃ soft : ByteArray, ∃ ok : Bool, lookR Tryz.prog 71 (.map (some v1)) (.int .i64 n1) true (.tuple #[.agg #[.string firm, .string soft], .bool ok]) w_ ∧ 
    (alD w_ (.cells #[.string ⟨#[]⟩, .string ⟨#[]⟩] 99 (0, 0)) fun b1 w_2 => (stD w_2 b1 0 [.string firm, .string soft] fun w_3 => (bif (!ok) then R (.tuple #[.string ⟨#[]⟩, .int .i64 12]) w_3
     else (∃ v2 : ByteArray, World.cell? w_3 ⟨b1, 0, none⟩ = some (.string v2) ∧ (∃ v3 : ByteArray, World.cell? w_3 ⟨b1, 1, none⟩ = some (.string v3) ∧ (catD v2 v3 fun cat => 
    R (.tuple #[.string cat, .int .i64 0]) w_3)))))))))))

def disk_Disk_Read.H : Hints := { nret := [], nld := [], loops := [], joins := [], unroll := [], plans := [], nx := [] }

theorem disk_Disk_Read.eq (db do_ : Nat) (n1 : Int) (R : Value → World → Prop) (w : World) : disk_Disk_Read.m db do_ n1 R w = fnD Tryz.prog disk_Disk_Read.H Tryz.f16 [pv db do_, .int .i64 n1] R w := by kernel_rfl

theorem disk_Disk_Read.ok (db do_ : Nat) (n1 : Int) {R : Value → World → Prop} {w : World} (h : disk_Disk_Read.m db do_ n1 R w) : Calls Tryz.prog 16 #[pv db do_, .int .i64 n1] w fun e w' => ∃ v, e = .returned v ∧ R v w' :=
  @fn_sound Tryz.prog disk_Disk_Read.H 16 Tryz.f16 [pv db do_, .int .i64 n1] R w Tryz.mixed Tryz.func16 (by kernel_rfl) (by rw [← disk_Disk_Read.eq]; exact h)

set_option maxRecDepth 100000
/-- (*tontine/disk.Disk).Crash -/
def disk_Disk_Crash.m (Lb Lo : Nat) (ia : Option Addr) (in_ ic : Nat) (R : Value → World → Prop) (w : World) : Prop :=
  (alD w (.map #[] 0) fun b1 w_ => (∃ v1 : Int, World.cell? w_ ⟨Lb, (Lo + 1), none⟩ = some (.int .i64 v1) ∧ 
    (alD w_ (.cells #[.map (some b1), .int .i64 v1, .int .i64 (-1), .bool false] 73 (0, 0)) fun b2 w_2 => (∃ v2 : Nat, World.cell? w_2 ⟨Lb, Lo, none⟩ = some (.map (some v2)) ∧ 
    (exPt Tryz.prog (Instr.range 71 (.map (some v2))) (fun it w_3 => (∃ (I1 : World → Prop) (M1 : World → Nat), I1 w_3 ∧ 
    ∀ (jk : Env)  (w_4 : World), I1 w_4 → (nextD Tryz.prog (Instr.next (pv it 0) false 0) (fun w_5 => R (pv b2 0) w_5) (fun nk nx w_6 => 
    (∃ mk : Int, (∃ firm : ByteArray, ∃ soft : ByteArray, nk = .int .i64 mk ∧ nx = .agg #[.string firm, .string soft] ∧ 
    (∃ mk2 : Int, (∃ firm2 : ByteArray, ∃ soft2 : ByteArray, entR Tryz.prog (pv it 0) (.tuple #[.int .i64 mk2, .agg #[.string firm2, .string soft2]]) w_6 ∧ 
    (alD w_6 (.cells #[.string ⟨#[]⟩, .string ⟨#[]⟩] 99 (0, 0)) fun b3 w_7 => (stD w_7 b3 0 [.string firm2, .string soft2] fun w_8 => (∃ J1 : Int → World → Prop, (bif (decide (mk2 < (in_ : Int))) then 
    (drewD w_8 fun w_10 => (∃ b4 o1 : Nat, ia = some ⟨b4, o1, none⟩ ∧ (0 : Int) ≤ mk2 ∧ mk2 < (in_ : Int) ∧ 
    (∃ v3 : Int, World.cell? w_10 ⟨b4, (o1 + (mk2 : Int).toNat * 1), none⟩ = some (.int .i64 v3) ∧ (∃ v4 : ByteArray, World.cell? w_10 ⟨b3, 1, none⟩ = some (.string v4) ∧ 
    J1 (maxV 0 (minV v3 (v4.size : Int))) w_10)))) else J1 0 w_8) ∧ ∀ (jk2 : Env) (r1 : Int) (w_9 : World), J1 r1 w_9 → (∃ v5 : ByteArray, World.cell? w_9 ⟨b3, 0, none⟩ = some (.string v5) ∧ 
    (bif (!strEq v5 ⟨#[]⟩) then (drewD w_9 fun w_11 => (∃ v6 : Nat, World.cell? w_11 ⟨b2, 0, none⟩ = some (.map (some v6)) ∧ (∃ v7 : ByteArray, World.cell? w_11 ⟨b3, 0, none⟩ = some (.string v7) ∧ 
    (∃ v8 : ByteArray, World.cell? w_11 ⟨b3, 1, none⟩ = some (.string v8) ∧ ((0 : Int) ≤ r1 ∧ r1 ≤ ((v8 : ByteArray).size : Int) ∧ (catD v7 (ByteArray.extract v8 0 (r1 : Int).toNat) fun cat => 
    (exU Tryz.prog (Instr.mapUpdate 71 (.map (some v6)) (.int .i64 mk2) (.agg #[.string cat, .string ⟨#[]⟩])) (fun w_12 => (I1 w_12 ∧ M1 w_12 < M1 w_4)) w_11))))))) else (bif (decide (r1 > 0)) then 
    (drewD w_9 fun w_13 => (∃ v9 : Nat, World.cell? w_13 ⟨b2, 0, none⟩ = some (.map (some v9)) ∧ (∃ v10 : ByteArray, World.cell? w_13 ⟨b3, 0, none⟩ = some (.string v10) ∧ 
    (∃ v11 : ByteArray, World.cell? w_13 ⟨b3, 1, none⟩ = some (.string v11) ∧ ((0 : Int) ≤ r1 ∧ r1 ≤ ((v11 : ByteArray).size : Int) ∧ (catD v10 (ByteArray.extract v11 0 (r1 : Int).toNat) fun cat2 => 
    (exU Tryz.prog (Instr.mapUpdate 71 (.map (some v9)) (.int .i64 mk2) (.agg #[.string cat2, .string ⟨#[]⟩])) (fun w_14 => (I1 w_14 ∧ M1 w_14 < M1 w_4)) w_13)))))))
     else (∃ v12 : ByteArray, World.cell? w_9 ⟨b3, 1, none⟩ = some (.string v12) ∧ (bif (strEq v12 ⟨#[]⟩) then (drewD w_9 fun w_15 => 
    (∃ v13 : Nat, World.cell? w_15 ⟨b2, 0, none⟩ = some (.map (some v13)) ∧ (∃ v14 : ByteArray, World.cell? w_15 ⟨b3, 0, none⟩ = some (.string v14) ∧ 
    (∃ v15 : ByteArray, World.cell? w_15 ⟨b3, 1, none⟩ = some (.string v15) ∧ ((0 : Int) ≤ r1 ∧ r1 ≤ ((v15 : ByteArray).size : Int) ∧ (catD v14 (ByteArray.extract v15 0 (r1 : Int).toNat) fun cat3 => 
    (exU Tryz.prog (Instr.mapUpdate 71 (.map (some v13)) (.int .i64 mk2) (.agg #[.string cat3, .string ⟨#[]⟩])) (fun w_16 => (I1 w_16 ∧ M1 w_16 < M1 w_4)) w_15))))))) else (I1 w_9 ∧ 
    M1 w_9 < M1 w_4)))))))))))))) w_4))) w_2)))))

def disk_Disk_Crash.H : Hints := { nret := [], nld := [], loops := [(5, [])], joins := [(10, [(8, .int .i64)])], unroll := [], plans := [(9, (.take 0 (.take 1 (.take 2 (.take 3 (.take 4 (.take 5 (.take 6 (.take 7 (.take 8 (.take 9 .done))))))))))), (11, (.take 0 (.take 1 (.take 2 (.take 3 (.take 4 (.take 5 (.take 6 (.take 7 (.take 8 (.take 9 (.take 10 (.take 11 (.take 12 (.eff 13 .done)))))))))))))))], nx := [3, 99] }

theorem disk_Disk_Crash.eq (Lb Lo : Nat) (ia : Option Addr) (in_ ic : Nat) (R : Value → World → Prop) (w : World) : disk_Disk_Crash.m Lb Lo ia in_ ic R w = fnD Tryz.prog disk_Disk_Crash.H Tryz.f19 [pv Lb Lo, .slice ia in_ ic] R w := by kernel_rfl

theorem disk_Disk_Crash.ok (Lb Lo : Nat) (ia : Option Addr) (in_ ic : Nat) {R : Value → World → Prop} {w : World} (h : disk_Disk_Crash.m Lb Lo ia in_ ic R w) : Calls Tryz.prog 19 #[pv Lb Lo, .slice ia in_ ic] w fun e w' => ∃ v, e = .returned v ∧ R v w' :=
  @fn_sound Tryz.prog disk_Disk_Crash.H 19 Tryz.f19 [pv Lb Lo, .slice ia in_ ic] R w Tryz.mixed Tryz.func19 (by kernel_rfl) (by rw [← disk_Disk_Crash.eq]; exact h)

set_option maxRecDepth 100000
/-- tontine/tontineref04.New -/
def tontineref04_New.m (room : Int) (R : Value → World → Prop) (w : World) : Prop :=
  (bif (decide (room < 0)) then R (.tuple #[.pointer none, .int .i64 1]) w else (bif (decide (room > 1048576)) then R (.tuple #[.pointer none, .int .i64 1]) w
     else (alD w (.cells #[.string ⟨#[]⟩, .string ⟨#[]⟩, .string ⟨#[]⟩, .string ⟨#[]⟩, .string ⟨#[]⟩, .string ⟨#[]⟩, .string ⟨#[]⟩, .string ⟨#[]⟩, .string ⟨#[]⟩, .string ⟨#[]⟩, .string ⟨#[]⟩, .string ⟨#[]⟩, .string ⟨#[]⟩, .string ⟨#[]⟩, .string ⟨#[]⟩, .string ⟨#[]⟩, .string ⟨#[]⟩, .string ⟨#[]⟩, .string ⟨#[]⟩, .string ⟨#[]⟩, .string ⟨#[]⟩, .string ⟨#[]⟩, .string ⟨#[]⟩, .string ⟨#[]⟩, .string ⟨#[]⟩, .string ⟨#[]⟩, .string ⟨#[]⟩, .string ⟨#[]⟩, .string ⟨#[]⟩, .string ⟨#[]⟩, .string ⟨#[]⟩, .string ⟨#[]⟩, .bool false, .bool false, .bool false, .bool false, .bool false, .bool false, .bool false, .bool false, .bool false, .bool false, .bool false, .bool false, .bool false, .bool false, .bool false, .bool false, .int .i64 room, .int .i64 (-1), .bool false] 36 (0, 0)) fun b1 w_ => 
    R (.tuple #[pv b1 0, .int .i64 0]) w_)))

def tontineref04_New.H : Hints := { nret := [], nld := [], loops := [], joins := [], unroll := [], plans := [], nx := [] }

theorem tontineref04_New.eq (room : Int) (R : Value → World → Prop) (w : World) : tontineref04_New.m room R w = fnD Tryz.prog tontineref04_New.H Tryz.f7 [.int .i64 room] R w := by kernel_rfl

theorem tontineref04_New.ok (room : Int) {R : Value → World → Prop} {w : World} (h : tontineref04_New.m room R w) : Calls Tryz.prog 7 #[.int .i64 room] w fun e w' => ∃ v, e = .returned v ∧ R v w' :=
  @fn_sound Tryz.prog tontineref04_New.H 7 Tryz.f7 [.int .i64 room] R w Tryz.mixed Tryz.func7 (by kernel_rfl) (by rw [← tontineref04_New.eq]; exact h)

set_option maxRecDepth 100000
/-- tontine/tontineref04.no -/
def tontineref04_no.m (n1 : Int) (R : Value → World → Prop) (w : World) : Prop :=
  (bif (decide (n1 < 0)) then R (.bool true) w else R (.bool (decide (n1 > 15))) w)

def tontineref04_no.H : Hints := { nret := [], nld := [], loops := [], joins := [], unroll := [], plans := [], nx := [] }

theorem tontineref04_no.eq (n1 : Int) (R : Value → World → Prop) (w : World) : tontineref04_no.m n1 R w = fnD Tryz.prog tontineref04_no.H Tryz.f71 [.int .i64 n1] R w := by kernel_rfl

theorem tontineref04_no.ok (n1 : Int) {R : Value → World → Prop} {w : World} (h : tontineref04_no.m n1 R w) : Calls Tryz.prog 71 #[.int .i64 n1] w fun e w' => ∃ v, e = .returned v ∧ R v w' :=
  @fn_sound Tryz.prog tontineref04_no.H 71 Tryz.f71 [.int .i64 n1] R w Tryz.mixed Tryz.func71 (by kernel_rfl) (by rw [← tontineref04_no.eq]; exact h)

set_option maxRecDepth 100000
/-- (*tontine/tontineref04.Disk).Used -/
def tontineref04_Disk_Used.m (db do_ : Nat) (R : Value → World → Prop) (w : World) : Prop :=
  (∃ (I1 : Int → Int → World → Prop) (M1 : Int → Int → World → Nat), I1 0 0 w ∧ ∀ (jk : Env) (n1 : Int) (i1 : Int) (w_ : World), I1 n1 i1 w_ → (bif (decide (i1 < 16)) then (drewD w_ fun w_2 => 
    ((0 : Int) ≤ i1 ∧ i1 < (16 : Int) ∧ (∃ v1 : ByteArray, World.cell? w_2 ⟨db, (do_ + (i1 : Int).toNat * 1), none⟩ = some (.string v1) ∧ ((0 : Int) ≤ i1 ∧ i1 < (16 : Int) ∧ 
    (∃ v2 : ByteArray, World.cell? w_2 ⟨db, ((do_ + 16) + (i1 : Int).toNat * 1), none⟩ = some (.string v2) ∧ (I1 (w64 (n1 + (w64 ((v1.size : Int) + (v2.size : Int))))) (w64 (i1 + 1)) w_2 ∧ 
    M1 (w64 (n1 + (w64 ((v1.size : Int) + (v2.size : Int))))) (w64 (i1 + 1)) w_2 < M1 n1 i1 w_)))))) else R (.int .i64 n1) w_))

def tontineref04_Disk_Used.H : Hints := { nret := [], nld := [], loops := [(3, [(3, .int .i64), (4, .int .i64)])], joins := [], unroll := [], plans := [(5, (.take 0 (.take 1 (.take 2 (.take 3 (.take 4 (.take 5 (.take 6 (.take 7 (.take 8 (.take 9 (.take 10 (.take 11 (.take 12 (.take 13 (.take 14 (.take 15 (.take 16 (.take 17 .done)))))))))))))))))))], nx := [] }

theorem tontineref04_Disk_Used.eq (db do_ : Nat) (R : Value → World → Prop) (w : World) : tontineref04_Disk_Used.m db do_ R w = fnD Tryz.prog tontineref04_Disk_Used.H Tryz.f80 [pv db do_] R w := by kernel_rfl

theorem tontineref04_Disk_Used.ok (db do_ : Nat) {R : Value → World → Prop} {w : World} (h : tontineref04_Disk_Used.m db do_ R w) : Calls Tryz.prog 80 #[pv db do_] w fun e w' => ∃ v, e = .returned v ∧ R v w' :=
  @fn_sound Tryz.prog tontineref04_Disk_Used.H 80 Tryz.f80 [pv db do_] R w Tryz.mixed Tryz.func80 (by kernel_rfl) (by rw [← tontineref04_Disk_Used.eq]; exact h)

set_option maxRecDepth 100000
/-- (*tontine/tontineref04.Disk).step -/
def tontineref04_Disk_step.m (db do_ : Nat) (R : Value → World → Prop) (w : World) : Prop :=
  (∃ v1 : Int, World.cell? w ⟨db, (do_ + 49), none⟩ = some (.int .i64 v1) ∧ (bif (v1 == 0) then (stD w db (do_ + 50) [.bool true] fun w_ => R (.bool false) w_)
     else (∃ v2 : Int, World.cell? w ⟨db, (do_ + 49), none⟩ = some (.int .i64 v2) ∧ (bif (decide (v2 > 0)) then (∃ v3 : Int, World.cell? w ⟨db, (do_ + 49), none⟩ = some (.int .i64 v3) ∧ 
    (stD w db (do_ + 49) [.int .i64 (w64 (v3 - 1))] fun w_2 => R (.bool true) w_2)) else R (.bool true) w))))

def tontineref04_Disk_step.H : Hints := { nret := [], nld := [], loops := [], joins := [], unroll := [], plans := [], nx := [] }

theorem tontineref04_Disk_step.eq (db do_ : Nat) (R : Value → World → Prop) (w : World) : tontineref04_Disk_step.m db do_ R w = fnD Tryz.prog tontineref04_Disk_step.H Tryz.f81 [pv db do_] R w := by kernel_rfl

theorem tontineref04_Disk_step.ok (db do_ : Nat) {R : Value → World → Prop} {w : World} (h : tontineref04_Disk_step.m db do_ R w) : Calls Tryz.prog 81 #[pv db do_] w fun e w' => ∃ v, e = .returned v ∧ R v w' :=
  @fn_sound Tryz.prog tontineref04_Disk_step.H 81 Tryz.f81 [pv db do_] R w Tryz.mixed Tryz.func81 (by kernel_rfl) (by rw [← tontineref04_Disk_step.eq]; exact h)

set_option maxRecDepth 100000
/-- (*tontine/tontineref04.Disk).has -/
def tontineref04_Disk_has.m (db do_ : Nat) (n1 : Int) (R : Value → World → Prop) (w : World) : Prop :=
  (Calls Tryz.prog 71 #[.int .i64 n1] w fun e_ w_ => (∃ r1 : Bool, e_ = .returned (.bool r1) ∧ (bif (!r1) then ((0 : Int) ≤ n1 ∧ n1 < (16 : Int) ∧ 
    (∃ v1 : Bool, World.cell? w_ ⟨db, ((do_ + 32) + (n1 : Int).toNat * 1), none⟩ = some (.bool v1) ∧ R (.bool v1) w_)) else R (.bool false) w_)))

def tontineref04_Disk_has.H : Hints := { nret := [], nld := [], loops := [], joins := [], unroll := [], plans := [], nx := [] }

theorem tontineref04_Disk_has.eq (db do_ : Nat) (n1 : Int) (R : Value → World → Prop) (w : World) : tontineref04_Disk_has.m db do_ n1 R w = fnD Tryz.prog tontineref04_Disk_has.H Tryz.f44 [pv db do_, .int .i64 n1] R w := by kernel_rfl

theorem tontineref04_Disk_has.ok (db do_ : Nat) (n1 : Int) {R : Value → World → Prop} {w : World} (h : tontineref04_Disk_has.m db do_ n1 R w) : Calls Tryz.prog 44 #[pv db do_, .int .i64 n1] w fun e w' => ∃ v, e = .returned v ∧ R v w' :=
  @fn_sound Tryz.prog tontineref04_Disk_has.H 44 Tryz.f44 [pv db do_, .int .i64 n1] R w Tryz.mixed Tryz.func44 (by kernel_rfl) (by rw [← tontineref04_Disk_has.eq]; exact h)

set_option maxRecDepth 100000
/-- (*tontine/tontineref04.Disk).Sync -/
def tontineref04_Disk_Sync.m (db do_ : Nat) (n1 : Int) (R : Value → World → Prop) (w : World) : Prop :=
  (∃ v1 : Bool, World.cell? w ⟨db, (do_ + 50), none⟩ = some (.bool v1) ∧ (bif v1 then R (.int .i64 10) w else (Calls Tryz.prog 44 #[pv db do_, .int .i64 n1] w fun e_ w_ => 
    (∃ r1 : Bool, e_ = .returned (.bool r1) ∧ (bif (!r1) then R (.int .i64 12) w_ else (Calls Tryz.prog 81 #[pv db do_] w_ fun e_2 w_2 => (∃ r2 : Bool, e_2 = .returned (.bool r2) ∧ (bif (!r2) then 
    R (.int .i64 10) w_2 else (drewD w_2 fun w_3 => ((0 : Int) ≤ n1 ∧ n1 < (16 : Int) ∧ (∃ v2 : ByteArray, World.cell? w_3 ⟨db, (do_ + (n1 : Int).toNat * 1), none⟩ = some (.string v2) ∧ 
    ((0 : Int) ≤ n1 ∧ n1 < (16 : Int) ∧ (∃ v3 : ByteArray, World.cell? w_3 ⟨db, ((do_ + 16) + (n1 : Int).toNat * 1), none⟩ = some (.string v3) ∧ (catD v2 v3 fun cat => ((0 : Int) ≤ n1 ∧ 
    n1 < (16 : Int) ∧ (stD w_3 db (do_ + (n1 : Int).toNat * 1) [.string cat] fun w_4 => ((0 : Int) ≤ n1 ∧ n1 < (16 : Int) ∧ (stD w_4 db ((do_ + 16) + (n1 : Int).toNat * 1) [.string ⟨#[]⟩] fun w_5 => 
    R (.int .i64 0) w_5))))))))))))))))))

def tontineref04_Disk_Sync.H : Hints := { nret := [], nld := [], loops := [], joins := [], unroll := [], plans := [(7, (.take 0 (.take 1 (.take 2 (.take 3 (.take 4 (.take 5 (.take 6 (.take 7 (.take 8 (.take 9 (.take 10 (.take 11 (.take 12 (.take 13 (.take 14 (.take 15 (.eff 16 .done))))))))))))))))))], nx := [] }

theorem tontineref04_Disk_Sync.eq (db do_ : Nat) (n1 : Int) (R : Value → World → Prop) (w : World) : tontineref04_Disk_Sync.m db do_ n1 R w = fnD Tryz.prog tontineref04_Disk_Sync.H Tryz.f56 [pv db do_, .int .i64 n1] R w := by kernel_rfl

theorem tontineref04_Disk_Sync.ok (db do_ : Nat) (n1 : Int) {R : Value → World → Prop} {w : World} (h : tontineref04_Disk_Sync.m db do_ n1 R w) : Calls Tryz.prog 56 #[pv db do_, .int .i64 n1] w fun e w' => ∃ v, e = .returned v ∧ R v w' :=
  @fn_sound Tryz.prog tontineref04_Disk_Sync.H 56 Tryz.f56 [pv db do_, .int .i64 n1] R w Tryz.mixed Tryz.func56 (by kernel_rfl) (by rw [← tontineref04_Disk_Sync.eq]; exact h)

set_option maxRecDepth 100000
/-- (*tontine/tontineref04.Disk).Replace -/
def tontineref04_Disk_Replace.m (db do_ : Nat) (n1 : Int) (s1 : ByteArray) (R : Value → World → Prop) (w : World) : Prop :=
  (Calls Tryz.prog 71 #[.int .i64 n1] w fun e_ w_ => (∃ r1 : Bool, e_ = .returned (.bool r1) ∧ (bif r1 then R (.int .i64 1) w_
     else (∃ v1 : Bool, World.cell? w_ ⟨db, (do_ + 50), none⟩ = some (.bool v1) ∧ (bif v1 then R (.int .i64 10) w_ else (drewD w_ fun w_2 => ((0 : Int) ≤ n1 ∧ n1 < (16 : Int) ∧ 
    (∃ v2 : ByteArray, World.cell? w_2 ⟨db, (do_ + (n1 : Int).toNat * 1), none⟩ = some (.string v2) ∧ ((0 : Int) ≤ n1 ∧ n1 < (16 : Int) ∧ 
    (∃ v3 : ByteArray, World.cell? w_2 ⟨db, ((do_ + 16) + (n1 : Int).toNat * 1), none⟩ = some (.string v3) ∧ (∃ v4 : Int, World.cell? w_2 ⟨db, (do_ + 48), none⟩ = some (.int .i64 v4) ∧ 
    (Calls Tryz.prog 80 #[pv db do_] w_2 fun e_2 w_3 => (∃ r2 : Int, e_2 = .returned (.int .i64 r2) ∧ World.cell? w_3 ⟨db, (do_ + 48), none⟩ = some (.int .i64 v4) ∧ 
    World.cell? w_3 ⟨db, ((do_ + 16) + (n1 : Int).toNat * 1), none⟩ = some (.string v3) ∧ World.cell? w_3 ⟨db, (do_ + (n1 : Int).toNat * 1), none⟩ = some (.string v2) ∧ 
    (bif (decide ((w64 ((w64 ((w64 (r2 - (v2.size : Int))) - (v3.size : Int))) + (s1.size : Int))) > v4)) then R (.int .i64 11) w_3 else (Calls Tryz.prog 81 #[pv db do_] w_3 fun e_3 w_4 => 
    (∃ r3 : Bool, e_3 = .returned (.bool r3) ∧ (bif (!r3) then R (.int .i64 10) w_4 else ((0 : Int) ≤ n1 ∧ n1 < (16 : Int) ∧ (stD w_4 db (do_ + (n1 : Int).toNat * 1) [.string s1] fun w_5 => 
    ((0 : Int) ≤ n1 ∧ n1 < (16 : Int) ∧ (stD w_5 db ((do_ + 16) + (n1 : Int).toNat * 1) [.string ⟨#[]⟩] fun w_6 => ((0 : Int) ≤ n1 ∧ n1 < (16 : Int) ∧ 
    (stD w_6 db ((do_ + 32) + (n1 : Int).toNat * 1) [.bool true] fun w_7 => R (.int .i64 0) w_7)))))))))))))))))))))))

def tontineref04_Disk_Replace.H : Hints := { nret := [], nld := [], loops := [], joins := [], unroll := [], plans := [(5, (.take 0 (.take 2 (.take 3 (.take 4 (.take 5 (.take 6 (.take 7 (.take 8 (.take 10 (.take 11 (.take 12 (.take 13 (.take 14 (.take 15 (.take 16 (.take 18 (.take 19 (.take 21 (.take 22 (.take 23 (.take 24 (.eff 1 (.take 9 (.take 17 (.take 20 (.take 25 .done)))))))))))))))))))))))))))], nx := [] }

theorem tontineref04_Disk_Replace.eq (db do_ : Nat) (n1 : Int) (s1 : ByteArray) (R : Value → World → Prop) (w : World) : tontineref04_Disk_Replace.m db do_ n1 s1 R w = fnD Tryz.prog tontineref04_Disk_Replace.H Tryz.f54 [pv db do_, .int .i64 n1, .string s1] R w := by kernel_rfl

theorem tontineref04_Disk_Replace.ok (db do_ : Nat) (n1 : Int) (s1 : ByteArray) {R : Value → World → Prop} {w : World} (h : tontineref04_Disk_Replace.m db do_ n1 s1 R w) : Calls Tryz.prog 54 #[pv db do_, .int .i64 n1, .string s1] w fun e w' => ∃ v, e = .returned v ∧ R v w' :=
  @fn_sound Tryz.prog tontineref04_Disk_Replace.H 54 Tryz.f54 [pv db do_, .int .i64 n1, .string s1] R w Tryz.mixed Tryz.func54 (by kernel_rfl) (by rw [← tontineref04_Disk_Replace.eq]; exact h)

set_option maxRecDepth 100000
/-- (*tontine/tontineref04.Disk).Read -/
def tontineref04_Disk_Read.m (db do_ : Nat) (n1 : Int) (R : Value → World → Prop) (w : World) : Prop :=
  (∃ v1 : Bool, World.cell? w ⟨db, (do_ + 50), none⟩ = some (.bool v1) ∧ (bif v1 then R (.tuple #[.string ⟨#[]⟩, .int .i64 10]) w else (Calls Tryz.prog 44 #[pv db do_, .int .i64 n1] w fun e_ w_ => 
    (∃ r1 : Bool, e_ = .returned (.bool r1) ∧ (bif (!r1) then R (.tuple #[.string ⟨#[]⟩, .int .i64 12]) w_ else (drewD w_ fun w_2 => ((0 : Int) ≤ n1 ∧ n1 < (16 : Int) ∧ 
    (∃ v2 : ByteArray, World.cell? w_2 ⟨db, (do_ + (n1 : Int).toNat * 1), none⟩ = some (.string v2) ∧ ((0 : Int) ≤ n1 ∧ n1 < (16 : Int) ∧ 
    (∃ v3 : ByteArray, World.cell? w_2 ⟨db, ((do_ + 16) + (n1 : Int).toNat * 1), none⟩ = some (.string v3) ∧ (catD v2 v3 fun cat => R (.tuple #[.string cat, .int .i64 0]) w_2)))))))))))

def tontineref04_Disk_Read.H : Hints := { nret := [], nld := [], loops := [], joins := [], unroll := [], plans := [(5, (.take 0 (.take 1 (.take 2 (.take 3 (.take 4 (.take 5 (.take 6 (.take 7 (.take 8 (.take 9 (.take 10 (.take 11 (.take 12 (.take 13 (.take 14 .done))))))))))))))))], nx := [] }

theorem tontineref04_Disk_Read.eq (db do_ : Nat) (n1 : Int) (R : Value → World → Prop) (w : World) : tontineref04_Disk_Read.m db do_ n1 R w = fnD Tryz.prog tontineref04_Disk_Read.H Tryz.f17 [pv db do_, .int .i64 n1] R w := by kernel_rfl

theorem tontineref04_Disk_Read.ok (db do_ : Nat) (n1 : Int) {R : Value → World → Prop} {w : World} (h : tontineref04_Disk_Read.m db do_ n1 R w) : Calls Tryz.prog 17 #[pv db do_, .int .i64 n1] w fun e w' => ∃ v, e = .returned v ∧ R v w' :=
  @fn_sound Tryz.prog tontineref04_Disk_Read.H 17 Tryz.f17 [pv db do_, .int .i64 n1] R w Tryz.mixed Tryz.func17 (by kernel_rfl) (by rw [← tontineref04_Disk_Read.eq]; exact h)

set_option maxRecDepth 100000
/-- tontine/wal.Open -/
def wal_Open.m (db do_ : Nat) (n1 : Int) (R : Value → World → Prop) (w : World) : Prop :=
  (bif (decide (n1 < 0)) then R (.tuple #[.pointer none, .slice none 0 0, .int .i64 1]) w else (bif (decide (n1 ≥ 16)) then R (.tuple #[.pointer none, .slice none 0 0, .int .i64 1]) w
     else (Calls Tryz.prog 16 #[pv db do_, .int .i64 n1] w fun e_ w_ => (∃ r1 : ByteArray, (∃ r2 : Int, e_ = .returned (.tuple #[.string r1, .int .i64 r2]) ∧ 
    (∃ J1 : ByteArray → Int → World → Prop, (bif (r2 == 12) then (Calls Tryz.prog 45 #[pv db do_, .int .i64 n1, .string ⟨#[]⟩] w_ fun e_2 w_3 => (∃ r3 : Int, e_2 = .returned (.int .i64 r3) ∧ 
    J1 ⟨#[]⟩ r3 w_3)) else J1 r1 r2 w_) ∧ ∀ (jk : Env) (s1 : ByteArray) (e_3 : Int) (w_2 : World), J1 s1 e_3 w_2 → (bif (e_3 != 0) then R (.tuple #[.pointer none, .slice none 0 0, .int .i64 e_3]) w_2
     else (Calls Tryz.prog 46 #[.string s1] w_2 fun e_4 w_4 => (∃ (ra : Option Addr) (rn rc : Nat), (∃ r4 : Int, e_4 = .returned (.tuple #[.slice ra rn rc, .int .i64 r4]) ∧ 
    (bif (decide (r4 < (s1.size : Int))) then ((0 : Int) ≤ r4 ∧ r4 ≤ ((s1 : ByteArray).size : Int) ∧ 
    (Calls Tryz.prog 45 #[pv db do_, .int .i64 n1, .string (ByteArray.extract s1 0 (r4 : Int).toNat)] w_4 fun e_5 w_5 => (∃ r5 : Int, e_5 = .returned (.int .i64 r5) ∧ (bif (r5 != 0) then 
    R (.tuple #[.pointer none, .slice none 0 0, .int .i64 r5]) w_5 else (alD w_5 (.cells #[pv db do_, .int .i64 n1] 108 (0, 0)) fun b1 w_6 => R (.tuple #[pv b1 0, .slice ra rn rc, .int .i64 0]) w_6)))))
     else (Calls Tryz.prog 47 #[pv db do_, .int .i64 n1] w_4 fun e_6 w_7 => (∃ r6 : Int, e_6 = .returned (.int .i64 r6) ∧ (bif (r6 != 0) then 
    R (.tuple #[.pointer none, .slice none 0 0, .int .i64 r6]) w_7 else (alD w_7 (.cells #[pv db do_, .int .i64 n1] 108 (0, 0)) fun b2 w_8 => 
    R (.tuple #[pv b2 0, .slice ra rn rc, .int .i64 0]) w_8)))))))))))))))

def wal_Open.H : Hints := { nret := [], nld := [], loops := [], joins := [(6, [(7, .str), (8, .int .i64)])], unroll := [], plans := [], nx := [] }

theorem wal_Open.eq (db do_ : Nat) (n1 : Int) (R : Value → World → Prop) (w : World) : wal_Open.m db do_ n1 R w = fnD Tryz.prog wal_Open.H Tryz.f21 [pv db do_, .int .i64 n1] R w := by kernel_rfl

theorem wal_Open.ok (db do_ : Nat) (n1 : Int) {R : Value → World → Prop} {w : World} (h : wal_Open.m db do_ n1 R w) : Calls Tryz.prog 21 #[pv db do_, .int .i64 n1] w fun e w' => ∃ v, e = .returned v ∧ R v w' :=
  @fn_sound Tryz.prog wal_Open.H 21 Tryz.f21 [pv db do_, .int .i64 n1] R w Tryz.mixed Tryz.func21 (by kernel_rfl) (by rw [← wal_Open.eq]; exact h)

set_option maxRecDepth 100000
/-- (*tontine/wal.Log).Append -/
def wal_Log_Append.m (wb wo : Nat) (la : Option Addr) (ln lc : Nat) (R : Value → World → Prop) (w : World) : Prop :=
  (∃ (I1 : ByteArray → Int → World → Prop) (M1 : ByteArray → Int → World → Nat), I1 ⟨#[]⟩ 0 w ∧ ∀ (jk : Env) (s1 : ByteArray) (i1 : Int) (w_ : World), I1 s1 i1 w_ → (bif (decide (i1 < (ln : Int))) then 
    (∃ b1 o1 : Nat, la = some ⟨b1, o1, none⟩ ∧ (0 : Int) ≤ i1 ∧ i1 < (ln : Int) ∧ (∃ v1 : ByteArray, World.cell? w_ ⟨b1, (o1 + (i1 : Int).toNat * 1), none⟩ = some (.string v1) ∧ 
    (bif (decide ((v1.size : Int) > 65536)) then R (.int .i64 3) w_ else (Calls Tryz.prog 63 #[.string v1] w_ fun e_ w_2 => (∃ r1 : ByteArray, e_ = .returned (.string r1) ∧ (catD s1 r1 fun cat => 
    (I1 cat (w64 (i1 + 1)) w_2 ∧ M1 cat (w64 (i1 + 1)) w_2 < M1 s1 i1 w_))))))) else (drewD w_ fun w_3 => (∃ vb vo : Nat, World.cell? w_3 ⟨wb, wo, none⟩ = some (pv vb vo) ∧ 
    (∃ v2 : Int, World.cell? w_3 ⟨wb, (wo + 1), none⟩ = some (.int .i64 v2) ∧ (Calls Tryz.prog 68 #[pv vb vo, .int .i64 v2, .string s1] w_3 fun e_2 w_4 => (∃ r2 : Int, e_2 = .returned (.int .i64 r2) ∧ 
    (bif (r2 != 0) then R (.int .i64 r2) w_4 else (drewD w_4 fun w_5 => (∃ vb2 vo2 : Nat, World.cell? w_5 ⟨wb, wo, none⟩ = some (pv vb2 vo2) ∧ 
    (∃ v3 : Int, World.cell? w_5 ⟨wb, (wo + 1), none⟩ = some (.int .i64 v3) ∧ (Calls Tryz.prog 47 #[pv vb2 vo2, .int .i64 v3] w_5 fun e_3 w_6 => (∃ r3 : Int, e_3 = .returned (.int .i64 r3) ∧ 
    R (.int .i64 r3) w_6)))))))))))))

def wal_Log_Append.H : Hints := { nret := [], nld := [], loops := [(5, [(5, .str), (13, .int .i64)])], joins := [], unroll := [], plans := [(11, (.take 0 (.take 1 (.take 2 (.take 3 (.take 4 (.take 5 (.take 6 (.take 7 (.take 8 (.eff 9 (.take 10 .done)))))))))))), (14, (.take 0 (.take 1 (.take 2 (.take 3 (.take 4 (.take 5 (.take 6 (.take 7 (.eff 8 (.take 9 .done)))))))))))], nx := [] }

theorem wal_Log_Append.eq (wb wo : Nat) (la : Option Addr) (ln lc : Nat) (R : Value → World → Prop) (w : World) : wal_Log_Append.m wb wo la ln lc R w = fnD Tryz.prog wal_Log_Append.H Tryz.f40 [pv wb wo, .slice la ln lc] R w := by kernel_rfl

theorem wal_Log_Append.ok (wb wo : Nat) (la : Option Addr) (ln lc : Nat) {R : Value → World → Prop} {w : World} (h : wal_Log_Append.m wb wo la ln lc R w) : Calls Tryz.prog 40 #[pv wb wo, .slice la ln lc] w fun e w' => ∃ v, e = .returned v ∧ R v w' :=
  @fn_sound Tryz.prog wal_Log_Append.H 40 Tryz.f40 [pv wb wo, .slice la ln lc] R w Tryz.mixed Tryz.func40 (by kernel_rfl) (by rw [← wal_Log_Append.eq]; exact h)

set_option maxRecDepth 100000
/-- (*tontine/wal.Log).Anew -/
def wal_Log_Anew.m (wb wo : Nat) (la : Option Addr) (ln lc : Nat) (R : Value → World → Prop) (w : World) : Prop :=
  (∃ (I1 : ByteArray → Int → World → Prop) (M1 : ByteArray → Int → World → Nat), I1 ⟨#[]⟩ 0 w ∧ ∀ (jk : Env) (s1 : ByteArray) (i1 : Int) (w_ : World), I1 s1 i1 w_ → (bif (decide (i1 < (ln : Int))) then 
    (∃ b1 o1 : Nat, la = some ⟨b1, o1, none⟩ ∧ (0 : Int) ≤ i1 ∧ i1 < (ln : Int) ∧ (∃ v1 : ByteArray, World.cell? w_ ⟨b1, (o1 + (i1 : Int).toNat * 1), none⟩ = some (.string v1) ∧ 
    (bif (decide ((v1.size : Int) > 65536)) then R (.int .i64 3) w_ else (Calls Tryz.prog 63 #[.string v1] w_ fun e_ w_2 => (∃ r1 : ByteArray, e_ = .returned (.string r1) ∧ (catD s1 r1 fun cat => 
    (I1 cat (w64 (i1 + 1)) w_2 ∧ M1 cat (w64 (i1 + 1)) w_2 < M1 s1 i1 w_))))))) else (drewD w_ fun w_3 => (∃ vb vo : Nat, World.cell? w_3 ⟨wb, wo, none⟩ = some (pv vb vo) ∧ 
    (∃ v2 : Int, World.cell? w_3 ⟨wb, (wo + 1), none⟩ = some (.int .i64 v2) ∧ (Calls Tryz.prog 45 #[pv vb vo, .int .i64 v2, .string s1] w_3 fun e_2 w_4 => (∃ r2 : Int, e_2 = .returned (.int .i64 r2) ∧ 
    R (.int .i64 r2) w_4)))))))

def wal_Log_Anew.H : Hints := { nret := [], nld := [], loops := [(5, [(5, .str), (12, .int .i64)])], joins := [], unroll := [], plans := [(11, (.take 0 (.take 1 (.take 2 (.take 3 (.take 4 (.take 5 (.take 6 (.take 7 (.take 8 (.eff 9 (.take 10 .done))))))))))))], nx := [] }

theorem wal_Log_Anew.eq (wb wo : Nat) (la : Option Addr) (ln lc : Nat) (R : Value → World → Prop) (w : World) : wal_Log_Anew.m wb wo la ln lc R w = fnD Tryz.prog wal_Log_Anew.H Tryz.f32 [pv wb wo, .slice la ln lc] R w := by kernel_rfl

theorem wal_Log_Anew.ok (wb wo : Nat) (la : Option Addr) (ln lc : Nat) {R : Value → World → Prop} {w : World} (h : wal_Log_Anew.m wb wo la ln lc R w) : Calls Tryz.prog 32 #[pv wb wo, .slice la ln lc] w fun e w' => ∃ v, e = .returned v ∧ R v w' :=
  @fn_sound Tryz.prog wal_Log_Anew.H 32 Tryz.f32 [pv wb wo, .slice la ln lc] R w Tryz.mixed Tryz.func32 (by kernel_rfl) (by rw [← wal_Log_Anew.eq]; exact h)

set_option maxRecDepth 100000
/-- tontine/tontineref05.Open -/
def tontineref05_Open.m (db do_ : Nat) (n1 : Int) (R : Value → World → Prop) (w : World) : Prop :=
  (bif (decide (n1 < 0)) then R (.tuple #[.pointer none, .slice none 0 0, .int .i64 1]) w else (bif (decide (n1 > 15)) then R (.tuple #[.pointer none, .slice none 0 0, .int .i64 1]) w
     else (Calls Tryz.prog 17 #[pv db do_, .int .i64 n1] w fun e_ w_ => (∃ r1 : ByteArray, (∃ r2 : Int, e_ = .returned (.tuple #[.string r1, .int .i64 r2]) ∧ 
    (∃ J1 : Int → World → Prop, (bif (r2 == 12) then (Calls Tryz.prog 54 #[pv db do_, .int .i64 n1, .string ⟨#[]⟩] w_ fun e_2 w_3 => (∃ r3 : Int, e_2 = .returned (.int .i64 r3) ∧ J1 r3 w_3))
     else J1 r2 w_) ∧ ∀ (jk : Env) (e_3 : Int) (w_2 : World), J1 e_3 w_2 → (bif (e_3 != 0) then R (.tuple #[.pointer none, .slice none 0 0, .int .i64 e_3]) w_2
     else (Calls Tryz.prog 55 #[.string r1] w_2 fun e_4 w_4 => (∃ (ra : Option Addr) (rn rc : Nat), (∃ r4 : Int, e_4 = .returned (.tuple #[.slice ra rn rc, .int .i64 r4]) ∧ 
    (bif (decide (r4 < (r1.size : Int))) then ((0 : Int) ≤ r4 ∧ r4 ≤ ((r1 : ByteArray).size : Int) ∧ 
    (Calls Tryz.prog 54 #[pv db do_, .int .i64 n1, .string (ByteArray.extract r1 0 (r4 : Int).toNat)] w_4 fun e_5 w_5 => (∃ r5 : Int, e_5 = .returned (.int .i64 r5) ∧ (bif (r5 != 0) then 
    R (.tuple #[.pointer none, .slice none 0 0, .int .i64 r5]) w_5 else (alD w_5 (.cells #[pv db do_, .int .i64 n1] 120 (0, 0)) fun b1 w_6 => R (.tuple #[pv b1 0, .slice ra rn rc, .int .i64 0]) w_6)))))
     else (Calls Tryz.prog 56 #[pv db do_, .int .i64 n1] w_4 fun e_6 w_7 => (∃ r6 : Int, e_6 = .returned (.int .i64 r6) ∧ (bif (r6 != 0) then 
    R (.tuple #[.pointer none, .slice none 0 0, .int .i64 r6]) w_7 else (alD w_7 (.cells #[pv db do_, .int .i64 n1] 120 (0, 0)) fun b2 w_8 => 
    R (.tuple #[pv b2 0, .slice ra rn rc, .int .i64 0]) w_8)))))))))))))))

def tontineref05_Open.H : Hints := { nret := [], nld := [], loops := [], joins := [(6, [(8, .int .i64)])], unroll := [], plans := [], nx := [] }

theorem tontineref05_Open.eq (db do_ : Nat) (n1 : Int) (R : Value → World → Prop) (w : World) : tontineref05_Open.m db do_ n1 R w = fnD Tryz.prog tontineref05_Open.H Tryz.f26 [pv db do_, .int .i64 n1] R w := by kernel_rfl

theorem tontineref05_Open.ok (db do_ : Nat) (n1 : Int) {R : Value → World → Prop} {w : World} (h : tontineref05_Open.m db do_ n1 R w) : Calls Tryz.prog 26 #[pv db do_, .int .i64 n1] w fun e w' => ∃ v, e = .returned v ∧ R v w' :=
  @fn_sound Tryz.prog tontineref05_Open.H 26 Tryz.f26 [pv db do_, .int .i64 n1] R w Tryz.mixed Tryz.func26 (by kernel_rfl) (by rw [← tontineref05_Open.eq]; exact h)

set_option maxRecDepth 100000
/-- (*tontine/tontineref04.Disk).Append -/
def tontineref04_Disk_Append.m (db do_ : Nat) (n1 : Int) (s1 : ByteArray) (R : Value → World → Prop) (w : World) : Prop :=
  (Calls Tryz.prog 71 #[.int .i64 n1] w fun e_ w_ => (∃ r1 : Bool, e_ = .returned (.bool r1) ∧ (bif r1 then R (.int .i64 1) w_
     else (∃ v1 : Bool, World.cell? w_ ⟨db, (do_ + 50), none⟩ = some (.bool v1) ∧ (bif v1 then R (.int .i64 10) w_ else (drewD w_ fun w_2 => 
    (∃ v2 : Int, World.cell? w_2 ⟨db, (do_ + 48), none⟩ = some (.int .i64 v2) ∧ (Calls Tryz.prog 80 #[pv db do_] w_2 fun e_2 w_3 => (∃ r2 : Int, e_2 = .returned (.int .i64 r2) ∧ 
    World.cell? w_3 ⟨db, (do_ + 48), none⟩ = some (.int .i64 v2) ∧ (bif (decide ((w64 (r2 + (s1.size : Int))) > v2)) then R (.int .i64 11) w_3 else (Calls Tryz.prog 81 #[pv db do_] w_3 fun e_3 w_4 => 
    (∃ r3 : Bool, e_3 = .returned (.bool r3) ∧ (bif (!r3) then R (.int .i64 10) w_4 else (drewD w_4 fun w_5 => ((0 : Int) ≤ n1 ∧ n1 < (16 : Int) ∧ 
    (∃ v3 : ByteArray, World.cell? w_5 ⟨db, ((do_ + 16) + (n1 : Int).toNat * 1), none⟩ = some (.string v3) ∧ (catD v3 s1 fun cat => ((0 : Int) ≤ n1 ∧ n1 < (16 : Int) ∧ 
    (stD w_5 db ((do_ + 16) + (n1 : Int).toNat * 1) [.string cat] fun w_6 => ((0 : Int) ≤ n1 ∧ n1 < (16 : Int) ∧ (stD w_6 db ((do_ + 32) + (n1 : Int).toNat * 1) [.bool true] fun w_7 => 
    R (.int .i64 0) w_7)))))))))))))))))))))

def tontineref04_Disk_Append.H : Hints := { nret := [], nld := [], loops := [], joins := [], unroll := [], plans := [(5, (.take 0 (.take 2 (.take 3 (.take 5 (.take 6 (.take 7 (.take 8 (.eff 1 (.take 4 (.take 9 .done))))))))))), (9, (.take 0 (.take 1 (.take 2 (.take 3 (.take 4 (.take 5 (.take 6 (.take 7 (.take 8 (.take 9 (.take 10 (.eff 11 .done)))))))))))))], nx := [] }

theorem tontineref04_Disk_Append.eq (db do_ : Nat) (n1 : Int) (s1 : ByteArray) (R : Value → World → Prop) (w : World) : tontineref04_Disk_Append.m db do_ n1 s1 R w = fnD Tryz.prog tontineref04_Disk_Append.H Tryz.f70 [pv db do_, .int .i64 n1, .string s1] R w := by kernel_rfl

theorem tontineref04_Disk_Append.ok (db do_ : Nat) (n1 : Int) (s1 : ByteArray) {R : Value → World → Prop} {w : World} (h : tontineref04_Disk_Append.m db do_ n1 s1 R w) : Calls Tryz.prog 70 #[pv db do_, .int .i64 n1, .string s1] w fun e w' => ∃ v, e = .returned v ∧ R v w' :=
  @fn_sound Tryz.prog tontineref04_Disk_Append.H 70 Tryz.f70 [pv db do_, .int .i64 n1, .string s1] R w Tryz.mixed Tryz.func70 (by kernel_rfl) (by rw [← tontineref04_Disk_Append.eq]; exact h)

set_option maxRecDepth 100000
/-- tontine/tontineref05.frames -/
def tontineref05_frames.m (la : Option Addr) (ln lc : Nat) (R : Value → World → Prop) (w : World) : Prop :=
  (∃ (I1 : ByteArray → Int → World → Prop) (M1 : ByteArray → Int → World → Nat), I1 ⟨#[]⟩ 0 w ∧ ∀ (jk : Env) (s1 : ByteArray) (i1 : Int) (w_ : World), I1 s1 i1 w_ → (bif (decide (i1 < (ln : Int))) then 
    (∃ b1 o1 : Nat, la = some ⟨b1, o1, none⟩ ∧ (0 : Int) ≤ i1 ∧ i1 < (ln : Int) ∧ (∃ v1 : ByteArray, World.cell? w_ ⟨b1, (o1 + (i1 : Int).toNat * 1), none⟩ = some (.string v1) ∧ 
    (bif (decide ((v1.size : Int) > 65536)) then R (.tuple #[.string ⟨#[]⟩, .bool false]) w_ else (∃ b2 o2 : Nat, la = some ⟨b2, o2, none⟩ ∧ (0 : Int) ≤ i1 ∧ i1 < (ln : Int) ∧ 
    (∃ v2 : ByteArray, World.cell? w_ ⟨b2, (o2 + (i1 : Int).toNat * 1), none⟩ = some (.string v2) ∧ (Calls Tryz.prog 89 #[.string v2] w_ fun e_ w_2 => (∃ r1 : ByteArray, e_ = .returned (.string r1) ∧ 
    (catD s1 r1 fun cat => (I1 cat (w64 (i1 + 1)) w_2 ∧ M1 cat (w64 (i1 + 1)) w_2 < M1 s1 i1 w_))))))))) else R (.tuple #[.string s1, .bool true]) w_))

def tontineref05_frames.H : Hints := { nret := [], nld := [], loops := [(3, [(4, .str), (5, .int .i64)])], joins := [], unroll := [], plans := [], nx := [] }

theorem tontineref05_frames.eq (la : Option Addr) (ln lc : Nat) (R : Value → World → Prop) (w : World) : tontineref05_frames.m la ln lc R w = fnD Tryz.prog tontineref05_frames.H Tryz.f67 [.slice la ln lc] R w := by kernel_rfl

theorem tontineref05_frames.ok (la : Option Addr) (ln lc : Nat) {R : Value → World → Prop} {w : World} (h : tontineref05_frames.m la ln lc R w) : Calls Tryz.prog 67 #[.slice la ln lc] w fun e w' => ∃ v, e = .returned v ∧ R v w' :=
  @fn_sound Tryz.prog tontineref05_frames.H 67 Tryz.f67 [.slice la ln lc] R w Tryz.mixed Tryz.func67 (by kernel_rfl) (by rw [← tontineref05_frames.eq]; exact h)

set_option maxRecDepth 100000
/-- (*tontine/tontineref05.Log).Append -/
def tontineref05_Log_Append.m (wb wo : Nat) (la : Option Addr) (ln lc : Nat) (R : Value → World → Prop) (w : World) : Prop :=
  (Calls Tryz.prog 67 #[.slice la ln lc] w fun e_ w_ => (∃ r1 : ByteArray, (∃ r2 : Bool, e_ = .returned (.tuple #[.string r1, .bool r2]) ∧ (bif (!r2) then R (.int .i64 3) w_ else (drewD w_ fun w_2 => 
    (∃ vb vo : Nat, World.cell? w_2 ⟨wb, wo, none⟩ = some (pv vb vo) ∧ (∃ v1 : Int, World.cell? w_2 ⟨wb, (wo + 1), none⟩ = some (.int .i64 v1) ∧ 
    (Calls Tryz.prog 70 #[pv vb vo, .int .i64 v1, .string r1] w_2 fun e_2 w_3 => (∃ r3 : Int, e_2 = .returned (.int .i64 r3) ∧ (bif (r3 != 0) then R (.int .i64 r3) w_3 else (drewD w_3 fun w_4 => 
    (∃ vb2 vo2 : Nat, World.cell? w_4 ⟨wb, wo, none⟩ = some (pv vb2 vo2) ∧ (∃ v2 : Int, World.cell? w_4 ⟨wb, (wo + 1), none⟩ = some (.int .i64 v2) ∧ 
    (Calls Tryz.prog 56 #[pv vb2 vo2, .int .i64 v2] w_4 fun e_3 w_5 => (∃ r4 : Int, e_3 = .returned (.int .i64 r4) ∧ R (.int .i64 r4) w_5)))))))))))))))

def tontineref05_Log_Append.H : Hints := { nret := [], nld := [], loops := [], joins := [], unroll := [], plans := [(4, (.take 0 (.take 1 (.take 2 (.take 3 (.take 4 (.take 5 (.take 6 (.take 7 (.take 8 (.eff 9 (.take 10 .done)))))))))))), (7, (.take 0 (.take 1 (.take 2 (.take 3 (.take 4 (.take 5 (.take 6 (.take 7 (.eff 8 (.take 9 .done)))))))))))], nx := [] }

theorem tontineref05_Log_Append.eq (wb wo : Nat) (la : Option Addr) (ln lc : Nat) (R : Value → World → Prop) (w : World) : tontineref05_Log_Append.m wb wo la ln lc R w = fnD Tryz.prog tontineref05_Log_Append.H Tryz.f42 [pv wb wo, .slice la ln lc] R w := by kernel_rfl

theorem tontineref05_Log_Append.ok (wb wo : Nat) (la : Option Addr) (ln lc : Nat) {R : Value → World → Prop} {w : World} (h : tontineref05_Log_Append.m wb wo la ln lc R w) : Calls Tryz.prog 42 #[pv wb wo, .slice la ln lc] w fun e w' => ∃ v, e = .returned v ∧ R v w' :=
  @fn_sound Tryz.prog tontineref05_Log_Append.H 42 Tryz.f42 [pv wb wo, .slice la ln lc] R w Tryz.mixed Tryz.func42 (by kernel_rfl) (by rw [← tontineref05_Log_Append.eq]; exact h)

set_option maxRecDepth 100000
/-- (*tontine/tontineref05.Log).Anew -/
def tontineref05_Log_Anew.m (wb wo : Nat) (la : Option Addr) (ln lc : Nat) (R : Value → World → Prop) (w : World) : Prop :=
  (Calls Tryz.prog 67 #[.slice la ln lc] w fun e_ w_ => (∃ r1 : ByteArray, (∃ r2 : Bool, e_ = .returned (.tuple #[.string r1, .bool r2]) ∧ (bif (!r2) then R (.int .i64 3) w_ else (drewD w_ fun w_2 => 
    (∃ vb vo : Nat, World.cell? w_2 ⟨wb, wo, none⟩ = some (pv vb vo) ∧ (∃ v1 : Int, World.cell? w_2 ⟨wb, (wo + 1), none⟩ = some (.int .i64 v1) ∧ 
    (Calls Tryz.prog 54 #[pv vb vo, .int .i64 v1, .string r1] w_2 fun e_2 w_3 => (∃ r3 : Int, e_2 = .returned (.int .i64 r3) ∧ R (.int .i64 r3) w_3)))))))))

def tontineref05_Log_Anew.H : Hints := { nret := [], nld := [], loops := [], joins := [], unroll := [], plans := [(4, (.take 0 (.take 1 (.take 2 (.take 3 (.take 4 (.take 5 (.take 6 (.take 7 (.take 8 (.eff 9 (.take 10 .done))))))))))))], nx := [] }

theorem tontineref05_Log_Anew.eq (wb wo : Nat) (la : Option Addr) (ln lc : Nat) (R : Value → World → Prop) (w : World) : tontineref05_Log_Anew.m wb wo la ln lc R w = fnD Tryz.prog tontineref05_Log_Anew.H Tryz.f37 [pv wb wo, .slice la ln lc] R w := by kernel_rfl

theorem tontineref05_Log_Anew.ok (wb wo : Nat) (la : Option Addr) (ln lc : Nat) {R : Value → World → Prop} {w : World} (h : tontineref05_Log_Anew.m wb wo la ln lc R w) : Calls Tryz.prog 37 #[pv wb wo, .slice la ln lc] w fun e w' => ∃ v, e = .returned v ∧ R v w' :=
  @fn_sound Tryz.prog tontineref05_Log_Anew.H 37 Tryz.f37 [pv wb wo, .slice la ln lc] R w Tryz.mixed Tryz.func37 (by kernel_rfl) (by rw [← tontineref05_Log_Anew.eq]; exact h)

end Go.Proofs.YtbcepafeiocobaaGreat
