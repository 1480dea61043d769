/-
  Layer 4: the program's disk, more.
-/
import Derived.Test.YtbcepafeiocobaaGreatXDisk
set_option maxRecDepth 8000
namespace Go.X
open Go

/-- A new disk. -/
def Dk.new (room : Nat) : Dk := ⟨fun _ => none, room, -1, false⟩
theorem Dk.new_ok {room : Nat} (h : room ≤ 1048576) : (Dk.new room).ok := by
  refine ⟨h, ?_, by simp [Dk.new]⟩
  have : ∀ n, sumTo (fun i => sz ((Dk.new room).fl i)) n = 0 := by
    intro n
    induction n with
    | zero => exact sumTo_zero _
    | succ n ih => rw [sumTo_succ, ih]; rfl
  show sumTo _ 16 ≤ _
  rw [this]; exact Nat.zero_le _

/-- With so much fuel. -/
def Dk.fuelled (d : Dk) (n : Int) : Dk := { d with fuel := maxV n (-1) }

end Go.X
namespace Go.Proofs.YtbcepafeiocobaaGreat
open Go.X

section
variable {w0 w : World} {r : List A} {b : Nat} {d : Dk}

theorem disk_step_spec (hd : d.ok) (ho : d.off = false) (H : Has w0 w (pdA 73 b d :: r)) : Calls Tryz.prog 73 #[pv b 0] w fun e w' => ∃ v, e = .returned v ∧ v = .bool d.step.1 ∧ Has w0 w' (pdA 73 b d.step.2 :: r) := by
  refine disk_Disk_step.ok _ _ ?_
  have hfu := hd.fuel
  obtain ⟨mb, l, hf, H⟩ := H.pd
  refine ⟨_, H.cell rfl, bif_f ho ⟨_, H.cell rfl, bif_i (fun h => ?_) fun h => ?_⟩⟩
  · have h : d.fuel = 0 := by simpa using h
    refine H.st (by simp) rfl fun w1 H => ?_
    unfold Dk.step
    rw [if_pos h]
    exact ⟨rfl, H.mkpd (d := { d with off := true }) hf⟩
  · have h : ¬ d.fuel = 0 := by simpa using h
    refine ⟨_, H.cell rfl, bif_i (fun h2 => ?_) fun h2 => ?_⟩
    · have h2 : 0 < d.fuel := by simpa using h2
      refine ⟨_, H.cell rfl, H.st (by simp) rfl fun w1 H => ?_⟩
      unfold Dk.step
      rw [if_neg h, if_pos h2]
      rw [w64_id (by omega)] at H
      exact ⟨rfl, H.mkpd (d := { d with fuel := d.fuel - 1 }) hf⟩
    · have h2 : ¬ 0 < d.fuel := by simpa using h2
      unfold Dk.step
      rw [if_neg h, if_neg h2]
      exact ⟨rfl, H.mkpd hf⟩

theorem getD_fv {l : List (Int × Value)} (hf : Fl l d.fl) (n : Nat) : (mget l (n : Int)).getD (.agg #[.string ⟨#[]⟩, .string ⟨#[]⟩]) = .agg #[.string (bs (firm (d.fl n))), .string (bs (soft (d.fl n)))] := by
  rw [hf.get]
  cases d.fl n <;> rfl

theorem isSome_fv {l : List (Int × Value)} (hf : Fl l d.fl) (n : Nat) : (mget l (n : Int)).isSome = (d.fl n).isSome := by
  rw [hf.get]; simp

theorem disk_zero : (Tryz.prog.info? 99).bind (·.zero) = some (.agg #[.string ⟨#[]⟩, .string ⟨#[]⟩]) := by kernel_rfl

theorem disk_Read_spec (hd : d.ok) {n : Nat} (hn : n < 16) (H : Has w0 w (pdA 73 b d :: r)) : Calls Tryz.prog 16 #[pv b 0, .int .i64 (n : Int)] w fun e w' => ∃ v, e = .returned v ∧ v = .tuple #[.string (bs (d.read n).1), .int .i64 ((d.read n).2 : Int)] ∧ Has w0 w' (pdA 73 b d :: r) := by
  refine disk_Disk_Read.ok _ _ _ ?_
  refine (disk_Off_spec H).mono ?_
  rintro e w1 ⟨v, rfl, rfl, H⟩
  refine ⟨_, rfl, bif_i (fun h => ?_) fun h => ?_⟩
  · unfold Dk.read; rw [if_pos h]; exact ⟨rfl, H⟩
  · obtain ⟨mb, l, hf, H⟩ := H.pd
    have hlk := (Has.look (t := 71) rfl rfl disk_zero H.f1 (n : Int)).2
    rw [getD_fv hf, isSome_fv hf] at hlk
    refine ⟨_, H.cell rfl, _, _, _, hlk, ?_⟩
    refine H.al fun b1 w2 H => ?_
    refine Has.st H (by simp) rfl fun w3 H => ?_
    unfold Dk.read
    rw [if_neg (by simp [h])]
    refine bif_i (fun h2 => ?_) fun h2 => ?_
    · have h2 : (d.fl n).isNone = true := by cases hx : d.fl n <;> simp_all
      rw [if_pos h2]
      exact ⟨rfl, H.drop.mkpd hf⟩
    · have h2 : ¬ (d.fl n).isNone = true := by cases hx : d.fl n <;> simp_all
      rw [if_neg h2]
      have hu := hd.used
      have hr := hd.room
      have hz := sz_le d.fl hn
      have hz2 : sz (d.fl n) = (firm (d.fl n)).length + (soft (d.fl n)).length := rfl
      refine ⟨_, H.cell rfl, _, H.cell rfl, catD_bs ?_ ⟨rfl, H.drop.mkpd hf⟩⟩
      have : sumTo (fun i => sz (d.fl i)) 16 = d.used := rfl
      omega

theorem disk_Append_spec (hd : d.ok) {n : Nat} (hn : n < 16) {s : List UInt8} (hs : s.length ≤ 4611686018427387904) (H : Has w0 w (pdA 73 b d :: r)) : Calls Tryz.prog 68 #[pv b 0, .int .i64 (n : Int), .string (bs s)] w fun e w' => ∃ v, e = .returned v ∧ v = .int .i64 ((d.append n s).1 : Int) ∧ Has w0 w' (pdA 73 b (d.append n s).2 :: r) := by
  refine disk_Disk_Append.ok _ _ _ _ ?_
  have hu := hd.used
  have hr := hd.room
  refine bif_f (by simp) (bif_f (by simp; omega) ?_)
  refine (disk_Off_spec H).mono ?_
  rintro e w1 ⟨v, rfl, rfl, H⟩
  refine ⟨_, rfl, bif_i (fun h => ?_) fun h => ?_⟩
  · unfold Dk.append; rw [if_pos h]; exact ⟨rfl, H⟩
  refine H.dr fun w2 H => ?_
  obtain ⟨mb, l, hf, H'⟩ := H.pd
  refine ⟨_, H'.cell rfl, ?_⟩
  refine (disk_Used_spec H (by omega)).mono ?_
  rintro e w3 ⟨v, rfl, rfl, H⟩
  clear H'
  obtain ⟨mb, l, hf, H'⟩ := H.pd
  refine ⟨_, rfl, H'.cell rfl, ?_⟩
  rw [bs_size, w64_id (by omega)]
  unfold Dk.append
  rw [if_neg (by simp [h])]
  refine bif_i (fun h2 => ?_) fun h2 => ?_
  · have h2 : d.room < d.used + s.length := by simp at h2; omega
    rw [if_pos h2]; exact ⟨rfl, H⟩
  have h2 : ¬ d.room < d.used + s.length := by simp at h2; omega
  rw [if_neg h2]
  refine (disk_step_spec hd h H).mono ?_
  rintro e w4 ⟨v, rfl, rfl, H⟩
  have hsf := step_fl d
  refine ⟨_, rfl, bif_i (fun h3 => ?_) fun h3 => ?_⟩
  · have h3 : ¬ d.step.1 = true := by simpa using h3
    rw [if_neg h3]; exact ⟨rfl, H⟩
  have h3 : d.step.1 = true := by simpa using h3
  rw [if_pos h3]
  clear hf H'
  obtain ⟨mb, l, hf, H⟩ := H.pd
  have hf1 := hf
  rw [hsf.1] at hf1
  have hlk := (Has.look (t := 71) rfl rfl disk_zero H.f1 (n : Int)).1
  rw [getD_fv hf1] at hlk
  refine ⟨_, H.cell rfl, _, _, hlk, H.al fun b1 w5 H => ?_⟩
  refine Has.st H (by simp) rfl fun w6 H => ?_
  have hz := sz_le d.fl hn
  have hz2 : sz (d.fl n) = (firm (d.fl n)).length + (soft (d.fl n)).length := rfl
  have hz3 : sumTo (fun i => sz (d.fl i)) 16 = d.used := rfl
  refine ⟨_, H.cell rfl, catD_bs (by omega) ?_⟩
  refine Has.st H (by simp [wr]) rfl fun w7 H => H.dr fun w8 H => ?_
  refine ⟨_, H.f1.cell rfl, _, _, H.row rfl, ?_⟩
  refine Has.upd (kt := 3) rfl rfl H.f2 fun w9 H => ?_
  refine ⟨rfl, ?_⟩
  have hfu := hf.upd hn (firm (d.fl n), soft (d.fl n) ++ s)
  exact Has.mkpd (d := d.step.2.put n (firm (d.fl n), soft (d.fl n) ++ s)) hfu H.f2.f2.drop

theorem disk_Sync_spec (hd : d.ok) {n : Nat} (hn : n < 16) (H : Has w0 w (pdA 73 b d :: r)) : Calls Tryz.prog 47 #[pv b 0, .int .i64 (n : Int)] w fun e w' => ∃ v, e = .returned v ∧ v = .int .i64 ((d.sync n).1 : Int) ∧ Has w0 w' (pdA 73 b (d.sync n).2 :: r) := by
  refine disk_Disk_Sync.ok _ _ _ ?_
  have hu := hd.used
  have hr := hd.room
  refine (disk_Off_spec H).mono ?_
  rintro e w1 ⟨v, rfl, rfl, H⟩
  unfold Dk.sync
  refine ⟨_, rfl, bif_i (fun h => ?_) fun h => ?_⟩
  · rw [if_pos h]; exact ⟨rfl, H⟩
  rw [if_neg (by simp [h])]
  obtain ⟨mb, l, hf, H⟩ := H.pd
  have hlk := (Has.look (t := 71) rfl rfl disk_zero H.f1 (n : Int)).2
  rw [getD_fv hf, isSome_fv hf] at hlk
  refine ⟨_, H.cell rfl, _, _, _, hlk, ?_⟩
  refine H.al fun b1 w2 H => ?_
  refine Has.st H (by simp) rfl fun w3 H => ?_
  refine bif_i (fun h2 => ?_) fun h2 => ?_
  · have h2 : (d.fl n).isNone = true := by cases hx : d.fl n <;> simp_all
    rw [if_pos h2]
    exact ⟨rfl, H.drop.mkpd hf⟩
  have h2 : ¬ (d.fl n).isNone = true := by cases hx : d.fl n <;> simp_all
  rw [if_neg h2]
  refine (disk_step_spec hd h (H.f2.f2.mkpd hf)).mono ?_
  rintro e w4 ⟨v, rfl, rfl, H⟩
  have hsf := step_fl d
  refine ⟨_, rfl, bif_i (fun h3 => ?_) fun h3 => ?_⟩
  · have h3 : ¬ d.step.1 = true := by simpa using h3
    rw [if_neg h3]; exact ⟨rfl, H.f1.drop⟩
  have h3 : d.step.1 = true := by simpa using h3
  rw [if_pos h3]
  refine H.dr fun w5 H => ?_
  clear hf hlk
  obtain ⟨mb, l, hf, H⟩ := H.pd
  have hz := sz_le d.fl hn
  have hz2 : sz (d.fl n) = (firm (d.fl n)).length + (soft (d.fl n)).length := rfl
  have hz3 : sumTo (fun i => sz (d.fl i)) 16 = d.used := rfl
  refine ⟨_, H.cell rfl, _, H.f2.cell rfl, _, H.f2.cell rfl, catD_bs (by omega) ?_⟩
  refine Has.upd (kt := 3) rfl rfl H.f1 fun w9 H => ?_
  refine ⟨rfl, ?_⟩
  have hfu := hf.upd hn (firm (d.fl n) ++ soft (d.fl n), [])
  exact Has.mkpd (d := d.step.2.put n (firm (d.fl n) ++ soft (d.fl n), [])) hfu H.f2.drop.f1

theorem disk_Replace_spec (hd : d.ok) {n : Nat} (hn : n < 16) {s : List UInt8} (hs : s.length ≤ 4611686018427387904) (H : Has w0 w (pdA 73 b d :: r)) : Calls Tryz.prog 45 #[pv b 0, .int .i64 (n : Int), .string (bs s)] w fun e w' => ∃ v, e = .returned v ∧ v = .int .i64 ((d.replace n s).1 : Int) ∧ Has w0 w' (pdA 73 b (d.replace n s).2 :: r) := by
  refine disk_Disk_Replace.ok _ _ _ _ ?_
  have hu := hd.used
  have hr := hd.room
  have hz := sz_le d.fl hn
  have hz2 : sz (d.fl n) = (firm (d.fl n)).length + (soft (d.fl n)).length := rfl
  have hz3 : sumTo (fun i => sz (d.fl i)) 16 = d.used := rfl
  obtain ⟨mb, l, hf, H⟩ := H.pd
  refine H.al fun b1 w1 H => H.st (by simp) rfl fun w2 H => ?_
  have hlk := (Has.look (t := 71) rfl rfl disk_zero H.f2 (n : Int)).1
  rw [getD_fv hf] at hlk
  refine ⟨_, H.f1.cell rfl, _, _, hlk, Has.st H (by simp [wr]) rfl fun w3 H => ?_⟩
  unfold Dk.replace
  refine ⟨fun i w => i = false ∧ w = w3, bif_f (by simp) ⟨by simp; omega, rfl⟩, ?_⟩
  rintro _ i w ⟨rfl, rfl⟩
  refine bif_f rfl ?_
  refine (disk_Off_spec (H.f2.f2.mkpd hf)).mono ?_
  rintro e w1 ⟨v, rfl, rfl, H⟩
  refine ⟨_, rfl, bif_i (fun h => ?_) fun h => ?_⟩
  · rw [if_pos h]; exact ⟨rfl, H.f1.drop⟩
  rw [if_neg (by simp [h])]
  refine H.dr fun w2 H => ?_
  clear hf hlk
  obtain ⟨mb, l, hf, H'⟩ := H.pd
  refine ⟨_, H'.cell rfl, _, H'.f2.cell rfl, _, H'.f2.cell rfl, ?_⟩
  clear H'
  refine (disk_Used_spec H (by omega)).mono ?_
  rintro e w4 ⟨v, rfl, rfl, H⟩
  obtain ⟨mb, l, hf, H'⟩ := H.pd
  refine ⟨_, rfl, H'.f2.cell rfl, H'.f2.cell rfl, H'.cell rfl, ?_⟩
  clear H'
  have e1 : w64 (w64 (w64 ((d.room : Int) - (d.used : Int)) + ((firm (d.fl n)).length : Int)) + ((soft (d.fl n)).length : Int)) = (d.room : Int) - (d.used : Int) + ((firm (d.fl n)).length : Int) + ((soft (d.fl n)).length : Int) := by
    rw [w64_id (n := (d.room : Int) - _) (by omega), w64_id (n := (d.room : Int) - _ + _) (by omega), w64_id (by omega)]
  simp only [bs_size, e1]
  refine bif_i (fun h2 => ?_) fun h2 => ?_
  · have h2 : d.room + sz (d.fl n) < d.used + s.length := by simp at h2; omega
    rw [if_pos h2]; exact ⟨rfl, H.f1.drop⟩
  have h2 : ¬ d.room + sz (d.fl n) < d.used + s.length := by simp at h2; omega
  rw [if_neg h2]
  refine (disk_step_spec hd h H).mono ?_
  rintro e w5 ⟨v, rfl, rfl, H⟩
  have hsf := step_fl d
  refine ⟨_, rfl, bif_i (fun h3 => ?_) fun h3 => ?_⟩
  · have h3 : ¬ d.step.1 = true := by simpa using h3
    rw [if_neg h3]; exact ⟨rfl, H.f1.drop⟩
  have h3 : d.step.1 = true := by simpa using h3
  rw [if_pos h3]
  clear hf
  obtain ⟨mb, l, hf, H⟩ := H.pd
  refine ⟨_, H.cell rfl, ?_⟩
  refine Has.upd (kt := 3) rfl rfl H.f1 fun w9 H => ?_
  refine ⟨rfl, ?_⟩
  have hfu := hf.upd hn (s, [])
  exact Has.mkpd (d := d.step.2.put n (s, [])) hfu H.f2.drop.f1

theorem disk_New_spec {room : Nat} (h : room ≤ 1048576) (H : Has w0 w r) : Calls Tryz.prog 6 #[.int .i64 (room : Int)] w fun e w' => ∃ v, e = .returned v ∧ ∃ b, v = .tuple #[pv b 0, .int .i64 0] ∧ Has w0 w' (pdA 73 b (Dk.new room) :: r) := by
  refine disk_New.ok _ ?_
  refine bif_f (by simp) (bif_f (by simp; omega) (H.al fun b1 w1 H => H.al fun b2 w2 H => ⟨b2, rfl, ?_⟩))
  exact Has.mkpd (d := Dk.new room) (l := []) ⟨by simp, by simp, fun n => rfl⟩ H.f1.mp0.f1

theorem disk_Fuel_spec {n : Int} (H : Has w0 w (pdA 73 b d :: r)) : Calls Tryz.prog 8 #[pv b 0, .int .i64 n] w fun e w' => ∃ v, e = .returned v ∧ v = .tuple #[] ∧ Has w0 w' (pdA 73 b (d.fuelled n) :: r) := by
  refine disk_Disk_Fuel.ok _ _ _ ?_
  obtain ⟨mb, l, hf, H⟩ := H.pd
  refine H.st (by simp) rfl fun w1 H => ⟨rfl, ?_⟩
  exact Has.mkpd (d := d.fuelled n) hf H

end
end Go.Proofs.YtbcepafeiocobaaGreat
