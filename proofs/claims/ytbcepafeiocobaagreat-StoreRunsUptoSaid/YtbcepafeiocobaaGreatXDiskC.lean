/-
  Layer 4: the reference's disk.
-/
import Derived.Test.YtbcepafeiocobaaGreatXDiskB
set_option maxRecDepth 8000
namespace Go.X
open Go

def seg (f : Nat → Value) : List Value := (List.range 16).map f
@[simp] theorem seg_length (f : Nat → Value) : (seg f).length = 16 := by simp [seg]
theorem seg_get (f : Nat → Value) {i : Nat} (h : i < 16) : (seg f)[i]? = some (f i) := by simp [seg, h]
theorem seg_set (f : Nat → Value) (n : Nat) (v : Value) : (seg f).set n v = seg (upd f n v) := by
  apply List.ext_getElem?
  intro i
  rw [List.getElem?_set]
  by_cases h : n = i
  · subst h
    rw [if_pos rfl]
    by_cases h2 : n < 16
    · rw [if_pos (by simpa using h2), seg_get _ h2]; simp [upd]
    · rw [if_neg (by simpa using h2), List.getElem?_eq_none (by simp; omega)]
  · rw [if_neg h]
    by_cases h2 : i < 16
    · rw [seg_get _ h2, seg_get _ h2]; unfold upd; rw [if_neg (fun e => h e.symm)]
    · rw [List.getElem?_eq_none (by simp; omega), List.getElem?_eq_none (by simp; omega)]

/-- The cells of the reference's disk. -/
def rcells (F S T : Nat → Value) (t : List Value) : List Value := seg F ++ (seg S ++ (seg T ++ t))

section
variable {F S T : Nat → Value} {t : List Value} {n : Nat}
theorem rc1 (h : n < 16) : (rcells F S T t)[0 + ((n : Int)).toNat * 1]? = some (F n) := by
  have e : 0 + ((n : Int)).toNat * 1 = n := by simp
  rw [e, rcells, List.getElem?_append_left (by simpa using h), seg_get _ h]
theorem rc2 (h : n < 16) : (rcells F S T t)[0 + 16 + ((n : Int)).toNat * 1]? = some (S n) := by
  have e : 0 + 16 + ((n : Int)).toNat * 1 = 16 + n := by simp
  rw [e, rcells, List.getElem?_append_right (by simp), List.getElem?_append_left (by simp; omega)]
  simp [seg_get _ h]
theorem rc3 (h : n < 16) : (rcells F S T t)[0 + 32 + ((n : Int)).toNat * 1]? = some (T n) := by
  have e : 0 + 32 + ((n : Int)).toNat * 1 = 32 + n := by simp
  rw [e, rcells, List.getElem?_append_right (by simp; omega), List.getElem?_append_right (by simp; omega), List.getElem?_append_left (by simp; omega)]
  have : 32 + n - (seg F).length - (seg S).length = n := by simp; omega
  rw [this, seg_get _ h]
theorem rc4 (k : Nat) : (rcells F S T t)[0 + (48 + k)]? = t[k]? := by
  rw [rcells, List.getElem?_append_right (by simp; omega), List.getElem?_append_right (by simp; omega), List.getElem?_append_right (by simp; omega)]
  have : 0 + (48 + k) - (seg F).length - (seg S).length - (seg T).length = k := by simp; omega
  rw [this]
theorem rs1 (h : n < 16) (v : Value) : wr (rcells F S T t) (0 + ((n : Int)).toNat * 1) [v] = rcells (upd F n v) S T t := by
  have e : 0 + ((n : Int)).toNat * 1 = n := by simp
  show (rcells F S T t).set _ v = _
  rw [e, rcells, List.set_append_left _ _ (by simpa using h), seg_set]; rfl
theorem rs2 (h : n < 16) (v : Value) : wr (rcells F S T t) (0 + 16 + ((n : Int)).toNat * 1) [v] = rcells F (upd S n v) T t := by
  have e : 0 + 16 + ((n : Int)).toNat * 1 = 16 + n := by simp
  show (rcells F S T t).set _ v = _
  rw [e, rcells, List.set_append_right _ _ (by simp), List.set_append_left _ _ (by simp; omega)]
  have : 16 + n - (seg F).length = n := by simp
  rw [this, seg_set]; rfl
theorem rs3 (h : n < 16) (v : Value) : wr (rcells F S T t) (0 + 32 + ((n : Int)).toNat * 1) [v] = rcells F S (upd T n v) t := by
  have e : 0 + 32 + ((n : Int)).toNat * 1 = 32 + n := by simp
  show (rcells F S T t).set _ v = _
  rw [e, rcells, List.set_append_right _ _ (by simp; omega), List.set_append_right _ _ (by simp; omega), List.set_append_left _ _ (by simp; omega)]
  have : 32 + n - (seg F).length - (seg S).length = n := by simp; omega
  rw [this, seg_set]; rfl
theorem rs4 (k : Nat) (v : Value) : wr (rcells F S T t) (0 + (48 + k)) [v] = rcells F S T (t.set k v) := by
  show (rcells F S T t).set _ v = _
  rw [rcells, List.set_append_right _ _ (by simp; omega), List.set_append_right _ _ (by simp; omega), List.set_append_right _ _ (by simp; omega)]
  have : 0 + (48 + k) - (seg F).length - (seg S).length - (seg T).length = k := by simp; omega
  rw [this]; rfl
theorem rc_len : (rcells F S T t).length = 48 + t.length := by simp [rcells]; omega
end

/-- The reference's disk in memory. -/
def kdA (T b : Nat) (d : Dk) : A := ca b T (rcells (fun i => .string (bs (firm (d.fl i)))) (fun i => .string (bs (soft (d.fl i)))) (fun i => .bool (d.fl i).isSome) [.int .i64 (d.room : Int), .int .i64 d.fuel, .bool d.off])

theorem rcells_put (d : Dk) (n : Nat) (p : List UInt8 × List UInt8) :
    rcells (upd (fun i => .string (bs (firm (d.fl i)))) n (.string (bs p.1))) (upd (fun i => .string (bs (soft (d.fl i)))) n (.string (bs p.2))) (upd (fun i => .bool (d.fl i).isSome) n (.bool true)) [.int .i64 (d.room : Int), .int .i64 d.fuel, .bool d.off] =
    rcells (fun i => .string (bs (firm ((d.put n p).fl i)))) (fun i => .string (bs (soft ((d.put n p).fl i)))) (fun i => .bool ((d.put n p).fl i).isSome) [.int .i64 ((d.put n p).room : Int), .int .i64 (d.put n p).fuel, .bool (d.put n p).off] := by
  unfold Dk.put
  congr 1 <;> (funext i; unfold upd; dsimp only; split <;> rfl)

end Go.X
namespace Go.Proofs.YtbcepafeiocobaaGreat
open Go.X

section
variable {w0 w : World} {r : List A} {b : Nat} {d : Dk}

theorem ref04_Used_spec (H : Has w0 w (kdA 36 b d :: r)) (hu : d.used ≤ 4611686018427387904) : Calls Tryz.prog 80 #[pv b 0] w fun e w' => ∃ v, e = .returned v ∧ v = .int .i64 (d.used : Int) ∧ Has w0 w' (kdA 36 b d :: r) := by
  refine tontineref04_Disk_Used.ok _ _ ?_
  refine ⟨fun n i w => ∃ k : Nat, k ≤ 16 ∧ i = (k : Int) ∧ n = (sumTo (fun i => sz (d.fl i)) k : Int) ∧ Has w0 w (kdA 36 b d :: r), fun _ i _ => 17 - i.toNat, ⟨0, by omega, rfl, by rw [sumTo_zero]; rfl, H⟩, ?_⟩
  clear H
  rintro _ n i w1 ⟨k, hk, rfl, rfl, H⟩
  have hle := sumTo_le (fun i => sz (d.fl i)) hk
  have hd : sumTo (fun i => sz (d.fl i)) 16 = d.used := rfl
  refine bif_i (fun h => ?_) fun h => ?_
  · have h : k < 16 := by simp at h; omega
    have hle2 := sumTo_le (fun i => sz (d.fl i)) (show k + 1 ≤ 16 by omega)
    rw [sumTo_succ] at hle2
    have hz2 : sz (d.fl k) = (firm (d.fl k)).length + (soft (d.fl k)).length := rfl
    refine H.dr fun w2 H => ⟨by omega, by omega, _, H.cell (rc1 h), by omega, by omega, _, H.cell (rc2 h), ?_⟩
    have e1 : w64 ((sumTo (fun i => sz (d.fl i)) k : Int) + w64 (((bs (firm (d.fl k))).size : Int) + ((bs (soft (d.fl k))).size : Int))) = (sumTo (fun i => sz (d.fl i)) (k + 1) : Int) := by
      simp only [bs_size]
      rw [w64_id (n := ((firm (d.fl k)).length : Int) + _) (by omega), w64_id (by omega), sumTo_succ]; omega
    rw [e1, w64_id (by omega)]
    exact ⟨⟨k + 1, h, by omega, rfl, H⟩, by dsimp only; omega⟩
  · have h : k = 16 := by simp at h; omega
    subst h
    exact ⟨rfl, H⟩

theorem ref04_step_spec (hd : d.ok) (H : Has w0 w (kdA 36 b d :: r)) : Calls Tryz.prog 81 #[pv b 0] w fun e w' => ∃ v, e = .returned v ∧ v = .bool d.step.1 ∧ Has w0 w' (kdA 36 b d.step.2 :: r) := by
  refine tontineref04_Disk_step.ok _ _ ?_
  have hfu := hd.fuel
  refine ⟨_, H.cell (rc4 1), bif_i (fun h => ?_) fun h => ?_⟩
  · have h : d.fuel = 0 := by simpa using h
    refine H.st (by rw [rc_len]; simp) rfl fun w1 H => ?_
    unfold Dk.step
    rw [if_pos h]
    rw [rs4 2] at H
    exact ⟨rfl, H⟩
  · have h : ¬ d.fuel = 0 := by simpa using h
    refine ⟨_, H.cell (rc4 1), bif_i (fun h2 => ?_) fun h2 => ?_⟩
    · have h2 : 0 < d.fuel := by simpa using h2
      refine ⟨_, H.cell (rc4 1), H.st (by rw [rc_len]; simp) rfl fun w1 H => ?_⟩
      unfold Dk.step
      rw [if_neg h, if_pos h2]
      rw [rs4 1, w64_id (by omega)] at H
      exact ⟨rfl, H⟩
    · have h2 : ¬ 0 < d.fuel := by simpa using h2
      unfold Dk.step
      rw [if_neg h, if_neg h2]
      exact ⟨rfl, H⟩

theorem ref04_no_spec {n : Nat} (hn : n < 16) (H : Has w0 w r) : Calls Tryz.prog 71 #[.int .i64 (n : Int)] w fun e w' => ∃ v, e = .returned v ∧ v = .bool false ∧ Has w0 w' r := by
  refine tontineref04_no.ok _ ?_
  have : decide ((n : Int) > 15) = false := by simp; omega
  exact bif_f (by simp) ⟨by rw [this], H⟩

theorem ref04_has_spec {n : Nat} (hn : n < 16) (H : Has w0 w (kdA 36 b d :: r)) : Calls Tryz.prog 44 #[pv b 0, .int .i64 (n : Int)] w fun e w' => ∃ v, e = .returned v ∧ v = .bool (d.fl n).isSome ∧ Has w0 w' (kdA 36 b d :: r) := by
  refine tontineref04_Disk_has.ok _ _ _ ?_
  refine (ref04_no_spec hn H).mono ?_
  rintro e w1 ⟨v, rfl, rfl, H⟩
  exact ⟨_, rfl, bif_t rfl ⟨by omega, by omega, _, H.cell (rc3 hn), rfl, H⟩⟩

theorem ref04_Read_spec (hd : d.ok) {n : Nat} (hn : n < 16) (H : Has w0 w (kdA 36 b d :: r)) : Calls Tryz.prog 17 #[pv b 0, .int .i64 (n : Int)] w fun e w' => ∃ v, e = .returned v ∧ v = .tuple #[.string (bs (d.read n).1), .int .i64 ((d.read n).2 : Int)] ∧ Has w0 w' (kdA 36 b d :: r) := by
  refine tontineref04_Disk_Read.ok _ _ _ ?_
  unfold Dk.read
  refine ⟨_, H.cell (rc4 2), bif_i (fun h => ?_) fun h => ?_⟩
  · rw [if_pos h]; exact ⟨rfl, H⟩
  rw [if_neg (by simp [h])]
  refine (ref04_has_spec hn H).mono ?_
  rintro e w1 ⟨v, rfl, rfl, H⟩
  refine ⟨_, rfl, bif_i (fun h2 => ?_) fun h2 => ?_⟩
  · have h2 : (d.fl n).isNone = true := by cases hx : d.fl n <;> simp_all
    rw [if_pos h2]; exact ⟨rfl, H⟩
  have h2 : ¬ (d.fl n).isNone = true := by cases hx : d.fl n <;> simp_all
  rw [if_neg h2]
  have hu := hd.used
  have hr := hd.room
  have hz := sz_le d.fl hn
  have hz2 : sz (d.fl n) = (firm (d.fl n)).length + (soft (d.fl n)).length := rfl
  have hz3 : sumTo (fun i => sz (d.fl i)) 16 = d.used := rfl
  exact H.dr fun w2 H => ⟨by omega, by omega, _, H.cell (rc1 hn), by omega, by omega, _, H.cell (rc2 hn), catD_bs (by omega) ⟨rfl, H⟩⟩

theorem ref04_Sync_spec (hd : d.ok) {n : Nat} (hn : n < 16) (H : Has w0 w (kdA 36 b d :: r)) : Calls Tryz.prog 56 #[pv b 0, .int .i64 (n : Int)] w fun e w' => ∃ v, e = .returned v ∧ v = .int .i64 ((d.sync n).1 : Int) ∧ Has w0 w' (kdA 36 b (d.sync n).2 :: r) := by
  refine tontineref04_Disk_Sync.ok _ _ _ ?_
  unfold Dk.sync
  refine ⟨_, H.cell (rc4 2), bif_i (fun h => ?_) fun h => ?_⟩
  · rw [if_pos h]; exact ⟨rfl, H⟩
  rw [if_neg (by simp [h])]
  refine (ref04_has_spec hn H).mono ?_
  rintro e w1 ⟨v, rfl, rfl, H⟩
  refine ⟨_, rfl, bif_i (fun h2 => ?_) fun h2 => ?_⟩
  · have h2 : (d.fl n).isNone = true := by cases hx : d.fl n <;> simp_all
    rw [if_pos h2]; exact ⟨rfl, H⟩
  have h2 : ¬ (d.fl n).isNone = true := by cases hx : d.fl n <;> simp_all
  rw [if_neg h2]
  have hu := hd.used
  have hr := hd.room
  have hz := sz_le d.fl hn
  have hz2 : sz (d.fl n) = (firm (d.fl n)).length + (soft (d.fl n)).length := rfl
  have hz3 : sumTo (fun i => sz (d.fl i)) 16 = d.used := rfl
  refine (ref04_step_spec hd H).mono ?_
  rintro e w2 ⟨v, rfl, rfl, H⟩
  have hsf := step_fl d
  refine ⟨_, rfl, bif_i (fun h3 => ?_) fun h3 => ?_⟩
  · have h3 : ¬ d.step.1 = true := by simpa using h3
    rw [if_neg h3]; exact ⟨rfl, H⟩
  have h3 : d.step.1 = true := by simpa using h3
  rw [if_pos h3]
  refine H.dr fun w3 H => ⟨by omega, by omega, _, H.cell (rc1 hn), by omega, by omega, _, H.cell (rc2 hn), catD_bs (by rw [hsf.1]; omega) ⟨by omega, by omega, ?_⟩⟩
  refine H.st (by rw [rc_len]; simp; omega) rfl fun w4 H => ⟨by omega, by omega, ?_⟩
  rw [rs1 hn] at H
  refine H.st (by rw [rc_len]; simp; omega) rfl fun w5 H => ⟨rfl, ?_⟩
  rw [bs_nil, rs2 hn] at H
  have hsome : (fun i => Value.bool (d.step.2.fl i).isSome) = upd (fun i => .bool (d.step.2.fl i).isSome) n (.bool true) := by
    funext i
    unfold upd
    split
    · rename_i e
      subst e
      rw [hsf.1]; cases hx : d.fl i <;> simp_all
    · rfl
  rw [hsome, rcells_put d.step.2 n (firm (d.step.2.fl n) ++ soft (d.step.2.fl n), [])] at H
  rw [hsf.1] at H
  exact H

theorem ref04_Replace_spec (hd : d.ok) {n : Nat} (hn : n < 16) {s : List UInt8} (hs : s.length ≤ 4611686018427387904) (H : Has w0 w (kdA 36 b d :: r)) : Calls Tryz.prog 54 #[pv b 0, .int .i64 (n : Int), .string (bs s)] w fun e w' => ∃ v, e = .returned v ∧ v = .int .i64 ((d.replace n s).1 : Int) ∧ Has w0 w' (kdA 36 b (d.replace n s).2 :: r) := by
  refine tontineref04_Disk_Replace.ok _ _ _ _ ?_
  refine (ref04_no_spec hn H).mono ?_
  rintro e w1 ⟨v, rfl, rfl, H⟩
  unfold Dk.replace
  refine ⟨_, rfl, bif_f rfl ⟨_, H.cell (rc4 2), bif_i (fun h => ?_) fun h => ?_⟩⟩
  · rw [if_pos h]; exact ⟨rfl, H⟩
  rw [if_neg (by simp [h])]
  have hu := hd.used
  have hr := hd.room
  have hz := sz_le d.fl hn
  have hz2 : sz (d.fl n) = (firm (d.fl n)).length + (soft (d.fl n)).length := rfl
  have hz3 : sumTo (fun i => sz (d.fl i)) 16 = d.used := rfl
  refine H.dr fun w2 H => ⟨by omega, by omega, _, H.cell (rc1 hn), by omega, by omega, _, H.cell (rc2 hn), _, H.cell (rc4 0), ?_⟩
  refine (ref04_Used_spec H (by omega)).mono ?_
  rintro e w3 ⟨v, rfl, rfl, H⟩
  refine ⟨_, rfl, H.cell (rc4 0), H.cell (rc2 hn), H.cell (rc1 hn), ?_⟩
  have e1 : w64 (w64 (w64 ((d.used : Int) - ((firm (d.fl n)).length : Int)) - ((soft (d.fl n)).length : Int)) + (s.length : Int)) = (d.used : Int) - ((firm (d.fl n)).length : Int) - ((soft (d.fl n)).length : Int) + (s.length : Int) := by
    rw [w64_id (n := (d.used : Int) - _) (by omega), w64_id (n := (d.used : Int) - _ - _) (by omega), w64_id (by omega)]
  simp only [bs_size, e1]
  refine bif_i (fun h2 => ?_) fun h2 => ?_
  · have h2 : d.room + sz (d.fl n) < d.used + s.length := by simp at h2; omega
    rw [if_pos h2]; exact ⟨rfl, H⟩
  have h2 : ¬ d.room + sz (d.fl n) < d.used + s.length := by simp at h2; omega
  rw [if_neg h2]
  refine (ref04_step_spec hd H).mono ?_
  rintro e w4 ⟨v, rfl, rfl, H⟩
  have hsf := step_fl d
  refine ⟨_, rfl, bif_i (fun h3 => ?_) fun h3 => ?_⟩
  · have h3 : ¬ d.step.1 = true := by simpa using h3
    rw [if_neg h3]; exact ⟨rfl, H⟩
  have h3 : d.step.1 = true := by simpa using h3
  rw [if_pos h3]
  refine ⟨by omega, by omega, H.st (by rw [rc_len]; simp; omega) rfl fun w5 H => ⟨by omega, by omega, ?_⟩⟩
  rw [rs1 hn] at H
  refine H.st (by rw [rc_len]; simp; omega) rfl fun w6 H => ⟨by omega, by omega, ?_⟩
  rw [bs_nil, rs2 hn] at H
  refine H.st (by rw [rc_len]; simp; omega) rfl fun w7 H => ⟨rfl, ?_⟩
  rw [rs3 hn, rcells_put d.step.2 n (s, [])] at H
  exact H

theorem ref04_New_spec {room : Nat} (h : room ≤ 1048576) (H : Has w0 w r) : Calls Tryz.prog 7 #[.int .i64 (room : Int)] w fun e w' => ∃ v, e = .returned v ∧ ∃ b, v = .tuple #[pv b 0, .int .i64 0] ∧ Has w0 w' (kdA 36 b (Dk.new room) :: r) := by
  refine tontineref04_New.ok _ ?_
  exact bif_f (by simp) (bif_f (by simp; omega) (H.al fun b2 w2 H => ⟨b2, rfl, H⟩))

end
end Go.Proofs.YtbcepafeiocobaaGreat
