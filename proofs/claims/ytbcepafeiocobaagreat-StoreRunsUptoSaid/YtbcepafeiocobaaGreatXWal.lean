/-
  Layers 5 and 8: a disk's log opened, written; snapshots' bytes.
-/
import Derived.Test.YtbcepafeiocobaaGreatXRec
import Derived.Test.YtbcepafeiocobaaGreatXDiskC
set_option maxRecDepth 8000
namespace Go.X
open Go

/-- What opening a log answers: an error, or the records; and what the disk is then. -/
def Dk.start (d : Dk) (n : Nat) : Nat × Dk := if (d.read n).2 = 12 then d.replace n [] else ((d.read n).2, d)
def Dk.opened (d : Dk) (n : Nat) : Nat × List (List UInt8) × Dk :=
  if (d.start n).1 ≠ 0 then ((d.start n).1, [], (d.start n).2)
  else if (scan (d.read n).1).2 < (d.read n).1.length then (((d.start n).2.replace n ((d.read n).1.take (scan (d.read n).1).2)).1, (scan (d.read n).1).1, ((d.start n).2.replace n ((d.read n).1.take (scan (d.read n).1).2)).2)
  else (((d.start n).2.sync n).1, (scan (d.read n).1).1, ((d.start n).2.sync n).2)

theorem Dk.ok.start {d : Dk} (h : d.ok) {n : Nat} (hn : n < 16) : (d.start n).2.ok := by
  unfold Dk.start; split
  · exact h.replace hn _
  · exact h
theorem Dk.ok.opened {d : Dk} (h : d.ok) {n : Nat} (hn : n < 16) : (d.opened n).2.2.ok := by
  unfold Dk.opened; split
  · exact h.start hn
  · split
    · exact (h.start hn).replace hn _
    · exact (h.start hn).sync hn
theorem Dk.ok.read_len {d : Dk} (h : d.ok) {n : Nat} (hn : n < 16) : (d.read n).1.length ≤ 1048576 := by
  unfold Dk.read; split
  · simp
  · split
    · simp
    · have h1 := sz_le d.fl hn
      have h2 : sz (d.fl n) = (firm (d.fl n)).length + (soft (d.fl n)).length := rfl
      have h3 : sumTo (fun i => sz (d.fl i)) 16 = d.used := rfl
      have := h.used; have := h.room
      simp only [List.length_append]; omega

theorem read_none {d : Dk} {n : Nat} (h : (d.read n).2 = 12) : (d.read n).1 = [] := by
  unfold Dk.read at h ⊢
  split
  · rfl
  · split
    · rfl
    · rename_i h1 h2
      rw [if_neg h1, if_neg h2] at h; cases h

end Go.X
namespace Go.Proofs.YtbcepafeiocobaaGreat
open Go.X

section
variable {w0 w : World} {r : List A} {db : Nat} {d : Dk}

/-- A log in memory, its disk elsewhere. -/
def logA (T b db n : Nat) : A := ca b T [pv db 0, .int .i64 (n : Int)]

theorem wal_Open_spec (hd : d.ok) {n : Nat} (hn : n < 16) (H : Has w0 w (pdA 73 db d :: r)) :
    Calls Tryz.prog 21 #[pv db 0, .int .i64 (n : Int)] w fun e w' => ∃ v, e = .returned v ∧
      ((d.opened n).1 = 0 ∧ (∃ b a c, v = .tuple #[pv b 0, .slice a (d.opened n).2.1.length c, .int .i64 0] ∧ Has w0 w' (logA 108 b db n :: ow 9 1 a (d.opened n).2.1.length c (ss (d.opened n).2.1) :: pdA 73 db (d.opened n).2.2 :: r)) ∨
      (d.opened n).1 ≠ 0 ∧ v = .tuple #[.pointer none, .slice none 0 0, .int .i64 ((d.opened n).1 : Int)] ∧ Has w0 w' (pdA 73 db (d.opened n).2.2 :: r)) := by
  refine wal_Open.ok _ _ _ ?_
  refine bif_f (by simp) (bif_f (by simp; omega) ?_)
  refine (disk_Read_spec hd hn H).mono ?_
  rintro e w1 ⟨v, rfl, rfl, H⟩
  have hrl := hd.read_len hn
  refine ⟨_, _, rfl, fun s e w' => s = bs (d.read n).1 ∧ e = ((d.start n).1 : Int) ∧ Has w0 w' (pdA 73 db (d.start n).2 :: r), bif_i (fun h => ?_) fun h => ?_, ?_⟩
  · have h : (d.read n).2 = 12 := by simp at h; omega
    have hs : d.start n = d.replace n [] := by unfold Dk.start; rw [if_pos h]
    refine (disk_Replace_spec hd hn (s := []) (by simp) H).mono ?_
    rintro e w2 ⟨v, rfl, rfl, H⟩
    exact ⟨_, rfl, by rw [read_none h]; rfl, by rw [hs], by rw [hs]; exact H⟩
  · have h : ¬ (d.read n).2 = 12 := by simp at h; omega
    have hs : d.start n = ((d.read n).2, d) := by unfold Dk.start; rw [if_neg h]
    exact ⟨rfl, by rw [hs], by rw [hs]; exact H⟩
  rintro _ s e w2 ⟨rfl, rfl, H⟩
  have hd1 := hd.start hn
  unfold Dk.opened
  refine bif_i (fun h => ?_) fun h => ?_
  · have h : (d.start n).1 ≠ 0 := by simp at h; omega
    rw [if_pos h]
    exact .inr ⟨h, rfl, H⟩
  have h : ¬ (d.start n).1 ≠ 0 := by simp at h; omega
  rw [if_neg h]
  refine (wal_Scan_spec (by omega)).mono ?_
  rintro e w3 ⟨v, rfl, a, c, rfl, H3⟩
  have H := H.frame H3
  refine ⟨_, _, _, _, rfl, bif_i (fun h2 => ?_) fun h2 => ?_⟩
  · have h2 : (scan (d.read n).1).2 < (d.read n).1.length := by simp at h2; omega
    rw [if_pos h2]
    refine ⟨by omega, by simp; omega, ?_⟩
    have e4 : ByteArray.extract (bs (d.read n).1) 0 (((scan (d.read n).1).2 : Int)).toNat = bs ((d.read n).1.take (scan (d.read n).1).2) := by simp
    rw [e4]
    refine (disk_Replace_spec hd1 hn (by simp; omega) H.f1).mono ?_
    rintro e w4 ⟨v, rfl, rfl, H⟩
    refine ⟨_, rfl, bif_i (fun h3 => ?_) fun h3 => ?_⟩
    · exact .inr ⟨by simp at h3; omega, rfl, H.f1.drop⟩
    · refine H.al fun b1 w5 H => .inl ⟨by simp at h3; omega, b1, a, c, rfl, ?_⟩
      exact H.f2.f1
  · have h2 : ¬ (scan (d.read n).1).2 < (d.read n).1.length := by simp at h2; omega
    rw [if_neg h2]
    refine (disk_Sync_spec hd1 hn H.f1).mono ?_
    rintro e w4 ⟨v, rfl, rfl, H⟩
    refine ⟨_, rfl, bif_i (fun h3 => ?_) fun h3 => ?_⟩
    · exact .inr ⟨by simp at h3; omega, rfl, H.f1.drop⟩
    · refine H.al fun b1 w5 H => .inl ⟨by simp at h3; omega, b1, a, c, rfl, ?_⟩
      exact H.f2.f1

theorem ref05_Open_spec (hd : d.ok) {n : Nat} (hn : n < 16) (H : Has w0 w (kdA 36 db d :: r)) :
    Calls Tryz.prog 26 #[pv db 0, .int .i64 (n : Int)] w fun e w' => ∃ v, e = .returned v ∧
      ((d.opened n).1 = 0 ∧ (∃ b a c, v = .tuple #[pv b 0, .slice a (d.opened n).2.1.length c, .int .i64 0] ∧ Has w0 w' (logA 120 b db n :: ow 9 1 a (d.opened n).2.1.length c (ss (d.opened n).2.1) :: kdA 36 db (d.opened n).2.2 :: r)) ∨
      (d.opened n).1 ≠ 0 ∧ v = .tuple #[.pointer none, .slice none 0 0, .int .i64 ((d.opened n).1 : Int)] ∧ Has w0 w' (kdA 36 db (d.opened n).2.2 :: r)) := by
  refine tontineref05_Open.ok _ _ _ ?_
  refine bif_f (by simp) (bif_f (by simp; omega) ?_)
  refine (ref04_Read_spec hd hn H).mono ?_
  rintro e w1 ⟨v, rfl, rfl, H⟩
  have hrl := hd.read_len hn
  refine ⟨_, _, rfl, fun e w' => e = ((d.start n).1 : Int) ∧ Has w0 w' (kdA 36 db (d.start n).2 :: r), bif_i (fun h => ?_) fun h => ?_, ?_⟩
  · have h : (d.read n).2 = 12 := by simp at h; omega
    have hs : d.start n = d.replace n [] := by unfold Dk.start; rw [if_pos h]
    refine (ref04_Replace_spec hd hn (s := []) (by simp) H).mono ?_
    rintro e w2 ⟨v, rfl, rfl, H⟩
    exact ⟨_, rfl, by rw [hs], by rw [hs]; exact H⟩
  · have h : ¬ (d.read n).2 = 12 := by simp at h; omega
    have hs : d.start n = ((d.read n).2, d) := by unfold Dk.start; rw [if_neg h]
    exact ⟨by rw [hs], by rw [hs]; exact H⟩
  rintro _ e w2 ⟨rfl, H⟩
  have hd1 := hd.start hn
  unfold Dk.opened
  refine bif_i (fun h => ?_) fun h => ?_
  · have h : (d.start n).1 ≠ 0 := by simp at h; omega
    rw [if_pos h]
    exact .inr ⟨h, rfl, H⟩
  have h : ¬ (d.start n).1 ≠ 0 := by simp at h; omega
  rw [if_neg h]
  refine (ref05_Scan_spec (by omega)).mono ?_
  rintro e w3 ⟨v, rfl, a, c, rfl, H3⟩
  have H := H.frame H3
  refine ⟨_, _, _, _, rfl, bif_i (fun h2 => ?_) fun h2 => ?_⟩
  · have h2 : (scan (d.read n).1).2 < (d.read n).1.length := by simp at h2; omega
    rw [if_pos h2]
    refine ⟨by omega, by simp; omega, ?_⟩
    have e4 : ByteArray.extract (bs (d.read n).1) 0 (((scan (d.read n).1).2 : Int)).toNat = bs ((d.read n).1.take (scan (d.read n).1).2) := by simp
    rw [e4]
    refine (ref04_Replace_spec hd1 hn (by simp; omega) H.f1).mono ?_
    rintro e w4 ⟨v, rfl, rfl, H⟩
    refine ⟨_, rfl, bif_i (fun h3 => ?_) fun h3 => ?_⟩
    · exact .inr ⟨by simp at h3; omega, rfl, H.f1.drop⟩
    · refine H.al fun b1 w5 H => .inl ⟨by simp at h3; omega, b1, a, c, rfl, ?_⟩
      exact H.f2.f1
  · have h2 : ¬ (scan (d.read n).1).2 < (d.read n).1.length := by simp at h2; omega
    rw [if_neg h2]
    refine (ref04_Sync_spec hd1 hn H.f1).mono ?_
    rintro e w4 ⟨v, rfl, rfl, H⟩
    refine ⟨_, rfl, bif_i (fun h3 => ?_) fun h3 => ?_⟩
    · exact .inr ⟨by simp at h3; omega, rfl, H.f1.drop⟩
    · refine H.al fun b1 w5 H => .inl ⟨by simp at h3; omega, b1, a, c, rfl, ?_⟩
      exact H.f2.f1

end
end Go.Proofs.YtbcepafeiocobaaGreat
