/-
  Layers 5 and 8: what a log writes.
-/
import Derived.Test.YtbcepafeiocobaaGreatXRefOpen
set_option maxRecDepth 8000
namespace Go.X
open Go

def frames (l : List (List UInt8)) : List UInt8 := l.flatMap frame
def long (l : List (List UInt8)) : Bool := l.any fun x => decide (65536 < x.length)
def Dk.wappend (d : Dk) (n : Nat) (l : List (List UInt8)) : Nat × Dk :=
  if long l then (3, d) else if (d.append n (frames l)).1 ≠ 0 then d.append n (frames l) else (d.append n (frames l)).2.sync n
def Dk.wanew (d : Dk) (n : Nat) (l : List (List UInt8)) : Nat × Dk := if long l then (3, d) else d.replace n (frames l)

theorem Dk.ok.wappend {d : Dk} (h : d.ok) {n : Nat} (hn : n < 16) (l : List (List UInt8)) : (d.wappend n l).2.ok := by
  unfold Dk.wappend; split
  · exact h
  · split
    · exact h.append hn _
    · exact (h.append hn _).sync hn
theorem Dk.ok.wanew {d : Dk} (h : d.ok) {n : Nat} (hn : n < 16) (l : List (List UInt8)) : (d.wanew n l).2.ok := by
  unfold Dk.wanew; split
  · exact h
  · exact h.replace hn _

theorem long_at {l : List (List UInt8)} {k : Nat} (h : k < l.length) (hl : 65536 < (l[k]).length) : long l = true := by
  unfold long
  rw [List.any_eq_true]
  exact ⟨l[k], List.getElem_mem h, by simpa using hl⟩
theorem long_take {l : List (List UInt8)} {k : Nat} (h : k < l.length) : long (l.take (k + 1)) = (long (l.take k) || decide (65536 < (l[k]).length)) := by
  unfold long
  rw [List.take_succ_eq_append_getElem h, List.any_append]; simp

end Go.X
namespace Go.Proofs.YtbcepafeiocobaaGreat
open Go.X

section
variable {w0 w : World} {r : List A} {d : Dk} {db lb n c : Nat} {a : Option Addr} {l : List (List UInt8)}

theorem wal_Append_spec (hd : d.ok) (hn : n < 16) (hl : l.length ≤ 1000000000) (H : Has w0 w (ow 9 1 a l.length c (ss l) :: logA 108 lb db n :: dskB db d :: r)) :
    Calls Tryz.prog 40 #[pv lb 0, .slice a l.length c] w fun e w' => ∃ v, e = .returned v ∧ v = .int .i64 ((d.wappend n l).1 : Int) ∧ Has w0 w' (ow 9 1 a l.length c (ss l) :: logA 108 lb db n :: dskB db (d.wappend n l).2 :: r) := by
  refine wal_Log_Append.ok _ _ _ _ _ ?_
  refine ⟨fun s i w' => ∃ k : Nat, i = (k : Int) ∧ k ≤ l.length ∧ s = bs (frames (l.take k)) ∧ long (l.take k) = false ∧ (frames (l.take k)).length ≤ 131082 * k ∧ Has w0 w' (ow 9 1 a l.length c (ss l) :: logA 108 lb db n :: dskB db d :: r), fun _ i _ => l.length + 1 - i.toNat, ⟨0, rfl, by omega, rfl, rfl, by simp [frames], H⟩, ?_⟩
  clear H
  rintro _ s i w1 ⟨k, rfl, hk, rfl, hlg, hfl, H⟩
  refine bif_i (fun h => ?_) fun h => ?_
  · have h : k < l.length := by simp at h; omega
    obtain ⟨b3, o3, hb3, hc3⟩ := H.vw.at (by simp; omega)
    refine ⟨b3, o3, hb3, by omega, by omega, _, by rw [Int.toNat_natCast, Nat.mul_one]; exact hc3 k (.string (bs l[k])) (by rw [ss_get?, List.getElem?_eq_getElem h]; rfl), bif_i (fun h2 => ?_) fun h2 => ?_⟩
    · have h2 : 65536 < (l[k]).length := by simp at h2; omega
      unfold Dk.wappend
      rw [if_pos (long_at h h2)]
      exact ⟨rfl, H⟩
    · have h2 : ¬ 65536 < (l[k]).length := by simp at h2; omega
      refine (wal_Frame_spec (x := l[k]) (by omega)).mono ?_
      rintro e w2 ⟨v, rfl, rfl, H2⟩
      have hfr := frame_len l[k]
      have e1 : frames (l.take k) ++ frame l[k] = frames (l.take (k + 1)) := by unfold frames; rw [List.take_succ_eq_append_getElem h, List.flatMap_append]; simp
      refine ⟨_, rfl, catD_bs (by omega) ?_⟩
      rw [e1, w64_id (by omega)]
      refine ⟨⟨k + 1, by omega, h, rfl, by rw [long_take h, hlg]; simp [h2], ?_, H.frame H2⟩, by dsimp only; omega⟩
      rw [← e1, List.length_append]; omega
  · have h : k = l.length := by simp at h; omega
    subst h
    rw [List.take_length] at hlg hfl ⊢
    unfold Dk.wappend
    rw [if_neg (by simp [hlg])]
    refine H.dr fun w2 H => ⟨_, _, H.f1.cell rfl, _, H.f1.cell rfl, ?_⟩
    refine (disk_Append_spec hd hn (by omega) H.f2).mono ?_
    rintro e w3 ⟨v, rfl, rfl, H⟩
    refine ⟨_, rfl, bif_i (fun h2 => ?_) fun h2 => ?_⟩
    · have h2 : (d.append n (frames l)).1 ≠ 0 := by simp at h2; omega
      rw [if_pos h2]
      exact ⟨rfl, H.b2⟩
    · have h2 : ¬ (d.append n (frames l)).1 ≠ 0 := by simp at h2; omega
      rw [if_neg h2]
      refine H.dr fun w4 H => ⟨_, _, H.f2.cell rfl, _, H.f2.cell rfl, ?_⟩
      refine (disk_Sync_spec (hd.append hn _) hn H).mono ?_
      rintro e w5 ⟨v, rfl, rfl, H⟩
      exact ⟨_, rfl, rfl, H.b2⟩

theorem wal_Anew_spec (hd : d.ok) (hn : n < 16) (hl : l.length ≤ 1000000000) (H : Has w0 w (ow 9 1 a l.length c (ss l) :: logA 108 lb db n :: dskB db d :: r)) :
    Calls Tryz.prog 32 #[pv lb 0, .slice a l.length c] w fun e w' => ∃ v, e = .returned v ∧ v = .int .i64 ((d.wanew n l).1 : Int) ∧ Has w0 w' (ow 9 1 a l.length c (ss l) :: logA 108 lb db n :: dskB db (d.wanew n l).2 :: r) := by
  refine wal_Log_Anew.ok _ _ _ _ _ ?_
  refine ⟨fun s i w' => ∃ k : Nat, i = (k : Int) ∧ k ≤ l.length ∧ s = bs (frames (l.take k)) ∧ long (l.take k) = false ∧ (frames (l.take k)).length ≤ 131082 * k ∧ Has w0 w' (ow 9 1 a l.length c (ss l) :: logA 108 lb db n :: dskB db d :: r), fun _ i _ => l.length + 1 - i.toNat, ⟨0, rfl, by omega, rfl, rfl, by simp [frames], H⟩, ?_⟩
  clear H
  rintro _ s i w1 ⟨k, rfl, hk, rfl, hlg, hfl, H⟩
  refine bif_i (fun h => ?_) fun h => ?_
  · have h : k < l.length := by simp at h; omega
    obtain ⟨b3, o3, hb3, hc3⟩ := H.vw.at (by simp; omega)
    refine ⟨b3, o3, hb3, by omega, by omega, _, by rw [Int.toNat_natCast, Nat.mul_one]; exact hc3 k (.string (bs l[k])) (by rw [ss_get?, List.getElem?_eq_getElem h]; rfl), bif_i (fun h2 => ?_) fun h2 => ?_⟩
    · have h2 : 65536 < (l[k]).length := by simp at h2; omega
      unfold Dk.wanew
      rw [if_pos (long_at h h2)]
      exact ⟨rfl, H⟩
    · have h2 : ¬ 65536 < (l[k]).length := by simp at h2; omega
      refine (wal_Frame_spec (x := l[k]) (by omega)).mono ?_
      rintro e w2 ⟨v, rfl, rfl, H2⟩
      have hfr := frame_len l[k]
      have e1 : frames (l.take k) ++ frame l[k] = frames (l.take (k + 1)) := by unfold frames; rw [List.take_succ_eq_append_getElem h, List.flatMap_append]; simp
      refine ⟨_, rfl, catD_bs (by omega) ?_⟩
      rw [e1, w64_id (by omega)]
      refine ⟨⟨k + 1, by omega, h, rfl, by rw [long_take h, hlg]; simp [h2], ?_, H.frame H2⟩, by dsimp only; omega⟩
      rw [← e1, List.length_append]; omega
  · have h : k = l.length := by simp at h; omega
    subst h
    rw [List.take_length] at hlg hfl ⊢
    unfold Dk.wanew
    rw [if_neg (by simp [hlg])]
    refine H.dr fun w2 H => ⟨_, _, H.f1.cell rfl, _, H.f1.cell rfl, ?_⟩
    refine (disk_Replace_spec hd hn (by omega) H.f2).mono ?_
    rintro e w3 ⟨v, rfl, rfl, H⟩
    exact ⟨_, rfl, rfl, H.b2⟩

end
end Go.Proofs.YtbcepafeiocobaaGreat
