/-
  Layers 1, 2, 5 and 6: what the program's sums, its stuffing and its frames are, and its reference's: the same.
-/
import Derived.Test.YtbcepafeiocobaaGreatLSum
import Derived.Test.YtbcepafeiocobaaGreatXStuff
import Derived.Test.YtbcepafeiocobaaGreatXBits
import Derived.Test.YtbcepafeiocobaaGreatXView
import Derived.Test.YtbcepafeiocobaaGreatXWrite
set_option maxRecDepth 8000
namespace Go.Proofs.YtbcepafeiocobaaGreat
open Go.X

section
variable {w0 w : World} {r : List A} {a : Option Addr} {c : Nat} {l : List UInt8}

theorem quorum_Sound_spec (H : Has w0 w r) {x : Nat} (hx : x < 18446744073709551616) :
    Calls Tryz.prog 20 #[.int .u64 (x : Int)] w fun e w' => ∃ v, e = .returned v ∧ v = .bool (decide (0 < x ∧ x < 128)) ∧ Has w0 w' r := by
  refine quorum_Sound.ok _ ?_
  refine bif_i (fun h => ?_) fun h => ?_
  · simp at h
    refine ⟨?_, H⟩
    rw [and_high x hx]
    have : 0 < x := by omega
    simp [this]
  · simp at h
    subst h
    exact ⟨by simp, H⟩

theorem ref06_Sound_spec (H : Has w0 w r) {x : Nat} :
    Calls Tryz.prog 25 #[.int .u64 (x : Int)] w fun e w' => ∃ v, e = .returned v ∧ v = .bool (decide (0 < x ∧ x < 128)) ∧ Has w0 w' r := by
  refine tontineref06_Sound.ok _ ?_
  refine bif_i (fun h => ?_) fun h => ?_
  · simp at h
    refine ⟨?_, H⟩
    have e : decide ((x : Int) < 128) = decide (x < 128) := by simp; omega
    rw [e]; simp [h]
  · simp at h
    subst h
    exact ⟨by simp, H⟩

theorem crc_Add_spec {s : Nat} (hs : s < 4294967296) (hv : Vw w a (bc l)) (hl : l.length ≤ 4611686018427387904) :
    Calls Tryz.prog 90 #[.int .u32 (s : Int), .slice a l.length c] w fun e w' => ∃ v, e = .returned v ∧ v = .int .u32 (crcA s l : Int) ∧ Has w w' [] := by
  refine crc_Add.ok _ _ _ _ ?_
  refine ⟨fun x i w' => Has w w' [] ∧ ∃ k : Nat, k ≤ l.length ∧ i = (k : Int) ∧ x = (crcL (4294967295 - s) (l.take k) : Int), fun _ i _ => l.length + 1 - i.toNat, ⟨Has.start w, 0, by omega, rfl, ?_⟩, ?_⟩
  · rw [not32 hs]; rfl
  rintro _ x i w' ⟨H, k, hk, rfl, rfl⟩
  have hlt := crcL_lt (l.take k) (x := 4294967295 - s) (by omega)
  refine bif_i (fun h => ?_) fun h => ?_
  · have h : k < l.length := by simp at h; omega
    obtain ⟨b, o, rfl, hc⟩ := (hv.old H).byte h
    have hb : (l[k]).toNat < 256 := (l[k]).toNat_lt
    refine ⟨b, o, rfl, by omega, by omega, _, by simpa using hc, ?_⟩
    rw [wu32_id (by omega), xor32 hlt (by omega)]
    refine ⟨fun x i w' => Has w w' [] ∧ ∃ m : Nat, m ≤ 8 ∧ i = (m : Int) ∧ x = ((Nat.repeat half m (crcL (4294967295 - s) (l.take k) ^^^ l[k].toNat) : Nat) : Int), fun _ i _ => 9 - i.toNat, ⟨H, 0, by omega, rfl, rfl⟩, ?_⟩
    rintro _ x i w' ⟨H, m, hm, rfl, rfl⟩
    have hlt2 := rep_lt (xor_lt hlt (by omega : l[k].toNat < 4294967296)) m
    refine bif_i (fun h2 => ?_) fun h2 => ?_
    · have h2 : m < 8 := by simp at h2; omega
      rw [half_step hlt2, w64_id (by omega)]
      exact ⟨⟨H, m + 1, by omega, by omega, rfl⟩, by dsimp only; omega⟩
    · have h2 : m = 8 := by simp at h2; omega
      subst h2
      rw [w64_id (by omega)]
      refine ⟨⟨H, k + 1, h, by omega, ?_⟩, by dsimp only; omega⟩
      rw [List.take_succ_eq_append_getElem h, crcL_snoc]; rfl
  · have h : k = l.length := by simp at h; omega
    subst h
    rw [not32 hlt, List.take_length]
    exact ⟨rfl, H⟩

theorem crc_Sum_spec (hv : Vw w a (bc l)) (hl : l.length ≤ 4611686018427387904) :
    Calls Tryz.prog 75 #[.slice a l.length c] w fun e w' => ∃ v, e = .returned v ∧ v = .int .u32 (crcA 0 l : Int) ∧ Has w w' [] := by
  refine crc_Sum.ok _ _ _ ?_
  refine (crc_Add_spec (s := 0) (by omega) hv hl).mono ?_
  rintro e w' ⟨v, rfl, rfl, H⟩
  exact ⟨_, rfl, rfl, H⟩

theorem ref02_half_spec {w1 : World} (H : Has w w1 []) {x : Nat} (hx : x < 4294967296) :
    Calls Tryz.prog 98 #[.int .u32 (x : Int)] w1 fun e w' => ∃ v, e = .returned v ∧ v = .int .u32 (half x : Int) ∧ Has w w' [] := by
  refine tontineref02_half.ok _ ?_
  have e1 : wu32 (Int.tdiv (x : Int) 2) = ((x / 2 : Nat) : Int) := by
    rw [show Int.tdiv (x : Int) 2 = ((x / 2 : Nat) : Int) from rfl, wu32_id (by omega)]
  have e2 : Int.tmod (x : Int) 2 = ((x % 2 : Nat) : Int) := rfl
  unfold tontineref02_half.m half
  rw [e1, e2]
  refine bif_i (fun h => ?_) fun h => ?_
  · simp at h
    have h : x % 2 = 1 := by omega
    have e3 := xor32 (a := x / 2) (b := 2197175160) (by omega) (by omega)
    rw [if_pos h]
    exact ⟨congrArg (Value.int .u32) e3, H⟩
  · simp at h
    rw [if_neg (by omega)]
    exact ⟨rfl, H⟩

theorem ref02_Add_spec {s : Nat} (hs : s < 4294967296) (hv : Vw w a (bc l)) (hl : l.length ≤ 4611686018427387904) :
    Calls Tryz.prog 95 #[.int .u32 (s : Int), .slice a l.length c] w fun e w' => ∃ v, e = .returned v ∧ v = .int .u32 (crcA s l : Int) ∧ Has w w' [] := by
  refine tontineref02_Add.ok _ _ _ _ ?_
  refine ⟨fun x i w' => Has w w' [] ∧ ∃ k : Nat, k ≤ l.length ∧ i = (k : Int) ∧ x = (crcL (4294967295 - s) (l.take k) : Int), fun _ i _ => l.length + 1 - i.toNat, ⟨Has.start w, 0, by omega, rfl, ?_⟩, ?_⟩
  · rw [wu32_id (by omega)]
    show (4294967295 - (s : Int)) = ((4294967295 - s : Nat) : Int)
    omega
  rintro _ x i w' ⟨H, k, hk, rfl, rfl⟩
  have hlt := crcL_lt (l.take k) (x := 4294967295 - s) (by omega)
  refine bif_i (fun h => ?_) fun h => ?_
  · have h : k < l.length := by simp at h; omega
    obtain ⟨b, o, rfl, hc⟩ := (hv.old H).byte h
    have hb : (l[k]).toNat < 256 := (l[k]).toNat_lt
    refine ⟨b, o, rfl, by omega, by omega, _, by simpa using hc, ?_⟩
    rw [wu32_id (by omega), xor32 hlt (by omega)]
    refine ⟨fun x i w' => Has w w' [] ∧ ∃ m : Nat, m ≤ 8 ∧ i = (m : Int) ∧ x = ((Nat.repeat half m (crcL (4294967295 - s) (l.take k) ^^^ l[k].toNat) : Nat) : Int), fun _ i _ => 9 - i.toNat, ⟨H, 0, by omega, rfl, rfl⟩, ?_⟩
    rintro _ x i w' ⟨H, m, hm, rfl, rfl⟩
    have hlt2 := rep_lt (xor_lt hlt (by omega : l[k].toNat < 4294967296)) m
    refine bif_i (fun h2 => ?_) fun h2 => ?_
    · have h2 : m < 8 := by simp at h2; omega
      refine (ref02_half_spec H hlt2).mono ?_
      rintro e w' ⟨v, rfl, rfl, H⟩
      rw [w64_id (by omega)]
      exact ⟨_, rfl, ⟨H, m + 1, by omega, by omega, rfl⟩, by dsimp only; omega⟩
    · have h2 : m = 8 := by simp at h2; omega
      subst h2
      rw [w64_id (by omega)]
      refine ⟨⟨H, k + 1, h, by omega, ?_⟩, by dsimp only; omega⟩
      rw [List.take_succ_eq_append_getElem h, crcL_snoc]; rfl
  · have h : k = l.length := by simp at h; omega
    subst h
    rw [List.take_length] at hlt ⊢
    rw [wu32_id (by omega)]
    refine ⟨?_, H⟩
    unfold crcA
    congr 1; omega

end
end Go.Proofs.YtbcepafeiocobaaGreat
