/-
  Layer 3 (pack) and its reference: writers.
-/
import Derived.Test.YtbcepafeiocobaaGreatXPack
namespace Go.X
open Go

theorem shr_nat (x : Nat) (y : Int) : shrV .u64 (x : Int) y = ((x / 2 ^ (min y.toNat 64) : Nat) : Int) := by
  unfold shrV
  have : IntKind.u64.bits = 64 := rfl
  rw [this, Int.fdiv_eq_ediv_of_nonneg _ (by exact Int.le_of_lt (Int.pow_pos (by omega)))]
  simp [Int.natCast_pow]

theorem wu8_nat (x : Nat) : wu8 (x : Int) = ((x % 256 : Nat) : Int) := by rw [wu8_mod]; omega

theorem dig_get : ∀ (x i : Nat), i < (dig x).length → (dig x)[i]? = some (UInt8.ofNat (x / 256 ^ ((dig x).length - 1 - i) % 256)) := by
  intro x
  induction x using Nat.strongRecOn with
  | _ x ih =>
    intro i hi
    by_cases h : x = 0
    · subst h; simp [dig_zero] at hi
    · rw [dig_pos h] at hi ⊢
      simp only [List.length_append, List.length_singleton] at hi ⊢
      by_cases hl : i < (dig (x / 256)).length
      · rw [List.getElem?_append_left hl, ih (x / 256) (by omega) i hl]
        have : (dig (x / 256)).length + 1 - 1 - i = ((dig (x / 256)).length - 1 - i) + 1 := by omega
        rw [this, Nat.pow_succ, Nat.mul_comm, ← Nat.div_div_eq_div_mul]
      · have : i = (dig (x / 256)).length := by omega
        subst this
        simp

theorem dig_len8 {x : Nat} (h : x < 18446744073709551616) : (dig x).length ≤ 8 := dig_len 8 x (by simpa using h)

theorem dig_div {x : Nat} (h : 0 < x) : (dig x).length = (dig (x / 256)).length + 1 := by rw [dig_pos (by omega)]; simp
theorem dig_nil {x : Nat} (h : (dig x).length = 0) : x = 0 := by
  by_cases h0 : x = 0
  · exact h0
  · rw [dig_pos h0] at h; simp at h

theorem wNum_len {x : Nat} (h : x < 18446744073709551616) : (wNum x).length ≤ 9 := by have := dig_len8 h; simp [wNum]; omega

/-- A text with its length. -/
def wText (l : List UInt8) : List UInt8 := wNum l.length ++ l

/-- A writer in memory. -/
def wtA (T e b : Nat) (l : List UInt8) : A := ex fun p : Option Addr × Nat => star (ca b T [.slice p.1 l.length p.2]) (ow e 1 p.1 l.length p.2 (bc l))

theorem Has.wt {w0 w : World} {r : List A} {T e b : Nat} {l : List UInt8} (H : Has w0 w (wtA T e b l :: r)) : ∃ a c, Has w0 w (ca b T [.slice a l.length c] :: ow e 1 a l.length c (bc l) :: r) := by
  obtain ⟨⟨a, c⟩, H⟩ := H.ex
  exact ⟨a, c, H.star⟩
theorem Has.mkwt {w0 w : World} {r : List A} {T e b n : Nat} {l : List UInt8} {a : Option Addr} {c : Nat} (H : Has w0 w (ca b T [.slice a n c] :: ow e 1 a n c (bc l) :: r)) (hn : n = l.length) : Has w0 w (wtA T e b l :: r) := by
  subst hn
  exact Has.mkex (a, c) H.unstar

end Go.X
set_option maxRecDepth 8000
namespace Go.Proofs.YtbcepafeiocobaaGreat
open Go.X

theorem elB : El Tryz.prog 125 5 1 1 := El.of (by kernel_rfl)

section
variable {w0 w : World} {r : List A} {b : Nat} {l : List UInt8}

theorem pack_Writer_Num_spec (H : Has w0 w (wtA 127 5 b l :: r)) {x : Nat} (hx : x < 18446744073709551616) (hl : l.length ≤ 100000000000000) :
    Calls Tryz.prog 60 #[pv b 0, .int .u64 (x : Int)] w fun e w' => ∃ v, e = .returned v ∧ v = pv b 0 ∧ Has w0 w' (wtA 127 5 b (l ++ wNum x) :: r) := by
  refine pack_Writer_Num.ok _ _ _ ?_
  have h8 := dig_len8 hx
  refine ⟨fun n y w => Has w0 w (wtA 127 5 b l :: r) ∧ ∃ k : Nat, y = (k : Int) ∧ k < 18446744073709551616 ∧ n = ((dig x).length : Int) - ((dig k).length : Int), fun n y _ => y.toNat, ⟨H, x, rfl, hx, by omega⟩, ?_⟩
  rintro _ n y w ⟨H, k, rfl, hk, rfl⟩
  refine bif_i (fun h => ?_) fun h => ?_
  · simp at h
    have hd := dig_div h
    have hd8 := dig_len8 hk
    have e1 : shrV .u64 (k : Int) 8 = ((k / 256 : Nat) : Int) := by rw [shr_nat]; rfl
    rw [e1]
    refine ⟨⟨H, k / 256, rfl, by omega, ?_⟩, by dsimp only; omega⟩
    rw [w64_id (by omega)]; omega
  · have hk0 : k = 0 := by simp at h; omega
    subst hk0
    obtain ⟨a, c, H⟩ := H.wt
    refine ⟨a, l.length, c, H.cell rfl, ?_⟩
    have e1 : wu8 (((dig x).length : Int) - ((dig 0).length : Int)) = ((dig x).length : Int) := by rw [dig_zero]; simp; rw [wu8_id (by omega)]
    simp only [e1]
    refine H.al fun b1 w H => ?_
    refine Has.app (m := 1) elB (H.f2) (H.src (vs := [.int .u8 ((dig x).length : Int)]) elB rfl rfl) (by omega) (by simp [maxLen]; omega) fun a' c' w H => ?_
    refine Has.st (H.f2) (by simp) rfl fun w H => ?_
    have H : Has w0 w (wtA 127 5 b (l ++ [UInt8.ofNat (dig x).length]) :: r) := by
      refine Has.mkwt (a := a') (c := c') (n := l.length + 1) ?_ (by simp)
      have e2 : bc l ++ [.int .u8 ((dig x).length : Int)] = bc (l ++ [UInt8.ofNat (dig x).length]) := by simp [bc]; omega
      rw [← e2]
      exact H.f2.drop
    refine ⟨fun i w => ∃ k : Nat, k ≤ (dig x).length ∧ i = (k : Int) - 1 ∧ Has w0 w (wtA 127 5 b (l ++ UInt8.ofNat (dig x).length :: (dig x).take ((dig x).length - k)) :: r), fun i _ => (i + 1).toNat, ⟨(dig x).length, by omega, ?_, ?_⟩, ?_⟩
    · rw [dig_zero]; simp; rw [w64_id (by omega)]
    · simpa using H
    clear H
    rintro _ i w ⟨k, hk, rfl, H⟩
    refine bif_i (fun h => ?_) fun h => ?_
    · simp at h
      refine H.dr fun w H => ?_
      obtain ⟨a, c, H⟩ := H.wt
      refine ⟨a, _, c, H.cell rfl, ?_⟩
      rw [w64_id (n := 8 * _) (by omega)]
      refine ⟨by omega, ?_⟩
      have e1 : wu8 (shrV .u64 (x : Int) (8 * ((k : Int) - 1))) = ((x / 256 ^ (k - 1) % 256 : Nat) : Int) := by
        rw [shr_nat, wu8_nat]
        have : min (8 * ((k : Int) - 1)).toNat 64 = 8 * (k - 1) := by omega
        rw [this, Nat.pow_mul]
      rw [e1]
      refine H.al fun b2 w H => ⟨H.f1.cell rfl, ?_⟩
      refine Has.app (m := 1) elB (H.f2) (H.src (vs := [.int .u8 ((x / 256 ^ (k - 1) % 256 : Nat) : Int)]) elB rfl rfl) (by simp; omega) (by simp [maxLen]; omega) fun a' c' w H => ?_
      refine Has.st (H.f2) (by simp) rfl fun w H => ?_
      rw [w64_id (by omega)]
      refine ⟨⟨k - 1, by omega, by omega, ?_⟩, by dsimp only; omega⟩
      have hg := dig_get x ((dig x).length - k) (by omega)
      have e2 : (dig x).length - 1 - ((dig x).length - k) = k - 1 := by omega
      rw [e2] at hg
      have e3 : (dig x).length - (k - 1) = (dig x).length - k + 1 := by omega
      have e4 : (dig x).take ((dig x).length - (k - 1)) = (dig x).take ((dig x).length - k) ++ [UInt8.ofNat (x / 256 ^ (k - 1) % 256)] := by
        rw [e3, List.take_add_one, hg]; rfl
      rw [e4]
      refine Has.mkwt (a := a') (c := c') (n := (l ++ UInt8.ofNat (dig x).length :: (dig x).take ((dig x).length - k)).length + 1) ?_ (by simp; omega)
      have e5 : bc (l ++ UInt8.ofNat (dig x).length :: (dig x).take ((dig x).length - k)) ++ [.int .u8 ((x / 256 ^ (k - 1) % 256 : Nat) : Int)] = bc (l ++ UInt8.ofNat (dig x).length :: ((dig x).take ((dig x).length - k) ++ [UInt8.ofNat (x / 256 ^ (k - 1) % 256)])) := by
        simp [bc]
      rw [← e5]
      exact H.f2.drop
    · simp at h
      have : k = 0 := by omega
      subst this
      refine ⟨trivial, ?_⟩
      simpa [wNum] using H

theorem pack_Writer_Text_spec (H : Has w0 w (wtA 127 5 b l :: r)) {s : List UInt8} (hx : s.length ≤ 100000000000) (hl : l.length ≤ 100000000000) :
    Calls Tryz.prog 62 #[pv b 0, .string (bs s)] w fun e w' => ∃ v, e = .returned v ∧ v = pv b 0 ∧ Has w0 w' (wtA 127 5 b (l ++ wText s) :: r) := by
  refine pack_Writer_Text.ok _ _ _ ?_
  unfold pack_Writer_Text.m
  rw [bs_size, wu64_id (by omega)]
  refine (pack_Writer_Num_spec H (x := s.length) (by omega) (by omega)).mono ?_
  rintro e w ⟨v, rfl, rfl, H⟩
  have hn := wNum_len (x := s.length) (by omega)
  refine ⟨_, _, rfl, ?_⟩
  obtain ⟨a, c, H⟩ := H.wt
  refine ⟨a, _, c, H.cell rfl, ?_⟩
  refine Has.app elB H.f1 (Src.ofString w rfl (bs s)) (by simp; omega) (by simp [maxLen]; omega) fun a' c' w H => ?_
  refine Has.st H.f1 (by simp) rfl fun w H => ?_
  refine ⟨rfl, ?_⟩
  refine Has.mkwt (a := a') (c := c') (n := (l ++ wNum s.length).length + s.length) ?_ (by simp [wText]; omega)
  rw [byteCells_bs, bc_append] at H
  simpa [wr, wText] using H

theorem pack_Writer_Bytes_spec (H : Has w0 w (wtA 127 5 b l :: r)) :
    Calls Tryz.prog 61 #[pv b 0] w fun e w' => ∃ v, e = .returned v ∧ v = .string (bs l) ∧ Has w0 w' (wtA 127 5 b l :: r) := by
  refine pack_Writer_Bytes.ok _ _ ?_
  obtain ⟨a, c, H⟩ := H.wt
  exact ⟨a, _, c, H.cell rfl, _, H.f1.b2s rfl rfl rfl, rfl, H.mkwt rfl⟩

theorem ref03_Num_spec (H : Has w0 w r) {x : Nat} (hx : x < 18446744073709551616) :
    Calls Tryz.prog 88 #[.int .u64 (x : Int)] w fun e w' => ∃ v, e = .returned v ∧ v = .string (bs (wNum x)) ∧ Has w0 w' r := by
  refine tontineref03_Num.ok _ ?_
  have h8 := dig_len8 hx
  refine ⟨fun y s n w => Has w0 w r ∧ ∃ (k : Nat) (t : List UInt8), y = (k : Int) ∧ s = bs t ∧ k < 18446744073709551616 ∧ n = (t.length : Int) ∧ dig x = dig k ++ t, fun y _ _ _ => y.toNat, ⟨H, x, [], rfl, rfl, hx, rfl, by simp⟩, ?_⟩
  rintro _ y s n w ⟨H, k, t, rfl, rfl, hk, rfl, ht⟩
  have hlen := congrArg List.length ht
  rw [List.length_append] at hlen
  refine bif_i (fun h => ?_) fun h => ?_
  · simp at h
    have e1 : wu8 (Int.tmod (k : Int) 256) = ((k % 256 : Nat) : Int) := by
      rw [show Int.tmod (k : Int) 256 = ((k % 256 : Nat) : Int) from rfl, wu8_id (by omega)]
    have e2 : wu64 (Int.tdiv (k : Int) 256) = ((k / 256 : Nat) : Int) := by
      rw [show Int.tdiv (k : Int) 256 = ((k / 256 : Nat) : Int) from rfl, wu64_id (by omega)]
    rw [e1, e2]
    refine H.al fun b w H => ?_
    have H' : Has w0 w (ca b 5 (bc [UInt8.ofNat (k % 256)]) :: r) := by simpa [bc, ca] using H
    refine ⟨_, H'.b2sc (n := 1) rfl rfl rfl rfl, catD_bs (by simp; omega) ?_⟩
    rw [w64_id (by omega)]
    refine ⟨⟨H.drop, k / 256, [UInt8.ofNat (k % 256)] ++ t, rfl, rfl, by omega, by simp, ?_⟩, by dsimp only; omega⟩
    rw [ht, dig_pos (by omega)]; simp
  · have hk0 : k = 0 := by simp at h; omega
    subst hk0
    rw [dig_zero, List.nil_append] at ht
    subst ht
    rw [wu8_id (by omega)]
    refine H.al fun b w H => ?_
    have H' : Has w0 w (ca b 5 (bc [UInt8.ofNat (dig x).length]) :: r) := by
      have : (UInt8.ofNat (dig x).length).toNat = (dig x).length := by simp; omega
      simpa [bc, ca, this] using H
    refine ⟨_, H'.b2sc (n := 1) rfl rfl rfl rfl, catD_bs (by simp; omega) ?_⟩
    exact ⟨rfl, H.drop⟩

theorem ref03_Text_spec (H : Has w0 w r) {s : List UInt8} (hx : s.length ≤ 100000000000) :
    Calls Tryz.prog 66 #[.string (bs s)] w fun e w' => ∃ v, e = .returned v ∧ v = .string (bs (wText s)) ∧ Has w0 w' r := by
  refine tontineref03_Text.ok _ ?_
  unfold tontineref03_Text.m
  rw [bs_size, wu64_id (by omega)]
  refine (ref03_Num_spec H (x := s.length) (by omega)).mono ?_
  rintro e w ⟨v, rfl, rfl, H⟩
  have hn := wNum_len (x := s.length) (by omega)
  exact ⟨_, rfl, catD_bs (by omega) ⟨rfl, H⟩⟩

end
end Go.Proofs.YtbcepafeiocobaaGreat
