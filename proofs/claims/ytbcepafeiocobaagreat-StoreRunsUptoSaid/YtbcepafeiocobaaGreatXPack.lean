/-
  Layer 3 (pack) and its reference: readers, writers, numbers and texts as bytes.
-/
import Derived.Test.YtbcepafeiocobaaGreatLPack
import Derived.Test.YtbcepafeiocobaaGreatXRow
namespace Go.X
open Go

/-- What a reader takes for a number: it, and what is left; none: there is none. -/
def rNum : List UInt8 → Option (Nat × List UInt8)
  | [] => none
  | n :: t => if n.toNat ≤ 8 ∧ n.toNat ≤ t.length ∧ ¬ (0 < n.toNat ∧ t.head? = some 0) then some (be (t.take n.toNat), t.drop n.toNat) else none

theorem rNum_cons (n : UInt8) (t : List UInt8) : rNum (n :: t) = if n.toNat ≤ 8 ∧ n.toNat ≤ t.length ∧ ¬ (0 < n.toNat ∧ t.head? = some 0) then some (be (t.take n.toNat), t.drop n.toNat) else none := rfl

/-- A reader's state: what is left, and whether something was wrong. -/
structure Rd where
  l : List UInt8
  bad : Bool

def Rd.fail (_ : Rd) : Rd := ⟨[], true⟩
def Rd.num (s : Rd) : Nat × Rd := match rNum s.l with | some (x, l) => (x, ⟨l, s.bad⟩) | none => (0, s.fail)
def Rd.up (s : Rd) (k : Nat) : Nat × Rd := if s.num.1 ≤ k then s.num else (0, s.num.2.fail)
def Rd.text (s : Rd) (k : Nat) : List UInt8 × Rd := if (s.up k).1 ≤ (s.up k).2.l.length then ((s.up k).2.l.take (s.up k).1, ⟨(s.up k).2.l.drop (s.up k).1, (s.up k).2.bad⟩) else ([], (s.up k).2.fail)
def Rd.done (s : Rd) : Bool := s.l.isEmpty && !s.bad

theorem rNum_len {l l' : List UInt8} {x : Nat} (h : rNum l = some (x, l')) : l'.length ≤ l.length := by
  cases l with
  | nil => simp [rNum] at h
  | cons n t =>
    rw [rNum_cons] at h
    split at h
    · simp only [Option.some.injEq, Prod.mk.injEq] at h
      rw [← h.2]; simp; omega
    · cases h
theorem rNum_lt {l l' : List UInt8} {x : Nat} (h : rNum l = some (x, l')) : x < 18446744073709551616 := by
  cases l with
  | nil => simp [rNum] at h
  | cons n t =>
    rw [rNum_cons] at h
    split at h
    · rename_i hc
      simp only [Option.some.injEq, Prod.mk.injEq] at h
      rw [← h.1]
      have h1 := be_lt (t.take n.toNat)
      have h2 : 256 ^ (t.take n.toNat).length ≤ 256 ^ 8 := Nat.pow_le_pow_right (by omega) (by simp; omega)
      omega
    · cases h
theorem Rd.num_len (s : Rd) : s.num.2.l.length ≤ s.l.length := by
  unfold Rd.num
  split
  · rename_i x l h; exact rNum_len h
  · simp [Rd.fail]
theorem Rd.num_lt (s : Rd) : s.num.1 < 18446744073709551616 := by
  unfold Rd.num
  split
  · rename_i x l h; exact rNum_lt h
  · simp
theorem Rd.up_len (s : Rd) (k : Nat) : (s.up k).2.l.length ≤ s.l.length := by
  unfold Rd.up; split
  · exact s.num_len
  · simp [Rd.fail]
theorem Rd.up_le (s : Rd) (k : Nat) : (s.up k).1 ≤ k := by
  unfold Rd.up; split
  · assumption
  · exact Nat.zero_le _
theorem Rd.text_len (s : Rd) (k : Nat) : (s.text k).2.l.length ≤ s.l.length ∧ (s.text k).1.length ≤ k := by
  have h1 := s.up_len k
  have h2 := s.up_le k
  unfold Rd.text; split
  · simp; omega
  · simp [Rd.fail]

/-- A reader in memory. -/
def rdA (T b : Nat) (s : Rd) : A := ca b T [.string (bs s.l), .bool s.bad]

end Go.X
namespace Go.Proofs.YtbcepafeiocobaaGreat
open Go.X

section
variable {w0 w : World} {r : List A} {b : Nat} {s : Rd}

theorem pack_From_spec (l : List UInt8) (H : Has w0 w r) : Calls Tryz.prog 48 #[.string (bs l)] w fun e w' => ∃ v, e = .returned v ∧ ∃ b, v = pv b 0 ∧ Has w0 w' (rdA 146 b ⟨l, false⟩ :: r) := by
  refine pack_From.ok _ ?_
  exact H.al fun b w' H => ⟨b, rfl, H⟩

theorem pack_Reader_fail_spec (H : Has w0 w (rdA 146 b s :: r)) : Calls Tryz.prog 76 #[pv b 0] w fun e w' => ∃ v, e = .returned v ∧ v = .int .u64 0 ∧ Has w0 w' (rdA 146 b s.fail :: r) := by
  refine pack_Reader_fail.ok _ _ ?_
  refine H.st (by simp) rfl fun w H => ?_
  refine H.st (by simp [wr]) rfl fun w H => ?_
  exact ⟨rfl, H⟩

theorem ref03_Fail_spec (H : Has w0 w (rdA 155 b s :: r)) : Calls Tryz.prog 93 #[pv b 0] w fun e w' => ∃ v, e = .returned v ∧ v = .tuple #[] ∧ Has w0 w' (rdA 155 b s.fail :: r) := by
  refine tontineref03_Reader_Fail.ok _ _ ?_
  refine H.st (by simp) rfl fun w H => ?_
  refine H.st (by simp [wr]) rfl fun w H => ?_
  exact ⟨rfl, H⟩

def hdN : List UInt8 → Int
  | [] => -1
  | c :: _ => (c.toNat : Int)

theorem be_take_succ {l : List UInt8} {i : Nat} (h : i < l.length) : be (l.take (i + 1)) = be (l.take i) * 256 + (l[i]).toNat := by
  rw [List.take_succ_eq_append_getElem h, be_snoc]

theorem be_small {l : List UInt8} {i k : Nat} (h : i ≤ k) (hk : k ≤ 7) : be (l.take i) < 72057594037927936 := by
  have h1 := be_lt (l.take i)
  have h2 : 256 ^ (l.take i).length ≤ 256 ^ 7 := Nat.pow_le_pow_right (by omega) (by simp; omega)
  omega

theorem pack_Reader_Num_spec (H : Has w0 w (rdA 146 b s :: r)) (hl : s.l.length ≤ 4611686018427387904) :
    Calls Tryz.prog 49 #[pv b 0] w fun e w' => ∃ v, e = .returned v ∧ v = .int .u64 (s.num.1 : Int) ∧ Has w0 w' (rdA 146 b s.num.2 :: r) := by
  refine pack_Reader_Num.ok _ _ ?_
  obtain ⟨l, bad⟩ := s
  have bye : rNum l = none → ∀ w, Has w0 w (rdA 146 b ⟨l, bad⟩ :: r) → Calls Tryz.prog 76 #[pv b 0] w fun e w' => ∃ r1 : Int, e = .returned (.int .u64 r1) ∧
      Value.int .u64 r1 = .int .u64 ((Rd.num ⟨l, bad⟩).1 : Int) ∧ Has w0 w' (rdA 146 b (Rd.num ⟨l, bad⟩).2 :: r) := by
    intro h w H
    refine (pack_Reader_fail_spec H).mono ?_
    rintro e w ⟨v, rfl, rfl, H⟩
    have hn : Rd.num ⟨l, bad⟩ = (0, Rd.fail ⟨l, bad⟩) := by unfold Rd.num; simp only [h]
    exact ⟨0, rfl, by rw [hn]; exact ⟨rfl, H⟩⟩
  refine ⟨bs l, H.cell rfl, bif_i (fun h => ?_) fun h => ?_⟩
  · rw [strEq_nil] at h
    refine bye ?_ _ H
    cases l with
    | nil => rfl
    | cons => cases h
  cases l with
  | nil => rw [strEq_nil] at h; cases h
  | cons n t =>
  have hn : n.toNat < 256 := n.toNat_lt
  simp only [List.length_cons] at hl
  refine ⟨_, H.cell rfl, by omega, n, by simp, ?_⟩
  rw [w64_id (n := (n.toNat : Int)) (by omega)]
  refine ⟨fun w => Has w0 w (rdA 146 b ⟨n :: t, bad⟩ :: r) ∧ n.toNat ≤ 8 ∧ n.toNat ≤ t.length ∧ ¬ (0 < n.toNat ∧ t.head? = some 0), bif_i (fun h => ?_) fun h => ?_, ?_⟩
  · refine bye ?_ _ H
    simp at h
    rw [rNum_cons, if_neg (fun hc => by omega)]
  · simp at h
    refine ⟨_, H.cell rfl, ?_⟩
    rw [bs_size, w64_id (by simp; omega)]
    refine bif_i (fun h2 => ?_) fun h2 => ?_
    · refine bye ?_ _ H
      simp at h2
      rw [rNum_cons, if_neg (fun hc => by omega)]
    · simp at h2
      refine bif_i (fun h3 => ?_) fun h3 => ?_
      · simp at h3
        have hp : 0 < n.toNat := by omega
        have ht : 0 < t.length := by omega
        refine ⟨_, H.cell rfl, by omega, t[0], by simp, bif_i (fun h4 => ?_) fun h4 => ?_⟩
        · refine bye ?_ _ H
          rw [rNum_cons, if_neg]
          rintro ⟨_, _, h5⟩
          apply h5
          refine ⟨hp, ?_⟩
          have : t[0] = 0 := UInt8.toNat_inj.1 (by simp at h4; simpa using h4)
          rw [List.head?_eq_getElem?, List.getElem?_eq_getElem ht, this]
        · refine ⟨H, by omega, by omega, ?_⟩
          rintro ⟨_, h5⟩
          rw [List.head?_eq_getElem?, List.getElem?_eq_getElem ht] at h5
          simp only [Option.some.injEq] at h5
          rw [h5] at h4; simp at h4
      · simp at h3
        exact ⟨H, by omega, by omega, by omega⟩
  · rintro _ w ⟨H, h8, hlen, hz⟩
    have hnum : Rd.num ⟨n :: t, bad⟩ = (be (t.take n.toNat), ⟨t.drop n.toNat, bad⟩) := by
      unfold Rd.num; rw [rNum_cons, if_pos ⟨h8, hlen, hz⟩]
    refine ⟨fun x i w => Has w0 w (rdA 146 b ⟨n :: t, bad⟩ :: r) ∧ ∃ k : Nat, k ≤ n.toNat ∧ i = (k + 1 : Nat) ∧ x = (be (t.take k) : Int), fun _ i _ => 9 - i.toNat, ⟨H, 0, by omega, by simp, by simp [be]⟩, ?_⟩
    rintro _ x i w ⟨H, k, hk, rfl, rfl⟩
    refine bif_i (fun h => ?_) fun h => ?_
    · have h : k + 1 ≤ n.toNat := by simp at h; omega
      have hkt : k < t.length := by omega
      refine ⟨_, H.cell rfl, by omega, t[k], by simp, ?_⟩
      have hb := be_small (l := t) (i := k) (k := 7) (by omega) (by omega)
      have hc : (t[k]).toNat < 256 := (t[k]).toNat_lt
      rw [wu64_id (n := ((t[k]).toNat : Int)) (by omega), or_byte (by omega) (by omega) (by omega) (by omega), w64_id (by omega)]
      refine ⟨⟨H, k + 1, h, by omega, ?_⟩, by dsimp only; omega⟩
      rw [be_take_succ hkt]; omega
    · have h : ¬ (k + 1 ≤ n.toNat) := by simp at h; omega
      have hkn : k = n.toNat := by omega
      subst hkn
      have e1 : w64 (n.toNat : Int) = (n.toNat : Int) := w64_id (by omega)
      have e2 : w64 ((n.toNat : Int) + 1) = ((n.toNat + 1 : Nat) : Int) := by rw [w64_id (by omega)]; omega
      refine ⟨_, H.cell rfl, ?_⟩
      simp only [e2]
      refine ⟨by omega, by simp; omega, ?_⟩
      refine H.st (by simp) rfl fun w H => ?_
      rw [hnum]
      refine ⟨rfl, ?_⟩
      have : bs (n :: t) = bs (n :: t) := rfl
      simpa [rdA, wr] using H

theorem ref03_Reader_Num_spec (H : Has w0 w (rdA 155 b s :: r)) (hl : s.l.length ≤ 4611686018427387904) :
    Calls Tryz.prog 83 #[pv b 0] w fun e w' => ∃ v, e = .returned v ∧ v = .int .u64 (s.num.1 : Int) ∧ Has w0 w' (rdA 155 b s.num.2 :: r) := by
  refine tontineref03_Reader_Num.ok _ _ ?_
  obtain ⟨l, bad⟩ := s
  have bye : rNum l = none → ∀ w, Has w0 w (rdA 155 b ⟨l, bad⟩ :: r) → Calls Tryz.prog 93 #[pv b 0] w fun e w' => e = .returned (.tuple #[]) ∧
      Value.int .u64 0 = .int .u64 ((Rd.num ⟨l, bad⟩).1 : Int) ∧ Has w0 w' (rdA 155 b (Rd.num ⟨l, bad⟩).2 :: r) := by
    intro h w H
    refine (ref03_Fail_spec H).mono ?_
    rintro e w ⟨v, rfl, rfl, H⟩
    have hn : Rd.num ⟨l, bad⟩ = (0, Rd.fail ⟨l, bad⟩) := by unfold Rd.num; simp only [h]
    exact ⟨rfl, by rw [hn]; exact ⟨rfl, H⟩⟩
  refine ⟨fun n w => Has w0 w (rdA 155 b ⟨l, bad⟩ :: r) ∧ n = hdN l, ⟨bs l, H.cell rfl, bif_i (fun h => ?_) fun h => ?_⟩, ?_⟩
  · simp at h
    obtain ⟨c, t, rfl⟩ : ∃ c t, l = c :: t := by cases l with
      | nil => simp at h
      | cons c t => exact ⟨c, t, rfl⟩
    refine ⟨_, H.cell rfl, by omega, c, by simp, H, ?_⟩
    have hc : c.toNat < 256 := c.toNat_lt
    exact w64_id (by omega)
  · simp at h
    obtain rfl : l = [] := h
    exact ⟨H, rfl⟩
  rintro _ n1 w ⟨H, rfl⟩
  cases l with
  | nil => exact ⟨fun _ => False, bif_t (by simp [hdN]) (bye rfl _ H), fun _ w h => h.elim⟩
  | cons n t =>
  have hn : n.toNat < 256 := n.toNat_lt
  simp only [List.length_cons] at hl
  rw [show hdN (n :: t) = (n.toNat : Int) from rfl]
  refine ⟨fun w => Has w0 w (rdA 155 b ⟨n :: t, bad⟩ :: r) ∧ n.toNat ≤ 8 ∧ n.toNat ≤ t.length ∧ ¬ (0 < n.toNat ∧ t.head? = some 0), bif_f (by simp) (bif_i (fun h => ?_) fun h => ?_), ?_⟩
  · refine bye ?_ _ H
    simp at h
    rw [rNum_cons, if_neg (fun hc => by omega)]
  · simp at h
    refine ⟨_, H.cell rfl, ?_⟩
    rw [bs_size, w64_id (by omega)]
    refine bif_i (fun h2 => ?_) fun h2 => ?_
    · refine bye ?_ _ H
      simp at h2
      rw [rNum_cons, if_neg (fun hc => by omega)]
    · simp at h2
      refine bif_i (fun h3 => ?_) fun h3 => ?_
      · simp at h3
        have hp : 0 < n.toNat := by omega
        have ht : 0 < t.length := by omega
        refine ⟨_, H.cell rfl, by omega, t[0], by simp, bif_i (fun h4 => ?_) fun h4 => ?_⟩
        · refine bye ?_ _ H
          rw [rNum_cons, if_neg]
          rintro ⟨_, _, h5⟩
          apply h5
          refine ⟨hp, ?_⟩
          have : t[0] = 0 := UInt8.toNat_inj.1 (by simp at h4; simpa using h4)
          rw [List.head?_eq_getElem?, List.getElem?_eq_getElem ht, this]
        · refine ⟨H, by omega, by omega, ?_⟩
          rintro ⟨_, h5⟩
          rw [List.head?_eq_getElem?, List.getElem?_eq_getElem ht] at h5
          simp only [Option.some.injEq] at h5
          rw [h5] at h4; simp at h4
      · simp at h3
        exact ⟨H, by omega, by omega, by omega⟩
  · rintro _ w ⟨H, h8, hlen, hz⟩
    have hnum : Rd.num ⟨n :: t, bad⟩ = (be (t.take n.toNat), ⟨t.drop n.toNat, bad⟩) := by
      unfold Rd.num; rw [rNum_cons, if_pos ⟨h8, hlen, hz⟩]
    refine ⟨fun x i w => Has w0 w (rdA 155 b ⟨n :: t, bad⟩ :: r) ∧ ∃ k : Nat, k ≤ n.toNat ∧ i = (k + 1 : Nat) ∧ x = (be (t.take k) : Int), fun _ i _ => 9 - i.toNat, ⟨H, 0, by omega, by simp, by simp [be]⟩, ?_⟩
    rintro _ x i w ⟨H, k, hk, rfl, rfl⟩
    refine bif_i (fun h => ?_) fun h => ?_
    · have h : k + 1 ≤ n.toNat := by simp at h; omega
      have hkt : k < t.length := by omega
      refine ⟨_, H.cell rfl, by omega, t[k], by simp, ?_⟩
      have hb := be_small (l := t) (i := k) (k := 7) (by omega) (by omega)
      have hc : (t[k]).toNat < 256 := (t[k]).toNat_lt
      rw [wu64_id (n := ((t[k]).toNat : Int)) (by omega), wu64_id (n := 256 * _) (by omega), wu64_id (by omega), w64_id (by omega)]
      refine ⟨⟨H, k + 1, h, by omega, ?_⟩, by dsimp only; omega⟩
      rw [be_take_succ hkt]; omega
    · have h : ¬ (k + 1 ≤ n.toNat) := by simp at h; omega
      have hkn : k = n.toNat := by omega
      subst hkn
      have e2 : w64 ((n.toNat : Int) + 1) = ((n.toNat + 1 : Nat) : Int) := by rw [w64_id (by omega)]; omega
      refine ⟨_, H.cell rfl, ?_⟩
      simp only [e2]
      refine ⟨by omega, by simp; omega, ?_⟩
      refine H.st (by simp) rfl fun w H => ?_
      rw [hnum]
      refine ⟨rfl, ?_⟩
      simpa [rdA, wr] using H

theorem Rd.up_eq (s : Rd) (k : Nat) : s.up k = if s.num.1 ≤ k then s.num else (0, s.num.2.fail) := rfl
theorem Rd.text_eq (s : Rd) (k : Nat) : s.text k = if (s.up k).1 ≤ (s.up k).2.l.length then ((s.up k).2.l.take (s.up k).1, ⟨(s.up k).2.l.drop (s.up k).1, (s.up k).2.bad⟩) else ([], (s.up k).2.fail) := rfl

theorem pack_Reader_Up_spec (H : Has w0 w (rdA 146 b s :: r)) (hl : s.l.length ≤ 4611686018427387904) {k : Nat} (hk : k ≤ 4611686018427387904) :
    Calls Tryz.prog 50 #[pv b 0, .int .i64 (k : Int)] w fun e w' => ∃ v, e = .returned v ∧ v = .int .i64 ((s.up k).1 : Int) ∧ Has w0 w' (rdA 146 b (s.up k).2 :: r) := by
  refine pack_Reader_Up.ok _ _ _ ?_
  refine (pack_Reader_Num_spec H hl).mono ?_
  rintro e w ⟨v, rfl, rfl, H⟩
  have hlt := s.num_lt
  refine ⟨_, rfl, bif_f (by simp) ?_⟩
  rw [wu64_id (by omega)]
  refine bif_i (fun h => ?_) fun h => ?_
  · simp at h
    refine (pack_Reader_fail_spec H).mono ?_
    rintro e w ⟨v, rfl, rfl, H⟩
    rw [Rd.up_eq, if_neg (by omega)]
    exact ⟨0, rfl, rfl, H⟩
  · simp at h
    rw [Rd.up_eq, if_pos (by omega), w64_id (by omega)]
    exact ⟨rfl, H⟩

theorem pack_Reader_Text_spec (H : Has w0 w (rdA 146 b s :: r)) (hl : s.l.length ≤ 4611686018427387904) {k : Nat} (hk : k ≤ 4611686018427387904) :
    Calls Tryz.prog 52 #[pv b 0, .int .i64 (k : Int)] w fun e w' => ∃ v, e = .returned v ∧ v = .string (bs (s.text k).1) ∧ Has w0 w' (rdA 146 b (s.text k).2 :: r) := by
  refine pack_Reader_Text.ok _ _ _ ?_
  refine (pack_Reader_Up_spec H hl hk).mono ?_
  rintro e w ⟨v, rfl, rfl, H⟩
  refine ⟨_, rfl, _, H.cell rfl, ?_⟩
  rw [bs_size]
  refine bif_i (fun h => ?_) fun h => ?_
  · simp at h
    refine (pack_Reader_fail_spec H).mono ?_
    rintro e w ⟨v, rfl, rfl, H⟩
    rw [Rd.text_eq, if_neg (by omega)]
    exact ⟨0, rfl, rfl, H⟩
  · simp at h
    refine ⟨_, H.cell rfl, by omega, by simpa using h, _, H.cell rfl, by omega, by simpa using h, ?_⟩
    refine H.st (by simp) rfl fun w H => ?_
    rw [Rd.text_eq, if_pos (by omega)]
    refine ⟨by simp, ?_⟩
    simpa [rdA, wr] using H

theorem pack_Reader_Left_spec (H : Has w0 w (rdA 146 b s :: r)) :
    Calls Tryz.prog 77 #[pv b 0] w fun e w' => ∃ v, e = .returned v ∧ v = .tuple #[.int .i64 (s.l.length : Int), .bool (!s.bad)] ∧ Has w0 w' (rdA 146 b s :: r) := by
  refine pack_Reader_Left.ok _ _ ?_
  refine H.dr fun w H => ?_
  exact ⟨_, H.cell rfl, _, H.cell rfl, rfl, H⟩

theorem pack_Reader_Done_spec (H : Has w0 w (rdA 146 b s :: r)) :
    Calls Tryz.prog 51 #[pv b 0] w fun e w' => ∃ v, e = .returned v ∧ v = .bool s.done ∧ Has w0 w' (rdA 146 b s :: r) := by
  refine pack_Reader_Done.ok _ _ ?_
  refine (pack_Reader_Left_spec H).mono ?_
  rintro e w ⟨v, rfl, rfl, H⟩
  refine ⟨_, _, rfl, bif_i (fun h => ?_) fun h => ?_⟩
  · simp at h
    exact ⟨by simp [Rd.done, h], H⟩
  · simp at h
    exact ⟨by simp [Rd.done, h], H⟩

theorem ref03_Reader_Up_spec (H : Has w0 w (rdA 155 b s :: r)) (hl : s.l.length ≤ 4611686018427387904) {k : Nat} (hk : k ≤ 4611686018427387904) :
    Calls Tryz.prog 84 #[pv b 0, .int .i64 (k : Int)] w fun e w' => ∃ v, e = .returned v ∧ v = .int .i64 ((s.up k).1 : Int) ∧ Has w0 w' (rdA 155 b (s.up k).2 :: r) := by
  refine tontineref03_Reader_Up.ok _ _ _ ?_
  refine (ref03_Reader_Num_spec H hl).mono ?_
  rintro e w ⟨v, rfl, rfl, H⟩
  have hlt := s.num_lt
  refine ⟨_, rfl, bif_f (by simp) ?_⟩
  rw [wu64_id (by omega)]
  refine bif_i (fun h => ?_) fun h => ?_
  · simp at h
    refine (ref03_Fail_spec H).mono ?_
    rintro e w ⟨v, rfl, rfl, H⟩
    rw [Rd.up_eq, if_neg (by omega)]
    exact ⟨rfl, rfl, H⟩
  · simp at h
    rw [Rd.up_eq, if_pos (by omega), w64_id (by omega)]
    exact ⟨rfl, H⟩

theorem ref03_Reader_Text_spec (H : Has w0 w (rdA 155 b s :: r)) (hl : s.l.length ≤ 4611686018427387904) {k : Nat} (hk : k ≤ 4611686018427387904) :
    Calls Tryz.prog 85 #[pv b 0, .int .i64 (k : Int)] w fun e w' => ∃ v, e = .returned v ∧ v = .string (bs (s.text k).1) ∧ Has w0 w' (rdA 155 b (s.text k).2 :: r) := by
  refine tontineref03_Reader_Text.ok _ _ _ ?_
  refine (ref03_Reader_Up_spec H hl hk).mono ?_
  rintro e w ⟨v, rfl, rfl, H⟩
  refine ⟨_, rfl, _, H.cell rfl, ?_⟩
  rw [bs_size]
  refine bif_i (fun h => ?_) fun h => ?_
  · simp at h
    refine (ref03_Fail_spec H).mono ?_
    rintro e w ⟨v, rfl, rfl, H⟩
    rw [Rd.text_eq, if_neg (by omega)]
    exact ⟨rfl, rfl, H⟩
  · simp at h
    refine ⟨_, H.cell rfl, by omega, by simpa using h, _, H.cell rfl, by omega, by simpa using h, ?_⟩
    refine H.st (by simp) rfl fun w H => ?_
    rw [Rd.text_eq, if_pos (by omega)]
    refine ⟨by simp, ?_⟩
    simpa [rdA, wr] using H

end
end Go.Proofs.YtbcepafeiocobaaGreat
