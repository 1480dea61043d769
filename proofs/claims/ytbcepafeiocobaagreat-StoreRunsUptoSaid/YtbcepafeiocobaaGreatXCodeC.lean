/-
  Layer 5: frames and scans, the program's and the reference's.
-/
import Derived.Test.YtbcepafeiocobaaGreatXCodeB
set_option maxRecDepth 8000
namespace Go.X
open Go

/-- Texts as cells. -/
def ss (l : List (List UInt8)) : List Value := l.map fun s => .string (bs s)
@[simp] theorem ss_length (l : List (List UInt8)) : (ss l).length = l.length := by simp [ss]
theorem ss_snoc (l : List (List UInt8)) (s : List UInt8) : ss l ++ [.string (bs s)] = ss (l ++ [s]) := by simp [ss]
theorem ss_get? (l : List (List UInt8)) (i : Nat) : (ss l)[i]? = l[i]?.map fun s => Value.string (bs s) := by simp [ss]

theorem enc_len : ∀ (l cur : List UInt8), cur.length ≤ 253 → (encP cur l).length ≤ cur.length + 1 + 2 * l.length
  | [], cur, h => by simp [encP]
  | c :: t, cur, h => by
    rw [encP]
    have h0 := enc_len t [] (by simp)
    simp only [List.length_nil, List.length_cons, List.length_append] at h0 ⊢
    split
    · simp only [List.length_cons, List.length_append]; omega
    · split
      · simp only [List.length_cons, List.length_append]; omega
      · have := enc_len t (cur ++ [c]) (by simp; omega)
        simp at this; omega

theorem frame_len (x : List UInt8) : (frame x).length ≤ 2 * x.length + 10 := by
  have := enc_len (summed x) [] (by simp)
  simp [frame, enc, summed, be4] at this ⊢; omega

theorem decP_len : ∀ (k : Nat) (l o : List UInt8), l.length ≤ k → decP l = some o → o.length ≤ l.length
  | 0, l, o, hk, h => by
    obtain rfl : l = [] := List.eq_nil_of_length_eq_zero (by omega)
    rw [decP_nil] at h; cases h
  | k + 1, l, o, hk, h => by
    cases l with
    | nil => rw [decP_nil] at h; cases h
    | cons n t =>
      rw [decP] at h
      split at h
      · cases h
      · split at h
        · split at h
          · cases h
          · cases h; simp; omega
        · simp only [Option.map_eq_some_iff] at h
          obtain ⟨o', ho, rfl⟩ := h
          have h1 := decP_len k _ _ (by simp at hk ⊢; omega) ho
          have h2 : (if n.toNat < 255 then [0] else [] : List UInt8).length ≤ 1 := by split <;> simp
          rename_i hd
          have h3 : 0 < (t.drop (n.toNat - 1)).length := by
            rcases Nat.eq_zero_or_pos (t.drop (n.toNat - 1)).length with h | h
            · exact absurd (List.eq_nil_of_length_eq_zero h) hd
            · exact h
          simp only [List.length_append, List.length_take, List.length_cons, List.length_drop] at *
          omega

theorem plP_len : ∀ (k : Nat) (z : Bool) (l o : List UInt8), l.length ≤ k → plP z l = some o → o.length ≤ (if z = true then 1 else 0) + l.length
  | 0, z, l, o, hk, h => by
    obtain rfl : l = [] := List.eq_nil_of_length_eq_zero (by omega)
    rw [plP_nil] at h; cases h; simp
  | k + 1, z, l, o, hk, h => by
    cases l with
    | nil => rw [plP_nil] at h; cases h; simp
    | cons n t =>
      rw [plP] at h
      split at h
      · cases h
      · rename_i hc
        simp only [Option.map_eq_some_iff] at h
        obtain ⟨o', ho, rfl⟩ := h
        have h1 := plP_len k _ _ _ (by simp at hk ⊢; omega) ho
        have h2 : (if z = true then [0] else [] : List UInt8).length ≤ if z = true then 1 else 0 := by split <;> simp
        have h3 : (if decide (n ≠ 255) = true then 1 else 0) ≤ 1 := by split <;> omega
        have h4 : ¬ t.length + 1 < n.toNat := fun e => hc (.inr (.inl e))
        have h5 : n.toNat ≠ 0 := fun e => hc (.inl (UInt8.toNat_inj.1 (by simpa using e)))
        simp only [List.length_append, List.length_take, List.length_cons, List.length_drop] at *
        omega

end Go.X
namespace Go.Proofs.YtbcepafeiocobaaGreat
open Go.X

theorem elS : El Tryz.prog 76 9 1 16 := El.of (by kernel_rfl)

section
variable {w0 w : World} {r : List A} {a : Option Addr} {c : Nat} {l : List UInt8}

theorem ref01_Decode_spec (hv : Vw w a (bc l)) (hl : l.length ≤ 10000000000) (hc : l.length ≤ c) :
    Calls Tryz.prog 92 #[.slice a l.length c] w fun e w' => ∃ v, e = .returned v ∧ decR w w' (decP l) v := by
  refine tontineref01_Decode.ok _ _ _ ?_
  refine (ref01_plain_spec hv (by omega) hc).mono ?_
  rintro e w1 ⟨v, rfl, hp⟩
  rw [← refDec_eq]
  unfold refDec
  by_cases h0 : l = []
  · rw [if_pos h0] at hp ⊢
    obtain ⟨rfl, H⟩ := hp
    refine ⟨_, _, _, _, rfl, H.dr fun w2 H => bif_t rfl ⟨rfl, H⟩⟩
  · rw [if_neg h0] at hp ⊢
    cases hd : plP false l with
    | none =>
      rw [hd] at hp
      obtain ⟨rfl, H⟩ := hp
      exact ⟨_, _, _, _, rfl, H.dr fun w2 H => bif_t rfl ⟨rfl, H⟩⟩
    | some o =>
      rw [hd] at hp
      obtain ⟨a1, c1, rfl, H⟩ := hp
      have hlen := plP_len _ _ _ _ (Nat.le_refl _) hd
      simp only [Bool.false_eq_true, if_false, Nat.zero_add] at hlen
      refine ⟨_, _, _, _, rfl, H.dr fun w2 H => bif_f rfl ?_⟩
      refine ⟨_, (hv.old H).b2s rfl rfl rfl rfl, ?_⟩
      refine (ref01_Encode_spec H.vw (by omega) H.owLen.2.1).mono ?_
      rintro e w3 ⟨v, rfl, a3, c3, rfl, H3⟩
      have H4 := H.frame H3
      refine ⟨_, _, _, rfl, (hv.old H4).b2s rfl rfl rfl rfl, _, H4.b2s rfl rfl rfl, ?_⟩
      rw [strEq_bs]
      refine bif_i (fun h => ?_) fun h => ?_
      · simp at h
        simp only [if_neg h]
        exact ⟨rfl, H4.drop.drop⟩
      · simp at h
        simp only [if_pos h]
        exact ⟨_, _, rfl, H4.drop⟩

theorem frame_cells (x : List UInt8) : bc x ++ [.int .u8 (wu8 (shrV .u32 (crcA 0 x : Int) 24)), .int .u8 (wu8 (shrV .u32 (crcA 0 x : Int) 16)), .int .u8 (wu8 (shrV .u32 (crcA 0 x : Int) 8)), .int .u8 (wu8 (crcA 0 x : Int))] = bc (summed x) := by
  rw [shr32, shr32, shr32, wu8_nat, wu8_nat, wu8_nat, wu8_nat]
  have e1 : 2 ^ (min (Int.toNat 24) 32) = 16777216 := by decide
  have e2 : 2 ^ (min (Int.toNat 16) 32) = 65536 := by decide
  have e3 : 2 ^ (min (Int.toNat 8) 32) = 256 := by decide
  rw [e1, e2, e3]
  simp [bc, be4, summed]

theorem wal_Frame_spec {x : List UInt8} (hl : x.length ≤ 10000000000) :
    Calls Tryz.prog 63 #[.string (bs x)] w fun e w' => ∃ v, e = .returned v ∧ v = .string (bs (frame x)) ∧ Has w w' [] := by
  refine wal_Frame.ok _ ?_
  refine Has.s2b rfl rfl rfl (Has.start w) (by simp [maxLen]; omega) fun a1 c1 w1 H => ?_
  refine (crc_Sum_spec H.vw (by omega)).mono ?_
  rintro e w2 ⟨v, rfl, rfl, H2⟩
  have H := (H.frame H2).drop
  refine ⟨_, rfl, ?_⟩
  refine Has.s2b rfl rfl rfl H (by simp [maxLen]; omega) fun a3 c3 w3 H => ?_
  refine H.al fun b1 w4 H => ?_
  refine Has.app (m := 4) elB H.f1 (H.src (vs := [_, _, _, _]) elB rfl rfl) (by omega) (by simp [maxLen]; omega) fun a5 c5 w5 H => ?_
  rw [frame_cells] at H
  have hs : x.length + 4 = (summed x).length := by simp [summed, be4]
  rw [hs] at H ⊢
  refine (stuff_Encode_spec H.vw (by omega)).mono ?_
  rintro e w6 ⟨v, rfl, a6, c6, rfl, H6⟩
  have H := H.frame H6
  have hlen := enc_len (summed x) [] (by simp)
  refine ⟨_, _, _, rfl, ?_⟩
  refine H.al fun b2 w7 H => ?_
  refine Has.app (m := 1) elB H.f1 (H.src (vs := [.int .u8 0]) elB rfl rfl) (by simp [enc] at hlen ⊢; omega) (by simp [maxLen, enc] at hlen ⊢; omega) fun a8 c8 w8 H => ?_
  have e2 : bc (enc (summed x)) ++ [.int .u8 0] = bc (frame x) := by simp [bc, frame]
  rw [e2] at H
  exact ⟨_, H.b2s rfl rfl rfl, rfl, H.drop.drop.drop.drop⟩

theorem ref05_Frame_spec {x : List UInt8} (hl : x.length ≤ 10000000000) :
    Calls Tryz.prog 89 #[.string (bs x)] w fun e w' => ∃ v, e = .returned v ∧ v = .string (bs (frame x)) ∧ Has w w' [] := by
  refine tontineref05_Frame.ok _ ?_
  refine Has.s2b rfl rfl rfl (Has.start w) (by simp [maxLen]; omega) fun a1 c1 w1 H => ?_
  refine (ref02_Add_spec (s := 0) (by omega) H.vw (by omega)).mono ?_
  rintro e w2 ⟨v, rfl, rfl, H2⟩
  have H := (H.frame H2).drop
  refine ⟨_, rfl, ?_⟩
  refine Has.s2b rfl rfl rfl H (by simp [maxLen]; omega) fun a3 c3 w3 H => ?_
  refine H.al fun b1 w4 H => ?_
  refine Has.app (m := 4) elB H.f1 (H.src (vs := [_, _, _, _]) elB rfl rfl) (by omega) (by simp [maxLen]; omega) fun a5 c5 w5 H => ?_
  rw [frame_cells] at H
  have hs : x.length + 4 = (summed x).length := by simp [summed, be4]
  rw [hs] at H ⊢
  refine (ref01_Encode_spec H.vw (by omega) H.owLen.2.1).mono ?_
  rintro e w6 ⟨v, rfl, a6, c6, rfl, H6⟩
  have H := H.frame H6
  have hlen := enc_len (summed x) [] (by simp)
  refine ⟨_, _, _, rfl, _, H.b2s rfl rfl rfl, ?_⟩
  have e1 : (⟨#[0]⟩ : ByteArray) = bs [0] := rfl
  rw [e1]
  refine catD_bs (by simp [enc] at hlen ⊢; omega) ⟨rfl, H.drop.drop.drop⟩

end
end Go.Proofs.YtbcepafeiocobaaGreat
