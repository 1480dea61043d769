/-
  Layers 1 and 5: the program's stuffing and its reference's, both ways: what plain Lean says it is.
-/
import Derived.Test.YtbcepafeiocobaaGreatXSum
set_option maxRecDepth 8000
namespace Go.X
open Go

theorem hasZ_take_succ {l : List UInt8} {k : Nat} (h : k < l.length) : hasZ (l.take (k + 1)) = (hasZ (l.take k) || l[k] == 0) := by
  rw [List.take_succ_eq_append_getElem h, hasZ_append]; simp [hasZ]

theorem zeroAt_cons (c : UInt8) (t : List UInt8) : zeroAt (c :: t) = if c = 0 then 0 else zeroAt t + 1 := by
  by_cases h : c = 0
  · subst h; simp [zeroAt]
  · simp [zeroAt, h]

theorem zeroAt_is : ∀ {l : List UInt8} {k : Nat}, k ≤ l.length → hasZ (l.take k) = false → (k = l.length ∨ l[k]? = some 0) → zeroAt l = k
  | [], k, h, _, _ => by simp at h; subst h; rfl
  | c :: t, 0, _, _, h => by
    rcases h with h | h
    · simp at h
    · simp at h; subst h; simp [zeroAt]
  | c :: t, k + 1, hl, hz, h => by
    rw [List.take_succ_cons] at hz
    simp only [hasZ, List.any_cons, Bool.or_eq_false_iff, beq_eq_false_iff_ne] at hz
    rw [zeroAt_cons, if_neg hz.1, zeroAt_is (k := k) (by simpa using hl) hz.2 (by simpa using h)]

theorem zeroAt_ge : ∀ {l : List UInt8} {k : Nat}, k ≤ l.length → (k ≤ zeroAt l ↔ hasZ (l.take k) = false)
  | [], k, h => by simp at h; subst h; simp [hasZ]
  | c :: t, 0, _ => by simp [hasZ]
  | c :: t, k + 1, hl => by
    rw [zeroAt_cons, List.take_succ_cons]
    by_cases hc : c = 0
    · simp [hc, hasZ]
    · rw [if_neg hc]
      have := zeroAt_ge (l := t) (k := k) (by simpa using hl)
      have e : hasZ (c :: t.take k) = hasZ (t.take k) := by simp [hasZ, hc]
      rw [e, ← this]; omega

theorem enc_long {l : List UInt8} (h : 254 ≤ zeroAt l) : enc l = 255 :: l.take 254 ++ enc (l.drop 254) := by
  have hl := zeroAt_le l
  have hz := (zeroAt_ge (k := 254) (by omega)).1 h
  have h3 : 253 < l.length := by omega
  have e : l = l.take 253 ++ l[253] :: l.drop 254 := by
    rw [← List.drop_eq_getElem_cons h3, List.take_append_drop]
  have hz3 : hasZ (l.take 253) = false ∧ l[253] ≠ 0 := by
    have := hasZ_take_succ h3
    rw [show (253 + 1) = 254 from rfl, hz] at this
    have := this.symm
    simpa using this
  have hl3 : (l.take 253).length = 253 := by simp; omega
  have e4 : l.take 254 = l.take 253 ++ [l[253]] := List.take_succ_eq_append_getElem h3
  have e5 : enc l = encP [] (l.take 253 ++ l[253] :: l.drop 254) := by rw [← e]; rfl
  rw [e5, encP_run _ [] _ hz3.1 (by simp; omega), List.nil_append, encP, if_neg hz3.2, if_pos hl3, e4, enc]
  simp only [List.cons_append, List.append_assoc, List.nil_append]

theorem enc_end {l : List UInt8} (h : zeroAt l = l.length) (hl : l.length ≤ 253) : enc l = UInt8.ofNat (l.length + 1) :: l := by
  have hz := (zeroAt_ge (l := l) (k := l.length) (Nat.le_refl _)).1 (by omega)
  rw [List.take_length] at hz
  have := encP_run l [] [] hz (by simp; omega)
  rw [List.append_nil, List.nil_append] at this
  rw [enc, this, encP]

theorem enc_short {l : List UInt8} (h : zeroAt l < l.length) (hl : zeroAt l ≤ 253) : enc l = UInt8.ofNat (zeroAt l + 1) :: l.take (zeroAt l) ++ enc (l.drop (zeroAt l + 1)) := by
  have hz := (zeroAt_ge (l := l) (k := zeroAt l) (by omega)).1 (Nat.le_refl _)
  have h0 := zeroAt_get h
  have e : l = l.take (zeroAt l) ++ 0 :: l.drop (zeroAt l + 1) := by
    conv => lhs; rw [← List.take_append_drop (zeroAt l) l, List.drop_eq_getElem_cons h, h0]
  have hlen : (l.take (zeroAt l)).length = zeroAt l := by simp; omega
  have e5 : enc l = encP [] (l.take (zeroAt l) ++ 0 :: l.drop (zeroAt l + 1)) := by rw [← e]; rfl
  rw [e5, encP_run _ [] _ hz (by simp; omega), List.nil_append, encP, if_pos rfl, hlen]
  rfl

end Go.X
namespace Go.Proofs.YtbcepafeiocobaaGreat
open Go.X

section
variable {w0 w : World} {r : List A} {a : Option Addr} {c : Nat} {l : List UInt8}

theorem ref01_zero_spec (hv : Vw w a (bc l)) (hl : l.length ≤ 4611686018427387904) :
    Calls Tryz.prog 99 #[.slice a l.length c] w fun e w' => ∃ v, e = .returned v ∧ v = .int .i64 (zeroAt l : Int) ∧ Has w w' [] := by
  refine tontineref01_zero.ok _ _ _ ?_
  refine ⟨fun i w' => Has w w' [] ∧ ∃ k : Nat, k ≤ l.length ∧ i = (k : Int) ∧ hasZ (l.take k) = false, fun i _ => l.length + 1 - i.toNat, ⟨Has.start w, 0, by omega, rfl, rfl⟩, ?_⟩
  rintro _ i w' ⟨H, k, hk, rfl, hz⟩
  refine bif_i (fun h => ?_) fun h => ?_
  · have h : k < l.length := by simp at h; omega
    obtain ⟨b, o, rfl, hc⟩ := (hv.old H).byte h
    refine ⟨b, o, rfl, by omega, by omega, _, by simpa using hc, bif_i (fun h2 => ?_) fun h2 => ?_⟩
    · have h2 : l[k] = 0 := UInt8.toNat_inj.1 (by simp at h2; simpa using h2)
      rw [zeroAt_is hk hz (.inr (by rw [List.getElem?_eq_getElem h, h2]))]
      exact ⟨rfl, H⟩
    · have h2 : ¬ l[k] = 0 := fun e => by rw [e] at h2; simp at h2
      rw [w64_id (by omega)]
      exact ⟨⟨H, k + 1, h, by omega, by rw [hasZ_take_succ h, hz]; simp [h2]⟩, by dsimp only; omega⟩
  · have h : k = l.length := by simp at h; omega
    rw [zeroAt_is hk hz (.inl h), h]
    exact ⟨rfl, H⟩

/-- A slice of bytes that a call made. -/
def rowB (w w' : World) (l : List UInt8) (v : Value) : Prop := ∃ a c, v = .slice a l.length c ∧ Has w w' [ow 5 1 a l.length c (bc l)]

theorem stuff_Encode_spec (hv : Vw w a (bc l)) (hl : l.length ≤ 100000000000) :
    Calls Tryz.prog 86 #[.slice a l.length c] w fun e w' => ∃ v, e = .returned v ∧ rowB w w' (enc l) v := by
  refine stuff_Encode.ok _ _ _ ?_
  have e1 : w64 (w64 ((l.length : Int) + w64 (Int.tdiv (l.length : Int) 254)) + 1) = ((l.length + l.length / 254 + 1 : Nat) : Int) := by
    rw [show Int.tdiv (l.length : Int) 254 = ((l.length / 254 : Nat) : Int) from rfl, w64_id (n := ((l.length / 254 : Nat) : Int)) (by omega), w64_id (n := (l.length : Int) + _) (by omega), w64_id (by omega)]
    omega
  unfold stuff_Encode.m
  simp only [e1]
  refine Has.mkB (n := 1) (e := 5) (by kernel_rfl) (Has.start w) (by omega) (by omega) fun b0 w1 H => ?_
  refine ⟨fun a' n' c' at' i w' => ∃ (k : Nat) (d cur : List UInt8), k ≤ l.length ∧ i = (k : Int) ∧ at' = (d.length : Int) ∧ hasZ cur = false ∧ cur.length ≤ 253 ∧ enc l = d ++ encP cur (l.drop k) ∧ n' = d.length + 1 + cur.length ∧
      d.length + cur.length ≤ 2 * k ∧ Has w w' [ow 5 1 a' n' c' (bc (d ++ 0 :: cur))], fun _ _ _ _ i _ => l.length + 1 - i.toNat, ⟨0, [], [], by omega, rfl, rfl, rfl, by simp, rfl, rfl, by simp, H⟩, ?_⟩
  clear H
  rintro _ a' n' c' at' i w' ⟨k, d, cur, hk, rfl, rfl, hz, hc, he, rfl, hd, H⟩
  refine bif_i (fun h => ?_) fun h => ?_
  · have h : k < l.length := by simp at h; omega
    obtain ⟨b, o, rfl, hcell⟩ := (hv.old H).byte h
    have hb : l[k].toNat < 256 := l[k].toNat_lt
    have hdrop := List.drop_eq_getElem_cons h
    refine ⟨b, o, rfl, by omega, by omega, _, by simpa using hcell, ?_⟩
    refine ⟨fun a2 n2 c2 w2 => ∃ cur2 : List UInt8, cur2 = (if l[k] = 0 then cur else cur ++ [l[k]]) ∧ n2 = d.length + 1 + cur2.length ∧ Has w w2 [ow 5 1 a2 n2 c2 (bc (d ++ 0 :: cur2))], bif_i (fun h2 => ?_) fun h2 => ?_, ?_⟩
    · have h2 : ¬ l[k] = 0 := fun e => by rw [e] at h2; simp at h2
      refine H.al fun b2 w2 H => ?_
      refine Has.app (m := 1) elB H.f1 (H.src (vs := [.int .u8 (l[k].toNat : Int)]) elB rfl rfl) (by omega) (by simp [maxLen]; omega) fun a3 c3 w3 H => ?_
      refine ⟨cur ++ [l[k]], by rw [if_neg h2], by simp; omega, ?_⟩
      have e2 : bc (d ++ 0 :: cur) ++ [.int .u8 (l[k].toNat : Int)] = bc (d ++ 0 :: (cur ++ [l[k]])) := by simp [bc]
      rw [e2] at H
      exact H.f1.drop
    · have h2 : l[k] = 0 := UInt8.toNat_inj.1 (by simp at h2; simpa using h2)
      exact ⟨cur, by rw [if_pos h2], rfl, H⟩
    rintro _ a2 n2 c2 w2 ⟨cur2, hcur, rfl, H⟩
    have hlen : w64 (((d.length + 1 + cur2.length : Nat) : Int) - (d.length : Int)) = ((cur2.length + 1 : Nat) : Int) := by
      have : cur2.length ≤ cur.length + 1 := by rw [hcur]; split <;> simp
      rw [w64_id (by omega)]; omega
    have hsub : cur2.length ≤ 254 := by
      have : cur2.length ≤ cur.length + 1 := by rw [hcur]; split <;> simp
      omega
    have hi : w64 ((k : Int) + 1) = ((k + 1 : Nat) : Int) := by rw [w64_id (by omega)]; omega
    rw [hlen, hi, wu8_id (by omega)]
    have close : ∀ (hen : enc l = d ++ UInt8.ofNat (cur2.length + 1) :: cur2 ++ encP [] (l.drop (k + 1))), ∃ b3 o3 : Nat, a2 = some ⟨b3, o3, none⟩ ∧ (0 : Int) ≤ (d.length : Int) ∧ (d.length : Int) < ((d.length + 1 + cur2.length : Nat) : Int) ∧
        ∀ K : World → Prop, (∀ w3, Has w w3 [ow 5 1 a2 (d.length + 1 + cur2.length) c2 (bc (d ++ UInt8.ofNat (cur2.length + 1) :: cur2))] → K w3) → stD w2 b3 (o3 + ((d.length : Int)).toNat * 1) [.int .u8 ((cur2.length + 1 : Nat) : Int)] K := by
      intro hen
      obtain ⟨b3, hb3, h3, h4⟩ := H.putB (v := cur2.length + 1) (by omega)
      exact ⟨b3, 0, hb3, by omega, by omega, h4⟩
    refine bif_i (fun h2 => ?_) fun h2 => ?_
    · have h2 : l[k] = 0 := UInt8.toNat_inj.1 (by simp at h2; simpa using h2)
      rw [if_pos h2] at hcur
      subst hcur
      rw [hdrop, encP, if_pos h2] at he
      have he : enc l = d ++ UInt8.ofNat (cur2.length + 1) :: cur2 ++ encP [] (l.drop (k + 1)) := by rw [he]; simp
      obtain ⟨b3, o3, hb3, h3, h4, hput⟩ := close he
      refine ⟨b3, o3, hb3, h3, h4, hput _ fun w3 H => ?_⟩
      refine H.al fun b4 w4 H => ?_
      refine Has.app (m := 1) elB H.f1 (H.src (vs := [.int .u8 0]) elB rfl rfl) (by omega) (by simp [maxLen]; omega) fun a5 c5 w5 H => ?_
      refine ⟨⟨k + 1, d ++ UInt8.ofNat (cur2.length + 1) :: cur2, [], h, rfl, by simp; omega, rfl, by simp, he, by simp; omega, by simp; omega, ?_⟩, by dsimp only; omega⟩
      have e2 : bc (d ++ UInt8.ofNat (cur2.length + 1) :: cur2) ++ [.int .u8 0] = bc (d ++ UInt8.ofNat (cur2.length + 1) :: cur2 ++ 0 :: []) := by simp [bc]
      rw [e2] at H
      exact H.f1.drop
    · have h2 : ¬ l[k] = 0 := fun e => by rw [e] at h2; simp at h2
      rw [if_neg h2] at hcur
      subst hcur
      rw [hdrop, encP, if_neg h2] at he
      refine bif_i (fun h3 => ?_) fun h3 => ?_
      · have h3 : cur.length = 253 := by simp at h3; omega
        rw [if_pos h3] at he
        have he : enc l = d ++ UInt8.ofNat ((cur ++ [l[k]]).length + 1) :: (cur ++ [l[k]]) ++ encP [] (l.drop (k + 1)) := by rw [he]; simp [h3]
        obtain ⟨b3, o3, hb3, h3, h4, hput⟩ := close he
        refine ⟨b3, o3, hb3, h3, h4, hput _ fun w3 H => ?_⟩
        refine H.al fun b4 w4 H => ?_
        refine Has.app (m := 1) elB H.f1 (H.src (vs := [.int .u8 0]) elB rfl rfl) (by simp; omega) (by simp [maxLen]; omega) fun a5 c5 w5 H => ?_
        refine ⟨⟨k + 1, d ++ UInt8.ofNat ((cur ++ [l[k]]).length + 1) :: (cur ++ [l[k]]), [], h, rfl, by simp; omega, rfl, by simp, he, by simp; omega, by simp; omega, ?_⟩, by dsimp only; omega⟩
        have e2 : bc (d ++ UInt8.ofNat ((cur ++ [l[k]]).length + 1) :: (cur ++ [l[k]])) ++ [.int .u8 0] = bc (d ++ UInt8.ofNat ((cur ++ [l[k]]).length + 1) :: (cur ++ [l[k]]) ++ 0 :: []) := by simp [bc]
        rw [e2] at H
        exact H.f1.drop
      · have h3 : ¬ cur.length = 253 := fun e => by simp [e] at h3
        rw [if_neg h3] at he
        exact ⟨⟨k + 1, d, cur ++ [l[k]], h, rfl, rfl, by rw [hasZ_append, hz]; simp [hasZ, h2], by simp; omega, he, by simp, by simp; omega, H⟩, by dsimp only; omega⟩
  · have h : k = l.length := by simp at h; omega
    subst h
    rw [List.drop_length, encP] at he
    have hlen : wu8 (w64 (((d.length + 1 + cur.length : Nat) : Int) - (d.length : Int))) = ((cur.length + 1 : Nat) : Int) := by
      rw [w64_id (by omega), wu8_id (by omega)]; omega
    rw [hlen]
    obtain ⟨b3, hb3, h3, h4⟩ := H.putB (v := cur.length + 1) (by omega)
    refine ⟨b3, 0, hb3, by omega, by omega, h4 _ fun w3 H => ?_⟩
    refine ⟨a', c', ?_, ?_⟩
    · rw [he]; simp; omega
    · rw [he]
      have e3 : (d ++ UInt8.ofNat (cur.length + 1) :: cur).length = d.length + 1 + cur.length := by simp; omega
      rw [e3]; exact H

end
end Go.Proofs.YtbcepafeiocobaaGreat
