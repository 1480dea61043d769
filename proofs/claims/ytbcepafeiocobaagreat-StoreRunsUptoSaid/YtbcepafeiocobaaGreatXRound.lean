/-
  Plain laws: what is written is read back.
-/
import Derived.Test.YtbcepafeiocobaaGreatXSave
namespace Go.X
open Go

theorem dig_head : ∀ (x : Nat), 0 < x → ∃ c t, dig x = c :: t ∧ c ≠ 0 := by
  intro x
  induction x using Nat.strongRecOn with
  | _ x ih =>
    intro hx
    rw [dig_pos (by omega)]
    by_cases h : x / 256 = 0
    · rw [h, dig_zero]
      refine ⟨UInt8.ofNat (x % 256), [], rfl, fun e => ?_⟩
      have := congrArg UInt8.toNat e
      rw [ofNat_toNat (by omega)] at this
      simp at this; omega
    · obtain ⟨c, t, h1, h2⟩ := ih (x / 256) (by omega) (by omega)
      exact ⟨c, t ++ [UInt8.ofNat (x % 256)], by rw [h1]; rfl, h2⟩

theorem rNum_wNum {x : Nat} (h : x < 18446744073709551616) (t : List UInt8) : rNum (wNum x ++ t) = some (x, t) := by
  have h8 := dig_len8 h
  unfold wNum
  rw [List.cons_append, rNum_cons, ofNat_toNat (by omega), if_pos]
  · rw [List.take_left, List.drop_left, be_dig]
  · refine ⟨h8, by simp, ?_⟩
    rintro ⟨h0, h1⟩
    have hx : 0 < x := by
      rcases Nat.eq_zero_or_pos x with e | e
      · subst e; rw [dig_zero] at h0; simp at h0
      · exact e
    obtain ⟨c, q, h2, h3⟩ := dig_head x hx
    rw [h2] at h1
    simp at h1
    exact h3 h1

theorem num_w {x : Nat} (h : x < 18446744073709551616) (t : List UInt8) (b : Bool) : Rd.num ⟨wNum x ++ t, b⟩ = (x, ⟨t, b⟩) := by
  unfold Rd.num
  dsimp only
  rw [rNum_wNum h]

theorem up_w {x k : Nat} (h : x ≤ k) (hk : k < 18446744073709551616) (t : List UInt8) (b : Bool) : Rd.up ⟨wNum x ++ t, b⟩ k = (x, ⟨t, b⟩) := by
  unfold Rd.up
  rw [num_w (by omega)]
  exact if_pos h

theorem text_w {s : List UInt8} {k : Nat} (h : s.length ≤ k) (hk : k < 18446744073709551616) (t : List UInt8) (b : Bool) : Rd.text ⟨wText s ++ t, b⟩ k = (s, ⟨t, b⟩) := by
  unfold wText
  unfold Rd.text
  rw [List.append_assoc, up_w h hk]
  simp

theorem done0 : Rd.done ⟨[], false⟩ = true := rfl

theorem u64_of {i : Int} (h : 0 ≤ i) (h2 : i < 18446744073709551616) : u64 i = i.toNat := by unfold u64; omega

theorem take_hard {s : St} {t : Nat} (ht : t < 18446744073709551616) {v : Int} (hv : -1 ≤ v ∧ v ≤ 6) : take s (hardB t v) = some { s with term := t, vote := v } := by
  have h1 : Rd.num ⟨hardB t v, false⟩ = (1, ⟨wNum t ++ wNum (u64 (v + 1)), false⟩) := by
    unfold hardB; rw [List.append_assoc, num_w (by omega)]
  have h2 : Rd.num ⟨wNum t ++ wNum (u64 (v + 1)), false⟩ = (t, ⟨wNum (u64 (v + 1)), false⟩) := num_w ht _ _
  have h3 : Rd.up ⟨wNum (u64 (v + 1)), false⟩ 7 = (u64 (v + 1), ⟨[], false⟩) := by
    have := up_w (x := u64 (v + 1)) (k := 7) (by rw [u64_of (by omega) (by omega)]; omega) (by omega) [] false
    rw [List.append_nil] at this; exact this
  unfold take
  rw [h1]; dsimp only
  rw [if_pos rfl, h2]; dsimp only
  rw [h3]; dsimp only
  have e : ((u64 (v + 1) : Nat) : Int) - 1 = v := by rw [u64_of (by omega) (by omega)]; omega
  rw [if_pos done0, e]

theorem take_ent {s : St} {e : Ent} (he : e.ok) (hk : 0 ≤ e.kind ∧ e.kind ≤ 2) (hd : e.data.length ≤ 65536) : take s (entB e) = some { s with l := s.l ++ [e] } := by
  have h1 : Rd.num ⟨entB e, false⟩ = (2, ⟨wNum e.term ++ (wNum e.index ++ (wNum (u64 e.kind) ++ wText e.data)), false⟩) := by
    unfold entB; rw [List.append_assoc, List.append_assoc, List.append_assoc, num_w (by omega)]
  have h2 := num_w he.term (wNum e.index ++ (wNum (u64 e.kind) ++ wText e.data)) false
  have h3 := num_w he.index (wNum (u64 e.kind) ++ wText e.data) false
  have h4 : Rd.up ⟨wNum (u64 e.kind) ++ wText e.data, false⟩ 2 = (u64 e.kind, ⟨wText e.data, false⟩) := up_w (by rw [u64_of (by omega) (by omega)]; omega) (by omega) _ _
  have h5 : Rd.text ⟨wText e.data, false⟩ 65536 = (e.data, ⟨[], false⟩) := by
    have := text_w hd (by omega) [] false
    rw [List.append_nil] at this; exact this
  unfold take
  rw [h1]; dsimp only
  rw [if_neg (by omega), if_pos rfl, h2]; dsimp only
  rw [h3]; dsimp only
  rw [h4]; dsimp only
  rw [h5]; dsimp only
  have ek : ((u64 e.kind : Nat) : Int) = e.kind := by rw [u64_of (by omega) (by omega)]; omega
  rw [if_pos done0, ek]

theorem take_cut {s : St} {i : Nat} (hi : i < 18446744073709551616) : take s (cutB i) = some { s with l := s.l.takeWhile fun e => decide (e.index < i) } := by
  have h1 : Rd.num ⟨cutB i, false⟩ = (3, ⟨wNum i, false⟩) := by unfold cutB; rw [num_w (by omega)]
  have h2 : Rd.num ⟨wNum i, false⟩ = (i, ⟨[], false⟩) := by have := num_w hi [] false; rw [List.append_nil] at this; exact this
  unfold take
  rw [h1]; dsimp only
  rw [if_neg (by omega), if_neg (by omega), if_pos rfl, h2]; dsimp only
  rw [if_pos done0]

theorem take_snap {s : St} {p : Snp} (hp : p.ok) (hd : p.data.length ≤ 65536) : take s (snapB p) = some { s with snap := p, l := [] } := by
  have h1 : Rd.num ⟨snapB p, false⟩ = (4, ⟨wNum p.index ++ (wNum p.term ++ (wNum p.config ++ wText p.data)), false⟩) := by
    unfold snapB; rw [List.append_assoc, List.append_assoc, List.append_assoc, num_w (by omega)]
  have h2 := num_w hp.index (wNum p.term ++ (wNum p.config ++ wText p.data)) false
  have h3 := num_w hp.term (wNum p.config ++ wText p.data) false
  have h4 := num_w hp.config (wText p.data) false
  have h5 : Rd.text ⟨wText p.data, false⟩ 65536 = (p.data, ⟨[], false⟩) := by
    have := text_w hd (by omega) [] false
    rw [List.append_nil] at this; exact this
  unfold take
  rw [h1]; dsimp only
  rw [if_neg (by omega), if_neg (by omega), if_neg (by omega), if_pos rfl, h2]; dsimp only
  rw [h3]; dsimp only
  rw [h4]; dsimp only
  rw [h5]; dsimp only
  rw [if_pos done0]

theorem hasZ_encP : ∀ (l cur : List UInt8), hasZ cur = false → cur.length ≤ 253 → hasZ (encP cur l) = false
  | [], cur, hz, hl => by
    rw [encP]
    simp only [hasZ, List.any_cons, Bool.or_eq_false_iff, beq_eq_false_iff_ne] at hz ⊢
    refine ⟨fun e => ?_, hz⟩
    have := congrArg UInt8.toNat e
    rw [ofNat_toNat (by omega)] at this; simp at this
  | c :: t, cur, hz, hl => by
    rw [encP]
    have hh : UInt8.ofNat (cur.length + 1) ≠ 0 := fun e => by
      have := congrArg UInt8.toNat e
      rw [ofNat_toNat (by omega)] at this; simp at this
    have h0 := hasZ_encP t [] rfl (by simp)
    split
    · rw [List.cons_append]
      show (UInt8.ofNat (cur.length + 1) == 0 || hasZ (cur ++ encP [] t)) = false
      rw [hasZ_append, hz, h0]; simp only [Bool.or_false, beq_eq_false_iff_ne]; exact hh
    · rename_i hc
      split
      · have e : (255 :: cur ++ c :: encP [] t : List UInt8) = [255] ++ (cur ++ ([c] ++ encP [] t)) := by simp
        rw [e, hasZ_append, hasZ_append, hasZ_append, hz, h0]
        simp [hasZ, hc]
      · exact hasZ_encP t (cur ++ [c]) (by rw [hasZ_append, hz]; simp [hasZ, hc]) (by simp; omega)

theorem zeroAt_frame (x t : List UInt8) : zeroAt (frame x ++ t) = (enc (summed x)).length := by
  unfold frame
  rw [List.append_assoc]
  refine zeroAt_is (by simp) ?_ (.inr ?_)
  · rw [List.take_left]; exact hasZ_encP _ [] rfl (by simp)
  · rw [List.getElem?_append_right (Nat.le_refl _)]; simp

theorem recOf_summed {x : List UInt8} (h : x.length ≤ 65536) : recOf (summed x) = some x := by
  have hl : (summed x).length = x.length + 4 := by simp [summed, be4]
  unfold recOf
  rw [if_neg (by omega), hl, Nat.add_sub_cancel]
  have e1 : (summed x).take x.length = x := by unfold summed; rw [List.take_left]
  have e2 : (summed x).drop x.length = be4 (crcA 0 x) := by unfold summed; rw [List.drop_left]
  rw [e1, e2, be_be4 (crcA_lt _ _), if_pos rfl]

theorem first_frame {x : List UInt8} (h : x.length ≤ 65536) (t : List UInt8) : first (frame x ++ t) = some (x, (frame x).length) := by
  unfold first
  rw [zeroAt_frame]
  have hl : (frame x).length = (enc (summed x)).length + 1 := by simp [frame]
  rw [if_neg (by rw [List.length_append, hl]; omega)]
  have e : (frame x ++ t).take (enc (summed x)).length = enc (summed x) := by unfold frame; rw [List.append_assoc, List.take_left]
  rw [e, dec_enc, Option.bind_some, recOf_summed h, hl]; rfl

theorem scan_frames : ∀ (l : List (List UInt8)), long l = false → ∀ t, scan (frames l ++ t) = (l ++ (scan t).1, (frames l).length + (scan t).2)
  | [], _, t => by simp [frames]
  | x :: l, h, t => by
    have h1 : x.length ≤ 65536 ∧ long l = false := by
      unfold long at h ⊢
      simp only [List.any_cons, Bool.or_eq_false_iff, decide_eq_false_iff_not] at h
      exact ⟨by omega, h.2⟩
    have e : frames (x :: l) ++ t = frame x ++ (frames l ++ t) := by simp [frames]
    rw [e, scan_some (first_frame h1.1 _), List.drop_left, scan_frames l h1.2 t]
    simp [frames]; omega

theorem scan_nil : scan [] = ([], 0) := scan_none (by unfold first; rfl)

end Go.X
