/-
  Layers 1 and 5, more: the reference's stuffing, and decoding, the program's and the reference's.
-/
import Derived.Test.YtbcepafeiocobaaGreatXCode
set_option maxRecDepth 8000
namespace Go.Proofs.YtbcepafeiocobaaGreat
open Go.X

section
variable {w0 w : World} {r : List A} {a : Option Addr} {c : Nat} {l : List UInt8}

theorem ref01_Encode_spec (hv : Vw w a (bc l)) (hl : l.length ≤ 100000000000) (hc : l.length ≤ c) :
    Calls Tryz.prog 96 #[.slice a l.length c] w fun e w' => ∃ v, e = .returned v ∧ rowB w w' (enc l) v := by
  refine tontineref01_Encode.ok _ _ _ ?_
  refine ⟨fun a1 n1 c1 a2 n2 c2 w' => ∃ rem d : List UInt8, n1 = rem.length ∧ rem.length ≤ c1 ∧ Vw w a1 (bc rem) ∧ enc l = d ++ enc rem ∧ n2 = d.length ∧ d.length + 2 * rem.length ≤ 2 * l.length ∧ Has w w' [ow 5 1 a2 n2 c2 (bc d)],
    fun _ n _ _ _ _ _ => n, ⟨l, [], rfl, hc, hv, rfl, rfl, by simp, (Has.start w).mkow0 _ _⟩, ?_⟩
  rintro _ a1 n1 c1 a2 n2 c2 w' ⟨rem, d, rfl, hc1, hv1, he, rfl, hd, H⟩
  have hv2 := hv1.old H
  refine (ref01_zero_spec hv2 (by omega)).mono ?_
  rintro e w1 ⟨v, rfl, rfl, H1⟩
  have hzl := zeroAt_le rem
  have H := H.frame H1
  clear H1 hv2
  refine ⟨_, rfl, bif_i (fun h => ?_) fun h => ?_⟩
  · have h : 254 ≤ zeroAt rem := by simp at h; omega
    refine H.al fun b2 w2 H => ?_
    refine Has.app (m := 1) elB H.f1 (H.src (vs := [.int .u8 255]) elB rfl rfl) (by omega) (by simp [maxLen]; omega) fun a3 c3 w3 H => ?_
    refine ⟨by omega, by omega, ?_⟩
    have hv3 := (hv1.take 254).old H
    have hlen : (rem.take 254).length = 254 := by simp; omega
    rw [bc_take] at hv3
    refine Has.app elB H (hv3.src (n := 254) elB (by simp; omega) (bc_one _)) (by omega) (by simp [maxLen]; omega) fun a4 c4 w4 H => ?_
    refine ⟨by omega, by omega, ?_⟩
    have hv4 := hv1.slc (k := 254) (c := c1) (size := 1) (by simp; omega)
    rw [bc_drop] at hv4
    refine ⟨⟨rem.drop (254 * 1), d ++ 255 :: rem.take 254, by simp, by simp; omega, hv4, ?_, by simp; omega, by simp; omega, ?_⟩, by dsimp only; omega⟩
    · rw [he, enc_long h]; simp
    · have e2 : bc d ++ [.int .u8 255] ++ bc (rem.take 254) = bc (d ++ 255 :: rem.take 254) := by simp [bc]
      rw [e2] at H
      exact H.f1.drop
  · have h : zeroAt rem ≤ 253 := by simp at h; omega
    have e1 : wu8 (w64 ((zeroAt rem : Int) + 1)) = ((zeroAt rem + 1 : Nat) : Int) := by rw [w64_id (by omega), wu8_id (by omega)]; omega
    have e3 : w64 ((zeroAt rem : Int) + 1) = ((zeroAt rem + 1 : Nat) : Int) := by rw [w64_id (by omega)]; omega
    rw [e1, e3]
    refine H.al fun b2 w2 H => ?_
    refine Has.app (m := 1) elB H.f1 (H.src (vs := [.int .u8 ((zeroAt rem + 1 : Nat) : Int)]) elB rfl rfl) (by omega) (by simp [maxLen]; omega) fun a3 c3 w3 H => ?_
    refine ⟨by omega, by omega, ?_⟩
    have hv3 := (hv1.take (zeroAt rem)).old H
    rw [bc_take] at hv3
    have hlen : (rem.take (zeroAt rem)).length = zeroAt rem := by simp; omega
    simp only [Int.toNat_natCast]
    refine Has.app elB H (hv3.src (n := zeroAt rem) elB (by simp; omega) (bc_one _)) (by omega) (by simp [maxLen]; omega) fun a4 c4 w4 H => ?_
    have e2 : bc d ++ [.int .u8 ((zeroAt rem + 1 : Nat) : Int)] ++ bc (rem.take (zeroAt rem)) = bc (d ++ UInt8.ofNat (zeroAt rem + 1) :: rem.take (zeroAt rem)) := by simp [bc]; omega
    rw [e2] at H
    refine bif_i (fun h2 => ?_) fun h2 => ?_
    · have h2 : zeroAt rem = rem.length := by simp at h2; omega
      have h3 := enc_end h2 (by omega)
      refine ⟨a4, c4, ?_, ?_⟩
      · rw [he, h3]; simp; omega
      · rw [he, h3]
        rw [h2, List.take_length] at H
        have e5 : (d ++ UInt8.ofNat (rem.length + 1) :: rem).length = d.length + 1 + rem.length := by simp; omega
        rw [e5]
        exact H.f1.drop
    · have h2 : zeroAt rem < rem.length := by simp at h2; omega
      have h3 := enc_short h2 h
      refine ⟨by omega, by omega, ?_⟩
      have hv4 := hv1.slc (k := zeroAt rem + 1) (c := c1) (size := 1) (by simp; omega)
      rw [bc_drop] at hv4
      refine ⟨⟨rem.drop ((zeroAt rem + 1) * 1), d ++ UInt8.ofNat (zeroAt rem + 1) :: rem.take (zeroAt rem), by simp, by simp; omega, hv4, ?_, by simp; omega, by simp; omega, H.f1.drop⟩, by omega⟩
      rw [he, h3]; simp

/-- What a decoder answers. -/
def decR (w w' : World) (d : Option (List UInt8)) (v : Value) : Prop :=
  match d with
  | some o => ∃ a c, v = .tuple #[.slice a o.length c, .int .i64 0] ∧ Has w w' [ow 5 1 a o.length c (bc o)]
  | none => v = .tuple #[.slice none 0 0, .int .i64 2] ∧ Has w w' []

theorem bc_snoc (l : List UInt8) (c : UInt8) : bc l ++ [.int .u8 (c.toNat : Int)] = bc (l ++ [c]) := by simp [bc]

theorem decP_cons_bad {n : UInt8} {t : List UInt8} (h : n = 0 ∨ t.length + 1 < n.toNat ∨ hasZ (t.take (n.toNat - 1)) = true) : decP (n :: t) = none := by rw [decP, if_pos h]
theorem plP_cons_bad {z : Bool} {n : UInt8} {t : List UInt8} (h : n = 0 ∨ t.length + 1 < n.toNat ∨ hasZ (t.take (n.toNat - 1)) = true) : plP z (n :: t) = none := by rw [plP, if_pos h]

theorem stuff_Decode_spec (hv : Vw w a (bc l)) (hl : l.length ≤ 100000000000) (hc : l.length ≤ c) :
    Calls Tryz.prog 74 #[.slice a l.length c] w fun e w' => ∃ v, e = .returned v ∧ decR w w' (decP l) v := by
  refine stuff_Decode.ok _ _ _ ?_
  refine ⟨fun a1 n1 c1 a2 n2 c2 w' => ∃ rem d : List UInt8, n1 = rem.length ∧ rem.length ≤ c1 ∧ Vw w a1 (bc rem) ∧ decP l = (decP rem).map (d ++ ·) ∧ n2 = d.length ∧ d.length + rem.length ≤ l.length ∧ Has w w' [ow 5 1 a2 n2 c2 (bc d)],
    fun _ n _ _ _ _ _ => n, ⟨l, [], rfl, hc, hv, by simp, rfl, by simp, (Has.start w).mkow0 _ _⟩, ?_⟩
  rintro _ a1 n1 c1 a2 n2 c2 w' ⟨rem, d, rfl, hc1, hv1, he, rfl, hd, H⟩
  have bad : decP rem = none → ∀ {w1}, Has w w1 [] → decR w w1 (decP l) (.tuple #[.slice none 0 0, .int .i64 2]) := fun h w1 H => by
    rw [he, h]; exact ⟨rfl, H⟩
  refine bif_i (fun h => ?_) fun h => ?_
  rotate_left
  · have h : rem.length = 0 := by simp at h; simp [h]
    obtain rfl : rem = [] := List.eq_nil_of_length_eq_zero h
    exact bad decP_nil H.drop
  cases rem with
  | nil => simp at h
  | cons n t =>
  simp only [List.length_cons] at hc1 hd
  have hn : n.toNat < 256 := n.toNat_lt
  obtain ⟨b, o, hab, hcell⟩ := (hv1.old H).byte (i := 0) (by simp)
  refine ⟨b, o, hab, by omega, by simp, (n.toNat : Int), by simpa using hcell, ?_⟩
  have e1 : w64 (n.toNat : Int) = (n.toNat : Int) := w64_id (by omega)
  simp only [e1]
  refine bif_i (fun h2 => ?_) fun h2 => ?_
  · have h2 : n = 0 := UInt8.toNat_inj.1 (by simp at h2; simpa using h2)
    exact bad (decP_cons_bad (.inl h2)) H.drop
  have h2 : n.toNat ≠ 0 := fun e => by simp [e] at h2
  have hn0 : ¬ n = 0 := fun e => by rw [e] at h2; simp at h2
  refine bif_i (fun h3 => ?_) fun h3 => ?_
  · exact bad (decP_cons_bad (.inr (.inl (by simp at h3; omega)))) H.drop
  have h3 : n.toNat ≤ t.length + 1 := by simp at h3; omega
  refine ⟨by omega, by omega, by omega, ?_⟩
  refine ⟨fun a2 n2 c2 i w' => ∃ j : Nat, j ≤ n.toNat - 1 ∧ i = (j : Int) ∧ hasZ (t.take j) = false ∧ n2 = d.length + j ∧ Has w w' [ow 5 1 a2 n2 c2 (bc (d ++ t.take j))], fun _ _ _ i _ => 256 - i.toNat, ⟨0, by omega, rfl, rfl, rfl, by simpa using H⟩, ?_⟩
  clear H
  rintro _ a2 n2 c2 i w' ⟨j, hj, rfl, hz, rfl, H⟩
  refine bif_i (fun h4 => ?_) fun h4 => ?_
  · have h4 : j < n.toNat - 1 := by simp at h4; omega
    have hv4 := hv1.slc (k := 1) (c := c1) (size := 1) (by simp; omega)
    rw [bc_drop] at hv4
    have hjt : j < t.length := by omega
    obtain ⟨b2, o2, hb2, hcell2⟩ := (hv4.old H).byte (i := j) (by simp; omega)
    refine ⟨b2, o2, hb2, by omega, by simp; omega, (t[j].toNat : Int), by simpa using hcell2, ?_⟩
    have hb3 : t[j].toNat < 256 := t[j].toNat_lt
    refine bif_i (fun h5 => ?_) fun h5 => ?_
    · have h5 : t[j] = 0 := UInt8.toNat_inj.1 (by simp at h5; simpa using h5)
      refine bad (decP_cons_bad (.inr (.inr ?_))) H.drop
      have : 0 ∈ t.take (n.toNat - 1) := by
        rw [List.mem_take_iff_getElem]
        exact ⟨j, by omega, h5⟩
      simp only [hasZ, List.any_eq_true]
      exact ⟨0, this, rfl⟩
    · have h5 : ¬ t[j] = 0 := fun e => by rw [e] at h5; simp at h5
      refine H.al fun b3 w3 H => ?_
      refine Has.app (m := 1) elB H.f1 (H.src (vs := [.int .u8 (t[j].toNat : Int)]) elB rfl rfl) (by omega) (by simp [maxLen]; omega) fun a3 c3 w4 H => ?_
      rw [w64_id (by omega)]
      refine ⟨⟨j + 1, by omega, by omega, by rw [hasZ_take_succ hjt, hz]; simp [h5], by omega, ?_⟩, by dsimp only; omega⟩
      have e6 : bc (d ++ t.take j) ++ [.int .u8 (t[j].toNat : Int)] = bc (d ++ t.take (j + 1)) := by rw [bc_snoc, List.append_assoc, ← List.take_succ_eq_append_getElem hjt]
      rw [e6] at H
      exact H.f1.drop
  · have h4 : j = n.toNat - 1 := by simp at h4; omega
    subst h4
    have hdec : ¬ (n = 0 ∨ t.length + 1 < n.toNat ∨ hasZ (t.take (n.toNat - 1)) = true) := by
      rintro (h | h | h)
      · exact hn0 h
      · omega
      · rw [hz] at h; cases h
    have hlen : (t.take (n.toNat - 1)).length = n.toNat - 1 := by simp; omega
    refine ⟨by omega, by simp; omega, bif_i (fun h5 => ?_) fun h5 => ?_⟩
    · have h5 : t.length + 1 - n.toNat = 0 := by simp at h5; omega
      have hdr : t.drop (n.toNat - 1) = [] := List.drop_eq_nil_of_le (by omega)
      refine bif_i (fun h6 => ?_) fun h6 => ?_
      · have h6 : n = 255 := UInt8.toNat_inj.1 (by simp at h6; show n.toNat = 255; omega)
        exact bad (by rw [decP, if_neg hdec, if_pos hdr, if_pos h6]) H.drop
      · have h6 : ¬ n = 255 := fun e => by rw [e] at h6; simp at h6
        have : decP (n :: t) = some (t.take (n.toNat - 1)) := by rw [decP, if_neg hdec, if_pos hdr, if_neg h6]
        rw [he, this]
        refine ⟨a2, c2, by simp [hlen], ?_⟩
        have e5 : (d ++ t.take (n.toNat - 1)).length = d.length + (n.toNat - 1) := by rw [List.length_append, hlen]
        rw [e5]; exact H
    · have h5 : ¬ t.length + 1 - n.toNat = 0 := fun e => by simp at h5; omega
      have hdr : ¬ t.drop (n.toNat - 1) = [] := fun e => by
        have := congrArg List.length e
        simp at this; omega
      have hrec : decP (n :: t) = (decP (t.drop (n.toNat - 1))).map fun o => t.take (n.toNat - 1) ++ (if n.toNat < 255 then [0] else []) ++ o := by rw [decP, if_neg hdec, if_neg hdr]
      have hv4 := hv1.slc (k := n.toNat) (c := c1) (size := 1) (by simp; omega)
      rw [bc_drop] at hv4
      have hdd : (n :: t).drop (n.toNat * 1) = t.drop (n.toNat - 1) := by
        rw [Nat.mul_one]
        have : n.toNat = (n.toNat - 1) + 1 := by omega
        rw [this, List.drop_succ_cons]; simp
      rw [hdd] at hv4
      simp only [Int.toNat_natCast]
      refine bif_i (fun h6 => ?_) fun h6 => ?_
      · have h6 : n.toNat < 255 := by simp at h6; omega
        rw [if_pos h6] at hrec
        refine H.al fun b3 w3 H => ?_
        refine Has.app (m := 1) elB H.f1 (H.src (vs := [.int .u8 0]) elB rfl rfl) (by omega) (by simp [maxLen]; omega) fun a3 c3 w4 H => ?_
        refine ⟨⟨t.drop (n.toNat - 1), d ++ t.take (n.toNat - 1) ++ [0], by simp; omega, by simp; omega, hv4, ?_, by simp; omega, by simp; omega, ?_⟩, by simp; omega⟩
        · rw [he, hrec]; cases decP (t.drop (n.toNat - 1)) <;> simp
        · have e6 : bc (d ++ t.take (n.toNat - 1)) ++ [.int .u8 0] = bc (d ++ t.take (n.toNat - 1) ++ [0]) := by simp [bc]
          rw [e6] at H
          exact H.f1.drop
      · have h6 : ¬ n.toNat < 255 := by simp at h6; omega
        rw [if_neg h6] at hrec
        refine ⟨⟨t.drop (n.toNat - 1), d ++ t.take (n.toNat - 1), by simp; omega, by simp; omega, hv4, ?_, by simp; omega, by simp; omega, H⟩, by simp; omega⟩
        rw [he, hrec]; cases decP (t.drop (n.toNat - 1)) <;> simp

theorem exSl_imp {P : Program} {s : Sem Value} {K L : Option Addr → Nat → Nat → World → Prop} {w : World} (h : exSl P s K w) (f : ∀ a n c w, K a n c w → L a n c w) : exSl P s L w := by
  unfold exSl at h ⊢
  split at h
  · exact f _ _ _ _ h
  · exact h.elim

/-- What the reference's pieces are. -/
def plR (w w' : World) (d : Option (List UInt8)) (v : Value) : Prop :=
  match d with
  | some o => ∃ a c, v = .tuple #[.slice a o.length c, .bool true] ∧ Has w w' [ow 5 1 a o.length c (bc o)]
  | none => v = .tuple #[.slice none 0 0, .bool false] ∧ Has w w' []

theorem ref01_plain_spec (hv : Vw w a (bc l)) (hl : l.length ≤ 100000000000) (hc : l.length ≤ c) :
    Calls Tryz.prog 97 #[.slice a l.length c] w fun e w' => ∃ v, e = .returned v ∧ plR w w' (if l = [] then none else plP false l) v := by
  refine tontineref01_plain.ok _ _ _ ?_
  refine ⟨fun a1 n1 c1 a2 n2 c2 full fst w' => ∃ rem d : List UInt8, n1 = rem.length ∧ rem.length ≤ c1 ∧ Vw w a1 (bc rem) ∧ n2 = d.length ∧ d.length + (if !fst && !full then 1 else 0) + rem.length ≤ l.length + 1 ∧ Has w w' [ow 5 1 a2 n2 c2 (bc d)] ∧
      plP false l = (plP (!fst && !full) rem).map (d ++ ·) ∧ (fst = true → rem = l ∧ d = [] ∧ a2 = none ∧ c2 = 0) ∧ (¬ fst = true → l ≠ []),
    fun _ n _ _ _ _ _ _ _ => n, ⟨l, [], rfl, hc, hv, rfl, by simp, (Has.start w).mkow0 _ _, by simp, fun _ => ⟨rfl, rfl, rfl, rfl⟩, by simp⟩, ?_⟩
  rintro _ a1 n1 c1 a2 n2 c2 full fst w' ⟨rem, d, rfl, hc1, hv1, rfl, hd, H, he, hf1, hf2⟩
  have bad : rem ≠ [] → plP (!fst && !full) rem = none → ∀ {w1}, Has w w1 [] → plR w w1 (if l = [] then none else plP false l) (.tuple #[.slice none 0 0, .bool false]) := fun hr h w1 H => by
    have : (if l = [] then none else plP false l) = none := by
      split
      · rfl
      · rw [he, h]; rfl
    rw [this]
    exact ⟨rfl, H⟩
  refine bif_i (fun h => ?_) fun h => ?_
  rotate_left
  · have h : rem.length = 0 := by simp at h; simp [h]
    obtain rfl : rem = [] := List.eq_nil_of_length_eq_zero h
    cases fst with
    | true =>
      obtain ⟨h1, rfl, rfl, rfl⟩ := hf1 rfl
      rw [← h1, if_pos rfl]
      exact ⟨rfl, H.drop⟩
    | false =>
      rw [if_neg (hf2 (by simp)), he, plP_nil]
      simp only [Option.map_some, List.append_nil]
      exact ⟨a2, c2, rfl, H⟩
  have hlne : l ≠ [] := by
    cases fst with
    | true => obtain ⟨h1, _⟩ := hf1 rfl; rw [← h1]; intro e; rw [e] at h; simp at h
    | false => exact hf2 (by simp)
  cases rem with
  | nil => simp at h
  | cons n t =>
  simp only [List.length_cons] at hc1 hd
  have hn : n.toNat < 256 := n.toNat_lt
  obtain ⟨b, o, hab, hcell⟩ := (hv1.old H).byte (i := 0) (by simp)
  refine ⟨b, o, hab, by omega, by simp, (n.toNat : Int), by simpa using hcell, ?_⟩
  have e1 : w64 (n.toNat : Int) = (n.toNat : Int) := w64_id (by omega)
  simp only [e1]
  refine bif_i (fun h2 => ?_) fun h2 => ?_
  · have h2 : n = 0 := UInt8.toNat_inj.1 (by simp at h2; simpa using h2)
    exact bad (by simp) (plP_cons_bad (.inl h2)) H.drop
  have h2 : n.toNat ≠ 0 := fun e => by simp [e] at h2
  have hn0 : ¬ n = 0 := fun e => by rw [e] at h2; simp at h2
  refine bif_i (fun h3 => ?_) fun h3 => ?_
  · exact bad (by simp) (plP_cons_bad (.inr (.inl (by simp at h3; omega)))) H.drop
  have h3 : n.toNat ≤ t.length + 1 := by simp at h3; omega
  refine ⟨by omega, by omega, by omega, ?_⟩
  have hv2 := hv1.slc (k := 1) (c := c1) (size := 1) (by simp; omega)
  rw [bc_drop] at hv2
  have hv2 := hv2.take (n.toNat - 1)
  have hd1 : (n :: t).drop (1 * 1) = t := by simp
  rw [hd1, bc_take] at hv2
  have hlen : (t.take (n.toNat - 1)).length = n.toNat - 1 := by simp; omega
  have hz := ref01_zero_spec (c := c1 - 1) (hv2.old H) (by omega)
  rw [hlen] at hz
  simp only [Int.toNat_natCast]
  refine hz.mono ?_
  rintro e w1 ⟨v, rfl, rfl, H1⟩
  have H := H.frame H1
  clear hz H1
  have hzl := zeroAt_le (t.take (n.toNat - 1))
  rw [hlen] at hzl
  have hge := zeroAt_ge (l := t.take (n.toNat - 1)) (k := n.toNat - 1) (by omega)
  rw [List.take_take, Nat.min_self] at hge
  have e2 : w64 ((n.toNat : Int) - 1) = ((n.toNat - 1 : Nat) : Int) := by rw [w64_id (by omega)]; omega
  refine ⟨_, rfl, bif_i (fun h4 => ?_) fun h4 => ?_⟩
  · rw [e2] at h4
    have h4 : ¬ (n.toNat - 1 ≤ zeroAt (t.take (n.toNat - 1))) := by simp at h4; omega
    exact bad (by simp) (plP_cons_bad (.inr (.inr (by rw [hge] at h4; simpa using h4)))) H.drop
  rw [e2] at h4
  have h4 : n.toNat - 1 ≤ zeroAt (t.take (n.toNat - 1)) := by simp at h4; omega
  have hzf := hge.1 h4
  have hdec : ¬ (n = 0 ∨ t.length + 1 < n.toNat ∨ hasZ (t.take (n.toNat - 1)) = true) := by
    rintro (h | h | h)
    · exact hn0 h
    · omega
    · rw [hzf] at h; cases h
  have hrec : ∀ z, plP z (n :: t) = (plP (decide (n ≠ 255)) (t.drop (n.toNat - 1))).map fun o => (if z then [0] else []) ++ t.take (n.toNat - 1) ++ o := fun z => by rw [plP, if_neg hdec]
  have hv4 := hv1.slc (k := n.toNat) (c := c1) (size := 1) (by simp; omega)
  have hdd : (n :: t).drop (n.toNat * 1) = t.drop (n.toNat - 1) := by
    rw [Nat.mul_one]
    have : n.toNat = (n.toNat - 1) + 1 := by omega
    rw [this, List.drop_succ_cons]; simp
  rw [bc_drop, hdd] at hv4
  have hfull : (!((n.toNat : Int) == 255)) = decide (n ≠ 255) := by
    by_cases e : n = 255
    · subst e; rfl
    · have : n.toNat ≠ 255 := fun e2 => e (UInt8.toNat_inj.1 e2)
      have : ((n.toNat : Int) == 255) = false := by simp; omega
      rw [this]; simp [e]
  have last : ∀ (z : Bool) (d2 : List UInt8) (a3 : Option Addr) (c3 : Nat) (w3 : World), d2 = d ++ (if z then [0] else []) → z = (!fst && !full) → Has w w3 [ow 5 1 a3 d2.length c3 (bc d2)] →
      exSl Tryz.prog (Builtin.append_ #[125, 125] 125 #[.slice a3 d2.length c3, .slice (slcA a1 c1 1 1) (n.toNat - 1) (c1 - 1)]) (fun a4 n4 c4 w4 => ∃ rem' d' : List UInt8, (n :: t).length - n.toNat = rem'.length ∧ rem'.length ≤ c1 - n.toNat ∧ Vw w (slcA a1 c1 n.toNat 1) (bc rem') ∧ n4 = d'.length ∧ d'.length + (if !false && !((n.toNat : Int) == 255) then 1 else 0) + rem'.length ≤ l.length + 1 ∧ Has w w4 [ow 5 1 a4 n4 c4 (bc d')] ∧
      plP false l = (plP (!false && !((n.toNat : Int) == 255)) rem').map (d' ++ ·) ∧ (false = true → rem' = l ∧ d' = [] ∧ a4 = none ∧ c4 = 0) ∧ (¬ false = true → l ≠ [])) w3 := by
    intro z d2 a3 c3 w3 hd2 hz H
    have hd2l : d2.length = d.length + (if !fst && !full then 1 else 0) := by rw [hd2, hz]; split <;> simp
    have hbound : d2.length + (t.length + 1) ≤ l.length + 1 := by rw [hd2l]; exact hd
    refine Has.app elB H ((hv2.old H).src (n := n.toNat - 1) elB (by simp; omega) (bc_one _)) (by omega) (by simp [maxLen]; omega) fun a4 c4 w4 H => ?_
    refine ⟨t.drop (n.toNat - 1), d2 ++ t.take (n.toNat - 1), by simp; omega, by simp; omega, hv4, by rw [List.length_append, hlen], ?_, ?_, ?_, by simp, fun _ => hlne⟩
    · rw [List.length_append, hlen]
      simp only [List.length_drop]
      split <;> omega
    · have := H
      rw [bc_append] at this
      exact this
    · rw [he, hrec, hd2, ← hz, Bool.not_false, Bool.true_and, hfull]
      cases plP (decide (n ≠ 255)) (t.drop (n.toNat - 1)) <;> simp
  refine bif_i (fun h5 => ?_) fun h5 => ?_
  · refine bif_i (fun h6 => ?_) fun h6 => ?_
    · have hd' : d.length + 1 + (t.length + 1) ≤ l.length + 1 := by rw [h5, h6] at hd; simpa using hd
      refine H.al fun b2 w2 H => ?_
      refine Has.app (m := 1) elB H.f1 (H.src (vs := [.int .u8 0]) elB rfl rfl) (by omega) (by simp [maxLen]; omega) fun a3 c3 w3 H => ?_
      refine ⟨by omega, by omega, by omega, ?_⟩
      have e6 : bc d ++ [.int .u8 0] = bc (d ++ [0]) := by simp [bc]
      rw [e6] at H
      have H := H.f1.drop
      have e7 : d.length + 1 = (d ++ [0]).length := by simp
      rw [e7] at H ⊢
      have := last true (d ++ [0]) a3 c3 w3 rfl (by rw [h5, h6]; rfl) H
      exact exSl_imp this fun a n c w h => ⟨by omega, by simp; omega, h, by simp; omega⟩
    · refine ⟨by omega, by omega, by omega, ?_⟩
      have := last false d a2 c2 w1 (by simp) (by rw [h6]; simp) H
      exact exSl_imp this fun a n c w h => ⟨by omega, by simp; omega, h, by simp; omega⟩
  · refine ⟨by omega, by omega, by omega, ?_⟩
    have := last false d a2 c2 w1 (by simp) (by rw [h5]; simp) H
    exact exSl_imp this fun a n c w h => ⟨by omega, by simp; omega, h, by simp; omega⟩

end
end Go.Proofs.YtbcepafeiocobaaGreat
