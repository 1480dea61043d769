/-
  Layer 5: scans, the program's and the reference's.
-/
import Derived.Test.YtbcepafeiocobaaGreatXCodeC
set_option maxRecDepth 8000
namespace Go.Proofs.YtbcepafeiocobaaGreat
open Go.X

section
variable {w0 w : World} {r : List A} {a : Option Addr} {c : Nat} {l : List UInt8}

/-- What a scan answers. -/
def scanR (w w' : World) (l : List UInt8) (v : Value) : Prop :=
  ∃ a c, v = .tuple #[.slice a (scan l).1.length c, .int .i64 ((scan l).2 : Int)] ∧ Has w w' [ow 9 1 a (scan l).1.length c (ss (scan l).1)]

theorem wal_Scan_spec (hl : l.length ≤ 4000000000) :
    Calls Tryz.prog 46 #[.string (bs l)] w fun e w' => ∃ v, e = .returned v ∧ scanR w w' l v := by
  refine wal_Scan.ok _ ?_
  refine ⟨fun a1 n1 c1 at' w' => ∃ (k : Nat) (acc : List (List UInt8)), at' = (k : Int) ∧ k ≤ l.length ∧ scan l = (acc ++ (scan (l.drop k)).1, k + (scan (l.drop k)).2) ∧ n1 = acc.length ∧ acc.length ≤ k ∧ Has w w' [ow 9 1 a1 n1 c1 (ss acc)],
    fun _ _ _ at' _ => l.length + 1 - at'.toNat, ⟨0, [], rfl, by omega, by simp, rfl, by simp, (Has.start w).mkow0 _ _⟩, ?_⟩
  rintro _ a1 n1 c1 at' w' ⟨k, acc, rfl, hk, hsc, rfl, hacc, H⟩
  have fin : first (l.drop k) = none → ∀ {w1}, Has w w1 [ow 9 1 a1 acc.length c1 (ss acc)] → scanR w w1 l (.tuple #[.slice a1 acc.length c1, .int .i64 (k : Int)]) := by
    intro h w1 H
    unfold scanR
    rw [hsc, scan_none h]
    simp only [List.append_nil, Nat.add_zero]
    exact ⟨a1, c1, rfl, H⟩
  refine ⟨fun n w' => ∃ m : Nat, n = (m : Int) ∧ k + m ≤ l.length ∧ hasZ ((l.drop k).take m) = false ∧ Has w w' [ow 9 1 a1 acc.length c1 (ss acc)], fun n _ => l.length + 1 - n.toNat, ⟨0, rfl, by omega, rfl, H⟩, ?_⟩
  clear H
  rintro _ n w' ⟨m, rfl, hm, hz, H⟩
  have e1 : w64 ((k : Int) + (m : Int)) = ((k + m : Nat) : Int) := by rw [w64_id (by omega)]; omega
  have e2 : w64 ((m : Int) + 1) = ((m + 1 : Nat) : Int) := by rw [w64_id (by omega)]; omega
  have e3 : w64 ((k : Int) + ((m + 1 : Nat) : Int)) = ((k + (m + 1) : Nat) : Int) := by rw [w64_id (by omega)]; omega
  simp only [e1, e2, e3, bs_size]
  refine bif_i (fun h => ?_) fun h => ?_
  · have h : k + m = l.length := by simp at h; omega
    refine fin ?_ H
    have : zeroAt (l.drop k) = (l.drop k).length := by
      rw [zeroAt_is (k := m) (by simp; omega) hz (.inl (by simp; omega))]; simp; omega
    rw [first, if_pos this]
  have h : k + m < l.length := by simp at h; omega
  refine ⟨by omega, l[k + m], by rw [bs_get?, Int.toNat_natCast, List.getElem?_eq_getElem h], bif_i (fun h2 => ?_) fun h2 => ?_⟩
  rotate_left
  · have h2 : ¬ l[k + m] = 0 := fun e => by rw [e] at h2; simp at h2
    refine ⟨⟨m + 1, rfl, by omega, ?_, H⟩, by omega⟩
    rw [hasZ_take_succ (by simp; omega), hz]; simp [h2]
  have h2 : l[k + m] = 0 := UInt8.toNat_inj.1 (by simp at h2; simpa using h2)
  have hza : zeroAt (l.drop k) = m := zeroAt_is (by simp; omega) hz (.inr (by rw [List.getElem?_drop, List.getElem?_eq_getElem h, h2]))
  have hfirst : first (l.drop k) = ((decP ((l.drop k).take m)).bind recOf).map fun x => (x, m + 1) := by
    rw [first, hza, if_neg (by simp; omega)]
  refine ⟨by omega, by omega, by simp; omega, ?_⟩
  have e4 : ByteArray.extract (bs l) ((k : Int)).toNat (((k + m : Nat) : Int)).toNat = bs ((l.drop k).take m) := by
    simp only [Int.toNat_natCast, bs_extract]
    rw [List.drop_take]; congr 2; omega
  rw [e4]
  have hlm : ((l.drop k).take m).length = m := by simp; omega
  refine Has.s2b rfl rfl rfl H (by simp [maxLen]; omega) fun a2 c2 w2 H => ?_
  refine (stuff_Decode_spec H.vw (by omega) H.owLen.2.1).mono ?_
  rintro e w3 ⟨v, rfl, hd⟩
  cases hdec : decP ((l.drop k).take m) with
  | none =>
    rw [hdec] at hd
    obtain ⟨rfl, H3⟩ := hd
    have H := H.frame H3
    refine ⟨_, _, _, _, rfl, bif_t rfl (fin (by rw [hfirst, hdec]; rfl) H.drop)⟩
  | some o =>
  rw [hdec] at hd
  obtain ⟨a3, c3, rfl, H3⟩ := hd
  have H := H.frame H3
  have hol := decP_len _ _ _ (Nat.le_refl _) hdec
  rw [hlm] at hol
  rw [hdec, Option.bind_some] at hfirst
  refine ⟨_, _, _, _, rfl, bif_f rfl (bif_i (fun h3 => ?_) fun h3 => ?_)⟩
  · have h3 : o.length < 4 := by simp at h3; omega
    exact fin (by rw [hfirst, recOf, if_pos (.inl h3)]; rfl) H.drop.drop
  have h3 : 4 ≤ o.length := by simp at h3; omega
  refine H.dr fun w4 H => ?_
  have g0 : w64 ((o.length : Int) - 4) = ((o.length - 4 : Nat) : Int) := by rw [w64_id (by omega)]; omega
  have g1 : w64 (((o.length - 4 : Nat) : Int) + 1) = ((o.length - 3 : Nat) : Int) := by rw [w64_id (by omega)]; omega
  have g2 : w64 (((o.length - 4 : Nat) : Int) + 2) = ((o.length - 2 : Nat) : Int) := by rw [w64_id (by omega)]; omega
  have g3 : w64 (((o.length - 4 : Nat) : Int) + 3) = ((o.length - 1 : Nat) : Int) := by rw [w64_id (by omega)]; omega
  simp only [g0, g1, g2, g3]
  obtain ⟨b, o1, hab, hc1⟩ := H.vw.byte (i := o.length - 4) (by omega)
  obtain ⟨b', o1', hab', hc2⟩ := H.vw.byte (i := o.length - 3) (by omega)
  obtain ⟨b2, o2, hab2, hc3⟩ := H.vw.byte (i := o.length - 2) (by omega)
  obtain ⟨b3, o3, hab3, hc4⟩ := H.vw.byte (i := o.length - 1) (by omega)
  refine ⟨b, o1, hab, by omega, by omega, _, by simpa using hc1, b', o1', hab', by omega, by omega, _, by simpa using hc2, b2, o2, hab2, by omega, by omega, _, by simpa using hc3, b3, o3, hab3, by omega, by omega, _, by simpa using hc4, by omega, ?_, ?_⟩
  · have := H.owLen.2.1; omega
  have hv5 := H.vw.take (o.length - 4)
  rw [bc_take] at hv5
  have hlt : (o.take (o.length - 4)).length = o.length - 4 := by simp
  have hs := crc_Sum_spec (c := c3) hv5 (by omega)
  rw [hlt] at hs
  simp only [Int.toNat_natCast]
  refine hs.mono ?_
  rintro e w5 ⟨v, rfl, rfl, H5⟩
  have H := H.frame H5
  clear hs H5 H3
  refine ⟨_, rfl, ?_⟩
  have q1 : (o[o.length - 4]).toNat < 256 := UInt8.toNat_lt _
  have q2 : (o[o.length - 3]).toNat < 256 := UInt8.toNat_lt _
  have q3 : (o[o.length - 2]).toNat < 256 := UInt8.toNat_lt _
  have q4 : (o[o.length - 1]).toNat < 256 := UInt8.toNat_lt _
  rw [wu32_id (n := (o[o.length - 4].toNat : Int)) (by omega), wu32_id (n := (o[o.length - 3].toNat : Int)) (by omega), wu32_id (n := (o[o.length - 2].toNat : Int)) (by omega), wu32_id (n := (o[o.length - 1].toNat : Int)) (by omega), or_four q1 q2 q3 q4]
  have hbe : be (o.drop (o.length - 4)) = ((o[o.length - 4].toNat * 256 + o[o.length - 3].toNat) * 256 + o[o.length - 2].toNat) * 256 + o[o.length - 1].toNat := by
    have d1 : o.drop (o.length - 4) = [o[o.length - 4], o[o.length - 3], o[o.length - 2], o[o.length - 1]] := by
      rw [List.drop_eq_getElem_cons (by omega : o.length - 4 < o.length), show o.length - 4 + 1 = o.length - 3 from by omega, List.drop_eq_getElem_cons (by omega : o.length - 3 < o.length), show o.length - 3 + 1 = o.length - 2 from by omega,
        List.drop_eq_getElem_cons (by omega : o.length - 2 < o.length), show o.length - 2 + 1 = o.length - 1 from by omega, List.drop_eq_getElem_cons (by omega : o.length - 1 < o.length), List.drop_eq_nil_of_le (by omega)]
    rw [d1]; simp [be]
  rw [← hbe]
  refine bif_i (fun h6 => ?_) fun h6 => ?_
  · have h6 : ¬ crcA 0 (o.take (o.length - 4)) = be (o.drop (o.length - 4)) := by simp at h6; omega
    exact fin (by rw [hfirst, recOf]; split <;> simp [h6]) (show Has w w5 _ from H.drop.drop)
  have h6 : crcA 0 (o.take (o.length - 4)) = be (o.drop (o.length - 4)) := by simp at h6; omega
  refine bif_i (fun h7 => ?_) fun h7 => ?_
  · have h7 : 65540 < o.length := by simp at h7; omega
    exact fin (by rw [hfirst, recOf, if_pos (.inr h7)]; rfl) (show Has w w5 _ from H.drop.drop)
  have h7 : o.length ≤ 65540 := by simp at h7; omega
  have hfirst : first (l.drop k) = some (o.take (o.length - 4), m + 1) := by
    rw [hfirst, recOf, if_neg (by omega), if_pos h6]; rfl
  have H : Has w w5 [ow 5 1 a3 o.length c3 (bc o), ow 5 1 a2 ((l.drop k).take m).length c2 (bc ((l.drop k).take m)), ow 9 1 a1 acc.length c1 (ss acc)] := H
  have hv7 := H.vw.take (o.length - 4)
  rw [bc_take] at hv7
  refine ⟨by omega, ?_, _, hv7.b2s rfl rfl rfl hlt.symm, ?_⟩
  · have := H.owLen.2.1; omega
  have H := H.drop.drop
  refine H.al fun b8 w8 H => ?_
  refine Has.app (m := 1) elS H.f1 (H.src (vs := [.string (bs (o.take (o.length - 4)))]) elS rfl rfl) (by omega) (by simp [maxLen]; omega) fun a9 c9 w9 H => ?_
  rw [ss_snoc] at H
  refine ⟨⟨k + (m + 1), acc ++ [o.take (o.length - 4)], rfl, by omega, ?_, by simp, by simp; omega, H.f1.drop⟩, by omega⟩
  rw [hsc, scan_some hfirst, List.drop_drop]
  simp; omega

theorem ref05_first_spec (hl : l.length ≤ 4000000000) :
    Calls Tryz.prog 82 #[.string (bs l)] w fun e w' => ∃ v, e = .returned v ∧ (v = match first l with | some (x, k) => .tuple #[.string (bs x), .int .i64 (k : Int)] | none => .tuple #[.string (bs []), .int .i64 0]) ∧ Has w w' [] := by
  refine tontineref05_first.ok _ ?_
  rw [← refFirst_eq]
  have fin : refFirst l = none → ∀ {w1}, Has w w1 [] → (Value.tuple #[.string (bs []), .int .i64 0] = match refFirst l with | some (x, k) => .tuple #[.string (bs x), .int .i64 (k : Int)] | none => .tuple #[.string (bs []), .int .i64 0]) ∧ Has w w1 [] := by
    intro h w1 H
    rw [h]; exact ⟨rfl, H⟩
  refine ⟨fun n w' => n = (zeroAt l : Int) ∧ Has w w' [], ⟨fun n w' => ∃ m : Nat, n = (m : Int) ∧ m ≤ l.length ∧ hasZ (l.take m) = false ∧ Has w w' [], fun n _ => l.length + 1 - n.toNat, ⟨0, rfl, by omega, rfl, Has.start w⟩, ?_⟩, ?_⟩
  · rintro _ n w' ⟨m, rfl, hm, hz, H⟩
    refine bif_i (fun h => ?_) fun h => ?_
    · have h : m < l.length := by simp at h; omega
      refine ⟨by omega, l[m], by simp [h], bif_i (fun h2 => ?_) fun h2 => ?_⟩
      · have h2 : ¬ l[m] = 0 := fun e => by rw [e] at h2; simp at h2
        rw [w64_id (by omega)]
        exact ⟨⟨m + 1, by omega, by omega, by rw [hasZ_take_succ h, hz]; simp [h2], H⟩, by dsimp only; omega⟩
      · have h2 : l[m] = 0 := UInt8.toNat_inj.1 (by simp at h2; simpa using h2)
        exact ⟨by rw [zeroAt_is hm hz (.inr (by rw [List.getElem?_eq_getElem h, h2]))], H⟩
    · have h : m = l.length := by simp at h; omega
      exact ⟨by rw [zeroAt_is hm hz (.inl h)], H⟩
  rintro _ n w' ⟨rfl, H⟩
  have hzl := zeroAt_le l
  refine bif_i (fun h => ?_) fun h => ?_
  · have h : zeroAt l = l.length := by simp at h; omega
    exact fin (by rw [refFirst, if_pos h]) H
  have h : zeroAt l < l.length := by simp at h; omega
  have hrf : refFirst l = match refDec (l.take (zeroAt l)) with
      | none => none
      | some o => if o.length < 4 ∨ 65540 < o.length then none else if frame (o.take (o.length - 4)) = l.take (zeroAt l + 1) then some (o.take (o.length - 4), zeroAt l + 1) else none := by
    rw [refFirst, if_neg (by omega)]
    cases refDec (l.take (zeroAt l)) <;> rfl
  refine ⟨by omega, by simp; omega, ?_⟩
  have e4 : ByteArray.extract (bs l) 0 ((zeroAt l : Int)).toNat = bs (l.take (zeroAt l)) := by simp
  rw [e4]
  have hlm : (l.take (zeroAt l)).length = zeroAt l := by simp; omega
  refine Has.s2b rfl rfl rfl H (by simp [maxLen]; omega) fun a2 c2 w2 H => ?_
  refine (ref01_Decode_spec H.vw (by omega) H.owLen.2.1).mono ?_
  rintro e w3 ⟨v, rfl, hd⟩
  rw [refDec_eq] at hrf
  cases hdec : decP (l.take (zeroAt l)) with
  | none =>
    rw [hdec] at hd hrf
    obtain ⟨rfl, H3⟩ := hd
    exact ⟨_, _, _, _, rfl, bif_t rfl (fin hrf (H.frame H3).drop)⟩
  | some o =>
  rw [hdec] at hd hrf
  obtain ⟨a3, c3, rfl, H3⟩ := hd
  have H := H.frame H3
  have hol := decP_len _ _ _ (Nat.le_refl _) hdec
  rw [hlm] at hol
  simp only [] at hrf
  refine ⟨_, _, _, _, rfl, bif_f rfl (bif_i (fun h3 => ?_) fun h3 => ?_)⟩
  · have h3 : o.length < 4 := by simp at h3; omega
    exact fin (by rw [hrf, if_pos (.inl h3)]) H.drop.drop
  have h3 : 4 ≤ o.length := by simp at h3; omega
  refine bif_i (fun h4 => ?_) fun h4 => ?_
  · have h4 : 65540 < o.length := by simp at h4; omega
    exact fin (by rw [hrf, if_pos (.inr h4)]) H.drop.drop
  have h4 : o.length ≤ 65540 := by simp at h4; omega
  rw [if_neg (by omega)] at hrf
  have g0 : w64 ((o.length : Int) - 4) = ((o.length - 4 : Nat) : Int) := by rw [w64_id (by omega)]; omega
  have g1 : w64 ((zeroAt l : Int) + 1) = ((zeroAt l + 1 : Nat) : Int) := by rw [w64_id (by omega)]; omega
  simp only [g0, g1]
  have hv7 := H.vw.take (o.length - 4)
  rw [bc_take] at hv7
  have hlt : (o.take (o.length - 4)).length = o.length - 4 := by simp
  refine ⟨by omega, ?_, _, hv7.b2s rfl rfl rfl hlt.symm, H.dr fun w4 H => ⟨by omega, by simp; omega, ?_⟩⟩
  · have := H.owLen.2.1; omega
  refine (ref05_Frame_spec (x := o.take (o.length - 4)) (by omega)).mono ?_
  rintro e w5 ⟨v, rfl, rfl, H5⟩
  have H := H.frame H5
  refine ⟨_, rfl, ?_⟩
  have e5 : ByteArray.extract (bs l) 0 (((zeroAt l + 1 : Nat) : Int)).toNat = bs (l.take (zeroAt l + 1)) := by simp
  rw [e5, strEq_bs]
  refine bif_i (fun h8 => ?_) fun h8 => ?_
  · simp at h8
    exact fin (by rw [hrf, if_neg h8]) H.drop.drop
  · simp at h8
    rw [hrf, if_pos h8]
    exact ⟨rfl, H.drop.drop⟩

theorem ref05_Scan_spec (hl : l.length ≤ 4000000000) :
    Calls Tryz.prog 55 #[.string (bs l)] w fun e w' => ∃ v, e = .returned v ∧ scanR w w' l v := by
  refine tontineref05_Scan.ok _ ?_
  refine ⟨fun a1 n1 c1 at' w' => ∃ (k : Nat) (acc : List (List UInt8)), at' = (k : Int) ∧ k ≤ l.length ∧ scan l = (acc ++ (scan (l.drop k)).1, k + (scan (l.drop k)).2) ∧ n1 = acc.length ∧ acc.length ≤ k ∧ Has w w' [ow 9 1 a1 n1 c1 (ss acc)],
    fun _ _ _ at' _ => l.length + 1 - at'.toNat, ⟨0, [], rfl, by omega, by simp, rfl, by simp, (Has.start w).mkow0 _ _⟩, ?_⟩
  rintro _ a1 n1 c1 at' w' ⟨k, acc, rfl, hk, hsc, rfl, hacc, H⟩
  refine ⟨by omega, by simp; omega, ?_⟩
  have e4 : ByteArray.extract (bs l) ((k : Int)).toNat (bs l).size = bs (l.drop k) := by simp
  rw [e4]
  refine (ref05_first_spec (l := l.drop k) (by simp; omega)).mono ?_
  rintro e w1 ⟨v, rfl, rfl, H1⟩
  have H := H.frame H1
  cases hf : first (l.drop k) with
  | none =>
    refine ⟨_, _, rfl, bif_t rfl ?_⟩
    unfold scanR
    rw [hsc, scan_none hf]
    simp only [List.append_nil, Nat.add_zero]
    exact ⟨a1, c1, rfl, H⟩
  | some p =>
    obtain ⟨x, n⟩ := p
    have hn := first_pos hf
    simp only [List.length_drop] at hn
    refine ⟨_, _, rfl, bif_f (by simp; omega) ?_⟩
    refine H.al fun b8 w8 H => ?_
    refine Has.app (m := 1) elS H.f1 (H.src (vs := [.string (bs x)]) elS rfl rfl) (by omega) (by simp [maxLen]; omega) fun a9 c9 w9 H => ?_
    rw [ss_snoc] at H
    have e5 : w64 ((k : Int) + (n : Int)) = ((k + n : Nat) : Int) := by rw [w64_id (by omega)]; omega
    rw [e5]
    refine ⟨⟨k + n, acc ++ [x], rfl, by omega, ?_, by simp, by simp; omega, H.f1.drop⟩, by dsimp only; omega⟩
    rw [hsc, scan_some hf, List.drop_drop]
    simp; omega

end
end Go.Proofs.YtbcepafeiocobaaGreat
