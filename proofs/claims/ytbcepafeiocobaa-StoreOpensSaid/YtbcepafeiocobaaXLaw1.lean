/-
  StoreOpens, walked: it answers true, whatever comes.
-/
import Derived.Test.YtbcepafeiocobaaXBegun
set_option maxRecDepth 8000
namespace Go.Proofs.Ytbcepafeiocobaa
open Go.X

theorem StoreOpens_spec {w : World} {la : Option Addr} {lc : Nat} {l : List (List UInt8)} {t : List UInt8} {m : Nat} (hl : l.length ≤ 1125899906842624) (hlx : ∀ x ∈ l, x.length ≤ 1125899906842624) (ht : t.length ≤ 1125899906842624)
    (hm : m < 18446744073709551616) (hv : Vw w la (ss l)) :
    Calls Try.prog 3 #[.slice la l.length lc, .string (bs t), .int .u64 (m : Int)] w fun e w' => ∃ v, e = .returned v ∧ v = .bool true ∧ Has w w' [] := by
  refine tontinelaw08_StoreOpens.ok _ _ _ _ _ ?_
  refine begun_spec.mono ?_
  rintro e w1 ⟨v, rfl, rfl, H⟩
  refine ⟨_, rfl, bif_f rfl ?_⟩
  refine ⟨fun n s i w' => ∃ k N : Nat, i = (k : Int) ∧ n = (N : Int) ∧ k ≤ l.length ∧ s = bs (frames (l.take k)) ∧ (frames (l.take k)).length ≤ 2 * N + 10 * k ∧ (k = 0 ∧ N = l.length + t.length ∨ N ≤ 20000) ∧ l.length ≤ N ∧ Has w w' [], fun _ _ i _ => l.length + 1 - i.toNat, ⟨0, l.length + t.length, rfl, ?_, by omega, rfl, by simp [frames], .inl ⟨rfl, rfl⟩, by omega, H⟩, ?_⟩
  · rw [bs_size, w64_id (by omega)]; omega
  clear H
  rintro _ n s i w2 ⟨k, N, rfl, rfl, hk, rfl, hfl, hN, hlN, H⟩
  refine bif_i (fun h => ?_) fun h => ?_
  · have h : k < l.length := by simp at h; omega
    obtain ⟨b3, o3, hb3, hc3⟩ := (hv.old H).at (by simp; omega)
    have hx := hlx _ (List.getElem_mem h)
    have e1 : w64 ((N : Int) + ((bs l[k]).size : Int)) = ((N + l[k].length : Nat) : Int) := by rw [bs_size, w64_id (by omega)]; omega
    refine ⟨b3, o3, hb3, by omega, by omega, bs l[k], by rw [Int.toNat_natCast, Nat.mul_one]; exact hc3 k (.string (bs l[k])) (by rw [ss_get?, List.getElem?_eq_getElem h]; rfl), ?_⟩
    simp only [e1]
    refine bif_i (fun h2 => ?_) fun h2 => ?_
    · exact ⟨trivial, H⟩
    have h2 : N + l[k].length ≤ 20000 := by simp at h2; omega
    refine (ref05_Frame_spec (x := l[k]) (by omega)).mono ?_
    rintro e w3 ⟨v, rfl, rfl, H3⟩
    have hfr := frame_len l[k]
    have e2 : frames (l.take k) ++ frame l[k] = frames (l.take (k + 1)) := by unfold frames; rw [List.take_succ_eq_append_getElem h, List.flatMap_append]; simp
    refine ⟨_, rfl, catD_bs (by omega) ?_⟩
    rw [e2, w64_id (by omega)]
    refine ⟨⟨k + 1, N + l[k].length, by omega, rfl, h, rfl, ?_, .inr h2, by omega, H.frame H3⟩, by omega⟩
    rw [← e2, List.length_append]; omega
  have h : k = l.length := by simp at h; omega
  subst h
  rw [List.take_length] at hfl ⊢
  have hF : (frames l).length ≤ 300000 := by
    rcases hN with ⟨h0, _⟩ | h0
    · have : l = [] := List.eq_nil_of_length_eq_zero h0
      subst this; simp [frames]
    · omega
  refine (disk_New_spec (room := 100000) (by omega) H).mono ?_
  rintro e w3 ⟨v, rfl, db, rfl, H⟩
  refine ⟨_, _, _, rfl, ?_⟩
  refine (ref04_New_spec (room := 100000) (by omega) H).mono ?_
  rintro e w4 ⟨v, rfl, kb, rfl, H⟩
  have hok0 : (Dk.new 100000).ok := Dk.new_ok (by omega)
  refine ⟨_, _, _, rfl, catD_bs (by omega) ?_⟩
  refine (disk_Replace_spec hok0 (n := 0) (by omega) (s := frames l ++ t) (by simp; omega) H.f1).mono ?_
  rintro e w5 ⟨v, rfl, rfl, H⟩
  refine ⟨_, rfl, catD_bs (by omega) ?_⟩
  refine (ref04_Replace_spec hok0 (n := 0) (by omega) (s := frames l ++ t) (by simp; omega) H.f1).mono ?_
  rintro e w6 ⟨v, rfl, rfl, H⟩
  have hok1 := hok0.replace (n := 0) (by omega) (frames l ++ t)
  generalize ((Dk.new 100000).replace 0 (frames l ++ t)).2 = d at H hok1
  refine ⟨_, rfl, ?_⟩
  refine (store_Open_spec (n := 0) hok1 (by omega) hm H.f1).mono ?_
  rintro e w7 ⟨v, rfl, hcase⟩
  cases ho : (d.open8 0 m).2.1 with
  | none =>
    rw [ho] at hcase
    obtain ⟨hne, rfl, H⟩ := hcase
    refine .inl ⟨_, _, _, _, _, _, _, _, _, _, rfl, H.al fun b2 w8 H => Has.st H (by simp) rfl fun w9 H => ?_⟩
    refine (ref08_Open_spec (n := 0) hok1 (by omega) hm H.f2).mono ?_
    rintro e w10 ⟨v, rfl, hcase2⟩
    rw [ho] at hcase2
    obtain ⟨rfl, H⟩ := hcase2
    exact .inl ⟨_, rfl, bif_t (by simp; omega) (bif_t (by simp) ⟨rfl, H.drop.drop.drop⟩)⟩
  | some s =>
    rw [ho] at hcase
    obtain ⟨hs, _, _, _, b, a, c, rfl, H⟩ := hcase
    refine .inr ⟨_, _, _, _, _, _, _, _, _, _, _, _, rfl, H.al fun b2 w8 H => Has.st H (by simp) rfl fun w9 H => ?_⟩
    refine (ref08_Open_spec (n := 0) hok1 (by omega) hm H.f4).mono ?_
    rintro e w10 ⟨v, rfl, hcase2⟩
    rw [ho] at hcase2
    obtain ⟨rb, lb, a2, c2, L, rfl, hb, H⟩ := hcase2
    have row : ∀ {w' : World} {q : List A}, Has w w' (ca rb 52 (pv lb 0 :: s.cells a2 s.l.length c2) :: q) → rdRow w' rb (0 + 1) (s.cells a2 s.l.length c2) := fun H j v hj => H.cell (by rw [Nat.add_comm, Nat.add_comm 0 1, List.getElem?_cons_succ]; exact hj)
    refine .inr ⟨_, _, _, rfl, bif_f rfl (bif_f rfl (H.dr fun w11 H => ⟨_, _, _, _, _, _, _, _, _, H.f4.row rfl, _, _, _, _, _, _, _, _, _, row H, ?_⟩))⟩
    refine (law_same_spec hs hs H.f6.vw (hb.vw H.f3)).mono ?_
    rintro e w12 ⟨v, rfl, rfl, H2⟩
    have H := H.frame H2
    refine ⟨_, rfl, bif_t (by simp) ⟨_, _, _, _, _, _, _, _, _, row H, ?_⟩⟩
    refine (store_State_spec hs H.f5).mono ?_
    rintro e w13 ⟨v, rfl, a3, c3, rfl, H⟩
    refine ⟨_, _, _, _, _, _, _, _, _, rfl, row H.f2, ?_⟩
    refine (law_same_spec hs hs H.vw (hb.vw H.f5)).mono ?_
    rintro e w14 ⟨v, rfl, rfl, H2⟩
    have H := H.frame H2
    exact ⟨_, rfl, by simp, H.drop.drop.drop.drop.drop.drop.drop.drop.drop⟩

end Go.Proofs.Ytbcepafeiocobaa
