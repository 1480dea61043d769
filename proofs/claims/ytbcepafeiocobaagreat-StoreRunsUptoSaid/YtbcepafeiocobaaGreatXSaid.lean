/-
  Layer 8 (store): what records say, the reference's way.
-/
import Derived.Test.YtbcepafeiocobaaGreatXRefTake
set_option maxRecDepth 8000
namespace Go.Proofs.YtbcepafeiocobaaGreat
open Go.X

section
variable {w0 w : World} {r : List A} {L : List (Option Addr × List Value)} {s : St}

theorem ref08_First_spec {m : Nat} (H : Has w0 w r) :
    Calls Tryz.prog 57 #[.int .u64 (m : Int)] w fun e w' => ∃ v, e = .returned v ∧ v = (first8 m).val none 0 0 ∧ Has w0 w' r := by
  refine tontineref08_First.ok _ ?_
  exact H.al fun b1 w1 H => Has.st H (by simp) rfl fun w2 H => ⟨_, _, _, _, _, _, _, _, _, H.row rfl, rfl, H.drop⟩

/-- What the reference's reading of records answers. -/
def saidR (w0 w' : World) (r : List A) (L : List (Option Addr × List Value)) (t : Option St) (v : Value) : Prop :=
  ∃ L', (∀ p ∈ L, p ∈ L') ∧ Has w0 w' (pl L' :: r) ∧ match t with
    | some s => ∃ a c, v = .tuple #[s.val a s.l.length c, .bool s.right] ∧ Rb w0 L' a (ecs s.l)
    | none => ∃ (s : St) (a : Option Addr) (n c : Nat), v = .tuple #[s.val a n c, .bool false]

theorem ref08_Said_spec {m : Nat} (hm : m < 18446744073709551616) {recs : List (List UInt8)} (hr1 : ∀ x ∈ recs, x.length ≤ 4611686018427387904) (hr2 : recs.length + 1 ≤ 1000000000) {a : Option Addr} {c : Nat} (hb : Rb w0 L a (ss recs)) (H : Has w0 w (pl L :: r)) :
    Calls Tryz.prog 27 #[.int .u64 (m : Int), .slice a recs.length c] w fun e w' => ∃ v, e = .returned v ∧ saidR w0 w' r L (takes (first8 m) recs) v := by
  refine tontineref08_Said.ok _ _ _ _ ?_
  refine H.al fun b1 w1 H => ?_
  refine (ref08_First_spec H).mono ?_
  rintro e w2 ⟨v, rfl, rfl, H⟩
  refine ⟨_, _, _, _, _, _, _, _, _, rfl, H.al fun b2 w3 H => Has.st H (by simp) rfl fun w4 H => ?_⟩
  have hmono : ∀ {L' : List (Option Addr × List Value)}, (∀ p ∈ L, p ∈ L') → Rb w0 L' a (ss recs) := fun h => hb.mono h
  refine ⟨fun i w' => ∃ (k : Nat) (s : St) (a : Option Addr) (c : Nat) (L' : List (Option Addr × List Value)), i = (k : Int) ∧ k ≤ recs.length ∧ takes (first8 m) (recs.take k) = some s ∧ (∀ p ∈ L, p ∈ L') ∧ Rb w0 L' a (ecs s.l) ∧
      Has w0 w' (ca b2 53 (s.cells a s.l.length c) :: ca b1 53 (zero8.cells none 0 0) :: pl L' :: r), fun i _ => recs.length + 1 - i.toNat, ⟨0, first8 m, none, 0, L, rfl, by omega, rfl, fun _ h => h, Rb.nil, H⟩, ?_⟩
  clear H
  rintro _ i w5 ⟨k, s, aS, cS, L', rfl, hk, hts, hsub, hbs, H⟩
  have hlt : (recs.take k).length = k := by simp; omega
  have hsok := takes_ok (recs.take k) (first8_ok hm) (by simp [first8]; omega) hts
  have hs0 : (first8 m).l.length = 0 := rfl
  rw [hlt, hs0] at hsok
  obtain ⟨hsok, hslen⟩ := hsok
  refine bif_i (fun h => ?_) fun h => ?_
  · have h : k < recs.length := by simp at h; omega
    have hrl := hr1 _ (List.getElem_mem h)
    have hsplit : recs.take k ++ recs[k] :: recs.drop (k + 1) = recs := by rw [← List.drop_eq_getElem_cons h, List.take_append_drop]
    have hnone : take s recs[k] = none → takes (first8 m) recs = none := fun h2 => by
      rw [← hsplit, takes_append, hts]
      show (take s recs[k]).bind _ = none
      rw [h2]; rfl
    have hsome : ∀ {s2}, take s recs[k] = some s2 → takes (first8 m) (recs.take (k + 1)) = some s2 := fun h2 => by
      rw [List.take_succ_eq_append_getElem h, takes_append, hts]
      show (take s recs[k]).bind _ = _
      rw [h2]; rfl
    refine H.dr fun w6 H => ?_
    obtain ⟨b3, o3, hb3, hc3⟩ := ((hmono hsub).vw H.f2).at (by simp; omega)
    have hcell : ∀ {w' : World} {q : List A}, Has w0 w' (pl L' :: q) → w'.cell? ⟨b3, o3 + ((k : Int)).toNat * 1, none⟩ = some (.string (bs recs[k])) := fun {w' q} H' => by
      obtain ⟨b3', o3', hb3', hc3'⟩ := ((hmono hsub).vw H').at (by simp; omega)
      rw [hb3] at hb3'
      simp only [Option.some.injEq, Addr.mk.injEq] at hb3'
      obtain ⟨rfl, rfl, _⟩ := hb3'
      rw [Int.toNat_natCast, Nat.mul_one]; exact hc3' k (.string (bs recs[k])) (by rw [ss_get?, List.getElem?_eq_getElem h]; rfl)
    refine ⟨_, _, _, _, _, _, _, _, _, H.row rfl, b3, o3, hb3, by omega, by omega, _, hcell H.f2, ?_, ?_⟩
    · refine (ref08_take_spec hsok (by omega) hrl hbs H.f2).mono ?_
      rintro e w7 ⟨v, rfl, L2, hsub2, H, hcase⟩
      cases ht : take s recs[k] with
      | none =>
        rw [ht] at hcase
        obtain ⟨s2, a2, n2, c2, rfl⟩ := hcase
        refine ⟨_, _, _, _, _, _, _, _, _, ⟨_, rfl, H.al fun b4 w8 H => Has.st H (by simp) rfl fun w9 H => bif_t rfl ?_⟩⟩
        refine Has.st H.f3 (by simp [St.cells]) rfl fun w10 H => ⟨_, _, _, _, _, _, _, _, _, H.row rfl, ?_⟩
        rw [hnone ht]
        exact ⟨L2, fun p hp => hsub2 p (hsub p hp), H.drop.drop.f1.drop, zero8, none, 0, 0, rfl⟩
      | some s2 =>
        rw [ht] at hcase
        obtain ⟨a2, c2, rfl, hb2⟩ := hcase
        refine ⟨_, _, _, _, _, _, _, _, _, ⟨_, rfl, H.al fun b4 w8 H => Has.st H (by simp) rfl fun w9 H => bif_f rfl ?_⟩⟩
        refine ⟨_, _, _, _, _, _, _, _, _, H.row rfl, Has.st H.f2 (by simp [St.cells]) rfl fun w10 H => ?_⟩
        rw [w64_id (by omega)]
        exact ⟨⟨k + 1, s2, a2, c2, L2, by omega, h, hsome ht, fun p hp => hsub2 p (hsub p hp), hb2, H.f1.drop.f2.b1⟩, by dsimp only; omega⟩
    · refine H.al fun b5 w7 H => ⟨hcell H.f3, H.f1.row rfl, ?_⟩
      refine (ref08_take_spec hsok (by omega) hrl hbs H.f3).mono ?_
      rintro e w8 ⟨v, rfl, L2, hsub2, H, hcase⟩
      cases ht : take s recs[k] with
      | none =>
        rw [ht] at hcase
        obtain ⟨s2, a2, n2, c2, rfl⟩ := hcase
        refine ⟨_, _, _, _, _, _, _, _, _, ⟨_, rfl, Has.st H.f1 (by simp) rfl fun w9 H => bif_t rfl ?_⟩⟩
        refine Has.st H.f3 (by simp [St.cells]) rfl fun w10 H => ⟨_, _, _, _, _, _, _, _, _, H.row rfl, ?_⟩
        rw [hnone ht]
        exact ⟨L2, fun p hp => hsub2 p (hsub p hp), H.drop.drop.f1.drop, zero8, none, 0, 0, rfl⟩
      | some s2 =>
        rw [ht] at hcase
        obtain ⟨a2, c2, rfl, hb2⟩ := hcase
        refine ⟨_, _, _, _, _, _, _, _, _, ⟨_, rfl, Has.st H.f1 (by simp) rfl fun w9 H => bif_f rfl ?_⟩⟩
        refine ⟨_, _, _, _, _, _, _, _, _, H.row rfl, Has.st H.f2 (by simp [St.cells]) rfl fun w10 H => ?_⟩
        rw [w64_id (by omega)]
        exact ⟨⟨k + 1, s2, a2, c2, L2, by omega, h, hsome ht, fun p hp => hsub2 p (hsub p hp), hb2, H.f1.drop.f2.b1⟩, by dsimp only; omega⟩
  · have h : k = recs.length := by simp at h; omega
    subst h
    rw [List.take_length] at hts
    rw [hts]
    refine H.dr fun w6 H => ⟨_, _, _, _, _, _, _, _, _, H.row rfl, _, _, _, _, _, _, _, _, _, H.row rfl, ?_⟩
    refine (ref08_Right_spec hsok (hbs.vw H.f2)).mono ?_
    rintro e w7 ⟨v, rfl, rfl, H2⟩
    have H := H.frame H2
    refine ⟨_, rfl, Has.row (r := _) (T := 53) H rfl, Has.st (T := 53) (vs := zero8.cells none 0 0) H.f1 (by simp [St.cells, zero8]) rfl fun w8 H => ⟨_, _, _, _, _, _, _, _, _, H.row rfl, L', hsub, H.drop.drop, aS, cS, rfl, hbs⟩⟩

end
end Go.Proofs.YtbcepafeiocobaaGreat
