/-
  Layer 8 (store): the law's helper light; calls that come in.
-/
import Derived.Test.YtbcepafeiocobaaGreatXRecords
set_option maxRecDepth 8000
namespace Go.Proofs.YtbcepafeiocobaaGreat
open Go.X

section
variable {w0 w : World} {r : List A} {L : List (Option Addr × List Value)} {s : St}

/-- Calls that can be read. -/
structure Cls (w : World) (a : Option Addr) (l : List Cl) : Prop where
  vw : Vw w a (ccs l)
  ok : ∀ x ∈ l, x.s.ok ∧ Vw w x.a (ecs x.s.l)
  len : l.length + wts l ≤ 4000000000

theorem law_light_spec {a : Option Addr} {c : Nat} {l : List Cl} (hl : Cls w a l) :
    Calls Tryz.prog 5 #[.slice a l.length c] w fun e w' => ∃ v, e = .returned v ∧ v = .bool (decide (wts l ≤ 400)) ∧ Has w w' [] := by
  refine tontinelaw08_light.ok _ _ _ ?_
  have hlen := hl.len
  refine ⟨fun n i w' => ∃ k : Nat, i = (k : Int) ∧ k ≤ l.length ∧ n = (wts (l.take k) : Int) ∧ Has w w' [], fun _ i _ => l.length + 1 - i.toNat, ⟨0, rfl, by omega, rfl, Has.start w⟩, ?_⟩
  rintro _ n i w1 ⟨k, rfl, hk, rfl, H⟩
  refine bif_i (fun h => ?_) fun h => ?_
  · have h : k < l.length := by simp at h; omega
    obtain ⟨b1, o1, hb1, hr1⟩ := (hl.vw.old H).rowAt (n := 8) Cl.cells_len (by omega) h
    obtain ⟨hok, hvw⟩ := hl.ok _ (List.getElem_mem h)
    have hk1 := wts_take h
    have hk2 := wts_take_le l (k + 1)
    have hwt : wt (l[k]).s = 1 + (l[k]).s.l.length + (l[k]).s.snap.data.length / 50 + dw (l[k]).s.l := rfl
    have hdat := hok.snap.data
    refine ⟨b1, o1, hb1, by omega, by omega, _, _, _, _, _, _, _, _, _, _, hr1, H.al fun b2 w2 H => Has.st H (by simp) rfl fun w3 H => ⟨_, _, _, H.cell rfl, _, H.cell rfl, _, _, _, H.cell rfl, ?_⟩⟩
    have H : Has w w3 [ca b2 57 (l[k]).cells] := H
    have e1 : w64 ((wts (l.take k) : Int) + w64 (w64 (1 + ((l[k]).s.l.length : Int)) + w64 (Int.tdiv ((bs (l[k]).s.snap.data).size : Int) 50))) = ((wts (l.take k) + (1 + (l[k]).s.l.length + (l[k]).s.snap.data.length / 50) : Nat) : Int) := by
      rw [bs_size, Int.tdiv_eq_ediv_of_nonneg (by omega), w64_id (n := 1 + _) (by omega), w64_id (n := _ / 50) (by omega), w64_id (n := (1 + ((l[k]).s.l.length : Int)) + _) (by omega), w64_id (by omega)]
      omega
    rw [e1]
    refine ⟨fun n i w' => ∃ j : Nat, i = (j : Int) ∧ j ≤ (l[k]).s.l.length ∧ n = ((wts (l.take k) + (1 + (l[k]).s.l.length + (l[k]).s.snap.data.length / 50) + dw ((l[k]).s.l.take j) : Nat) : Int) ∧ Has w w' [], fun _ i _ => (l[k]).s.l.length + 1 - i.toNat, ⟨0, rfl, by omega, by simp [dw], H.drop⟩, ?_⟩
    clear H
    rintro _ n i w4 ⟨j, rfl, hj, rfl, H⟩
    refine bif_i (fun h2 => ?_) fun h2 => ?_
    · have h2 : j < (l[k]).s.l.length := by simp at h2; omega
      obtain ⟨b3, o3, hb3, hr3⟩ := (hvw.old H).ent h2
      have hj1 := dw_take h2
      have hj2 := dw_take_le (l[k]).s.l (j + 1)
      have hed := (hok.l _ (List.getElem_mem h2)).data
      refine ⟨b3, o3, hb3, by omega, by omega, _, _, _, _, hr3, H.al fun b4 w5 H => Has.st H (by simp) rfl fun w6 H => ⟨_, H.cell rfl, ?_⟩⟩
      have e2 : w64 (((wts (l.take k) + (1 + (l[k]).s.l.length + (l[k]).s.snap.data.length / 50) + dw ((l[k]).s.l.take j) : Nat) : Int) + w64 (Int.tdiv ((bs ((l[k]).s.l[j]).data).size : Int) 50)) = ((wts (l.take k) + (1 + (l[k]).s.l.length + (l[k]).s.snap.data.length / 50) + dw ((l[k]).s.l.take (j + 1)) : Nat) : Int) := by
        rw [bs_size, Int.tdiv_eq_ediv_of_nonneg (by omega), w64_id (n := _ / 50) (by omega), w64_id (by omega), hj1]
        omega
      rw [e2, w64_id (by omega)]
      exact ⟨⟨j + 1, by omega, h2, rfl, H.drop⟩, by dsimp only; omega⟩
    have h2 : j = (l[k]).s.l.length := by simp at h2; omega
    subst h2
    rw [w64_id (by omega)]
    refine ⟨⟨k + 1, by omega, h, ?_, H⟩, by dsimp only; omega⟩
    rw [hk1, List.take_length, hwt]
    congr 1; omega
  have h : k = l.length := by simp at h; omega
  subst h
  rw [List.take_length]
  refine ⟨?_, H⟩
  congr 1
  rw [decide_eq_decide]; omega

end
end Go.Proofs.YtbcepafeiocobaaGreat
