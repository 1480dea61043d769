/-
  Layer 9 (wheel): WheelOnce, walked: it answers true, whatever comes.
-/
import Derived.Test.YtdlalkhnppahfaaXWheelI
set_option maxRecDepth 8000
namespace Go.Proofs.Ytdlalkhnppahfaa
open Go.X

section
variable {w : World}

theorem WheelOnce_spec {x y : Int} : Calls Try.prog 5 #[.int .i64 x, .int .i64 y] w fun e w' => ∃ v, e = .returned v ∧ v = .bool true ∧ Has w w' [] := by
  refine tontinelaw09_WheelOnce.ok _ _ ?_
  refine begun_spec.mono ?_
  rintro e w1 ⟨v, rfl, rfl, H⟩
  refine ⟨_, rfl, bif_f rfl ?_⟩
  refine (wheel_New_wl H).mono ?_
  rintro e w2 ⟨v, rfl, b, rfl, H⟩
  obtain ⟨s, hs, es⟩ := nrm x (m := 9000) (by omega) (by omega)
  obtain ⟨q, hq, eq⟩ := nrm y (m := 9000) (by omega) (by omega)
  have eD : w64 ((q : Int) + 1) = ((q + 1 : Nat) : Int) := by rw [w64_id (by omega)]; rfl
  rw [es, eq, eD]
  obtain ⟨D, hD⟩ : ∃ D, D = q + 1 := ⟨_, rfl⟩
  rw [← hD]
  have hD9 : 1 ≤ D ∧ D ≤ 9000 := by omega
  clear eD hD eq es
  have eE : w64 ((D : Int) + 300) = ((D + 300 : Nat) : Int) := by rw [w64_id (by omega)]; rfl
  rw [eE]
  refine ⟨_, _, rfl, fun i w' => ∃ k : Nat, i = (k : Int) ∧ k ≤ s ∧ Has w w' [wl b k 0 []], fun i _ => s + 1 - i.toNat, ⟨0, rfl, by omega, H⟩, ?_⟩
  clear H
  rintro _ i w3 ⟨k, rfl, hk, H⟩
  refine bif_i (fun h => ?_) fun h => ?_
  · have h : k < s := by simp at h; omega
    have e2 : w64 ((k : Int) + 1) = ((k + 1 : Nat) : Int) := by rw [w64_id (by omega)]; rfl
    rw [e2]
    refine (wheel_Tick_wl (by omega) H).mono ?_
    rintro e w4 ⟨v, rfl, a, c, rfl, H⟩
    exact ⟨_, _, _, rfl, ⟨k + 1, rfl, h, H.f1.drop⟩, by (try dsimp only); omega⟩
  have h : k = s := by simp at h; omega
  subst h
  refine (wheel_Set_wl (by omega) (by omega) (show CO [] from True.intro) H).mono ?_
  rintro e w4 ⟨v, rfl, rfl, H⟩
  have hset : setR k [] 7 (D : Int) = (0, [(7, k + D)]) := by
    unfold setR
    rw [if_neg (by omega), if_neg (by simp)]; rfl
  rw [hset] at H ⊢
  refine ⟨_, rfl, bif_f rfl ⟨fun i w' => ∃ j : Nat, i = (j : Int) ∧ j ≤ D + 300 ∧ Has w w' [wl b (k + j) 1 (if j < D then [(7, k + D)] else [])], fun i _ => D + 301 - i.toNat, ⟨0, rfl, by omega, ?_⟩, ?_⟩⟩
  · rw [if_pos (by omega)]; exact H
  clear H
  rintro _ i w5 ⟨j, rfl, hj, H⟩
  refine bif_i (fun h => ?_) fun h => ?_
  · have h : j < D + 300 := by simp at h; omega
    have e2 : w64 ((j : Int) + 1) = ((j + 1 : Nat) : Int) := by rw [w64_id (by omega)]; rfl
    have e3 : wu64 (maxV 0 (w64 ((D : Int) - (j : Int)))) = ((D - j : Nat) : Int) := by
      rw [w64_id (by omega)]
      unfold maxV
      split
      · rw [wu64_id (by omega)]; omega
      · rw [wu64_id (by omega)]; omega
    rw [e2, e3]
    refine (wheel_Due_wl (by omega) (show CO [] from True.intro) H).mono ?_
    rintro e w6 ⟨v, rfl, rfl, H⟩
    have hn : nxt (k + j) (if j < D then [((7 : Int), k + D)] else []) = D - j := by
      by_cases hc : j < D
      · rw [if_pos hc]
        show (if (0 = 0 ∨ k + D - (k + j) < 0) then k + D - (k + j) else 0) = _
        rw [if_pos (.inl rfl)]; omega
      · rw [if_neg hc]
        show 0 = _
        omega
    rw [hn]
    refine ⟨_, rfl, bif_f (by simp) ?_⟩
    refine (wheel_Tick_wl (by omega) H).mono ?_
    rintro e w7 ⟨v, rfl, a, c, rfl, H⟩
    refine ⟨_, _, _, rfl, ?_⟩
    rcases Nat.lt_trichotomy (j + 1) D with hc | hc | hc
    · rw [if_pos (by omega)] at H ⊢
      have hne : ∀ p ∈ [((7 : Int), k + D)], p.2 ≠ k + j + 1 := fun p hp => by simp at hp; subst hp; dsimp only; omega
      rw [dueIds_none hne, keep_all hne] at H
      rw [dueIds_none hne]
      refine bif_f rfl (bif_f ?_ (bif_f rfl ⟨⟨j + 1, rfl, h, ?_⟩, by (try dsimp only); omega⟩))
      · have : ¬ (j : Int) + 1 = (D : Int) := by omega
        simp [this]
      · rw [if_pos hc]; exact H.f1.drop
    · rw [if_pos (by omega)] at H ⊢
      have e7 : dueIds (k + j + 1) [((7 : Int), k + D)] = [7] := by
        have : k + D = k + j + 1 := by omega
        rw [this]; simp [dueIds]
      have e8 : ([((7 : Int), k + D)] : List (Int × Nat)).filter (fun p => !(p.2 == k + j + 1)) = [] := by
        have : k + D = k + j + 1 := by omega
        rw [this]; simp
      rw [e7, e8] at H
      rw [e7]
      obtain ⟨b3, o3, hb3, hc3⟩ := ic_cell H.f1
      refine bif_t rfl ⟨b3, o3, hb3, by omega, by simp, _, hc3, bif_f ?_ (bif_f rfl ⟨⟨j + 1, rfl, h, ?_⟩, by (try dsimp only); omega⟩)⟩
      · subst hc; simp
      · rw [if_neg (by omega)]; exact H.f1.drop
    · rw [if_neg (by omega)] at H ⊢
      refine bif_f rfl (bif_f ?_ (bif_f rfl ⟨⟨j + 1, rfl, h, ?_⟩, by (try dsimp only); omega⟩))
      · have : ¬ (j : Int) + 1 = (D : Int) := by omega
        simp [this]
      · rw [if_neg (by omega)]; exact H.f1.drop
  · have h : j = D + 300 := by simp at h; omega
    rw [if_neg (by omega)] at H
    refine (wheel_Len_wl H).mono ?_
    rintro e w6 ⟨v, rfl, rfl, H⟩
    exact ⟨_, rfl, rfl, H.drop⟩

end
end Go.Proofs.Ytdlalkhnppahfaa
