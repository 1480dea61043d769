/-
  Layer 9 (wheel): WheelFull, WheelAnew, WheelOnce, WheelNone, walked: they answer true, whatever comes.
-/
import Derived.Test.YtdlalkhnppahfaaXWheelH
set_option maxRecDepth 8000
namespace Go.X
open Go

/-- A number brought into a range as the laws do. -/
theorem nrm (x : Int) {m : Int} (h0 : 0 < m) (hm : m ≤ 1000000) : ∃ q : Nat, (q : Int) < m ∧ Int.tmod (w64 (Int.tmod x m + m)) m = (q : Int) := by
  have h1 := Int.tmod_lt_of_pos x h0
  have h2 := Int.lt_tmod_of_pos x h0
  have h3 : 0 ≤ Int.tmod x m + m := by omega
  rw [w64_id (by omega), Int.tmod_eq_emod_of_nonneg h3]
  have h4 := Int.emod_nonneg (Int.tmod x m + m) (b := m) (by omega)
  have h5 := Int.emod_lt_of_pos (Int.tmod x m + m) h0
  exact ⟨((Int.tmod x m + m) % m).toNat, by omega, by omega⟩

def fullL (n : Nat) : List (Int × Nat) := (List.range (min n 64)).map fun (i : Nat) => ((i : Int), 5 + i)
theorem fullL_len (n : Nat) : (fullL n).length = min n 64 := by simp [fullL]
theorem fullL_mem {n : Nat} {p : Int × Nat} (h : p ∈ fullL n) : ∃ i : Nat, i < min n 64 ∧ p = ((i : Int), 5 + i) := by
  obtain ⟨i, hi, rfl⟩ := List.mem_map.1 h
  exact ⟨i, by simpa using hi, rfl⟩
theorem fullL_has {n i : Nat} (h : i < min n 64) : ((i : Int), 5 + i) ∈ fullL n := List.mem_map.2 ⟨i, by simpa using h, rfl⟩
theorem filter_none {L : List (Int × Nat)} {id : Int} (h : ∀ p ∈ L, p.1 ≠ id) : L.filter (fun p => p.1 != id) = L := List.filter_eq_self.2 fun p hp => by simpa using h p hp

theorem fullL_set {k : Nat} : setR 0 (fullL k) (k : Int) ((5 + k : Nat) : Int) = if k < 64 then (0, fullL (k + 1)) else if 1048571 < k then (1, fullL k) else (11, fullL k) := by
  have hno : ∀ p ∈ fullL k, p.1 ≠ (k : Int) := fun p hp => by
    obtain ⟨i, hi, rfl⟩ := fullL_mem hp
    dsimp only; omega
  unfold setR
  by_cases h : k < 64
  · rw [if_pos h, if_neg (by omega), if_neg (by rw [fullL_len]; omega), filter_none hno]
    have e : ((5 + k : Nat) : Int).toNat = 5 + k := rfl
    rw [e]
    unfold fullL
    rw [show min (k + 1) 64 = min k 64 + 1 by omega, List.range_succ, List.map_append, show min k 64 = k by omega]
    simp
  · rw [if_neg h]
    split
    · rw [if_pos (by omega)]
    · rw [if_pos ⟨by rw [fullL_len]; omega, hno⟩, if_neg (by omega)]
theorem fullL_more {k : Nat} (h : 64 ≤ k) : fullL (k + 1) = fullL k := by unfold fullL; rw [show min (k + 1) 64 = min k 64 by omega]

theorem dueIds_none {now : Nat} {L : List (Int × Nat)} (h : ∀ p ∈ L, p.2 ≠ now) : dueIds now L = [] := by
  unfold dueIds
  rw [List.filter_eq_nil_iff.2 fun p hp => by simpa using h p hp]; rfl
theorem dueIds_append (now : Nat) (L M : List (Int × Nat)) : dueIds now (L ++ M) = dueIds now L ++ dueIds now M := by simp [dueIds]
theorem keep_all {now : Nat} {L : List (Int × Nat)} (h : ∀ p ∈ L, p.2 ≠ now) : L.filter (fun p => !(p.2 == now)) = L := List.filter_eq_self.2 fun p hp => by simpa using h p hp

end Go.X
namespace Go.Proofs.Ytdlalkhnppahfaa
open Go.X

section
variable {w0 w : World} {r : List A} {b now k : Nat} {L : List (Int × Nat)}

theorem wl_more {k' : Nat} (H : Has w0 w (wl b now k L :: r)) (hk : k ≤ k') : Has w0 w (wl b now k' L :: r) := by
  obtain ⟨m, h, H⟩ := wl_open H
  exact wl_shut (h.more hk) H

theorem WheelFull_spec {x y : Int} : Calls Try.prog 3 #[.int .i64 x, .int .i64 y] w fun e w' => ∃ v, e = .returned v ∧ v = .bool true ∧ Has w w' [] := by
  refine tontinelaw09_WheelFull.ok _ _ ?_
  refine begun_spec.mono ?_
  rintro e w1 ⟨v, rfl, rfl, H⟩
  refine ⟨_, rfl, bif_f rfl ?_⟩
  refine (wheel_New_wl H).mono ?_
  rintro e w2 ⟨v, rfl, b, rfl, H⟩
  obtain ⟨n, hn, en⟩ := nrm x (m := 80) (by omega) (by omega)
  obtain ⟨q, hq, eq⟩ := nrm y (m := 80) (by omega) (by omega)
  simp only [en, eq]
  refine ⟨_, _, rfl, fun w' => Has w w' [wl b 0 80 (fullL n)], ⟨fun i w' => ∃ k : Nat, i = (k : Int) ∧ k ≤ n ∧ Has w w' [wl b 0 k (fullL k)], fun i _ => n + 1 - i.toNat, ⟨0, rfl, by omega, H⟩, ?_⟩, ?_⟩
  · clear H
    rintro _ i w3 ⟨k, rfl, hk, H⟩
    refine bif_i (fun h => ?_) fun h => ?_
    · have h : k < n := by simp at h; omega
      have e1 : w64 (5 + (k : Int)) = ((5 + k : Nat) : Int) := by rw [w64_id (by omega)]; omega
      have e2 : w64 ((k : Int) + 1) = ((k + 1 : Nat) : Int) := by rw [w64_id (by omega)]; rfl
      rw [e1, e2]
      refine (wheel_Set_wl (by omega) (by omega) (show CO [] from True.intro) H).mono ?_
      rintro e w4 ⟨v, rfl, rfl, H⟩
      rw [fullL_set] at H ⊢
      by_cases h6 : k < 64
      · rw [if_pos h6] at H ⊢
        refine ⟨_, rfl, bif_f (by simp; omega) (bif_f rfl ⟨⟨k + 1, rfl, h, H⟩, by (try dsimp only); omega⟩)⟩
      · rw [if_neg h6, if_neg (by omega)] at H ⊢
        refine ⟨_, rfl, bif_f (by simp; omega) (bif_t rfl (bif_f rfl ⟨⟨k + 1, rfl, h, ?_⟩, by (try dsimp only); omega⟩))⟩
        rw [fullL_more (by omega)]; exact H
    · have h : k = n := by simp at h; omega
      subst h
      exact wl_more H (by omega)
  · clear H
    rintro _ w3 H
    refine (wheel_Set_wl (by omega) (by omega) (show CO [] from True.intro) H).mono ?_
    rintro e w4 ⟨v, rfl, rfl, H⟩
    have hmin : minV (n : Int) 64 = ((min n 64 : Nat) : Int) := by unfold minV; split <;> omega
    have hdue : ∀ p ∈ fullL n, p.2 ≠ 0 + 1 := fun p hp => by
      obtain ⟨i, hi, rfl⟩ := fullL_mem hp
      dsimp only; omega
    have hset : setR 0 (fullL n) (q : Int) 1 = if q < min n 64 ∨ n < 64 then (0, (fullL n).filter (fun p => p.1 != (q : Int)) ++ [((q : Int), 1)]) else (11, fullL n) := by
      unfold setR
      rw [if_neg (by omega)]
      by_cases h : q < min n 64 ∨ n < 64
      · rw [if_pos h, if_neg]
        · rfl
        · rintro ⟨h1, h2⟩
          rw [fullL_len] at h1
          rcases h with h | h
          · exact h2 _ (fullL_has h) rfl
          · omega
      · rw [if_neg h, if_pos]
        refine ⟨by rw [fullL_len]; omega, fun p hp => ?_⟩
        obtain ⟨i, hi, rfl⟩ := fullL_mem hp
        dsimp only; omega
    rw [hset] at H ⊢
    rw [hmin]
    by_cases h : q < min n 64 ∨ n < 64
    · rw [if_pos h] at H ⊢
      refine ⟨_, rfl, fun w' => Has w w' [wl b 0 (80 + 1) ((fullL n).filter (fun p => p.1 != (q : Int)) ++ [((q : Int), 1)])], ?_, ?_⟩
      · refine bif_i (fun h1 => bif_f rfl H) fun h1 => bif_f ?_ H
        have h1 : ¬ q < min n 64 := by simp at h1; omega
        have : n < 64 := by omega
        simp; omega
      · rintro _ w5 H
        refine (wheel_Tick_wl (by omega) H).mono ?_
        rintro e w6 ⟨v, rfl, a, c, rfl, H⟩
        have hd : dueIds (0 + 1) ((fullL n).filter (fun p => p.1 != (q : Int)) ++ [((q : Int), 1)]) = [(q : Int)] := by
          rw [dueIds_append, dueIds_none fun p hp => hdue p (List.mem_filter.1 hp).1]; rfl
        rw [hd] at H ⊢
        obtain ⟨b3, o3, hb3, hc3⟩ := ic_cell H.f1
        exact ⟨_, _, _, rfl, bif_f rfl (bif_t rfl (bif_t rfl ⟨b3, o3, hb3, by omega, by simp, _, hc3, by simp, H.drop.drop⟩))⟩
    · rw [if_neg h] at H ⊢
      refine ⟨_, rfl, fun w' => Has w w' [wl b 0 (80 + 1) (fullL n)], ?_, ?_⟩
      · refine bif_f (by simp; omega) (bif_f (by simp; omega) H)
      · rintro _ w5 H
        refine (wheel_Tick_wl (by omega) H).mono ?_
        rintro e w6 ⟨v, rfl, a, c, rfl, H⟩
        rw [dueIds_none hdue] at H ⊢
        exact ⟨_, _, _, rfl, bif_t rfl (bif_t rfl ⟨trivial, H.drop.drop⟩)⟩

theorem WheelNone_spec {id delay : Int} : Calls Try.prog 8 #[.int .i64 id, .int .i64 delay] w fun e w' => ∃ v, e = .returned v ∧ v = .bool true ∧ Has w w' [] := by
  refine tontinelaw09_WheelNone.ok _ _ ?_
  refine begun_spec.mono ?_
  rintro e w1 ⟨v, rfl, rfl, H⟩
  refine ⟨_, rfl, bif_f rfl ?_⟩
  refine (nil_Now_spec H).mono ?_
  rintro e w2 ⟨v, rfl, rfl, H⟩
  refine ⟨_, rfl, bif_t rfl ?_⟩
  refine (nil_Len_spec H).mono ?_
  rintro e w2 ⟨v, rfl, rfl, H⟩
  refine ⟨_, rfl, bif_t rfl ?_⟩
  refine (nil_Set_spec H).mono ?_
  rintro e w2 ⟨v, rfl, rfl, H⟩
  refine ⟨_, rfl, bif_t rfl ?_⟩
  refine (nil_Stop_spec H).mono ?_
  rintro e w2 ⟨v, rfl, rfl, H⟩
  refine ⟨_, rfl, bif_t rfl ?_⟩
  refine (nil_Due_spec H).mono ?_
  rintro e w2 ⟨v, rfl, rfl, H⟩
  refine ⟨_, rfl, bif_t rfl ?_⟩
  refine (nil_Tick_spec H).mono ?_
  rintro e w2 ⟨v, rfl, rfl, H⟩
  refine ⟨_, _, _, rfl, bif_t rfl ?_⟩
  refine (wheel_New_wl H).mono ?_
  rintro e w2 ⟨v, rfl, b, rfl, H⟩
  refine ⟨_, _, rfl, ?_⟩
  refine (wheel_Set_wl (by omega) (by omega) (show CO [] from True.intro) H).mono ?_
  rintro e w4 ⟨v, rfl, rfl, H⟩
  refine ⟨_, rfl, ?_⟩
  have hset : ((setR 0 [] id delay).1 == 0) = (decide (delay ≥ 1) && decide (delay ≤ 1048576)) := by
    unfold setR
    by_cases h : delay < 1 ∨ 1048576 < delay
    · rw [if_pos h]
      have : ¬ (delay ≥ 1 ∧ delay ≤ 1048576) := by omega
      simp only [← Bool.decide_and, this, decide_false]; rfl
    · rw [if_neg h, if_neg (by simp)]
      have : delay ≥ 1 ∧ delay ≤ 1048576 := by omega
      simp [this]
  rw [hset]
  refine bif_i (fun h => ⟨?_, H.drop⟩) fun h => ⟨?_, H.drop⟩
  · rw [h]; simp
  · rw [h]; rfl

theorem WheelAnew_spec {la : Option Addr} {lc : Nat} {l : List Int} {stop : Bool} (hv : Vw w la (ic l)) : Calls Try.prog 4 #[.slice la l.length lc, .bool stop] w fun e w' => ∃ v, e = .returned v ∧ v = .bool true ∧ Has w w' [] := by
  refine tontinelaw09_WheelAnew.ok _ _ _ _ ?_
  refine begun_spec.mono ?_
  rintro e w1 ⟨v, rfl, rfl, H⟩
  refine ⟨_, rfl, bif_f rfl (bif_i (fun h => ⟨rfl, H⟩) fun h => bif_i (fun h2 => ⟨rfl, H⟩) fun h2 => ?_)⟩
  have hl0 : l.length ≠ 0 := by simp at h; simpa using h
  have hl5 : l.length ≤ 50 := by simp at h2; omega
  clear h h2
  refine (wheel_New_wl H).mono ?_
  rintro e w2 ⟨v, rfl, b, rfl, H⟩
  refine ⟨_, _, rfl, fun o i w' => ∃ k O : Nat, i = (k : Int) ∧ o = (O : Int) ∧ k ≤ l.length ∧ Has w w' [wl b 0 k (if k = 0 then [] else [(3, O)])] ∧ (k ≠ 0 → 1 ≤ O ∧ O ≤ 400), fun _ i _ => l.length + 1 - i.toNat, ⟨0, 0, rfl, rfl, by omega, H, fun h => absurd rfl h⟩, ?_⟩
  clear H
  rintro _ o i w3 ⟨k, O, rfl, rfl, hk, H, hO⟩
  refine bif_i (fun h => ?_) fun h => ?_
  · have h : k < l.length := by simp at h; omega
    obtain ⟨b3, o3, hb3, hc3⟩ := (hv.old H).at (by simp; omega)
    obtain ⟨q, hq, eq⟩ := nrm l[k] (m := 400) (by omega) (by omega)
    have e1 : w64 ((q : Int) + 1) = ((q + 1 : Nat) : Int) := by rw [w64_id (by omega)]; rfl
    have e2 : w64 ((k : Int) + 1) = ((k + 1 : Nat) : Int) := by rw [w64_id (by omega)]; rfl
    refine ⟨b3, o3, hb3, by omega, by omega, l[k], by rw [Int.toNat_natCast, Nat.mul_one]; exact hc3 k _ (by simp [ic, h]), ?_⟩
    simp only [eq, e1, e2]
    refine (wheel_Set_wl (by omega) (by omega) (show CO [] from True.intro) H).mono ?_
    rintro e w4 ⟨v, rfl, rfl, H⟩
    have hset : setR 0 (if k = 0 then [] else [(3, O)]) 3 ((q + 1 : Nat) : Int) = (0, [(3, q + 1)]) := by
      unfold setR
      rw [if_neg (by omega), if_neg (by intro hc; have := hc.1; split at this <;> simp at this)]
      have e4 : (0 + ((q + 1 : Nat) : Int).toNat) = q + 1 := by omega
      rw [e4]
      split <;> rfl
    rw [hset] at H ⊢
    exact ⟨_, rfl, ⟨k + 1, q + 1, rfl, rfl, h, H, fun _ => by omega⟩, by (try dsimp only); omega⟩
  · have h : k = l.length := by simp at h; omega
    have hk0 : k ≠ 0 := by omega
    rw [if_neg hk0] at H
    obtain ⟨hO1, hO2⟩ := hO hk0
    -- what is left to be seen, behind the stop
    have tail : ∀ w5, Has w w5 [wl b 0 k (if stop then [] else [(3, O)])] → ∃ (I2 : Int → World → Prop) (M2 : Int → World → Nat), I2 0 w5 ∧ ∀ (_ : Env) (i3 : Int) (w7 : World), I2 i3 w7 →
        (bif (decide (i3 < 500)) then (Calls Try.prog 12 #[pv b 0] w7 fun e_5 w_8 => (∃ (ra : Option Addr) (rn rc : Nat), e_5 = .returned (.slice ra rn rc) ∧ (bif (!stop) then (bif ((decide ((rn : Int) > 0)) != ((w64 (i3 + 1)) == (O : Int))) then (fun v w' => v = Value.bool true ∧ Has w w' []) (.bool false) w_8
          else (I2 (w64 (i3 + 1)) w_8 ∧ M2 (w64 (i3 + 1)) w_8 < M2 i3 w7)) else (bif ((decide ((rn : Int) > 0)) != false) then (fun v w' => v = Value.bool true ∧ Has w w' []) (.bool false) w_8 else (I2 (w64 (i3 + 1)) w_8 ∧ M2 (w64 (i3 + 1)) w_8 < M2 i3 w7)))))
         else (Calls Try.prog 14 #[pv b 0] w7 fun e_6 w_9 => (∃ r3 : Int, e_6 = .returned (.int .i64 r3) ∧ (bif (r3 == 0) then (Calls Try.prog 13 #[pv b 0, .int .i64 3] w_9 fun e_7 w_10 => (∃ r4 : Bool, e_7 = .returned (.bool r4) ∧ (fun v w' => v = Value.bool true ∧ Has w w' []) (.bool (!r4)) w_10)) else (fun v w' => v = Value.bool true ∧ Has w w' []) (.bool false) w_9)))) := by
      intro w5 H
      refine ⟨fun i w' => ∃ j : Nat, i = (j : Int) ∧ j ≤ 500 ∧ Has w w' [wl b j k (if stop ∨ O ≤ j then [] else [(3, O)])], fun i _ => 501 - i.toNat, ⟨0, rfl, by omega, ?_⟩, ?_⟩
      · cases stop
        · rw [if_neg (by simp; omega)]; exact H
        · exact H
      · clear H
        rintro _ i w7 ⟨j, rfl, hj, H⟩
        have e1 : w64 ((j : Int) + 1) = ((j + 1 : Nat) : Int) := by rw [w64_id (by omega)]; rfl
        refine bif_i (fun h3 => ?_) fun h3 => ?_
        · have h3 : j < 500 := by simp at h3; omega
          refine (wheel_Tick_wl (by omega) H).mono ?_
          rintro e w8 ⟨v, rfl, a, c, rfl, H⟩
          rw [e1]
          refine ⟨_, _, _, rfl, ?_⟩
          have H1 := H.f1.drop
          cases stop
          · refine bif_t rfl ?_
            simp only [Bool.false_eq_true, false_or] at H1 ⊢
            rcases Nat.lt_trichotomy (j + 1) O with hc | hc | hc
            · rw [if_neg (by omega)] at H1 ⊢
              have hd : dueIds (j + 1) [((3 : Int), O)] = [] := dueIds_none fun p hp => by simp at hp; subst hp; dsimp only; omega
              rw [hd]
              rw [keep_all fun p hp => by simp at hp; subst hp; dsimp only; omega] at H1
              refine bif_f ?_ ⟨⟨j + 1, rfl, h3, ?_⟩, by (try dsimp only); omega⟩
              · have : ¬ (j : Int) + 1 = (O : Int) := by omega
                simp [this]
              · rw [if_neg (by omega)]; exact H1
            · rw [if_neg (by omega)] at H1 ⊢
              subst hc
              have hd : dueIds (j + 1) [((3 : Int), j + 1)] = [3] := by simp [dueIds]
              rw [hd]
              have hf : ([((3 : Int), j + 1)] : List (Int × Nat)).filter (fun p => !(p.2 == j + 1)) = [] := by simp
              rw [hf] at H1
              refine bif_f (by simp) ⟨⟨j + 1, rfl, h3, ?_⟩, by (try dsimp only); omega⟩
              rw [if_pos (by omega)]; exact H1
            · rw [if_pos (by omega)] at H1 ⊢
              refine bif_f ?_ ⟨⟨j + 1, rfl, h3, ?_⟩, by (try dsimp only); omega⟩
              · have : ¬ (j : Int) + 1 = (O : Int) := by omega
                simp [this, dueIds]
              · rw [if_pos (by omega)]; exact H1
          · refine bif_f rfl (bif_f rfl ⟨⟨j + 1, rfl, h3, H1⟩, by (try dsimp only); omega⟩)
        · have h3 : j = 500 := by simp at h3; omega
          rw [if_pos (.inr (by omega))] at H
          refine (wheel_Len_wl H).mono ?_
          rintro e w8 ⟨v, rfl, rfl, H⟩
          refine ⟨_, rfl, bif_t rfl ?_⟩
          refine (wheel_Stop_wl (show CO [] from True.intro) H).mono ?_
          rintro e w9 ⟨v, rfl, q, rfl, hq, H⟩
          have : q = false := by
            cases q
            · rfl
            · obtain ⟨p, hp, _⟩ := hq.1 rfl
              cases hp
          subst this
          exact ⟨false, rfl, rfl, H.drop⟩
    refine ⟨fun w' => Has w w' [wl b 0 k (if stop then [] else [(3, O)])], ?_, fun _ w5 H => tail w5 H⟩
    refine bif_i (fun hs => ?_) fun hs => ?_
    · subst hs
      refine (wheel_Stop_wl (show CO [] from True.intro) H).mono ?_
      rintro e w4 ⟨v, rfl, q, rfl, hq, H⟩
      have : q = true := hq.2 ⟨_, List.mem_singleton.2 rfl, rfl⟩
      subst this
      exact ⟨true, rfl, bif_f rfl H⟩
    · subst hs
      exact H

end
end Go.Proofs.Ytdlalkhnppahfaa
