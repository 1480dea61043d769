/-
  Layer 9 (wheel): WheelRuns, walked: it answers true, whatever comes.
-/
import Derived.Test.YtdlalkhnppahfaaXWheelN
set_option maxRecDepth 8000
namespace Go.Proofs.Ytdlalkhnppahfaa
open Go.X

section
variable {w : World}

theorem WheelRuns_spec {la : Option Addr} {lc : Nat} {l : List Cl} (hv : Vw w la (l.flatMap Cl.cells)) : Calls Try.prog 7 #[.slice la l.length lc] w fun e w' => ∃ v, e = .returned v ∧ v = .bool true ∧ Has w w' [] := by
  refine tontinelaw09_WheelRuns.ok _ _ _ ?_
  refine begun_spec.mono ?_
  rintro e w1 ⟨v, rfl, rfl, H⟩
  refine ⟨_, rfl, bif_f rfl ?_⟩
  refine (wheel_New_wl H).mono ?_
  rintro e w2 ⟨v, rfl, b, rfl, H⟩
  refine ⟨_, _, rfl, H.al fun b1 w3 H => ?_⟩
  have H : Has w w3 (rf b1 0 none 0 none 0 [] [wl b 0 0 []]) := by
    have H1 := ((H.f1.mkow0 33 1).mkow0 3 1)
    exact H1.ro [3, 0, 1, 2]
  refine ⟨fun t i w' => ∃ (k O : Nat) (L : List (Int × Nat)) (a1 : Option Addr) (c1 : Nat) (a2 : Option Addr) (c2 : Nat), i = (k : Int) ∧ t = (O : Int) ∧ k ≤ l.length ∧ k ≤ 300 ∧ O ≤ 20000 ∧ Has w w' (rf b1 O a1 c1 a2 c2 L [wl b O k L]), fun _ i _ => l.length + 1 - i.toNat,
    ⟨0, 0, [], none, 0, none, 0, rfl, rfl, by omega, by omega, by omega, H⟩, ?_⟩
  clear H
  rintro _ t i w4 ⟨k, O, L, a1, c1, a2, c2, rfl, rfl, hkl, hk3, hO, H⟩
  have hfx := wl_facts (Has.ro H [3])
  refine bif_i (fun h => ?_) fun h => ⟨rfl, Has.rm H [0, 1, 2, 3]⟩
  have h : k < l.length := by simp at h; omega
  have e2 : w64 ((k : Int) + 1) = ((k + 1 : Nat) : Int) := by rw [w64_id (by omega)]; rfl
  obtain ⟨b3, o3, hb3, hr3⟩ := Vw.elem (cells := Cl.cells) (k := 3) (fun _ => rfl) (by omega) (hv.old H) h
  generalize hc : l[k] = c at hr3
  refine ⟨b3, o3, hb3, by omega, by omega, c.kind, c.id, c.n, hr3, H.al fun b4 w5 H => Has.st H (by simp) rfl fun w6 H => ?_⟩
  have H : Has w w6 (ca b4 37 c.cells :: rf b1 O a1 c1 a2 c2 L [wl b O k L]) := H
  refine bif_i (fun h3 => ⟨rfl, Has.rm H [0, 1, 2, 3, 4]⟩) fun h3 => ?_
  have h3 : k < 300 := by
    have : (k : Int) ≠ 300 := by simpa using h3
    omega
  rw [e2]
  have hM : l.length + 1 - ((k + 1 : Nat) : Int).toNat < l.length + 1 - ((k : Nat) : Int).toNat := by omega
  refine ⟨fun t2 w' => ∃ (O2 : Nat) (L2 : List (Int × Nat)) (a1 : Option Addr) (c1 : Nat) (a2 : Option Addr) (c2 : Nat), t2 = (O2 : Int) ∧ O2 ≤ 20000 ∧ Has w w' (rf b1 O2 a1 c1 a2 c2 L2 [wl b O2 (k + 1) L2]), ⟨_, H.cell rfl, bif_i (fun h4 => ?_) fun h4 => bif_i (fun h5 => ?_) fun h5 => ?_⟩, ?_⟩
  · refine H.dr fun w7 H => ⟨_, H.cell rfl, _, H.cell rfl, _, H.cell rfl, _, H.cell rfl, ?_⟩
    have H1 := Has.ro H [4]
    refine (wheel_Set_wl (by omega) (by omega) (by exact ⟨co_ca _ _ _, co_ca _ _ _, co_ow _ _ _ _ _ _, co_ow _ _ _ _ _ _, True.intro⟩) H1).mono ?_
    rintro e w8 ⟨v, rfl, rfl, H⟩
    refine ⟨_, rfl, H.f1.cell rfl, H.f1.cell rfl, ?_⟩
    refine (ref_Set_spec hfx.1 hfx.2.1 (by omega) (Has.ro H [2, 3, 4])).mono ?_
    rintro e w9 ⟨v, rfl, rfl, a3, c3, a4, c4, H⟩
    exact ⟨_, rfl, bif_f (by simp) ⟨O, _, a3, c3, a4, c4, rfl, hO, Has.rm H [4] |>.ro [0, 1, 2, 3]⟩⟩
  · refine H.dr fun w7 H => ⟨_, H.cell rfl, _, H.cell rfl, ?_⟩
    have H1 := Has.ro H [4]
    refine (wheel_Stop_wl (by exact ⟨co_ca _ _ _, co_ca _ _ _, co_ow _ _ _ _ _ _, co_ow _ _ _ _ _ _, True.intro⟩) H1).mono ?_
    rintro e w8 ⟨v, rfl, q, rfl, hq, H⟩
    refine ⟨_, rfl, H.f1.cell rfl, ?_⟩
    refine (ref_Stop_spec hfx.1 (by omega) (Has.ro H [2, 3, 4])).mono ?_
    rintro e w9 ⟨v, rfl, q', rfl, hq', a3, c3, a4, c4, H⟩
    have hqq : q = q' := by
      cases q <;> cases q'
      · rfl
      · cases hq.2 (hq'.1 rfl)
      · cases hq'.2 (hq.1 rfl)
      · rfl
    subst hqq
    refine ⟨_, rfl, bif_f (by simp) ⟨O, L.filter (fun p => p.1 != c.id), a3, c3, a4, c4, rfl, hO, ?_⟩⟩
    exact (wl_more (Has.rm H [4] |>.ro [3]) (Nat.le_succ k)).ro [1, 2, 3, 0]
  · refine ⟨_, H.cell rfl, ?_⟩
    obtain ⟨q, hq, eq⟩ := nrm c.n (m := 3000) (by omega) (by omega)
    rw [eq]
    have e5 : w64 ((O : Int) + (q : Int)) = ((O + q : Nat) : Int) := by rw [w64_id (by omega)]; rfl
    rw [e5]
    refine bif_i (fun h6 => ⟨rfl, Has.rm H [0, 1, 2, 3, 4]⟩) fun h6 => ?_
    have h6 : O + q ≤ 20000 := by simp at h6; omega
    refine ⟨fun i2 w' => ∃ (j : Nat) (L2 : List (Int × Nat)) (a1 : Option Addr) (c1 : Nat) (a2 : Option Addr) (c2 : Nat), i2 = (j : Int) ∧ j ≤ q ∧ Has w w' (rf b1 (O + j) a1 c1 a2 c2 L2 [wl b (O + j) k L2]), fun i _ => q + 1 - i.toNat, ⟨0, L, a1, c1, a2, c2, rfl, by omega, H.drop⟩, ?_⟩
    clear H
    rintro _ i2 w7 ⟨j, L2, a3, c3, a4, c4, rfl, hj, H⟩
    have hf2 := wl_facts (Has.ro H [3])
    refine bif_i (fun h7 => ?_) fun h7 => ?_
    · have h7 : j < q := by simp at h7; omega
      refine (wheel_Tick_wl (by omega) (Has.ro H [3])).mono ?_
      rintro e w8 ⟨v, rfl, a5, c5, rfl, H⟩
      refine ⟨_, _, _, rfl, ?_⟩
      refine (ref_Tick_spec (by omega) (by omega) (Has.ro H [2, 3, 4])).mono ?_
      rintro e w9 ⟨v, rfl, a6, c6, rfl, a7, c7, a8, c8, H⟩
      refine ⟨_, _, _, rfl, ?_⟩
      have hdl : (dueIds (O + j + 1) L2).length ≤ 64 := by
        unfold dueIds
        rw [List.length_map]
        exact Nat.le_trans (List.length_filter_le _ _) hf2.2.1
      refine (ref_Ints_spec (by omega) (Has.vw (Has.ro H [5])) (Has.vw H) H).mono ?_
      rintro e w10 ⟨v, rfl, rfl, H⟩
      have e6 : w64 ((j : Int) + 1) = ((j + 1 : Nat) : Int) := by rw [w64_id (by omega)]; rfl
      rw [e6]
      exact ⟨_, rfl, bif_f rfl ⟨⟨j + 1, _, a7, c7, a8, c8, rfl, h7, Has.rm H [0, 5] |>.ro [0, 1, 2, 3]⟩, by (try dsimp only); omega⟩⟩
    · have h7 : j = q := by simp at h7; omega
      subst h7
      refine ⟨O + j, L2, a3, c3, a4, c4, rfl, h6, ?_⟩
      exact (wl_more (Has.ro H [3]) (Nat.le_succ k)).ro [1, 2, 3, 0]
  · clear H
    rintro _ t2 w7 ⟨O2, L2, a3, c3, a4, c4, rfl, hO2, H⟩
    have hf2 := wl_facts (Has.ro H [3])
    refine H.dr fun w8 H => ⟨_, H.cell rfl, ?_⟩
    refine (wheel_Now_wl (Has.ro H [3])).mono ?_
    rintro e w9 ⟨v, rfl, rfl, H⟩
    refine ⟨_, rfl, H.f1.cell rfl, bif_f (by simp) ⟨_, _, _, H.f1.cell rfl, ?_⟩⟩
    refine (wheel_Len_wl H).mono ?_
    rintro e w10 ⟨v, rfl, rfl, H⟩
    refine ⟨_, rfl, H.f1.cell rfl, H.f1.cell rfl, bif_f (by simp) ?_⟩
    refine (wheel_Due_wl (by omega) (by exact ⟨co_ca _ _ _, co_ow _ _ _ _ _ _, co_ow _ _ _ _ _ _, True.intro⟩) H).mono ?_
    rintro e w11 ⟨v, rfl, rfl, H⟩
    refine ⟨_, rfl, H.f1.cell rfl, H.f1.cell rfl, ?_⟩
    refine (ref_Next_spec (by omega) (by omega) (fun p hp => ⟨(hf2.2.2 p hp).1, by have := (hf2.2.2 p hp).2; omega⟩) (Has.ro H [1, 2, 3])).mono ?_
    rintro e w12 ⟨v, rfl, rfl, H⟩
    exact ⟨_, rfl, H.cell rfl, H.cell rfl, bif_f (by simp) ⟨⟨k + 1, O2, L2, a3, c3, a4, c4, rfl, rfl, h, h3, hO2, H⟩, hM⟩⟩

end
end Go.Proofs.Ytdlalkhnppahfaa
