/-
  Layer 9 (wheel): WheelCounts, walked: it answers true, whatever comes.
-/
import Derived.Test.YtdlalkhnppahfaaXWheelI
set_option maxRecDepth 8000
namespace Go.X
open Go

theorem flat_drop {α : Type} {cells : α → List Value} {k : Nat} (hk : ∀ x, (cells x).length = k) : ∀ (l : List α) (i : Nat), (l.flatMap cells).drop (i * k) = (l.drop i).flatMap cells
  | l, 0 => by simp
  | [], i + 1 => by simp
  | x :: l, i + 1 => by
    rw [List.flatMap_cons, List.drop_append, List.drop_of_length_le (l := cells x) (by rw [hk]; rw [Nat.add_mul]; omega), List.nil_append, List.drop_succ_cons, ← flat_drop hk l i]
    congr 1
    rw [hk, Nat.add_mul]; omega

/-- A row's element, in cells. -/
theorem Vw.elem {α : Type} {cells : α → List Value} {k : Nat} (hk : ∀ x, (cells x).length = k) (hp : 0 < k) {w : World} {a : Option Addr} {l : List α} (h : Vw w a (l.flatMap cells)) {i : Nat} (hi : i < l.length) :
    ∃ b o, a = some ⟨b, o, none⟩ ∧ rdRow w b (o + ((i : Int)).toNat * k) (cells l[i]) := by
  have hd := flat_drop hk l i
  rw [List.drop_eq_getElem_cons hi, List.flatMap_cons] at hd
  have hlen : 0 < (l.flatMap cells).length := by
    rcases Nat.eq_zero_or_pos (l.flatMap cells).length with h0 | h0
    · have h1 := congrArg List.length hd
      rw [List.length_drop, List.length_append, hk, h0] at h1; omega
    · exact h0
  obtain ⟨b, o, rfl, hc⟩ := h.at hlen
  refine ⟨b, o, rfl, fun j v hj => ?_⟩
  have hjk : j < k := by rw [← hk l[i]]; exact (List.getElem?_eq_some_iff.1 hj).1
  rw [Int.toNat_natCast, Nat.add_assoc]
  refine hc _ _ ?_
  have h1 := List.getElem?_drop (xs := l.flatMap cells) (i := i * k) (j := j)
  rw [← h1, hd, List.getElem?_append_left (by rw [hk]; exact hjk)]
  exact hj

/-- A call of a wheel. -/
structure Cl where
  kind : Int
  id : Int
  n : Int
def Cl.cells (c : Cl) : List Value := [.int .i64 c.kind, .int .i64 c.id, .int .i64 c.n]
theorem Cl.cells_len (c : Cl) : c.cells.length = 3 := rfl

theorem filter_len : ∀ {L : List (Int × Nat)} {id : Int}, (L.map (·.1)).Nodup → (∃ p ∈ L, p.1 = id) → (L.filter fun p => p.1 != id).length + 1 = L.length
  | [], _, _, ⟨p, hp, _⟩ => by cases hp
  | x :: L, id, hnd, ⟨p, hp, he⟩ => by
    rw [List.map_cons, List.nodup_cons] at hnd
    by_cases hx : x.1 = id
    · rw [List.filter_cons_of_neg (by simp [hx])]
      have : L.filter (fun p => p.1 != id) = L := List.filter_eq_self.2 fun y hy => by
        have : y.1 ≠ id := fun e => hnd.1 (List.mem_map.2 ⟨y, hy, by rw [e, hx]⟩)
        simpa using this
      rw [this]; rfl
    · rw [List.filter_cons_of_pos (by simp [hx])]
      rcases List.mem_cons.1 hp with rfl | hp
      · exact absurd he hx
      · have := filter_len hnd.2 ⟨p, hp, he⟩
        simp only [List.length_cons]; omega
theorem nxt_zero {now : Nat} {L : List (Int × Nat)} (h : ∀ p ∈ L, now < p.2) : (nxt now L = 0) ↔ L.length = 0 := by
  have e : L = (L.map fun p => (⟨p.1, p.2, 0⟩ : Tm)).map fun t => (t.id, t.due) := by
    rw [List.map_map]
    induction L with
    | nil => rfl
    | cons x L ih => rw [List.map_cons, ← ih fun p hp => h p (.tail _ hp)]; rfl
  have e2 : nxt now L = minD now (L.map fun p => (⟨p.1, p.2, 0⟩ : Tm)) := by rw [nxt_map, ← e]
  rw [e2]
  have h' : ∀ t ∈ (L.map fun p => (⟨p.1, p.2, 0⟩ : Tm)), now < t.due := fun t ht => by
    obtain ⟨p, hp, rfl⟩ := List.mem_map.1 ht
    exact h p hp
  rcases minD_is h' with ⟨h1, h2⟩ | ⟨⟨t, ht, he⟩, _⟩
  · rw [h2]
    have := congrArg List.length h1
    rw [List.length_map] at this
    simp [this]
  · have := h' t ht
    constructor
    · intro h; omega
    · intro h
      have : L = [] := List.eq_nil_of_length_eq_zero h
      rw [this] at ht; cases ht

theorem setR_len {now : Nat} {L : List (Int × Nat)} {id delay : Int} (hnd : (L.map (·.1)).Nodup) : ((setR now L id delay).1 ≠ 0 ∧ (setR now L id delay).2 = L) ∨ ((setR now L id delay).1 = 0 ∧ ((setR now L id delay).2.length = L.length ∨ (setR now L id delay).2.length = L.length + 1)) := by
  unfold setR
  split
  · exact .inl ⟨by simp, rfl⟩
  · split
    · exact .inl ⟨by simp, rfl⟩
    · refine .inr ⟨rfl, ?_⟩
      by_cases h : ∃ p ∈ L, p.1 = id
      · have := filter_len hnd h
        left; simp only [List.length_append, List.length_cons, List.length_nil]; omega
      · have : L.filter (fun p => p.1 != id) = L := filter_none fun p hp e => h ⟨p, hp, e⟩
        right; rw [this]; simp

end Go.X
namespace Go.Proofs.Ytdlalkhnppahfaa
open Go.X

section
variable {w0 w : World} {r : List A} {b now k : Nat} {L : List (Int × Nat)}

theorem wl_facts (H : Has w0 w (wl b now k L :: r)) : (L.map (·.1)).Nodup ∧ L.length ≤ 64 ∧ ∀ p ∈ L, now < p.2 ∧ p.2 ≤ now + 1048576 := by
  obtain ⟨m, h, _⟩ := wl_open H
  exact ⟨h.nd, h.le, h.due⟩

theorem WheelCounts_spec {la : Option Addr} {lc : Nat} {l : List Cl} (hv : Vw w la (l.flatMap Cl.cells)) : Calls Try.prog 6 #[.slice la l.length lc] w fun e w' => ∃ v, e = .returned v ∧ v = .bool true ∧ Has w w' [] := by
  refine tontinelaw09_WheelCounts.ok _ _ _ ?_
  refine begun_spec.mono ?_
  rintro e w1 ⟨v, rfl, rfl, H⟩
  refine ⟨_, rfl, bif_f rfl ?_⟩
  refine (wheel_New_wl H).mono ?_
  rintro e w2 ⟨v, rfl, b, rfl, H⟩
  -- the last look
  have fin : ∀ {w3 : World} {now k S G : Nat} {L : List (Int × Nat)} {X : List A}, CO X → now < 2097152 → S ≤ 300 → S = G + L.length → Has w w3 (wl b now k L :: X) →
      Calls Try.prog 14 #[pv b 0] w3 fun e_11 w_15 => ∃ r8 : Int, e_11 = .returned (.int .i64 r8) ∧ (bif ((S : Int) == (w64 ((G : Int) + r8))) then (Calls Try.prog 15 #[pv b 0] w_15 fun e_12 w_16 => (∃ r9 : Int, e_12 = .returned (.int .u64 r9) ∧
        (Calls Try.prog 14 #[pv b 0] w_16 fun e_13 w_17 => (∃ r10 : Int, e_13 = .returned (.int .i64 r10) ∧ ((fun v w' => v = Value.bool true ∧ Has w w' []) (.bool ((r9 == 0) == (r10 == 0))) w_17))))) else ((fun v w' => v = Value.bool true ∧ Has w w' []) (.bool false) w_15)) := by
    intro w3 now k S G L X hX hnow hS hSG H
    have hfx := wl_facts H
    refine (wheel_Len_wl H).mono ?_
    rintro e w4 ⟨v, rfl, rfl, H⟩
    refine ⟨_, rfl, bif_t ?_ ?_⟩
    · rw [w64_id (by omega)]; simp; omega
    refine (wheel_Due_wl hnow hX H).mono ?_
    rintro e w5 ⟨v, rfl, rfl, H⟩
    refine ⟨_, rfl, ?_⟩
    refine (wheel_Len_wl H).mono ?_
    rintro e w6 ⟨v, rfl, rfl, H⟩
    refine ⟨_, rfl, ?_, (Has.cut (l := wl b now k L :: X) (X.length + 1) H |> fun H => by simpa using H)⟩
    have hz := nxt_zero fun p hp => (hfx.2.2 p hp).1
    by_cases h0 : L.length = 0
    · rw [hz.2 h0, h0]; rfl
    · have h1 : nxt now L ≠ 0 := fun e => h0 (hz.1 e)
      have g1 : ((nxt now L : Int) == 0) = false := by simp; omega
      have g2 : ((L.length : Int) == 0) = false := by
        have : (L.length : Int) ≠ 0 := by omega
        simpa using this
      rw [g1, g2]; rfl
  refine ⟨_, _, rfl, fun x t o i w' => ∃ (k S G O : Nat) (L : List (Int × Nat)), i = (k : Int) ∧ x = (S : Int) ∧ t = (G : Int) ∧ o = (O : Int) ∧ k ≤ l.length ∧ k ≤ 300 ∧ S ≤ k ∧ O ≤ 10000 ∧ S = G + L.length ∧ Has w w' [wl b O k L], fun _ _ _ i _ => l.length + 1 - i.toNat,
    ⟨0, 0, 0, 0, [], rfl, rfl, rfl, rfl, by omega, by omega, by omega, by omega, rfl, H⟩, ?_⟩
  clear H
  rintro _ x t o i w3 ⟨k, S, G, O, L, rfl, rfl, rfl, rfl, hkl, hk3, hSk, hO, hSG, H⟩
  have hfx := wl_facts H
  refine bif_i (fun h => ?_) fun h => ?_
  · have h : k < l.length := by simp at h; omega
    have e2 : w64 ((k : Int) + 1) = ((k + 1 : Nat) : Int) := by rw [w64_id (by omega)]; rfl
    obtain ⟨b3, o3, hb3, hr3⟩ := Vw.elem (cells := Cl.cells) (k := 3) (fun _ => rfl) (by omega) (hv.old H) h
    generalize hc : l[k] = c at hr3
    refine ⟨b3, o3, hb3, by omega, by omega, c.kind, c.id, c.n, hr3, H.al fun b4 w4 H => Has.st H (by simp) rfl fun w5 H => ?_⟩
    have H : Has w w5 (ca b4 37 c.cells :: wl b O k L :: []) := H
    refine bif_i (fun h3 => ?_) fun h3 => ?_
    · exact fin (X := [ca b4 37 c.cells]) ⟨co_ca _ _ _, True.intro⟩ (by omega) (by omega) hSG H.f1
    have h3 : k < 300 := by
      have : (k : Int) ≠ 300 := by simpa using h3
      omega
    rw [e2]
    have hM : l.length + 1 - ((k + 1 : Nat) : Int).toNat < l.length + 1 - ((k : Nat) : Int).toNat := by omega
    refine ⟨_, H.cell rfl, bif_i (fun h4 => ?_) fun h4 => bif_i (fun h5 => ?_) fun h5 => ?_⟩
    · refine (wheel_Len_wl H.f1).mono ?_
      rintro e w6 ⟨v, rfl, rfl, H⟩
      refine ⟨_, rfl, _, H.f1.cell rfl, _, H.f1.cell rfl, ?_⟩
      refine (wheel_Set_wl (by omega) (by omega) (show CO [ca b4 _ _] from ⟨co_ca _ _ _, True.intro⟩) H).mono ?_
      rintro e w7 ⟨v, rfl, rfl, H⟩
      have e3 : w64 ((S : Int) + 1) = ((S + 1 : Nat) : Int) := by rw [w64_id (by omega)]; rfl
      have e4 : w64 ((G : Int) + 1) = ((G + 1 : Nat) : Int) := by rw [w64_id (by omega)]; rfl
      rw [e3, e4]
      rcases setR_len (now := O) (id := c.id) (delay := c.n) hfx.1 with ⟨g1, g2⟩ | ⟨g1, g2⟩
      · rw [g2] at H
        exact ⟨_, rfl, bif_f (by simpa using g1) ⟨⟨k + 1, S, G, O, L, rfl, rfl, rfl, rfl, h, h3, by omega, hO, hSG, H.f1.drop⟩, hM⟩⟩
      · refine ⟨_, rfl, bif_t (by simpa using g1) ?_⟩
        refine (wheel_Len_wl H).mono ?_
        rintro e w8 ⟨v, rfl, rfl, H⟩
        refine ⟨_, rfl, bif_i (fun h5 => ?_) fun h5 => ?_⟩
        · have h5 : ((setR O L c.id c.n).2.length : Int) = (L.length : Int) := by simpa using h5
          exact ⟨⟨k + 1, S + 1, G + 1, O, _, rfl, rfl, rfl, rfl, h, h3, by omega, hO, by omega, H.f1.drop⟩, hM⟩
        · have h5 : ¬ ((setR O L c.id c.n).2.length : Int) = (L.length : Int) := by simpa using h5
          exact ⟨⟨k + 1, S + 1, G, O, _, rfl, rfl, rfl, rfl, h, h3, by omega, hO, by omega, H.f1.drop⟩, hM⟩
    · refine ⟨_, H.cell rfl, ?_⟩
      refine (wheel_Stop_wl (show CO [ca b4 _ _] from ⟨co_ca _ _ _, True.intro⟩) H.f1).mono ?_
      rintro e w6 ⟨v, rfl, q, rfl, hq, H⟩
      have e4 : w64 ((G : Int) + 1) = ((G + 1 : Nat) : Int) := by rw [w64_id (by omega)]; rfl
      rw [e4]
      refine ⟨_, rfl, bif_i (fun h6 => ?_) fun h6 => ?_⟩
      · have := filter_len hfx.1 (hq.1 h6)
        exact ⟨⟨k + 1, S, G + 1, O, _, rfl, rfl, rfl, rfl, h, h3, by omega, hO, by omega, wl_more H.f1.drop (Nat.le_succ k)⟩, hM⟩
      · have hno : ∀ p ∈ L, p.1 ≠ c.id := fun p hp e => by
          have := hq.2 ⟨p, hp, e⟩
          rw [h6] at this; cases this
        rw [filter_none hno] at H
        exact ⟨⟨k + 1, S, G, O, L, rfl, rfl, rfl, rfl, h, h3, by omega, hO, hSG, wl_more H.f1.drop (Nat.le_succ k)⟩, hM⟩
    · refine ⟨_, H.cell rfl, ?_⟩
      obtain ⟨q, hq, eq⟩ := nrm c.n (m := 2000) (by omega) (by omega)
      rw [eq]
      have e5 : w64 ((O : Int) + (q : Int)) = ((O + q : Nat) : Int) := by rw [w64_id (by omega)]; rfl
      rw [e5]
      refine bif_i (fun h6 => ⟨rfl, H.drop.drop⟩) fun h6 => ?_
      have h6 : O + q ≤ 10000 := by simp at h6; omega
      refine ⟨fun t2 i2 w' => ∃ (j G' : Nat) (L' : List (Int × Nat)), i2 = (j : Int) ∧ t2 = (G' : Int) ∧ j ≤ q ∧ S = G' + L'.length ∧ Has w w' [wl b (O + j) k L'], fun _ i _ => q + 1 - i.toNat, ⟨0, G, L, rfl, rfl, by omega, hSG, H.drop⟩, ?_⟩
      clear H
      rintro _ t2 i2 w7 ⟨j, G', L', rfl, rfl, hj, hSG', H⟩
      refine bif_i (fun h7 => ?_) fun h7 => ?_
      · have h7 : j < q := by simp at h7; omega
        refine (wheel_Tick_wl (by omega) H).mono ?_
        rintro e w8 ⟨v, rfl, a, c5, rfl, H⟩
        have e6 : w64 ((j : Int) + 1) = ((j + 1 : Nat) : Int) := by rw [w64_id (by omega)]; rfl
        have hft := filter_two (fun p : Int × Nat => p.2 == O + j + 1) L'
        have hdl : (dueIds (O + j + 1) L').length = (L'.filter fun p => p.2 == O + j + 1).length := by unfold dueIds; rw [List.length_map]
        have e7 : w64 ((G' : Int) + ((dueIds (O + j + 1) L').length : Int)) = ((G' + (dueIds (O + j + 1) L').length : Nat) : Int) := by rw [w64_id (by omega)]; rfl
        rw [e6]
        refine ⟨_, _, _, rfl, ?_⟩
        rw [e7]
        exact ⟨⟨j + 1, _, _, rfl, rfl, h7, by omega, H.f1.drop⟩, by (try dsimp only); omega⟩
      · have h7 : j = q := by simp at h7; omega
        subst h7
        exact ⟨⟨k + 1, S, G', O + j, L', rfl, rfl, rfl, rfl, h, h3, by omega, h6, hSG', wl_more H (by omega)⟩, hM⟩
  · have h : k = l.length := by simp at h; omega
    exact fin (X := []) True.intro (by omega) (by omega) hSG H

end
end Go.Proofs.Ytdlalkhnppahfaa
