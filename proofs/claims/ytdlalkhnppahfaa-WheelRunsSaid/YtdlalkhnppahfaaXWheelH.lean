/-
  Layer 9 (wheel): Tick over the list; a wheel that is none; begun.
-/
import Derived.Test.YtdlalkhnppahfaaXWheelG
import Derived.Test.YtdlalkhnppahfaaLWheelB
set_option maxRecDepth 8000
namespace Go.X
open Go

def dueIds (now : Nat) (L : List (Int × Nat)) : List Int := (L.filter fun p => p.2 == now).map (·.1)

theorem same_turn {T : List Tm} (h : T.Pairwise (fun a b => a.turn < b.turn)) {a b : Tm} (ha : a ∈ T) (hb : b ∈ T) (he : a.turn = b.turn) : a = b := by
  obtain ⟨i, hi, rfl⟩ := List.getElem_of_mem ha
  obtain ⟨j, hj, rfl⟩ := List.getElem_of_mem hb
  rw [List.pairwise_iff_getElem] at h
  rcases Nat.lt_trichotomy i j with hij | hij | hij
  · have := h i j hi hj hij; omega
  · subst hij; rfl
  · have := h j i hj hi hij; omega

theorem filter_two {α : Type} (p : α → Bool) : ∀ l : List α, (l.filter p).length + (l.filter fun x => !p x).length = l.length
  | [] => rfl
  | x :: l => by
    have ih := filter_two p l
    by_cases h : p x
    · rw [List.filter_cons_of_pos h, List.filter_cons_of_neg (by simp [h])]; simp only [List.length_cons]; omega
    · rw [List.filter_cons_of_neg h, List.filter_cons_of_pos (by simpa using h)]; simp only [List.length_cons]; omega

theorem Iv.tick {m m' : Wm} {now k : Nat} {L : List (Int × Nat)} {l' : List Tm} (h : Iv m now k L) (hN : now + 1 < 2097152) (h1 : m'.now = m.now + 1) (h2 : m'.turn = m.turn) (h3 : m'.n = m.n - l'.length) (h4 : m'.rs.length = 449)
    (h5 : m'.pl = (tick2 (m.now + 1) m.pl).set ((m.now + 1) % 64) []) (h6 : l'.Perm ((tick2 (m.now + 1) m.pl)[(m.now + 1) % 64]?.getD [])) (h7 : l'.Pairwise (fun a b => ¬ b.turn < a.turn)) :
    l'.map (·.id) = dueIds (now + 1) L ∧ Iv m' (now + 1) k (L.filter fun p => !(p.2 == now + 1)) := by
  obtain ⟨T, g1, g2, g3, g4⟩ := h.T
  have hnw := h.nw
  subst hnw
  have hd : ∀ t ∈ T, m.now < t.due := fun t ht => (h.due (t.id, t.due) (by rw [← g1]; exact List.mem_map.2 ⟨t, ht, rfl⟩)).1
  have hat := tick_at g2 hN hd
  obtain ⟨⟨hj, hp⟩, hat2⟩ := due_at hat (fun t ht => hd t ht)
  rw [List.getElem?_eq_getElem hj, Option.getD_some] at h6
  have hpp := h6.trans hp
  have hl : l' = T.filter fun t => decide (t.due = m.now + 1) := by
    refine hpp.eq_of_pairwise (le := fun a b => ¬ b.turn < a.turn) (fun a b ha hb hab hba => ?_) h7 ((g3.filter _).imp fun h => by omega)
    have ha' := (List.mem_filter.1 (hpp.mem_iff.1 ha)).1
    have hb' := (List.mem_filter.1 hb).1
    exact same_turn g3 ha' hb' (by omega)
  have e1 : ∀ q : Tm → Bool, ∀ p : Int × Nat → Bool, (∀ t, q t = p (t.id, t.due)) → (T.filter q).map (fun t => (t.id, t.due)) = L.filter p := fun q p hqp => by
    rw [← g1, List.filter_map]
    congr 1
    exact List.filter_congr fun t _ => hqp t
  have e2 := e1 (fun t => decide (t.due = m.now + 1)) (fun p => p.2 == m.now + 1) (fun t => rfl)
  have e3 := e1 (fun t => !decide (t.due = m.now + 1)) (fun p => !(p.2 == m.now + 1)) (fun t => rfl)
  have e4 := filter_two (fun p : Int × Nat => p.2 == m.now + 1) L
  have e5 : l'.length = (L.filter fun p => p.2 == m.now + 1).length := by rw [hl, ← e2, List.length_map]
  refine ⟨?_, ⟨h1, h4, by rw [h2]; exact h.turn, ?_, ?_, h.nd.sublist (List.filter_sublist.map _), fun p hp => ?_, T.filter fun t => !decide (t.due = m.now + 1), e3, by rw [h5]; exact hat2, g3.filter _, fun t ht => by rw [h2]; exact g4 t (List.mem_filter.1 ht).1⟩⟩
  · unfold dueIds
    rw [hl, ← e2, List.map_map]; rfl
  · have := h.n; omega
  · have := h.le; omega
  · obtain ⟨hp1, hp2⟩ := List.mem_filter.1 hp
    have := h.due p hp1
    have hne : p.2 ≠ m.now + 1 := by simpa using hp2
    omega

end Go.X
namespace Go.Proofs.Ytdlalkhnppahfaa
open Go.X

section
variable {w0 w : World} {r : List A} {b now k : Nat} {L : List (Int × Nat)}

theorem wheel_Tick_wl (hN : now + 1 < 2097152) (H : Has w0 w (wl b now k L :: r)) :
    Calls Try.prog 12 #[pv b 0] w fun e w' => ∃ v, e = .returned v ∧ ∃ (a : Option Addr) (c : Nat), v = .slice a (dueIds (now + 1) L).length c ∧
      Has w0 w' (wl b (now + 1) k (L.filter fun p => !(p.2 == now + 1)) :: ow 3 1 a (dueIds (now + 1) L).length c (ic (dueIds (now + 1) L)) :: r) := by
  obtain ⟨m, h, H⟩ := wl_open H
  have hf := h.flat
  have hle := h.le
  have hn := h.n
  have hnw := h.nw
  refine (wheel_Tick_spec h.len (by omega) (by omega) (by omega) (fun t ht => ?_) H).mono ?_
  · have := h.due _ ((h.mem (t.id, t.due)).2 ⟨t, ht, rfl⟩)
    dsimp only at this; omega
  · rintro e w' ⟨v, rfl, a, c, m', l', rfl, h1, h2, h3, h4, h5, h6, h7, H⟩
    obtain ⟨g1, g2⟩ := h.tick hN h1 h2 h3 h4 h5 h6 h7
    have g3 : l'.length = (dueIds (now + 1) L).length := by rw [← g1, List.length_map]
    refine ⟨_, rfl, a, c, by rw [g3], ?_⟩
    rw [g1, g3] at H
    exact wl_shut g2 H

theorem nil_Now_spec (H : Has w0 w r) : Calls Try.prog 20 #[.pointer none] w fun e w' => ∃ v, e = .returned v ∧ v = .int .u64 0 ∧ Has w0 w' r :=
  nil_Now.ok (R := fun v w' => v = .int .u64 0 ∧ Has w0 w' r) ⟨rfl, H⟩
theorem nil_Len_spec (H : Has w0 w r) : Calls Try.prog 14 #[.pointer none] w fun e w' => ∃ v, e = .returned v ∧ v = .int .i64 0 ∧ Has w0 w' r :=
  nil_Len.ok (R := fun v w' => v = .int .i64 0 ∧ Has w0 w' r) ⟨rfl, H⟩
theorem nil_Set_spec {id delay : Int} (H : Has w0 w r) : Calls Try.prog 11 #[.pointer none, .int .i64 id, .int .i64 delay] w fun e w' => ∃ v, e = .returned v ∧ v = .int .i64 1 ∧ Has w0 w' r :=
  nil_Set.ok id delay (R := fun v w' => v = .int .i64 1 ∧ Has w0 w' r) ⟨rfl, H⟩
theorem nil_Tick_spec (H : Has w0 w r) : Calls Try.prog 12 #[.pointer none] w fun e w' => ∃ v, e = .returned v ∧ v = .slice none 0 0 ∧ Has w0 w' r :=
  nil_Tick.ok (R := fun v w' => v = .slice none 0 0 ∧ Has w0 w' r) ⟨rfl, H⟩
theorem nil_Stop_spec {id : Int} (H : Has w0 w r) : Calls Try.prog 13 #[.pointer none, .int .i64 id] w fun e w' => ∃ v, e = .returned v ∧ v = .bool false ∧ Has w0 w' r := by
  refine nil_Stop.ok id ?_
  refine H.al fun b1 w1 H => H.al fun b2 w2 H => H.al fun b3 w3 H => .inl ⟨H.f2.cell rfl, Has.st H (by simp) rfl fun w4 H => ⟨_, H.cell rfl, rfl, H.drop.drop.drop⟩⟩
theorem nil_Due_spec (H : Has w0 w r) : Calls Try.prog 15 #[.pointer none] w fun e w' => ∃ v, e = .returned v ∧ v = .int .u64 0 ∧ Has w0 w' r := by
  refine nil_Due.ok ?_
  refine H.al fun b1 w1 H => H.al fun b2 w2 H => Has.st H (by simp) rfl fun w3 H => .inl ⟨H.f1.cell rfl, rfl, H.drop.drop⟩

/-- One id that was answered. -/
theorem ic_cell {a : Option Addr} {c : Nat} {x : Int} (H : Has w0 w (ow 3 1 a 1 c (ic [x]) :: r)) : ∃ b1 o1, a = some ⟨b1, o1, none⟩ ∧ w.cell? ⟨b1, o1, none⟩ = some (.int .i64 x) := by
  obtain ⟨b1, rfl, hc⟩ := H.owCell (by omega)
  exact ⟨b1, 0, rfl, hc 0 _ rfl⟩

theorem begun_spec : Calls Try.prog 9 #[] w fun e w' => ∃ v, e = .returned v ∧ v = .bool true ∧ Has w w' [] := by
  refine tontinelaw09_begun.ok ?_
  refine (wheel_New_wl (Has.start w)).mono ?_
  rintro e w1 ⟨v, rfl, b, rfl, H⟩
  refine ⟨_, _, rfl, ?_⟩
  refine (wheel_Set_wl (by omega) (by omega) (show CO [] from True.intro) H).mono ?_
  rintro e w2 ⟨v, rfl, rfl, H⟩
  rw [show setR 0 [] 1 2 = (0, [(1, 2)]) by decide] at H ⊢
  refine ⟨_, rfl, ?_⟩
  refine (wheel_Set_wl (by omega) (by omega) (show CO [] from True.intro) H).mono ?_
  rintro e w3 ⟨v, rfl, rfl, H⟩
  rw [show setR 0 [(1, 2)] 2 1 = (0, [(1, 2), (2, 1)]) by decide] at H ⊢
  refine ⟨_, rfl, ?_⟩
  refine (wheel_Tick_wl (by omega) H).mono ?_
  rintro e w4 ⟨v, rfl, a, c, rfl, H⟩
  rw [show dueIds (0 + 1) [(1, 2), (2, 1)] = [2] by decide, show ([(1, 2), (2, 1)] : List (Int × Nat)).filter (fun p => !(p.2 == 0 + 1)) = [(1, 2)] by decide] at H
  rw [show dueIds (0 + 1) [(1, 2), (2, 1)] = [2] by decide]
  refine ⟨_, _, _, rfl, ?_⟩
  refine (wheel_Tick_wl (by omega) H).mono ?_
  rintro e w5 ⟨v, rfl, a2, c2, rfl, H⟩
  rw [show dueIds (0 + 1 + 1) [(1, 2)] = [1] by decide, show ([(1, 2)] : List (Int × Nat)).filter (fun p => !(p.2 == 0 + 1 + 1)) = [] by decide] at H
  rw [show dueIds (0 + 1 + 1) [(1, 2)] = [1] by decide]
  obtain ⟨b3, o3, hb3, hc3⟩ := ic_cell (H.ro [2])
  obtain ⟨b4, o4, hb4, hc4⟩ := ic_cell H.f1
  refine ⟨_, _, _, rfl, bif_t rfl (bif_t rfl (bif_t rfl ⟨b3, o3, hb3, by omega, by decide, _, hc3, bif_t rfl (bif_t rfl ⟨b4, o4, hb4, by omega, by decide, _, hc4, bif_t rfl ?_⟩)⟩))⟩
  refine (wheel_Len_wl H).mono ?_
  rintro e w6 ⟨v, rfl, rfl, H⟩
  exact ⟨_, rfl, rfl, H.drop.drop.drop⟩

end
end Go.Proofs.Ytdlalkhnppahfaa
