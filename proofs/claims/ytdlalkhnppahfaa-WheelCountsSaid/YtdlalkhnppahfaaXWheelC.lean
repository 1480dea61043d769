/-
  Layer 9 (wheel): its lists gone over; has, Stop, Due.
-/
import Derived.Test.YtdlalkhnppahfaaXWheelB
import Derived.Shelf.Abstract
set_option maxRecDepth 8000
namespace Go.X
open Go

/-- The so-many-th list's place in memory. -/
def ptr (b : Nat) (rb : Nat → Nat) (j : Nat) : Nat × Nat := if j < 64 then (rb 0, j) else if j < 192 then (rb 1, j - 64) else if j < 448 then (rb 2, j - 192) else (b, 5)
theorem ptr_ring {b : Nat} {rb : Nat → Nat} {i k : Nat} (hi : i < 3) (hk : k < rsz i) : ptr b rb (rof i + k) = (rb i, k) := by
  unfold ptr
  match i, hi, hk with
  | 0, _, hk => simp [rof, rsz] at hk ⊢; omega
  | 1, _, hk => simp [rof, rsz] at hk ⊢; rw [if_neg (by omega), if_pos (by omega)]
  | 2, _, hk => simp [rof, rsz] at hk ⊢; rw [if_neg (by omega), if_neg (by omega), if_pos (by omega)]
theorem ptr_late {b : Nat} {rb : Nat → Nat} : ptr b rb 448 = (b, 5) := rfl
theorem ring_of {j : Nat} (h : j < 448) : ∃ i k, i < 3 ∧ k < rsz i ∧ j = rof i + k := by
  by_cases h1 : j < 64
  · exact ⟨0, j, by omega, h1, by simp [rof]⟩
  · by_cases h2 : j < 192
    · exact ⟨1, j - 64, by omega, by simp [rsz]; omega, by simp [rof]; omega⟩
    · exact ⟨2, j - 192, by omega, by simp [rsz]; omega, by simp [rof]; omega⟩

section
variable {w0 w : World} {TW TS TT b : Nat} {m : Wm} {X : A} {r : List A}

theorem whPtr (H : Has w0 w (whQ TW TS b m X r)) (hl : m.rs.length = 449) {j : Nat} (hj : j < m.rs.length) : w.cell? ⟨(ptr b m.rb j).1, (ptr b m.rb j).2, none⟩ = some (m.rs[j]).hdr := by
  by_cases h : j < 448
  · obtain ⟨i, k, hi, hk, rfl⟩ := ring_of h
    rw [ptr_ring hi hk]
    exact whRing H hl hi hk
  · obtain rfl : j = 448 := by omega
    rw [ptr_late]
    have := whLate H
    unfold Wm.late at this
    rw [List.getElem?_eq_getElem hj] at this
    exact this

theorem whStPtr (H : Has w0 w (whQ TW TS b m X r)) (hl : m.rs.length = 449) {j : Nat} (hj : j < 449) (x : Rw) {K : World → Prop} (hK : ∀ w', Has w0 w' (whQ TW TS b { m with rs := m.rs.set j x } X r) → K w') : stD w (ptr b m.rb j).1 (ptr b m.rb j).2 [x.hdr] K := by
  by_cases h : j < 448
  · obtain ⟨i, k, hi, hk, rfl⟩ := ring_of h
    rw [ptr_ring hi hk]
    exact whSt H hl hi hk x hK
  · obtain rfl : j = 448 := by omega
    rw [ptr_late]
    exact whStLate H hl x hK

theorem whVw (H : Has w0 w (whP TW TS TT b m r)) {j : Nat} (hj : j < m.rs.length) : Vw w (m.rs[j]).a (tcs (m.rs[j]).l) := (whPick H hj).vw

theorem CO_wh (hr : CO r) : CO (whP TW TS TT b m r) := by
  refine ⟨co_ca _ _ _, co_ca _ _ _, co_ca _ _ _, co_ca _ _ _, co_big fun a ha => ?_, hr⟩
  obtain ⟨x, _, rfl⟩ := List.mem_map.1 ha
  exact co_ow _ _ _ _ _ _

end

theorem YieldAt.to {P : Program} {l : Nat} {args : Array Value} {W : World} {R R' : Ending → World → Prop} (h : YieldAt Fence.wide 0 P l args W R) (hr : ∀ e w', R e w' → R' e w') : YieldAt Fence.wide 0 P l args W R' := by
  obtain ⟨fn, tmps, assign, body, h1, h2⟩ := h
  exact ⟨fn, tmps, assign, body, h1, h2.mono hr⟩

/-- Where the rings stand. -/
def RDw (b : Nat) (rb : Nat → Nat) (W : World) : Prop := ∀ i, i < 3 → W.cell? ⟨b, 2 + i, none⟩ = some (.slice (some ⟨rb i, 0, none⟩) (rsz i) (rsz i))

/-- The least delay. -/
def minD (now : Nat) (l : List Tm) : Nat := l.foldl (fun d t => if d = 0 ∨ t.due - now < d then t.due - now else d) 0
theorem minD_snoc (now : Nat) (l : List Tm) (t : Tm) : minD now (l ++ [t]) = if minD now l = 0 ∨ t.due - now < minD now l then t.due - now else minD now l := by unfold minD; rw [List.foldl_append]; rfl

theorem minD_take {now : Nat} {l : List Tm} (h : ∀ t ∈ l, now < t.due) : ∀ k, k ≤ l.length → (k = 0 ∧ minD now (l.take k) = 0) ∨ ((∃ t ∈ l.take k, minD now (l.take k) = t.due - now) ∧ ∀ t ∈ l.take k, minD now (l.take k) ≤ t.due - now) := by
  intro k
  induction k with
  | zero => intro _; exact .inl ⟨rfl, rfl⟩
  | succ k ih =>
    intro hk
    have hkl : k < l.length := hk
    have ht := h _ (List.getElem_mem hkl)
    right
    rw [List.take_succ_eq_append_getElem hkl, minD_snoc]
    rcases ih (by omega) with ⟨rfl, h0⟩ | ⟨⟨x, hx, he⟩, hle⟩
    · rw [h0, if_pos (.inl rfl)]
      exact ⟨⟨_, List.mem_append_right _ (List.mem_singleton.2 rfl), rfl⟩, fun y hy => by simp at hy; subst hy; exact Nat.le_refl _⟩
    · have hx2 := h x (List.mem_of_mem_take hx)
      by_cases hc : minD now (l.take k) = 0 ∨ (l[k]).due - now < minD now (l.take k)
      · rw [if_pos hc]
        refine ⟨⟨_, List.mem_append_right _ (List.mem_singleton.2 rfl), rfl⟩, fun y hy => ?_⟩
        rcases List.mem_append.1 hy with hy | hy
        · have := hle y hy; omega
        · simp at hy; subst hy; exact Nat.le_refl _
      · rw [if_neg hc]
        refine ⟨⟨x, List.mem_append_left _ hx, he⟩, fun y hy => ?_⟩
        rcases List.mem_append.1 hy with hy | hy
        · exact hle y hy
        · simp at hy; subst hy; omega
theorem minD_is {now : Nat} {l : List Tm} (h : ∀ t ∈ l, now < t.due) : (l = [] ∧ minD now l = 0) ∨ ((∃ t ∈ l, minD now l = t.due - now) ∧ ∀ t ∈ l, minD now l ≤ t.due - now) := by
  have := minD_take h l.length (Nat.le_refl _)
  rw [List.take_length] at this
  rcases this with ⟨h1, h2⟩ | h1
  · exact .inl ⟨List.eq_nil_of_length_eq_zero h1, h2⟩
  · exact .inr h1

theorem flatten_take_succ {pl : List (List Tm)} {j : Nat} (h : j < pl.length) : (pl.take (j + 1)).flatten = (pl.take j).flatten ++ pl[j] := by
  rw [List.take_succ_eq_append_getElem h, List.flatten_append]; simp

end Go.X
namespace Go.Proofs.Ytdlalkhnppahfaa
open Go.X

theorem lists_iter (b : Nat) (rb : Nat → Nat) : IterC Try.prog 27 #[pv b 0] #[] 449 (ptr b rb) (RDw b rb) := by
  intro l J Jx W hRD hY h0
  refine (wheel_Wheel_lists.ok b 0 l (R := fun _ w' => J 449 w' ∨ Jx w') ?_).mono fun e w' h => ?_
  · refine ⟨fun i w' => ∃ k : Nat, i = (k : Int) ∧ k ≤ 3 ∧ J (if k = 3 then 448 else rof k) w', fun i _ => 4 - i.toNat, ⟨0, rfl, by omega, h0⟩, ?_⟩
    rintro _ i w1 ⟨k, rfl, hk, hJ⟩
    refine bif_i (fun h => ?_) fun h => ?_
    · have h : k < 3 := by simp at h; omega
      rw [if_neg (by omega)] at hJ
      have e2 : (0 + 2 + ((k : Nat) : Int).toNat * 1) = 2 + k := by rw [Int.toNat_natCast]; omega
      rw [e2]
      refine ⟨by omega, by omega, _, _, _, hRD _ _ hJ k h, fun i w' => ∃ q : Nat, i = (q : Int) ∧ q ≤ rsz k ∧ J (rof k + q) w', fun i _ => rsz k + 1 - i.toNat, ⟨0, rfl, by omega, hJ⟩, ?_⟩
      clear hJ
      rintro _ i w2 ⟨q, rfl, hq, hJ⟩
      refine bif_i (fun h2 => ?_) fun h2 => ?_
      · have h2 : q < rsz k := by simp at h2; omega
        have hb := rof_lt h h2
        refine ⟨by omega, by omega, _, _, _, hRD _ _ hJ k h, _, _, rfl, by omega, by exact_mod_cast h2, ?_⟩
        have hy := hY (rof k + q) w2 (by omega) hJ
        rw [ptr_ring h h2] at hy
        have e3 : (0 + ((q : Nat) : Int).toNat * 1) = q := by rw [Int.toNat_natCast]; omega
        rw [e3]
        refine YieldAt.to hy ?_
        rintro e w3 (⟨rfl, hJ'⟩ | ⟨rfl, hJx⟩)
        · refine ⟨true, rfl, bif_f rfl ?_⟩
          rw [w64_id (by omega)]
          exact ⟨⟨q + 1, rfl, h2, hJ'⟩, by dsimp only; omega⟩
        · exact ⟨false, rfl, bif_t rfl (.inr hJx)⟩
      · have h2 : q = rsz k := by simp at h2; omega
        subst h2
        rw [w64_id (by omega)]
        refine ⟨⟨k + 1, rfl, h, ?_⟩, by dsimp only; omega⟩
        have e4 : rof k + rsz k = if k + 1 = 3 then 448 else rof (k + 1) := by
          match k, h with
          | 0, _ => rfl
          | 1, _ => rfl
          | 2, _ => rfl
        rw [← e4]; exact hJ
    · have h : k = 3 := by simp at h; omega
      subst h
      rw [if_pos rfl] at hJ
      refine YieldAt.to (hY 448 w1 (by omega) hJ) ?_
      rintro e w3 (⟨rfl, hJ'⟩ | ⟨rfl, hJx⟩)
      · exact ⟨true, rfl, .inl hJ'⟩
      · exact ⟨false, rfl, .inr hJx⟩
  · obtain ⟨v, rfl, h⟩ := h
    exact ⟨⟨v, rfl⟩, h⟩

section
variable {w0 w : World} {r : List A} {b : Nat} {m : Wm}

theorem wh_reads (H : Has w0 w (whA b m r)) : RDw b m.rb w := fun _ hi => whHead H hi

theorem wheel_has_spec (hl : m.rs.length = 449) (hsm : ∀ x ∈ m.rs, x.l.length ≤ 1000) {id : Int} (hr : CO r) (H : Has w0 w (whA b m r)) :
    Calls Try.prog 22 #[pv b 0, .int .i64 id] w fun e w' => ∃ v, e = .returned v ∧ ∃ q : Bool, v = .bool q ∧ (q = true ↔ ∃ t ∈ m.pl.flatten, t.id = id) ∧ Has w0 w' (whA b m r) := by
  refine wheel_Wheel_has.ok _ _ _ ?_
  refine H.al fun b1 w1 H => H.al fun b2 w2 H => ?_
  have hsz := H.base.size
  have hpl : m.pl.length = 449 := by unfold Wm.pl; simpa using hl
  obtain ⟨Pz, hPz⟩ : ∃ Pz : Bool → List A, Pz = fun q => ca b2 4 [.bool q] :: ca b1 3 [.int .i64 id] :: whA b m r := ⟨_, rfl⟩
  have hco : ∀ q, CO (Pz q) := fun q => by rw [hPz]; exact ⟨co_ca _ _ _, co_ca _ _ _, CO_wh hr⟩
  have H : Has w0 w2 (Pz false) := by rw [hPz]; exact H
  refine ⟨Go.Proofs.enters_of Try.func27 (by kernel_rfl) rfl, 449, ptr b m.rb, RDw b m.rb, fun j W => (∀ t ∈ (m.pl.take j).flatten, t.id ≠ id) ∧ Has w0 W (Pz false), fun W => (∃ t ∈ m.pl.flatten, t.id = id) ∧ Has w0 W (Pz true), lists_iter b m.rb, ?_, ?_, ?_, ⟨by simp, H⟩, ?_, ?_, ?_⟩
  · rintro i W ⟨_, H⟩
    rw [hPz] at H
    exact wh_reads (Has.ro H [2, 3, 4, 5, 6])
  · intro i W W' row hi hg hrow
    exact ⟨hi.1, hi.2.loose (hco _) hg fun k e => ⟨Nat.le_trans hsz (hrow k e).1, (hrow k e).2⟩⟩
  · intro W W' row hi hg hrow
    exact ⟨hi.1, hi.2.loose (hco _) hg fun k e => ⟨Nat.le_trans hsz (hrow k e).1, (hrow k e).2⟩⟩
  · rintro j W rc hj ⟨hno, H⟩ hk
    have hjl : j < m.rs.length := by omega
    have H := H.addLoop (hco _) hk hsz
    rw [hPz] at H ⊢
    have HW : ∀ {W : World}, Has w0 W (blk w2.heap.size (.deferred (some [])) :: blk (w2.heap.size + 1) (.loop rc) :: ca b2 4 [.bool false] :: ca b1 3 [.int .i64 id] :: whA b m r) → Has w0 W (whA b m (blk w2.heap.size (.deferred (some [])) :: blk (w2.heap.size + 1) (.loop rc) :: ca b2 4 [.bool false] :: ca b1 3 [.int .i64 id] :: r)) := fun H => Has.ro H [4, 5, 6, 7, 8]
    have hx := hsm _ (List.getElem_mem hjl)
    refine ⟨_, _, _, whPtr (HW H) hl hjl, fun i w' => ∃ k : Nat, i = (k : Int) ∧ k ≤ (m.rs[j]).l.length ∧ (∀ t ∈ (m.rs[j]).l.take k, t.id ≠ id) ∧ Has w0 w' (blk w2.heap.size (.deferred (some [])) :: blk (w2.heap.size + 1) (.loop rc) :: ca b2 4 [.bool false] :: ca b1 3 [.int .i64 id] :: whA b m r), fun i _ => (m.rs[j]).l.length + 1 - i.toNat, ⟨0, rfl, by omega, by simp, H⟩, ?_⟩
    clear H
    rintro _ i w3 ⟨k, rfl, hkl, hnk, H⟩
    refine bif_i (fun h => ?_) fun h => ?_
    · have h : k < (m.rs[j]).l.length := by simp at h; omega
      obtain ⟨b3, o3, hb3, hr3⟩ := (whVw (HW H) hjl).tm h
      refine ⟨b3, o3, hb3, by omega, by omega, _, _, _, hr3, H.al fun b4 w4 H => Has.st H (by simp) rfl fun w5 H => ⟨_, H.cell rfl, _, H.f4.cell rfl, bif_i (fun h2 => ?_) fun h2 => ?_⟩⟩
      · have h2 : ((m.rs[j]).l[k]).id = id := by simpa using h2
        refine Has.st H.f3 (by simp) rfl fun w6 H => ⟨⟨⟨(m.rs[j]).l[k], List.mem_flatten.2 ⟨_, List.mem_map.2 ⟨_, List.getElem_mem hjl, rfl⟩, List.getElem_mem h⟩, h2⟩, H.rm [1, 2, 3] |>.ro []⟩, (H.rm [1, 0] |>.ro []).keeps⟩
      · have h2 : ¬ ((m.rs[j]).l[k]).id = id := by simpa using h2
        rw [w64_id (by omega)]
        refine ⟨⟨k + 1, by omega, h, fun t ht => ?_, H.drop⟩, by dsimp only; omega⟩
        rw [List.take_succ_eq_append_getElem h] at ht
        rcases List.mem_append.1 ht with ht | ht
        · exact hnk t ht
        · simp at ht; subst ht; exact h2
    · have h : k = (m.rs[j]).l.length := by simp at h; omega
      subst h
      rw [List.take_length] at hnk
      refine ⟨⟨fun t ht => ?_, H.drop.drop⟩, H.keeps⟩
      rw [flatten_take_succ (by omega)] at ht
      rcases List.mem_append.1 ht with ht | ht
      · exact hno t ht
      · refine hnk t ?_
        simpa [Wm.pl] using ht
  · rintro W ⟨hno, H⟩ hW
    rw [List.take_of_length_le (by omega)] at hno
    have H := H.addBlk (hco _) hW rfl hsz
    rw [hPz] at H
    refine Has.st H.f1 (by simp) rfl fun w3 H => ?_
    have hget := H.f1.get
    refine ⟨hget, ?_⟩
    have H : Has w0 w3 (ca b2 4 [.bool false] :: ca b1 3 [.int .i64 id] :: whA b m r) := H.f1.drop
    have H := H.shut (w := w2) ⟨co_ca _ _ _, co_ca _ _ _, CO_wh hr⟩ hget hsz
    refine ⟨_, H.cell rfl, false, rfl, ⟨fun h => (by cases h), fun ⟨t, ht, he⟩ => absurd he (hno t ht)⟩, H.drop.drop⟩
  · rintro W ⟨hyes, H⟩ hW
    refine ⟨hW, ?_⟩
    have H := H.shut (w := w2) (hco _) hW hsz
    rw [hPz] at H
    exact ⟨_, H.cell rfl, true, rfl, ⟨fun _ => hyes, fun _ => rfl⟩, H.drop.drop⟩

end
end Go.Proofs.Ytdlalkhnppahfaa
