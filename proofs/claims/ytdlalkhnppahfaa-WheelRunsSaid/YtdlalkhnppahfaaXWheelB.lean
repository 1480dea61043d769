/-
  Layer 9 (wheel): reading and writing a wheel; New, Now, Len, put.
-/
import Derived.Test.YtdlalkhnppahfaaXWheelA
set_option maxRecDepth 8000
namespace Go.X
open Go

def whQ (TW TS b : Nat) (m : Wm) (X : A) (r : List A) : List A := ca b TW m.cells :: ca (m.rb 0) TS (hseg m.rs 0) :: ca (m.rb 1) TS (hseg m.rs 1) :: ca (m.rb 2) TS (hseg m.rs 2) :: X :: r
theorem whP_Q (TW TS TT b : Nat) (m : Wm) (r : List A) : whP TW TS TT b m r = whQ TW TS b m (big (m.rs.map (Rw.own TT))) r := rfl

section
variable {w0 w : World} {TW TS TT b : Nat} {m : Wm} {X : A} {r : List A}

theorem rof_lt {i k : Nat} (hi : i < 3) (hk : k < rsz i) : rof i + k < 448 := by
  match i, hi, hk with
  | 0, _, hk => simp [rof, rsz] at hk ⊢; omega
  | 1, _, hk => simp [rof, rsz] at hk ⊢; omega
  | 2, _, hk => simp [rof, rsz] at hk ⊢; omega

theorem whHead (H : Has w0 w (whQ TW TS b m X r)) {i : Nat} (hi : i < 3) : w.cell? ⟨b, 2 + i, none⟩ = some (.slice (some ⟨m.rb i, 0, none⟩) (rsz i) (rsz i)) := by
  match i, hi with
  | 0, _ => exact Has.cell H rfl
  | 1, _ => exact Has.cell H rfl
  | 2, _ => exact Has.cell H rfl
theorem whRing (H : Has w0 w (whQ TW TS b m X r)) (hl : m.rs.length = 449) {i k : Nat} (hi : i < 3) (hk : k < rsz i) : w.cell? ⟨m.rb i, k, none⟩ = some (m.rs[rof i + k]'(by have := rof_lt hi hk; omega)).hdr := by
  have hb := rof_lt hi hk
  have hg : (hseg m.rs i)[k]? = some (m.rs[rof i + k]'(by omega)).hdr := by
    rw [hseg_get?, if_pos hk, List.getElem?_eq_getElem (by omega)]; rfl
  generalize (m.rs[rof i + k]'(by omega)).hdr = v at hg ⊢
  clear hb hk
  match i, hi, hg with
  | 0, _, hg => exact Has.cell (Has.f1 H) hg
  | 1, _, hg => exact Has.cell (Has.f2 H) hg
  | 2, _, hg => exact Has.cell (Has.f3 H) hg
theorem whLate (H : Has w0 w (whQ TW TS b m X r)) : w.cell? ⟨b, 5, none⟩ = some m.late.hdr := Has.cell H rfl

theorem late_set {rs : List Rw} {j : Nat} (hj : j < 448) (x : Rw) : (rs.set j x)[448]?.getD ⟨none, 0, []⟩ = rs[448]?.getD ⟨none, 0, []⟩ := by
  rw [List.getElem?_set_ne (by omega)]

theorem whSt (H : Has w0 w (whQ TW TS b m X r)) (hl : m.rs.length = 449) {i k : Nat} (hi : i < 3) (hk : k < rsz i) (x : Rw) {K : World → Prop} (hK : ∀ w', Has w0 w' (whQ TW TS b { m with rs := m.rs.set (rof i + k) x } X r) → K w') : stD w (m.rb i) k [x.hdr] K := by
  have hb := rof_lt hi hk
  have hlen := hseg_len hl hi
  have hlate : Wm.cells { m with rs := m.rs.set (rof i + k) x } = m.cells := by
    unfold Wm.cells Wm.late; rw [late_set hb]
  have hwr : wr (hseg m.rs i) k [x.hdr] = hseg (m.rs.set (rof i + k) x) i := hseg_set hl hi hk x
  match i, hi, hk, hlen, hwr, hlate with
  | 0, hi, hk, hlen, hwr, hlate =>
    refine Has.st (Has.f1 H) (by rw [hlen]; simp; omega) rfl fun w' H => hK w' ?_
    rw [hwr] at H
    unfold whQ; rw [hlate, hseg_other (i := 0) (i' := 1) (by omega) (by omega) (by omega) hk, hseg_other (i := 0) (i' := 2) (by omega) (by omega) (by omega) hk]
    exact H.ro [1, 0]
  | 1, hi, hk, hlen, hwr, hlate =>
    refine Has.st (Has.f2 H) (by rw [hlen]; simp; omega) rfl fun w' H => hK w' ?_
    rw [hwr] at H
    unfold whQ; rw [hlate, hseg_other (i := 1) (i' := 0) (by omega) (by omega) (by omega) hk, hseg_other (i := 1) (i' := 2) (by omega) (by omega) (by omega) hk]
    exact H.ro [1, 2, 0]
  | 2, hi, hk, hlen, hwr, hlate =>
    refine Has.st (Has.f3 H) (by rw [hlen]; simp; omega) rfl fun w' H => hK w' ?_
    rw [hwr] at H
    unfold whQ; rw [hlate, hseg_other (i := 2) (i' := 0) (by omega) (by omega) (by omega) hk, hseg_other (i := 2) (i' := 1) (by omega) (by omega) (by omega) hk]
    exact H.ro [1, 2, 3, 0]

theorem whStLate (H : Has w0 w (whQ TW TS b m X r)) (hl : m.rs.length = 449) (x : Rw) {K : World → Prop} (hK : ∀ w', Has w0 w' (whQ TW TS b { m with rs := m.rs.set 448 x } X r) → K w') : stD w b 5 [x.hdr] K := by
  refine Has.st H (by simp [Wm.cells]) rfl fun w' H => hK w' ?_
  have e : wr m.cells 5 [x.hdr] = Wm.cells { m with rs := m.rs.set 448 x } := by
    unfold Wm.cells Wm.late
    dsimp only
    rw [List.getElem?_set_self (by omega)]; rfl
  rw [e] at H
  unfold whQ
  rw [hseg_late (i := 0) (by omega), hseg_late (i := 1) (by omega), hseg_late (i := 2) (by omega)]
  exact H

/-- A row out of the wheel, and in again. -/
theorem whPick (H : Has w0 w (whP TW TS TT b m r)) {j : Nat} (hj : j < m.rs.length) : Has w0 w (m.rs[j].own TT :: whQ TW TS b m (big ((m.rs.map (Rw.own TT)).eraseIdx j)) r) := by
  have H1 : Has w0 w (big (m.rs.map (Rw.own TT)) :: ca b TW m.cells :: ca (m.rb 0) TS (hseg m.rs 0) :: ca (m.rb 1) TS (hseg m.rs 1) :: ca (m.rb 2) TS (hseg m.rs 2) :: r) := Has.f4 H
  have H2 := H1.big_pick (i := j) (by simpa using hj)
  rw [List.getElem_map] at H2
  exact H2.ro [0, 2, 3, 4, 5, 1]
theorem whPut {m0 : Wm} {x : Rw} {j : Nat} (H : Has w0 w (x.own TT :: whQ TW TS b m (big ((m0.rs.map (Rw.own TT)).eraseIdx j)) r)) (hj : j < m0.rs.length) (hm : m.rs = m0.rs.set j x) : Has w0 w (whP TW TS TT b m r) := by
  have H1 : Has w0 w (x.own TT :: big ((m0.rs.map (Rw.own TT)).eraseIdx j) :: ca b TW m.cells :: ca (m.rb 0) TS (hseg m.rs 0) :: ca (m.rb 1) TS (hseg m.rs 1) :: ca (m.rb 2) TS (hseg m.rs 2) :: r) := Has.ro H [0, 5]
  have H2 := H1.big_put (by simpa using hj)
  rw [← List.map_set, ← hm] at H2
  exact H2.ro [1, 2, 3, 4, 0]

end

/-! ### Places -/

def shf : Nat → Nat
  | 0 => 0
  | 1 => 6
  | 2 => 13
  | _ => 21

theorem ring_idx {k d : Nat} (hk : k < 3) (hd : d < 18446744073709551616) : andV .u64 (shrV .u64 (d : Int) (shf k : Int)) (wu64 (w64 ((rsz k : Nat) - 1 : Int))) = ((d / 2 ^ shf k % rsz k : Nat) : Int) := by
  have hq : d / 2 ^ shf k < 18446744073709551616 := Nat.lt_of_le_of_lt (Nat.div_le_self _ _) hd
  match k, hk, hq with
  | 0, _, hq =>
    rw [shr_nat d _ (by simp [shf]), show (wu64 (w64 ((rsz 0 : Nat) - 1 : Int))) = ((2 ^ 6 - 1 : Nat) : Int) by decide, and_mask hq (by omega)]; rfl
  | 1, _, hq =>
    rw [shr_nat d _ (by simp [shf]), show (wu64 (w64 ((rsz 1 : Nat) - 1 : Int))) = ((2 ^ 7 - 1 : Nat) : Int) by decide, and_mask hq (by omega)]; rfl
  | 2, _, hq =>
    rw [shr_nat d _ (by simp [shf]), show (wu64 (w64 ((rsz 2 : Nat) - 1 : Int))) = ((2 ^ 8 - 1 : Nat) : Int) by decide, and_mask hq (by omega)]; rfl

theorem ring_lt {k : Nat} (d : Nat) (hk : k < 3) : d / 2 ^ shf k % rsz k < rsz k := by
  refine Nat.mod_lt _ ?_
  match k, hk with
  | 0, _ => decide
  | 1, _ => decide
  | 2, _ => decide

theorem place_ring {now due k : Nat} (hk : k < 3) (h1 : ∀ q, q < k → due / 2 ^ shf (q + 1) ≠ now / 2 ^ shf (q + 1)) (h2 : due / 2 ^ shf (k + 1) = now / 2 ^ shf (k + 1)) : place now due = rof k + due / 2 ^ shf k % rsz k := by
  unfold place
  match k, hk, h1, h2 with
  | 0, _, h1, h2 =>
    simp only [shf, Nat.reduceAdd, Nat.reducePow] at h2 ⊢
    rw [if_pos h2]; simp [rof, rsz]
  | 1, _, h1, h2 =>
    have g0 := h1 0 (by omega)
    simp only [shf, Nat.reduceAdd, Nat.reducePow] at h2 g0 ⊢
    rw [if_neg g0, if_pos h2]; rfl
  | 2, _, h1, h2 =>
    have g0 := h1 0 (by omega)
    have g1 := h1 1 (by omega)
    simp only [shf, Nat.reduceAdd, Nat.reducePow] at h2 g0 g1 ⊢
    rw [if_neg g0, if_neg g1, if_pos h2]; rfl
theorem place_late {now due : Nat} (h1 : ∀ q, q < 3 → due / 2 ^ shf (q + 1) ≠ now / 2 ^ shf (q + 1)) : place now due = 448 := by
  have g0 := h1 0 (by omega)
  have g1 := h1 1 (by omega)
  have g2 := h1 2 (by omega)
  simp only [shf, Nat.reduceAdd, Nat.reducePow] at g0 g1 g2
  unfold place
  rw [if_neg g0, if_neg g1, if_neg g2]

def shCells : List Value := [.int .u64 0, .int .u64 6, .int .u64 13, .int .u64 21]
theorem shCells_get {k : Nat} (h : k ≤ 3) : shCells[k]? = some (.int .u64 (shf k : Int)) := by
  match k, h with
  | 0, _ => rfl
  | 1, _ => rfl
  | 2, _ => rfl
  | 3, _ => rfl

end Go.X
namespace Go.Proofs.Ytdlalkhnppahfaa
open Go.X

abbrev whA (b : Nat) (m : Wm) (r : List A) : List A := whP 49 47 53 b m r

theorem elT : El Try.prog 47 53 3 24 := El.of (by kernel_rfl)

section
variable {w0 w : World} {r : List A} {b : Nat} {m : Wm}

theorem wheel_shifts_spec (H : Has w0 w r) : Calls Try.prog 24 #[] w fun e w' => ∃ v, e = .returned v ∧ v = .agg #[.int .u64 0, .int .u64 6, .int .u64 13, .int .u64 21] ∧ Has w0 w' r := by
  refine wheel_shifts.ok ?_
  exact H.al fun b1 w1 H => Has.st H (by simp) rfl fun w2 H => ⟨_, _, _, _, H.row rfl, rfl, H.drop⟩

theorem wheel_Now_spec (H : Has w0 w (whA b m r)) : Calls Try.prog 20 #[pv b 0] w fun e w' => ∃ v, e = .returned v ∧ v = .int .u64 (m.now : Int) ∧ Has w0 w' (whA b m r) := by
  refine wheel_Wheel_Now.ok _ _ ?_
  exact ⟨_, Has.cell H rfl, rfl, H⟩
theorem wheel_Len_spec (H : Has w0 w (whA b m r)) : Calls Try.prog 14 #[pv b 0] w fun e w' => ∃ v, e = .returned v ∧ v = .int .i64 (m.n : Int) ∧ Has w0 w' (whA b m r) := by
  refine wheel_Wheel_Len.ok _ _ ?_
  exact ⟨_, Has.cell H rfl, rfl, H⟩

theorem wheel_put_spec (hl : m.rs.length = 449) (hsm : ∀ x ∈ m.rs, x.l.length ≤ 1000) {t : Tm} (hd : t.due < 18446744073709551616) (H : Has w0 w (whA b m r)) :
    Calls Try.prog 23 #[pv b 0, .agg #[.int .i64 t.id, .int .u64 (t.due : Int), .int .i64 (t.turn : Int)]] w fun e w' => ∃ v, e = .returned v ∧ v = .tuple #[] ∧
      ∃ x : Rw, x.l = (m.rs[place m.now t.due]?.getD ⟨none, 0, []⟩).l ++ [t] ∧ Has w0 w' (whA b { m with rs := m.rs.set (place m.now t.due) x } r) := by
  refine wheel_Wheel_put.ok _ _ _ _ _ ?_
  refine H.al fun b1 w1 H => ?_
  refine (wheel_shifts_spec H).mono ?_
  rintro e w2 ⟨v, rfl, rfl, H⟩
  refine ⟨_, _, _, _, rfl, H.al fun b2 w3 H => Has.st H (by simp) rfl fun w4 H => ?_⟩
  have H : Has w0 w4 (ca b2 55 shCells :: ca b1 53 t.cells :: whA b m r) := H
  refine ⟨fun i w' => ∃ k : Nat, i = (k : Int) ∧ k ≤ 3 ∧ (∀ q, q < k → t.due / 2 ^ shf (q + 1) ≠ m.now / 2 ^ shf (q + 1)) ∧ Has w0 w' (ca b2 55 shCells :: ca b1 53 t.cells :: whA b m r), fun i _ => 4 - i.toNat, ⟨0, rfl, by omega, fun q hq => absurd hq (by omega), H⟩, ?_⟩
  clear H
  rintro _ i w5 ⟨k, rfl, hk, hq, H⟩
  refine bif_i (fun h => ?_) fun h => ?_
  · have h : k < 3 := by simp at h; omega
    have e1 : w64 ((k : Int) + 1) = ((k + 1 : Nat) : Int) := by rw [w64_id (by omega)]; rfl
    have hsh : ∀ {w' : World} {q : List A}, Has w0 w' (ca b2 55 shCells :: q) → ∀ j ≤ 3, w'.cell? ⟨b2, 0 + ((j : Nat) : Int).toNat * 1, none⟩ = some (.int .u64 (shf j : Int)) := fun H j hj => H.cell (by rw [Nat.zero_add, Int.toNat_natCast, Nat.mul_one]; exact shCells_get hj)
    have hdu : ∀ {w' : World} {q : List A}, Has w0 w' (ca b2 55 shCells :: ca b1 53 t.cells :: q) → w'.cell? ⟨b1, 1, none⟩ = some (.int .u64 (t.due : Int)) := fun H => H.f1.cell rfl
    have hnow : ∀ {w' : World}, Has w0 w' (ca b2 55 shCells :: ca b1 53 t.cells :: whA b m r) → w'.cell? ⟨b, 0, none⟩ = some (.int .u64 (m.now : Int)) := fun H => Has.cell (Has.f2 H) rfl
    refine H.dr fun w6 H => ?_
    rw [e1]
    refine ⟨_, hdu H, by omega, by omega, _, hsh H (k + 1) (by omega), by omega, _, hnow H, by omega, by omega, _, hsh H (k + 1) (by omega), by omega, ?_⟩
    rw [shr_nat _ _ (by have : shf (k + 1) ≤ 21 := by (match k, h with | 0, _ => decide | 1, _ => decide | 2, _ => decide)
                        omega), shr_nat _ _ (by have : shf (k + 1) ≤ 21 := by (match k, h with | 0, _ => decide | 1, _ => decide | 2, _ => decide)
                                                omega)]
    refine bif_i (fun h2 => ?_) fun h2 => ?_
    · have h2 : t.due / 2 ^ shf (k + 1) = m.now / 2 ^ shf (k + 1) := Int.ofNat.inj (beq_iff_eq.1 h2)
      have hpl := place_ring h hq h2
      have hix := ring_idx (d := t.due) h hd
      have hlt := ring_lt t.due h
      have hjb := rof_lt h hlt
      have HW : ∀ {w' : World}, Has w0 w' (ca b2 55 shCells :: ca b1 53 t.cells :: whA b m r) → Has w0 w' (whA b m (ca b2 55 shCells :: ca b1 53 t.cells :: r)) := fun H => Has.ro H [2, 3, 4, 5, 6]
      have e2 : (0 + 2 + ((k : Nat) : Int).toNat * 1) = 2 + k := by rw [Int.toNat_natCast]; omega
      refine H.dr fun w7 H => ⟨_, hdu H, by omega, by omega, _, hsh H k (by omega), by omega, by omega, by omega, ?_⟩
      rw [e2]
      refine ⟨_, _, _, whHead (HW H) h, H.dr fun w8 H => ⟨by omega, by omega, ?_⟩⟩
      rw [hix]
      refine ⟨_, _, _, whHead (HW H) h, by omega, by omega, _, _, _, whHead (HW H) h, _, _, rfl, by omega, by exact_mod_cast hlt, ?_⟩
      have e3 : (0 + (((t.due / 2 ^ shf k % rsz k : Nat)) : Int).toNat * 1) = t.due / 2 ^ shf k % rsz k := by rw [Int.toNat_natCast]; omega
      rw [e3]
      have hjl : rof k + t.due / 2 ^ shf k % rsz k < m.rs.length := by omega
      have hx := hsm _ (List.getElem_mem hjl)
      have H := HW H
      refine ⟨_, _, _, whRing H hl h hlt, _, _, _, Has.row (Has.ro H [6]) rfl, Has.al H fun b4 w9 H => ⟨whRing (Has.ro H [1, 2, 3, 4, 5]) hl h hlt, whHead (Has.ro H [1, 2, 3, 4, 5]) h, whHead (Has.ro H [1, 2, 3, 4, 5]) h, ?_⟩⟩
      have H := whPick (r := blk b4 _ :: ca b2 55 shCells :: ca b1 53 t.cells :: r) (Has.ro H [1, 2, 3, 4, 5]) hjl
      refine Has.app (m := 1) elT H (Has.src (vs := t.cells) elT (Has.ro H [6]) rfl rfl) (by omega) (by simp [maxLen]; omega) fun a5 c5 w10 H => ⟨whHead H.drop h, whHead H.drop h, _, _, rfl, by omega, by exact_mod_cast hlt, ?_⟩
      rw [e3]
      rw [show tcs (m.rs[rof k + t.due / 2 ^ shf k % rsz k]).l ++ t.cells = tcs ((m.rs[rof k + t.due / 2 ^ shf k % rsz k]).l ++ [t]) by rw [← tcs_append]; simp [tcs]] at H
      have hxl : (m.rs[rof k + t.due / 2 ^ shf k % rsz k]).l.length + 1 = ((m.rs[rof k + t.due / 2 ^ shf k % rsz k]).l ++ [t]).length := by simp
      rw [hxl] at H ⊢
      refine whSt (r := Rw.own 53 ⟨a5, c5, (m.rs[rof k + t.due / 2 ^ shf k % rsz k]).l ++ [t]⟩ :: _) (Has.ro H [1, 2, 3, 4, 5, 0]) hl h hlt ⟨a5, c5, (m.rs[rof k + t.due / 2 ^ shf k % rsz k]).l ++ [t]⟩ fun w11 H => ⟨rfl, ⟨a5, c5, (m.rs[rof k + t.due / 2 ^ shf k % rsz k]).l ++ [t]⟩, ?_, ?_⟩
      · rw [hpl, List.getElem?_eq_getElem hjl]; rfl
      · rw [hpl]
        have H := whPut (m0 := m) (Has.ro H [5]) hjl rfl
        exact Has.rm H [5, 6, 7] |>.ro []
    · have h2 : ¬ t.due / 2 ^ shf (k + 1) = m.now / 2 ^ shf (k + 1) := fun e => by rw [e] at h2; simp at h2
      refine ⟨⟨k + 1, rfl, by omega, fun q hq2 => ?_, H⟩, by dsimp only; omega⟩
      by_cases hqk : q < k
      · exact hq q hqk
      · obtain rfl : q = k := by omega
        exact h2
  · have h : k = 3 := by simp at h; omega
    subst h
    have hpl := place_late hq
    have hjl : 448 < m.rs.length := by omega
    have hx := hsm _ (List.getElem_mem hjl)
    have hlate : m.late = m.rs[448] := by unfold Wm.late; rw [List.getElem?_eq_getElem hjl]; rfl
    have H : Has w0 w5 (whA b m (ca b2 55 shCells :: ca b1 53 t.cells :: r)) := Has.ro H [2, 3, 4, 5, 6]
    refine H.dr fun w6 H => ⟨_, _, _, whLate H, _, _, _, Has.row (Has.ro H [6]) rfl, Has.al H fun b4 w9 H => ⟨whLate (Has.ro H [1, 2, 3, 4, 5]), ?_⟩⟩
    rw [hlate]
    have H := whPick (r := blk b4 _ :: ca b2 55 shCells :: ca b1 53 t.cells :: r) (Has.ro H [1, 2, 3, 4, 5]) hjl
    refine Has.app (m := 1) elT H (Has.src (vs := t.cells) elT (Has.ro H [6]) rfl rfl) (by omega) (by simp [maxLen]; omega) fun a5 c5 w10 H => ?_
    rw [show tcs (m.rs[448]).l ++ t.cells = tcs ((m.rs[448]).l ++ [t]) by rw [← tcs_append]; simp [tcs]] at H
    have hxl : (m.rs[448]).l.length + 1 = ((m.rs[448]).l ++ [t]).length := by simp
    rw [hxl] at H ⊢
    refine whStLate (r := Rw.own 53 ⟨a5, c5, (m.rs[448]).l ++ [t]⟩ :: _) (Has.ro H [1, 2, 3, 4, 5, 0]) hl ⟨a5, c5, (m.rs[448]).l ++ [t]⟩ fun w11 H => ⟨rfl, ⟨a5, c5, (m.rs[448]).l ++ [t]⟩, ?_, ?_⟩
    · rw [hpl, List.getElem?_eq_getElem hjl]; rfl
    · rw [hpl]
      have H := whPut (m0 := m) (Has.ro H [5]) hjl rfl
      exact Has.rm H [5, 6, 7] |>.ro []

end
end Go.Proofs.Ytdlalkhnppahfaa
