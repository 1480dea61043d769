/-
  Layer 9 (wheel): Stop, Due.
-/
import Derived.Test.YtdlalkhnppahfaaXWheelC
set_option maxRecDepth 8000
namespace Go.Proofs.Ytdlalkhnppahfaa
open Go.X

section
variable {w0 w : World} {r : List A} {b : Nat} {m : Wm}

theorem wheel_Stop_spec (hl : m.rs.length = 449) (hsm : ∀ x ∈ m.rs, x.l.length ≤ 1000) (hn : m.pl.flatten.length ≤ m.n) (hn2 : m.n ≤ 1000000) {id : Int} (hr : CO r) (H : Has w0 w (whA b m r)) :
    Calls Try.prog 13 #[pv b 0, .int .i64 id] w fun e w' => ∃ v, e = .returned v ∧ ∃ q : Bool, v = .bool q ∧ ((q = false ∧ (∀ t ∈ m.pl.flatten, t.id ≠ id) ∧ Has w0 w' (whA b m r)) ∨
      (q = true ∧ ∃ (j : Nat) (hj : j < m.rs.length) (i : Nat) (hi : i < (m.rs[j]).l.length) (x : Rw), ((m.rs[j]).l[i]).id = id ∧ x.l = (m.rs[j]).l.eraseIdx i ∧ Has w0 w' (whA b { m with n := m.n - 1, rs := m.rs.set j x } r))) := by
  refine wheel_Wheel_Stop.ok _ _ _ ?_
  refine H.al fun b1 w1 H => H.al fun b2 w2 H => H.al fun b3 w3 H => ⟨_, _, H.f2.cell rfl, _, _, H.f2.cell rfl, ?_⟩
  have hsz := H.base.size
  have hpl : m.pl.length = 449 := by unfold Wm.pl; simpa using hl
  obtain ⟨Pz, hPz⟩ : ∃ Pz : Bool → Wm → List A, Pz = fun q m => ca b3 4 [.bool q] :: ca b2 3 [.int .i64 id] :: ca b1 23 [pv b 0] :: whA b m r := ⟨_, rfl⟩
  have hco : ∀ q m, CO (Pz q m) := fun q m => by rw [hPz]; exact ⟨co_ca _ _ _, co_ca _ _ _, co_ca _ _ _, CO_wh hr⟩
  have H : Has w0 w3 (Pz false m) := by rw [hPz]; exact H
  refine ⟨Go.Proofs.enters_of Try.func27 (by kernel_rfl) rfl, 449, ptr b m.rb, RDw b m.rb, fun j W => (∀ t ∈ (m.pl.take j).flatten, t.id ≠ id) ∧ Has w0 W (Pz false m),
    fun W => ∃ (j : Nat) (hj : j < m.rs.length) (i : Nat) (hi : i < (m.rs[j]).l.length) (x : Rw), ((m.rs[j]).l[i]).id = id ∧ x.l = (m.rs[j]).l.eraseIdx i ∧ Has w0 W (Pz true { m with n := m.n - 1, rs := m.rs.set j x }), lists_iter b m.rb, ?_, ?_, ?_, ⟨by simp, H⟩, ?_, ?_, ?_⟩
  · rintro i W ⟨_, H⟩
    rw [hPz] at H
    exact wh_reads (Has.ro H [3, 4, 5, 6, 7])
  · intro i W W' row hi hg hrow
    exact ⟨hi.1, hi.2.loose (hco _ _) hg fun k e => ⟨Nat.le_trans hsz (hrow k e).1, (hrow k e).2⟩⟩
  · rintro W W' row ⟨j, hj, i, hi, x, h1, h2, H⟩ hg hrow
    exact ⟨j, hj, i, hi, x, h1, h2, H.loose (hco _ _) hg fun k e => ⟨Nat.le_trans hsz (hrow k e).1, (hrow k e).2⟩⟩
  · rintro j W rc hj ⟨hno, H⟩ hk
    have hjl : j < m.rs.length := by omega
    have H := H.addLoop (hco _ _) hk hsz
    rw [hPz] at H ⊢
    have hx := hsm _ (List.getElem_mem hjl)
    refine ⟨_, _, _, whPtr (Has.ro H [5, 6, 7, 8, 9]) hl hjl, fun i w' => ∃ k : Nat, i = (k : Int) ∧ k ≤ (m.rs[j]).l.length ∧ (∀ t ∈ (m.rs[j]).l.take k, t.id ≠ id) ∧ Has w0 w' (blk w3.heap.size (.deferred (some [])) :: blk (w3.heap.size + 1) (.loop rc) :: ca b3 4 [.bool false] :: ca b2 3 [.int .i64 id] :: ca b1 23 [pv b 0] :: whA b m r), fun i _ => (m.rs[j]).l.length + 1 - i.toNat, ⟨0, rfl, by omega, by simp, H⟩, ?_⟩
    clear H
    rintro _ i w4 ⟨k, rfl, hkl, hnk, H⟩
    refine bif_i (fun h => ?_) fun h => ?_
    · have h : k < (m.rs[j]).l.length := by simp at h; omega
      obtain ⟨b4, o4, hb4, hr4⟩ := (whVw (TT := 53) (Has.ro H [5, 6, 7, 8, 9]) hjl).tm h
      refine ⟨b4, o4, hb4, by omega, by omega, _, _, _, hr4, H.al fun b5 w5 H => Has.st H (by simp) rfl fun w6 H => ⟨_, H.cell rfl, _, H.f4.cell rfl, bif_i (fun h2 => ?_) fun h2 => ?_⟩⟩
      · have h2 : ((m.rs[j]).l[k]).id = id := by simpa using h2
        refine H.dr fun w7 H => ?_
        have H : Has w0 w7 (whA b m (_ :: blk w3.heap.size (.deferred (some [])) :: blk (w3.heap.size + 1) (.loop rc) :: ca b3 4 [.bool false] :: ca b2 3 [.int .i64 id] :: ca b1 23 [pv b 0] :: r)) := Has.ro H [6, 7, 8, 9, 10]
        have hown : (m.rs[j]).l.length ≤ (m.rs[j]).c := (whPick H hjl).owLen.2.1
        have e1 : w64 ((k : Int) + 1) = ((k + 1 : Nat) : Int) := by rw [w64_id (by omega)]; rfl
        refine ⟨_, _, _, whPtr H hl hjl, by omega, by omega, by omega, _, _, _, whPtr H hl hjl, ?_⟩
        rw [e1, Int.toNat_natCast, Int.toNat_natCast]
        refine ⟨by omega, by omega, ?_⟩
        have H := whPick H hjl
        have hv : Vw w7 (m.rs[j]).a (tcs (m.rs[j]).l) := H.vw
        have hv2 := hv.slc (k := k + 1) (c := (m.rs[j]).c) (size := 3) (by rw [tcs_length]; exact Nat.mul_le_mul_right _ hown)
        rw [tcs_drop] at hv2
        have H := (Has.owTake H (m := k) (by omega)).owCap (c' := k) (Nat.le_refl _) (by omega)
        rw [tcs_take] at H
        refine Has.app (m := (m.rs[j]).l.length - (k + 1)) elT H (hv2.src elT (by rw [tcs_length, List.length_drop]) (tcs_one _)) (by omega) (by simp [maxLen]; omega) fun a5 c5 w8 H => ⟨whPtr H.drop hl hjl, whPtr H.drop hl hjl, ?_⟩
        have e2 : tcs ((m.rs[j]).l.take k) ++ tcs ((m.rs[j]).l.drop (k + 1)) = tcs ((m.rs[j]).l.eraseIdx k) := by rw [tcs_append, List.eraseIdx_eq_take_drop_succ]
        have e3 : k + ((m.rs[j]).l.length - (k + 1)) = ((m.rs[j]).l.eraseIdx k).length := by rw [List.length_eraseIdx, if_pos h]; omega
        rw [e2, e3] at H
        rw [e3]
        refine whStPtr (r := Rw.own 53 ⟨a5, c5, (m.rs[j]).l.eraseIdx k⟩ :: _) (Has.ro H [1, 2, 3, 4, 5, 0]) hl hj ⟨a5, c5, (m.rs[j]).l.eraseIdx k⟩ fun w9 H => ?_
        have H := whPut (m0 := m) (Has.ro H [5]) hjl rfl
        have hpos : 0 < m.n := by
          have h1 : (m.pl[j]'(by omega)).length ≤ m.pl.flatten.length := by
            have := (flatten_split m.pl j (by omega)).length_eq
            rw [List.length_append] at this; omega
          have h2 : (m.pl[j]'(by omega)).length = (m.rs[j]).l.length := by simp [Wm.pl]
          omega
        refine ⟨_, _, Has.cell (Has.ro H [10]) rfl, _, Has.cell H rfl, Has.st H (by simp [Wm.cells]) rfl fun w10 H => ?_⟩
        have e4 : w64 ((m.n : Int) - 1) = ((m.n - 1 : Nat) : Int) := by rw [w64_id (by omega)]; omega
        rw [e4] at H
        have H : Has w0 w10 (whA b { m with n := m.n - 1, rs := m.rs.set j ⟨a5, c5, (m.rs[j]).l.eraseIdx k⟩ } (_ :: blk w3.heap.size (.deferred (some [])) :: blk (w3.heap.size + 1) (.loop rc) :: ca b3 4 [.bool false] :: ca b2 3 [.int .i64 id] :: ca b1 23 [pv b 0] :: r)) := H
        refine Has.st (Has.ro H [8]) (by simp) rfl fun w11 H => ⟨⟨j, hjl, k, h, ⟨a5, c5, (m.rs[j]).l.eraseIdx k⟩, h2, rfl, ?_⟩, ?_⟩
        · exact (Has.rm H [6, 7, 8]).ro [0, 6, 7]
        · exact Has.keeps (l := _) (Has.ro H [7, 8])
      · have h2 : ¬ ((m.rs[j]).l[k]).id = id := by simpa using h2
        rw [w64_id (by omega)]
        refine ⟨⟨k + 1, by omega, h, fun t ht => ?_, H.drop⟩, by dsimp only; omega⟩
        rw [List.take_succ_eq_append_getElem h] at ht
        rcases List.mem_append.1 ht with ht | ht
        · exact hnk t ht
        · simp at ht; subst ht; exact h2
    · have h : k = (m.rs[j]).l.length := by simp at h; omega
      subst h
      rw [List.take_length] at hnk
      refine ⟨⟨fun t ht => ?_, H.drop.drop⟩, H.keeps⟩
      rw [flatten_take_succ (by omega)] at ht
      rcases List.mem_append.1 ht with ht | ht
      · exact hno t ht
      · refine hnk t ?_
        simpa [Wm.pl] using ht
  · rintro W ⟨hno, H⟩ hW
    rw [List.take_of_length_le (by omega)] at hno
    have H := H.addBlk (hco _ _) hW rfl hsz
    rw [hPz] at H
    refine Has.st H.f1 (by simp) rfl fun w4 H => ?_
    have hget := H.f1.get
    refine ⟨hget, ?_⟩
    have H : Has w0 w4 (ca b3 4 [.bool false] :: ca b2 3 [.int .i64 id] :: ca b1 23 [pv b 0] :: whA b m r) := H.f1.drop
    have H := H.shut (w := w3) ⟨co_ca _ _ _, co_ca _ _ _, co_ca _ _ _, CO_wh hr⟩ hget hsz
    exact ⟨_, H.cell rfl, false, rfl, .inl ⟨rfl, hno, H.drop.drop.drop⟩⟩
  · rintro W ⟨j, hj, i, hi, x, h1, h2, H⟩ hW
    refine ⟨hW, ?_⟩
    have H := H.shut (w := w3) (hco _ _) hW hsz
    rw [hPz] at H
    exact ⟨_, H.cell rfl, true, rfl, .inr ⟨rfl, j, hj, i, hi, x, h1, h2, H.drop.drop.drop⟩⟩

theorem wheel_Due_spec (hl : m.rs.length = 449) (hsm : ∀ x ∈ m.rs, x.l.length ≤ 1000) (hd : ∀ t ∈ m.pl.flatten, m.now < t.due ∧ t.due < 18446744073709551616) (hr : CO r) (H : Has w0 w (whA b m r)) :
    Calls Try.prog 15 #[pv b 0] w fun e w' => ∃ v, e = .returned v ∧ v = .int .u64 (minD m.now m.pl.flatten : Int) ∧ Has w0 w' (whA b m r) := by
  refine wheel_Wheel_Due.ok _ _ ?_
  refine H.al fun b1 w1 H => H.al fun b2 w2 H => Has.st H (by simp) rfl fun w3 H => ⟨_, _, H.f1.cell rfl, _, _, H.f1.cell rfl, ?_⟩
  have hsz := H.base.size
  have hpl : m.pl.length = 449 := by unfold Wm.pl; simpa using hl
  obtain ⟨Pz, hPz⟩ : ∃ Pz : Nat → List A, Pz = fun (q : Nat) => ca b2 33 [.int .u64 (q : Int)] :: ca b1 23 [pv b 0] :: whA b m r := ⟨_, rfl⟩
  have hco : ∀ q, CO (Pz q) := fun q => by rw [hPz]; exact ⟨co_ca _ _ _, co_ca _ _ _, CO_wh hr⟩
  have H : Has w0 w3 (Pz 0) := by rw [hPz]; exact H
  refine ⟨Go.Proofs.enters_of Try.func27 (by kernel_rfl) rfl, 449, ptr b m.rb, RDw b m.rb, fun j W => Has w0 W (Pz (minD m.now (m.pl.take j).flatten)), fun _ => False, lists_iter b m.rb, ?_, ?_, ?_, by simpa [minD] using H, ?_, ?_, ?_⟩
  · intro i W H
    rw [hPz] at H
    exact wh_reads (Has.ro H [2, 3, 4, 5, 6])
  · intro i W W' row hi hg hrow
    exact hi.loose (hco _) hg fun k e => ⟨Nat.le_trans hsz (hrow k e).1, (hrow k e).2⟩
  · intro W W' row hi hg hrow
    exact hi.elim
  · rintro j W rc hj H hk
    have hjl : j < m.rs.length := by omega
    have H := H.addLoop (hco _) hk hsz
    rw [hPz] at H ⊢
    have hx := hsm _ (List.getElem_mem hjl)
    have hmem : ∀ t ∈ (m.rs[j]).l, t ∈ m.pl.flatten := fun t ht => List.mem_flatten.2 ⟨_, List.mem_map.2 ⟨_, List.getElem_mem hjl, rfl⟩, ht⟩
    refine ⟨_, _, _, whPtr (Has.ro H [4, 5, 6, 7, 8]) hl hjl, fun i w' => ∃ k : Nat, i = (k : Int) ∧ k ≤ (m.rs[j]).l.length ∧ Has w0 w' (blk w3.heap.size (.deferred (some [])) :: blk (w3.heap.size + 1) (.loop rc) :: ca b2 33 [.int .u64 (minD m.now ((m.pl.take j).flatten ++ (m.rs[j]).l.take k) : Int)] :: ca b1 23 [pv b 0] :: whA b m r), fun i _ => (m.rs[j]).l.length + 1 - i.toNat, ⟨0, rfl, by omega, by simpa using H⟩, ?_⟩
    clear H
    rintro _ i w4 ⟨k, rfl, hkl, H⟩
    refine bif_i (fun h => ?_) fun h => ?_
    · have h : k < (m.rs[j]).l.length := by simp at h; omega
      obtain ⟨hd1, hd2⟩ := hd _ (hmem _ (List.getElem_mem h))
      obtain ⟨b4, o4, hb4, hr4⟩ := (whVw (TT := 53) (Has.ro H [4, 5, 6, 7, 8]) hjl).tm h
      have e1 : wu64 (((m.rs[j]).l[k]).due - (m.now : Int)) = ((((m.rs[j]).l[k]).due - m.now : Nat) : Int) := by
        rw [show wu64 _ = IntKind.u64.wrap _ from rfl, IntWalk.u64_in _ (by omega)]; omega
      have hstep : minD m.now ((m.pl.take j).flatten ++ (m.rs[j]).l.take (k + 1)) = if minD m.now ((m.pl.take j).flatten ++ (m.rs[j]).l.take k) = 0 ∨ ((m.rs[j]).l[k]).due - m.now < minD m.now ((m.pl.take j).flatten ++ (m.rs[j]).l.take k) then ((m.rs[j]).l[k]).due - m.now else minD m.now ((m.pl.take j).flatten ++ (m.rs[j]).l.take k) := by
        rw [List.take_succ_eq_append_getElem h, ← List.append_assoc, minD_snoc]
      generalize hq : minD m.now ((m.pl.take j).flatten ++ (m.rs[j]).l.take k) = q at H hstep
      refine ⟨b4, o4, hb4, by omega, by omega, _, _, _, hr4, H.al fun b5 w5 H => Has.st H (by simp) rfl fun w6 H => H.dr fun w7 H => ⟨_, H.cell rfl, _, _, H.f4.cell rfl, _, Has.cell (Has.ro H [5]) rfl, _, H.f3.cell rfl, ?_⟩⟩
      rw [e1]
      refine bif_i (fun h2 => ?_) fun h2 => ?_
      · have h2 : q = 0 := by simp at h2; omega
        rw [if_pos (.inl h2)] at hstep
        refine Has.st H.f3 (by simp) rfl fun w8 H => ?_
        rw [w64_id (by omega)]
        refine ⟨⟨k + 1, by omega, h, ?_⟩, by dsimp only; omega⟩
        rw [hstep]
        exact (H.rm [1]).ro [1, 2, 0]
      · have h2 : ¬ q = 0 := by simp at h2; omega
        refine ⟨_, H.f3.cell rfl, bif_i (fun h3 => ?_) fun h3 => ?_⟩
        · have h3 : ((m.rs[j]).l[k]).due - m.now < q := by simp at h3; omega
          rw [if_pos (.inr h3)] at hstep
          refine Has.st H.f3 (by simp) rfl fun w8 H => ?_
          rw [w64_id (by omega)]
          refine ⟨⟨k + 1, by omega, h, ?_⟩, by dsimp only; omega⟩
          rw [hstep]
          exact (H.rm [1]).ro [1, 2, 0]
        · have h3 : ¬ ((m.rs[j]).l[k]).due - m.now < q := by simp at h3; omega
          rw [if_neg (fun e => e.elim h2 h3)] at hstep
          rw [w64_id (by omega)]
          refine ⟨⟨k + 1, by omega, h, ?_⟩, by dsimp only; omega⟩
          rw [hstep]
          exact H.drop
    · have h : k = (m.rs[j]).l.length := by simp at h; omega
      subst h
      rw [List.take_length] at H
      have e5 : (m.pl.take j).flatten ++ (m.rs[j]).l = (m.pl.take (j + 1)).flatten := by rw [flatten_take_succ (by omega)]; simp [Wm.pl]
      rw [e5] at H
      exact ⟨H.drop.drop, H.keeps⟩
  · rintro W H hW
    rw [List.take_of_length_le (by omega)] at H
    have H1 := H.shut (w := w3) (hco _) hW hsz
    rw [hPz] at H H1
    exact ⟨_, H.cell rfl, hW, rfl, H1.drop.drop⟩
  · intro W h
    exact h.elim

end
end Go.Proofs.Ytdlalkhnppahfaa
