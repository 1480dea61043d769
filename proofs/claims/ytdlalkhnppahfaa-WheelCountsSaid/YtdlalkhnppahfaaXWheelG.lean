/-
  Layer 9 (wheel): Tick.
-/
import Derived.Test.YtdlalkhnppahfaaXWheelF
set_option maxRecDepth 8000
namespace Go.X
open Go

/-- The places as the tick's loop goes. -/
def stg (N : Nat) (pl : List (List Tm)) (x : Int) : List (List Tm) := if 1 ≤ x then pl else if x = 0 then tick1 N pl else tick2 N pl

theorem casc_len (now j : Nat) (pl : List (List Tm)) : (casc now j pl).length = pl.length := by unfold casc; rw [putAll_len, List.length_set]
theorem casc_perm {now j : Nat} {pl : List (List Tm)} (hl : pl.length = 449) (hj : j < 449) : (casc now j pl).flatten.Perm pl.flatten := by
  have hj' : j < pl.length := by omega
  unfold casc
  rw [List.getElem?_eq_getElem hj', Option.getD_some]
  exact (putAll_perm now _ _ (by simp [hl])).trans (flatten_split pl j hj').symm
theorem tick1_len (N : Nat) (pl : List (List Tm)) : (tick1 N pl).length = pl.length := by unfold tick1; split <;> simp [casc_len]
theorem tick2_len (N : Nat) (pl : List (List Tm)) : (tick2 N pl).length = pl.length := by unfold tick2; split <;> simp [casc_len, tick1_len]
theorem tick1_perm {N : Nat} {pl : List (List Tm)} (hl : pl.length = 449) : (tick1 N pl).flatten.Perm pl.flatten := by
  unfold tick1; split
  · exact casc_perm hl (by omega)
  · exact List.Perm.refl _
theorem tick2_perm {N : Nat} {pl : List (List Tm)} (hl : pl.length = 449) : (tick2 N pl).flatten.Perm pl.flatten := by
  unfold tick2; split
  · exact (casc_perm (by rw [tick1_len]; exact hl) (by omega)).trans (tick1_perm hl)
  · exact tick1_perm hl
theorem stg_len (N : Nat) (pl : List (List Tm)) (x : Int) : (stg N pl x).length = pl.length := by
  unfold stg; split
  · rfl
  · split
    · exact tick1_len _ _
    · exact tick2_len _ _
theorem stg_perm {N : Nat} {pl : List (List Tm)} (hl : pl.length = 449) (x : Int) : (stg N pl x).flatten.Perm pl.flatten := by
  unfold stg; split
  · exact List.Perm.refl _
  · split
    · exact tick1_perm hl
    · exact tick2_perm hl
theorem stg_skip {N : Nat} {pl : List (List Tm)} {k : Nat} (hk : k ≤ 2) (h : N % 2 ^ shf (k + 1) ≠ 0) : stg N pl ((k : Int) - 1) = stg N pl k := by
  match k, hk, h with
  | 0, _, h =>
    simp only [shf, Nat.reduceAdd, Nat.reducePow] at h
    unfold stg tick2
    simp [h]
  | 1, _, h =>
    simp only [shf, Nat.reduceAdd, Nat.reducePow] at h
    unfold stg tick1
    simp [h]
  | 2, _, h => unfold stg; simp
theorem stg_casc {N : Nat} {pl : List (List Tm)} {k : Nat} (hk : k < 2) (h : N % 2 ^ shf (k + 1) = 0) : stg N pl ((k : Int) - 1) = casc N (rof (k + 1) + N / 2 ^ shf (k + 1) % rsz (k + 1)) (stg N pl k) := by
  match k, hk, h with
  | 0, _, h =>
    simp only [shf, Nat.reduceAdd, Nat.reducePow] at h
    unfold stg tick2
    simp [h, rof, rsz, shf]
  | 1, _, h =>
    simp only [shf, Nat.reduceAdd, Nat.reducePow] at h
    unfold stg tick1
    simp [h, rof, rsz, shf]

theorem mask_tick {N k : Nat} (hN : N < 18446744073709551616) (hk : k ≤ 2) : andV .u64 (N : Int) (wu64 (shlV .u64 1 (shf (k + 1) : Int) - 1)) = ((N % 2 ^ shf (k + 1) : Nat) : Int) := by
  have e : wu64 (shlV .u64 1 (shf (k + 1) : Int) - 1) = ((2 ^ shf (k + 1) - 1 : Nat) : Int) := by
    match k, hk with
    | 0, _ => decide
    | 1, _ => decide
    | 2, _ => decide
  have hs : shf (k + 1) ≤ 63 := by
    match k, hk with
    | 0, _ => decide
    | 1, _ => decide
    | 2, _ => decide
  rw [e, and_mask hN hs]
theorem mask63 {N : Nat} (hN : N < 18446744073709551616) : andV .u64 (N : Int) 63 = ((N % 64 : Nat) : Int) := and_mask (k := 6) hN (by omega)

def ic (l : List Int) : List Value := l.map fun i => .int .i64 i
@[simp] theorem ic_length (l : List Int) : (ic l).length = l.length := by simp [ic]

end Go.X
namespace Go.Proofs.Ytdlalkhnppahfaa
open Go.X

theorem elI : El Try.prog 27 3 1 8 := El.of (by kernel_rfl)

section
variable {w0 w : World} {r : List A} {b : Nat} {m : Wm}

theorem wheel_Tick_spec (hl : m.rs.length = 449) (hN : m.now + 1 < 2097152) (hf : m.pl.flatten.length ≤ m.n) (hn : m.n ≤ 64) (hdue : ∀ t ∈ m.pl.flatten, t.due < 18446744073709551616) (H : Has w0 w (whA b m r)) :
    Calls Try.prog 12 #[pv b 0] w fun e w' => ∃ v, e = .returned v ∧ ∃ (a : Option Addr) (c : Nat) (m' : Wm) (l' : List Tm), v = .slice a l'.length c ∧ m'.now = m.now + 1 ∧ m'.turn = m.turn ∧ m'.n = m.n - l'.length ∧ m'.rs.length = 449 ∧
      m'.pl = (tick2 (m.now + 1) m.pl).set ((m.now + 1) % 64) [] ∧ l'.Perm ((tick2 (m.now + 1) m.pl)[(m.now + 1) % 64]?.getD []) ∧ l'.Pairwise (fun a b => ¬ b.turn < a.turn) ∧
      Has w0 w' (whA b m' (ow 3 1 a l'.length c (ic (l'.map (·.id))) :: r)) := by
  refine wheel_Wheel_Tick.ok _ _ ?_
  have hpl : m.pl.length = 449 := by unfold Wm.pl; simpa using hl
  obtain ⟨N, hNe⟩ : ∃ N, N = m.now + 1 := ⟨_, rfl⟩
  rw [← hNe] at hN ⊢
  have e0 : wu64 ((m.now : Int) + 1) = (N : Int) := by rw [wu64_id (by omega)]; omega
  refine ⟨_, Has.cell H rfl, Has.st H (by simp [Wm.cells]) rfl fun w1 H => ?_⟩
  rw [e0] at H
  have H : Has w0 w1 (whA b { m with now := N } r) := H
  refine (wheel_shifts_spec H).mono ?_
  rintro e w2 ⟨v, rfl, rfl, H⟩
  refine ⟨_, _, _, _, rfl, H.al fun b1 w3 H => Has.st H (by simp) rfl fun w4 H => ?_⟩
  have H : Has w0 w4 (ca b1 55 shCells :: whA b { m with now := N } r) := H
  have hN64 : N < 18446744073709551616 := by omega
  have hsh : ∀ {w' : World} {q : List A}, Has w0 w' (ca b1 55 shCells :: q) → ∀ j ≤ 3, w'.cell? ⟨b1, 0 + ((j : Nat) : Int).toNat * 1, none⟩ = some (.int .u64 (shf j : Int)) := fun H j hj => H.cell (by rw [Nat.zero_add, Int.toNat_natCast, Nat.mul_one]; exact shCells_get hj)
  refine ⟨fun w' => ∃ m1 : Wm, m1.now = N ∧ m1.turn = m.turn ∧ m1.n = m.n ∧ m1.rs.length = 449 ∧ m1.pl = tick2 N m.pl ∧ Has w0 w' (ca b1 55 shCells :: whA b m1 r),
    ⟨fun x w' => (-1 ≤ x ∧ x ≤ 2) ∧ ∃ m1 : Wm, m1.now = N ∧ m1.turn = m.turn ∧ m1.n = m.n ∧ m1.rs.length = 449 ∧ m1.pl = stg N m.pl x ∧ Has w0 w' (ca b1 55 shCells :: whA b m1 r), fun x _ => (x + 2).toNat,
      ⟨by omega, { m with now := N }, rfl, rfl, rfl, hl, rfl, H⟩, ?_⟩, ?_⟩
  · clear H
    rintro _ x w6 ⟨⟨hx1, hx2⟩, m1, g1, g2, g3, g4, g5, H⟩
    refine bif_i (fun hx => ?_) fun hx => ?_
    · obtain ⟨k, rfl⟩ : ∃ k : Nat, x = k := ⟨x.toNat, by simp at hx; omega⟩
      have hk : k ≤ 2 := by omega
      have e1 : w64 ((k : Int) + 1) = ((k + 1 : Nat) : Int) := by rw [w64_id (by omega)]; rfl
      have e2 : w64 ((k : Int) - 1) = (k : Int) - 1 := by rw [w64_id (by omega)]
      have hp1 : m1.pl.flatten.Perm m.pl.flatten := by rw [g5]; exact stg_perm hpl _
      have hM : ((k : Int) - 1 + 2).toNat < ((k : Int) + 2).toNat := by omega
      rw [e1, e2]
      refine H.dr fun w7 H => ⟨_, Has.cell H.f1 rfl, by omega, by omega, _, hsh H (k + 1) (by omega), by omega, ?_⟩
      rw [g1, mask_tick hN64 hk]
      refine bif_i (fun h1 => ?_) fun h1 => ?_
      · have h1 : N % 2 ^ shf (k + 1) ≠ 0 := fun e => by rw [e] at h1; simp at h1
        exact ⟨⟨by omega, m1, g1, g2, g3, g4, by rw [g5, stg_skip hk h1], H⟩, hM⟩
      · have h1 : N % 2 ^ shf (k + 1) = 0 := by
          rcases Nat.eq_zero_or_pos (N % 2 ^ shf (k + 1)) with h | h
          · exact h
          · exfalso
            have : ((N % 2 ^ shf (k + 1) : Nat) : Int) ≠ 0 := by omega
            rw [bne_iff_ne.2 this] at h1; cases h1
        have hk2 : k < 2 := by
          rcases Nat.lt_or_ge k 2 with h | h
          · exact h
          · exfalso
            obtain rfl : k = 2 := by omega
            simp only [shf, Nat.reduceAdd, Nat.reducePow] at h1
            omega
        have hlt := ring_lt (k := k + 1) N (by omega)
        have hix := ring_idx (k := k + 1) (d := N) (by omega) hN64
        have hjb := rof_lt (i := k + 1) (by omega) hlt
        have hcas := stg_casc (pl := m.pl) hk2 h1
        generalize hkk : N / 2 ^ shf (k + 1) % rsz (k + 1) = kk at hlt hix hjb hcas
        have hjl : rof (k + 1) + kk < m1.rs.length := by omega
        have hjp : rof (k + 1) + kk < m1.pl.length := by unfold Wm.pl; simpa using hjl
        have hplg : m1.pl[rof (k + 1) + kk] = (m1.rs[rof (k + 1) + kk]).l := by simp [Wm.pl]
        have hlen1 : (m1.rs[rof (k + 1) + kk]).l.length + (m1.pl.set (rof (k + 1) + kk) []).flatten.length ≤ 64 := by
          have h1 := (flatten_split m1.pl _ hjp).length_eq
          rw [hp1.length_eq, List.length_append, hplg] at h1; omega
        refine ⟨fun ta tn tc w' => ∃ x : Rw, ta = x.a ∧ tn = x.l.length ∧ tc = x.c ∧ x.l = (m1.rs[rof (k + 1) + kk]).l ∧ ∃ m2 : Wm, m2.now = N ∧ m2.turn = m.turn ∧ m2.n = m.n ∧ m2.rs.length = 449 ∧ m2.pl = m1.pl.set (rof (k + 1) + kk) [] ∧ Has w0 w' (ca b1 55 shCells :: whA b m2 (x.own 53 :: r)), ?_, ?_⟩
        · refine bif_f (by simp; omega) ?_
          have HW : ∀ {w' : World}, Has w0 w' (ca b1 55 shCells :: whA b m1 r) → Has w0 w' (whA b m1 (ca b1 55 shCells :: r)) := fun H => Has.ro H [1, 2, 3, 4, 5]
          have e3 : (0 + 2 + (((k + 1 : Nat) : Int)).toNat * 1) = 2 + (k + 1) := by rw [Int.toNat_natCast]; omega
          rw [e3]
          refine H.dr fun w10 H => ⟨_, Has.cell H.f1 rfl, by omega, by omega, _, hsh H (k + 1) (by omega), by omega, by omega, by omega, _, _, _, whHead (HW H) (by omega), H.dr fun w11 H => ⟨by omega, by omega, _, _, _, whHead (HW H) (by omega), by omega, by omega, _, _, _, whHead (HW H) (by omega), ?_⟩⟩
          rw [g1, hix]
          have e4 : (0 + ((kk : Nat) : Int).toNat * 1) = kk := by rw [Int.toNat_natCast]; omega
          refine ⟨_, _, rfl, by omega, by exact_mod_cast hlt, ?_⟩
          rw [e4]
          refine ⟨_, _, _, whRing (HW H) g4 (by omega) hlt, _, _, rfl, by omega, by exact_mod_cast hlt, ?_⟩
          rw [e4]
          have H := whPick (HW H) hjl
          have H := (Has.ro H [1, 2, 3, 4, 5, 0])
          refine whSt (r := (m1.rs[rof (k + 1) + kk]).own 53 :: _) H g4 (by omega) hlt ⟨none, 0, []⟩ fun w12 H => ⟨_, rfl, rfl, rfl, rfl, { m1 with rs := m1.rs.set (rof (k + 1) + kk) ⟨none, 0, []⟩ }, g1, g2, g3, by simpa using g4, by unfold Wm.pl; dsimp only; rw [List.map_set], ?_⟩
          have H := Has.mkow0 53 3 H
          have H := whPut (m0 := m1) (x := ⟨none, 0, []⟩) H hjl rfl
          exact Has.ro H [6, 0, 1, 2, 3, 4, 5]
        · clear H
          rintro _ ta tn tc w8 ⟨x, rfl, rfl, rfl, hx, m2, f1, f2, f3, f4, f5, H⟩
          rw [← hx] at hlen1 hplg
          refine ⟨fun i w' => ∃ q : Nat, i = (q : Int) ∧ q ≤ x.l.length ∧ ∃ m3 : Wm, m3.now = N ∧ m3.turn = m.turn ∧ m3.n = m.n ∧ m3.rs.length = 449 ∧ m3.pl = putAll N (x.l.take q) (m1.pl.set (rof (k + 1) + kk) []) ∧ Has w0 w' (ca b1 55 shCells :: whA b m3 (x.own 53 :: r)), fun i _ => x.l.length + 1 - i.toNat, ⟨0, rfl, by omega, m2, f1, f2, f3, f4, by rw [f5]; rfl, H⟩, ?_⟩
          clear H f1 f2 f3 f4 f5 m2
          rintro _ i w13 ⟨q, rfl, hq, m3, f1, f2, f3, f4, f5, H⟩
          refine bif_i (fun h2 => ?_) fun h2 => ?_
          · have h2 : q < x.l.length := by simp at h2; omega
            have hv : Vw w13 x.a (tcs x.l) := Has.vw (Has.ro H [6])
            obtain ⟨b4, o4, hb4, hr4⟩ := hv.tm h2
            refine ⟨b4, o4, hb4, by omega, by omega, _, _, _, hr4, H.al fun b5 w14 H => Has.st H (by simp) rfl fun w15 H => ⟨_, _, _, H.row rfl, ?_⟩⟩
            have hm3 : m3.pl.flatten.length ≤ 64 := by
              rw [f5, (putAll_perm N _ _ (by simp [Wm.pl, g4])).length_eq, List.length_append, List.length_take]; omega
            have hmem : x.l[q] ∈ m.pl.flatten := hp1.mem_iff.1 (List.mem_flatten.2 ⟨_, List.getElem_mem hjp, by rw [hplg]; exact List.getElem_mem h2⟩)
            have H := Has.ro H [2, 3, 4, 5, 6]
            refine (wheel_put_spec (r := _ :: _) (m := m3) (t := x.l[q]) f4 (hsm_of (by omega)) (hdue _ hmem) H).mono ?_
            rintro e w16 ⟨v, rfl, rfl, y, hy, H⟩
            have e5 : w64 ((q : Int) + 1) = ((q + 1 : Nat) : Int) := by rw [w64_id (by omega)]; rfl
            rw [e5]
            refine ⟨rfl, ⟨q + 1, rfl, h2, { m3 with rs := m3.rs.set (place m3.now x.l[q].due) y }, f1, f2, f3, by simpa using f4, ?_, Has.rm H [5] |>.ro [5]⟩, by dsimp only; omega⟩
            have e6 : x.l.take (q + 1) = x.l.take q ++ [x.l[q]] := List.take_succ_eq_append_getElem h2
            rw [e6]
            unfold putAll
            rw [List.foldl_append]
            show _ = putAt (putAll N (x.l.take q) _) (place N x.l[q].due) x.l[q]
            rw [← f5, ← f1]
            have hpj : place m3.now (x.l[q]).due < m3.rs.length := by rw [f4]; exact place_lt _ _
            unfold Wm.pl putAt; dsimp only
            rw [List.map_set, hy, List.getElem?_map, List.getElem?_eq_getElem hpj]; rfl
          · have h2 : q = x.l.length := by simp at h2; omega
            subst h2
            rw [List.take_length] at f5
            refine ⟨⟨by omega, m3, f1, f2, f3, f4, ?_, Has.rm H [6]⟩, hM⟩
            rw [f5, hcas, ← g5]
            unfold casc
            rw [List.getElem?_eq_getElem hjp, Option.getD_some, hplg]
    · have hx : x = -1 := by simp at hx; omega
      subst hx
      exact ⟨m1, g1, g2, g3, g4, by rw [g5]; rfl, H⟩
  · clear H
    rintro _ w5 ⟨m1, g1, g2, g3, g4, g5, H⟩
    have H : Has w0 w5 (whA b m1 r) := H.drop
    have hlt : N % 64 < rsz 0 := Nat.mod_lt _ (by decide)
    have hjb := rof_lt (i := 0) (by omega) hlt
    have hjl : rof 0 + N % 64 < m1.rs.length := by omega
    have hp1 : m1.pl.flatten.Perm m.pl.flatten := by rw [g5]; exact tick2_perm hpl
    have hjp : rof 0 + N % 64 < m1.pl.length := by unfold Wm.pl; simpa using hjl
    have hplg : m1.pl[rof 0 + N % 64] = (m1.rs[rof 0 + N % 64]).l := by simp [Wm.pl]
    have hlen1 : (m1.rs[rof 0 + N % 64]).l.length ≤ m.n := by
      have h1 := (flatten_split m1.pl _ hjp).length_eq
      rw [hp1.length_eq, List.length_append, hplg] at h1; omega
    have e4 : (0 + ((N % 64 : Nat) : Int).toNat * 1) = N % 64 := by rw [Int.toNat_natCast]; omega
    have hh : ∀ {w' : World} {m' : Wm} {q : List A}, Has w0 w' (whA b m' q) → w'.cell? ⟨b, 0 + 2, none⟩ = some (.slice (some ⟨m'.rb 0, 0, none⟩) 64 64) := fun H => Has.cell H rfl
    refine ⟨_, Has.cell H rfl, by omega, by omega, _, _, _, hh H, ?_⟩
    rw [g1, mask63 hN64]
    refine ⟨_, _, rfl, by omega, by exact_mod_cast hlt, ?_⟩
    rw [e4]
    refine ⟨_, _, _, whRing H g4 (by omega) hlt, H.al fun b7 w17 H => Has.st H (by simp) rfl fun w18 H => ⟨by omega, by omega, ?_⟩⟩
    generalize hxr : m1.rs[rof 0 + N % 64] = x at hlen1 hplg H
    have H : Has w0 w18 (bx b7 x :: whA b m1 r) := H
    refine ⟨_, _, _, hh (Has.ro H [1, 2, 3, 4, 5]), _, _, rfl, by omega, by exact_mod_cast hlt, ?_⟩
    rw [e4]
    have H := whPick (r := bx b7 x :: r) (Has.ro H [1, 2, 3, 4, 5]) hjl
    rw [hxr] at H
    refine whSt (r := x.own 53 :: _) (Has.ro H [1, 2, 3, 4, 5, 0]) g4 (by omega) hlt ⟨none, 0, []⟩ fun w19 H => H.dr fun w20 H => ?_
    have H := whPut (m0 := m1) (m := { m1 with rs := m1.rs.set (rof 0 + N % 64) ⟨none, 0, []⟩ }) (x := ⟨none, 0, []⟩) (Has.mkow0 53 3 H) hjl rfl
    refine ⟨_, Has.cell H rfl, _, _, _, Has.cell (Has.ro H [6]) rfl, Has.st H (by simp [Wm.cells]) rfl fun w21 H => ?_⟩
    have e5 : w64 ((m1.n : Int) - (x.l.length : Int)) = ((m1.n - x.l.length : Nat) : Int) := by rw [w64_id (by omega)]; omega
    rw [e5] at H
    have H : Has w0 w21 (whA b { m1 with n := m1.n - x.l.length, rs := m1.rs.set (rof 0 + N % 64) ⟨none, 0, []⟩ } (x.own 53 :: bx b7 x :: r)) := H
    refine ⟨_, _, _, Has.cell (Has.ro H [6]) rfl, ?_⟩
    refine (timers_sorted (by omega) (Has.ro H [5, 6])).mono ?_
    rintro e w22 ⟨rfl, l', hp, hpw, H⟩
    have hll := hp.length_eq
    refine ⟨rfl, _, _, _, Has.cell H.f1 rfl, fun ya yn yc i w' => ∃ q : Nat, i = (q : Int) ∧ q ≤ l'.length ∧ yn = q ∧ Has w0 w' (ow 3 1 ya yn yc (ic ((l'.take q).map (·.id))) :: Rw.own 53 ⟨x.a, x.c, l'⟩ :: bx b7 x :: whA b { m1 with n := m1.n - x.l.length, rs := m1.rs.set (rof 0 + N % 64) ⟨none, 0, []⟩ } r), fun _ _ _ i _ => l'.length + 1 - i.toNat, ⟨0, rfl, by omega, rfl, H.mkow0 3 1⟩, ?_⟩
    clear H
    rintro _ ya yn yc i w23 ⟨q, rfl, hq, rfl, H⟩
    refine bif_i (fun h2 => ?_) fun h2 => ?_
    · have h2 : yn < l'.length := by simp at h2; omega
      have hv : Vw w23 x.a (tcs l') := Has.vw H.f1
      obtain ⟨b9, o9, hb9, hr9⟩ := hv.tm h2
      refine ⟨b9, o9, hb9, by omega, by omega, _, _, _, hr9, H.al fun b10 w24 H => Has.st H (by simp) rfl fun w25 H => ⟨_, H.cell rfl, H.al fun b11 w26 H => ?_⟩⟩
      have H := Has.ro H [2]
      refine Has.app (m := 1) elI H (Has.src (vs := [.int .i64 (l'[yn]).id]) elI H.f1 rfl rfl) (by omega) (by simp [maxLen]; omega) fun a5 c5 w27 H => ?_
      have e6 : w64 ((yn : Int) + 1) = ((yn + 1 : Nat) : Int) := by rw [w64_id (by omega)]; rfl
      rw [e6]
      refine ⟨⟨yn + 1, rfl, h2, rfl, ?_⟩, by dsimp only; omega⟩
      have e7 : ic ((l'.take yn).map (·.id)) ++ [.int .i64 (l'[yn]).id] = ic ((l'.take (yn + 1)).map (·.id)) := by
        rw [List.take_succ_eq_append_getElem h2]; simp only [ic, List.map_append, List.map_cons, List.map_nil]
      rw [e7] at H
      exact Has.rm H [1, 2] |>.ro []
    · have h2 : yn = l'.length := by simp at h2; omega
      subst h2
      rw [List.take_length] at H
      refine ⟨_, yc, { m1 with n := m1.n - x.l.length, rs := m1.rs.set (rof 0 + N % 64) ⟨none, 0, []⟩ }, l', rfl, g1, g2, by dsimp only; omega, by simpa using g4, ?_, ?_, hpw, Has.ro (Has.rm H [1, 2]) [1, 2, 3, 4, 5, 0]⟩
      · have e8 : rof 0 + N % 64 = N % 64 := Nat.zero_add _
        rw [← g5]
        unfold Wm.pl; dsimp only
        rw [List.map_set, e8]
      · have e8 : rof 0 + N % 64 = N % 64 := Nat.zero_add _
        rw [← g5, ← e8, List.getElem?_eq_getElem hjp, Option.getD_some, hplg]
        exact hp

end
end Go.Proofs.Ytdlalkhnppahfaa
