/-
  Layer 8 (store): the law's helpers: said, light.
-/
import Derived.Test.YtbcepafeiocobaaXRecords
set_option maxRecDepth 8000
namespace Go.Proofs.Ytbcepafeiocobaa
open Go.X

section
variable {w0 w : World} {r : List A} {L : List (Option Addr × List Value)} {s : St}

theorem law_said_spec (hs : s.ok) {l : List (List UInt8)} (hl : ∀ x ∈ l, x.length ≤ 4611686018427387904) (hlen : s.l.length + l.length + 4 ≤ 1000000000) {sa : Option Addr} {sc : Nat} (hbs : Rb w0 L sa (ecs s.l)) {la : Option Addr} {lc : Nat} (hb : Rb w0 L la (ss l)) (H : Has w0 w (pl L :: r)) :
    Calls Try.prog 21 #[s.val sa s.l.length sc, .slice la l.length lc] w fun e w' => ∃ v, e = .returned v ∧ saidR w0 w' r L (takes (first8 7) (anewRecs s ++ l)) v := by
  refine tontinelaw08_said.ok _ _ _ _ _ _ _ _ _ _ _ _ ?_
  have hslen := hs.len
  refine H.al fun b1 w1 H => H.al fun b2 w2 H => H.dr fun w3 H => ⟨_, _, H.f1.row rfl, _, _, _, _, H.f1.row rfl, ?_⟩
  have H : Has w0 w3 (ca b2 50 (zero8.cells none 0 0) :: ca b1 50 (s.cells sa s.l.length sc) :: pl L :: r) := H
  refine (ref08_Hard_spec hs.term H).mono ?_
  rintro e w4 ⟨x, rfl, rfl, H⟩
  refine ⟨_, rfl, H.f1.row rfl, ?_⟩
  refine (ref08_Snap_spec hs.snap H).mono ?_
  rintro e w5 ⟨x, rfl, rfl, H⟩
  refine ⟨_, rfl, H.al fun b3 w6 H => ⟨_, _, _, H.f2.cell rfl, ?_⟩⟩
  have H := Has.mkow (sz := 1) (n := 2) (vs := ss [hardB s.term s.vote, snapB s.snap]) H rfl (by decide)
  refine ⟨fun oa on oc i w' => ∃ k : Nat, i = (k : Int) ∧ k ≤ s.l.length ∧ on = k + 2 ∧ Has w0 w' (ow 9 1 oa on oc (ss (hardB s.term s.vote :: snapB s.snap :: (s.l.take k).map entB)) :: ca b2 50 (zero8.cells none 0 0) :: ca b1 50 (s.cells sa s.l.length sc) :: pl L :: r), fun _ _ _ i _ => s.l.length + 1 - i.toNat, ⟨0, rfl, by omega, rfl, H⟩, ?_⟩
  clear H
  rintro _ oa on oc i w7 ⟨k, rfl, hk, rfl, H⟩
  refine bif_i (fun h3 => ?_) fun h3 => ?_
  · have h3 : k < s.l.length := by simp at h3; omega
    obtain ⟨b7, o7, hb7, hr7⟩ := (hbs.vw H.f3).ent h3
    refine ⟨b7, o7, hb7, by omega, by omega, _, _, _, _, hr7, H.al fun b8 w8 H => Has.st H (by simp) rfl fun w9 H => ⟨_, _, _, _, H.row rfl, ?_⟩⟩
    refine (ref08_Entry_spec (hs.l _ (List.getElem_mem h3)) H.drop).mono ?_
    rintro e w10 ⟨x, rfl, rfl, H⟩
    refine ⟨_, rfl, H.al fun b9 w11 H => ?_⟩
    refine Has.app (m := 1) elS H.f1 (H.src (vs := [.string (bs (entB s.l[k]))]) elS rfl rfl) (by omega) (by simp only [maxLen]; omega) fun a12 c12 w12 H => ?_
    rw [ss_snoc] at H
    have e4 : hardB s.term s.vote :: snapB s.snap :: (s.l.take k).map entB ++ [entB s.l[k]] = hardB s.term s.vote :: snapB s.snap :: (s.l.take (k + 1)).map entB := by rw [List.take_succ_eq_append_getElem h3, List.map_append]; rfl
    rw [e4] at H
    rw [w64_id (by omega)]
    exact ⟨⟨k + 1, by omega, h3, rfl, H.f1.drop⟩, by dsimp only; omega⟩
  have h3 : k = s.l.length := by simp at h3; omega
  subst h3
  rw [List.take_length] at H
  have e5 : hardB s.term s.vote :: snapB s.snap :: s.l.map entB = anewRecs s := rfl
  rw [e5] at H
  refine Has.app (m := l.length) elS H ((hb.vw H.f3).src elS (by simp) (fun x hx => by obtain ⟨y, _, rfl⟩ := List.mem_map.1 hx; rfl)) (by omega) (by simp only [maxLen]; omega) fun a1 c1 w8 H => ?_
  have e6 : ss (anewRecs s) ++ ss l = ss (anewRecs s ++ l) := by simp [ss]
  have e7 : s.l.length + 2 + l.length = (anewRecs s ++ l).length := by simp [anewRecs]; omega
  rw [e6, e7] at H
  rw [e7]
  have H := H.f3.f1.plAdd
  refine (ref08_Said_spec (m := 7) (L := (a1, ss (anewRecs s ++ l)) :: L) (by omega) (fun x hx => ?_) (by rw [← e7]; omega) Rb.hd H).mono ?_
  · rcases List.mem_append.1 hx with hx | hx
    · unfold anewRecs at hx
      rcases List.mem_cons.1 hx with rfl | hx
      · have := hardB_len hs.term s.vote; omega
      rcases List.mem_cons.1 hx with rfl | hx
      · have := snapB_len hs.snap; have := hs.snap.data; omega
      · obtain ⟨e, he, rfl⟩ := List.mem_map.1 hx
        have := entB_len (hs.l e he); have := (hs.l e he).data; omega
    · exact hl x hx
  rintro e w9 ⟨v, rfl, L', hsub, H, hcase⟩
  cases ht : takes (first8 7) (anewRecs s ++ l) with
  | none =>
    rw [ht] at hcase
    obtain ⟨s2, a2, n2, c2, rfl⟩ := hcase
    refine ⟨_, _, _, _, _, _, _, _, _, ⟨_, rfl, Has.st H.f1 (by simp [St.cells, zero8]) rfl fun w10 H => ⟨_, _, _, _, _, _, _, _, _, H.row rfl, ?_⟩⟩⟩
    exact ⟨L', fun p hp => hsub p (.tail _ hp), H.drop.f1.drop, s2, a2, n2, c2, rfl⟩
  | some s2 =>
    rw [ht] at hcase
    obtain ⟨a2, c2, rfl, hb2⟩ := hcase
    refine ⟨_, _, _, _, _, _, _, _, _, ⟨_, rfl, Has.st H.f1 (by simp [St.cells, zero8]) rfl fun w10 H => ⟨_, _, _, _, _, _, _, _, _, H.row rfl, ?_⟩⟩⟩
    exact ⟨L', fun p hp => hsub p (.tail _ hp), H.drop.f1.drop, a2, c2, rfl, hb2⟩

/-- Calls that can be read. -/
structure Cls (w : World) (a : Option Addr) (l : List Cl) : Prop where
  vw : Vw w a (ccs l)
  ok : ∀ x ∈ l, x.s.ok ∧ Vw w x.a (ecs x.s.l)
  len : l.length + wts l ≤ 4000000000

theorem law_light_spec {a : Option Addr} {c : Nat} {l : List Cl} (hl : Cls w a l) :
    Calls Try.prog 15 #[.slice a l.length c] w fun e w' => ∃ v, e = .returned v ∧ v = .bool (decide (wts l ≤ 400)) ∧ Has w w' [] := by
  refine tontinelaw08_light.ok _ _ _ ?_
  have hlen := hl.len
  refine ⟨fun n i w' => ∃ k : Nat, i = (k : Int) ∧ k ≤ l.length ∧ n = (wts (l.take k) : Int) ∧ Has w w' [], fun _ i _ => l.length + 1 - i.toNat, ⟨0, rfl, by omega, rfl, Has.start w⟩, ?_⟩
  rintro _ n i w1 ⟨k, rfl, hk, rfl, H⟩
  refine bif_i (fun h => ?_) fun h => ?_
  · have h : k < l.length := by simp at h; omega
    obtain ⟨b1, o1, hb1, hr1⟩ := (hl.vw.old H).rowAt (n := 8) Cl.cells_len (by omega) h
    obtain ⟨hok, hvw⟩ := hl.ok _ (List.getElem_mem h)
    have hk1 := wts_take h
    have hk2 := wts_take_le l (k + 1)
    have hwt : wt (l[k]).s = 1 + (l[k]).s.l.length + (l[k]).s.snap.data.length / 50 + dw (l[k]).s.l := rfl
    have hdat := hok.snap.data
    refine ⟨b1, o1, hb1, by omega, by omega, _, _, _, _, _, _, _, _, _, _, hr1, H.al fun b2 w2 H => Has.st H (by simp) rfl fun w3 H => ⟨_, _, _, H.cell rfl, _, H.cell rfl, _, _, _, H.cell rfl, ?_⟩⟩
    have H : Has w w3 [ca b2 61 (l[k]).cells] := H
    have e1 : w64 ((wts (l.take k) : Int) + w64 (w64 (1 + ((l[k]).s.l.length : Int)) + w64 (Int.tdiv ((bs (l[k]).s.snap.data).size : Int) 50))) = ((wts (l.take k) + (1 + (l[k]).s.l.length + (l[k]).s.snap.data.length / 50) : Nat) : Int) := by
      rw [bs_size, Int.tdiv_eq_ediv_of_nonneg (by omega), w64_id (n := 1 + _) (by omega), w64_id (n := _ / 50) (by omega), w64_id (n := (1 + ((l[k]).s.l.length : Int)) + _) (by omega), w64_id (by omega)]
      omega
    rw [e1]
    refine ⟨fun n i w' => ∃ j : Nat, i = (j : Int) ∧ j ≤ (l[k]).s.l.length ∧ n = ((wts (l.take k) + (1 + (l[k]).s.l.length + (l[k]).s.snap.data.length / 50) + dw ((l[k]).s.l.take j) : Nat) : Int) ∧ Has w w' [], fun _ i _ => (l[k]).s.l.length + 1 - i.toNat, ⟨0, rfl, by omega, by simp [dw], H.drop⟩, ?_⟩
    clear H
    rintro _ n i w4 ⟨j, rfl, hj, rfl, H⟩
    refine bif_i (fun h2 => ?_) fun h2 => ?_
    · have h2 : j < (l[k]).s.l.length := by simp at h2; omega
      obtain ⟨b3, o3, hb3, hr3⟩ := (hvw.old H).ent h2
      have hj1 := dw_take h2
      have hj2 := dw_take_le (l[k]).s.l (j + 1)
      have hed := (hok.l _ (List.getElem_mem h2)).data
      refine ⟨b3, o3, hb3, by omega, by omega, _, _, _, _, hr3, H.al fun b4 w5 H => Has.st H (by simp) rfl fun w6 H => ⟨_, H.cell rfl, ?_⟩⟩
      have e2 : w64 (((wts (l.take k) + (1 + (l[k]).s.l.length + (l[k]).s.snap.data.length / 50) + dw ((l[k]).s.l.take j) : Nat) : Int) + w64 (Int.tdiv ((bs ((l[k]).s.l[j]).data).size : Int) 50)) = ((wts (l.take k) + (1 + (l[k]).s.l.length + (l[k]).s.snap.data.length / 50) + dw ((l[k]).s.l.take (j + 1)) : Nat) : Int) := by
        rw [bs_size, Int.tdiv_eq_ediv_of_nonneg (by omega), w64_id (n := _ / 50) (by omega), w64_id (by omega), hj1]
        omega
      rw [e2, w64_id (by omega)]
      exact ⟨⟨j + 1, by omega, h2, rfl, H.drop⟩, by dsimp only; omega⟩
    have h2 : j = (l[k]).s.l.length := by simp at h2; omega
    subst h2
    rw [w64_id (by omega)]
    refine ⟨⟨k + 1, by omega, h, ?_, H⟩, by dsimp only; omega⟩
    rw [hk1, List.take_length, hwt]
    congr 1; omega
  have h : k = l.length := by simp at h; omega
  subst h
  rw [List.take_length]
  refine ⟨?_, H⟩
  congr 1
  rw [decide_eq_decide]; omega

end
end Go.Proofs.Ytbcepafeiocobaa
