/-
  Layer 8 (store): snapshots' bytes, and Anew, the program's way.
-/
import Derived.Test.YtbcepafeiocobaaGreatXSave
set_option maxRecDepth 8000
namespace Go.X
open Go

/-- What Anew writes. -/
def anewRecs (s : St) : List (List UInt8) := hardB s.term s.vote :: snapB s.snap :: s.l.map entB
/-- What Anew answers; the state, and the disk, then. -/
def anew8 (old : St) (d : Dk) (n : Nat) (s : St) : Nat × St × Dk :=
  if s.right = false ∨ 32768 < s.snap.data.length then (1, old, d)
  else if (d.wanew n (anewRecs s)).1 ≠ 0 then ((d.wanew n (anewRecs s)).1, old, (d.wanew n (anewRecs s)).2) else (0, s, (d.wanew n (anewRecs s)).2)

end Go.X
namespace Go.Proofs.YtbcepafeiocobaaGreat
open Go.X

section
variable {w0 w : World} {r : List A}

theorem store_snap_spec {s : Snp} (hs : s.ok) (H : Has w0 w r) :
    Calls Tryz.prog 30 #[.agg #[.int .u64 (s.index : Int), .int .u64 (s.term : Int), .int .u64 (s.config : Int), .string (bs s.data)]] w fun ee w' => ∃ x, ee = .returned x ∧ x = .string (bs (snapB s)) ∧ Has w0 w' r := by
  refine store_snap.ok _ _ _ _ ?_
  have hd := hs.data
  have h1 := wNum_len (x := 4) (by omega); have h2 := wNum_len hs.term; have h3 := wNum_len hs.index; have h4 := wNum_len hs.config
  refine H.al fun b1 w1 H => H.dr fun w2 H => ⟨_, H.cell rfl, _, H.cell rfl, _, H.cell rfl, _, H.cell rfl, H.al fun b2 w3 H => ⟨H.f1.cell rfl, H.f1.cell rfl, H.f1.cell rfl, H.f1.cell rfl, ?_⟩⟩
  refine (pack_Writer_Num_spec (x := 4) (Has.wt0 H) (by omega) (by simp)).mono ?_
  rintro ee w4 ⟨x, rfl, rfl, H⟩
  refine ⟨_, _, rfl, H.f1.cell rfl, H.f1.cell rfl, H.f1.cell rfl, H.f1.cell rfl, ?_⟩
  refine (pack_Writer_Num_spec H hs.index (by simp; omega)).mono ?_
  rintro ee w5 ⟨x, rfl, rfl, H⟩
  refine ⟨_, _, rfl, H.f1.cell rfl, H.f1.cell rfl, H.f1.cell rfl, ?_⟩
  refine (pack_Writer_Num_spec H hs.term (by simp; omega)).mono ?_
  rintro ee w6 ⟨x, rfl, rfl, H⟩
  refine ⟨_, _, rfl, H.f1.cell rfl, H.f1.cell rfl, ?_⟩
  refine (pack_Writer_Num_spec H hs.config (by simp; omega)).mono ?_
  rintro ee w7 ⟨x, rfl, rfl, H⟩
  refine ⟨_, _, rfl, H.f1.cell rfl, ?_⟩
  refine (pack_Writer_Text_spec H (by omega) (by simp; omega)).mono ?_
  rintro ee w8 ⟨x, rfl, rfl, H⟩
  refine ⟨_, _, rfl, ?_⟩
  refine (pack_Writer_Bytes_spec H).mono ?_
  rintro ee w9 ⟨x, rfl, rfl, H⟩
  exact ⟨_, rfl, by simp [snapB], H.drop.drop⟩

theorem ref08_Snap_spec {s : Snp} (hs : s.ok) (H : Has w0 w r) :
    Calls Tryz.prog 35 #[.agg #[.int .u64 (s.index : Int), .int .u64 (s.term : Int), .int .u64 (s.config : Int), .string (bs s.data)]] w fun ee w' => ∃ x, ee = .returned x ∧ x = .string (bs (snapB s)) ∧ Has w0 w' r := by
  refine tontineref08_Snap.ok _ _ _ _ ?_
  have hd := hs.data
  have h1 := wNum_len (x := 4) (by omega); have h2 := wNum_len hs.term; have h3 := wNum_len hs.index; have h4 := wNum_len hs.config
  have h5 := wText_len (l := s.data) (by omega)
  refine H.al fun b1 w1 H => H.dr fun w2 H => ⟨_, H.cell rfl, _, H.cell rfl, _, H.cell rfl, _, H.cell rfl, ?_⟩
  refine H.al fun b2 w2 H => ⟨H.f1.cell rfl, ?_⟩
  have hv : Vw w2 (some ⟨b2, 0, none⟩) (ns [4, s.index, s.term, s.config]) := .inr ⟨b2, 0, rfl, fun j x hj => by rw [Nat.zero_add]; exact H.cell (vs := ns [4, s.index, s.term, s.config]) hj⟩
  refine (ref08_nums_spec (c := 4) (by simp) (by have := hs.term; have := hs.index; have := hs.config; simp; omega) hv).mono ?_
  rintro ee w3 ⟨x, rfl, rfl, H2⟩
  have H := H.frame H2
  refine ⟨_, rfl, H.f1.cell rfl, ?_⟩
  refine (ref03_Text_spec H (by omega)).mono ?_
  rintro ee w4 ⟨x, rfl, rfl, H⟩
  exact ⟨_, rfl, catD_bs (by simp; omega) ⟨by simp [snapB], H.drop.drop⟩⟩

theorem store_Anew_spec {L : List (Option Addr × List Value)} {s old : St} {d : Dk} {db n b : Nat} (hs : s.ok) (hlen : s.l.length + 2 ≤ 1000000000) (hd : d.ok) (hn : n < 16)
    {sa : Option Addr} {sc : Nat} (hb : Rb w0 L sa (ecs s.l)) (H : Has w0 w (pl L :: stoB b db n old :: dskB db d :: r)) :
    Calls Tryz.prog 12 #[pv b 0, s.val sa s.l.length sc] w fun e w' => ∃ x, e = .returned x ∧ x = .int .i64 ((anew8 old d n s).1 : Int) ∧ Has w0 w' (pl L :: stoB b db n (anew8 old d n s).2.1 :: dskB db (anew8 old d n s).2.2 :: r) := by
  refine store_Store_Anew.ok _ _ _ _ _ _ _ _ _ _ _ ?_
  refine H.al fun b1 w1 H => ⟨_, _, _, _, _, _, _, _, _, H.row rfl, ?_⟩
  refine (store_right_spec hs (hb.vw H.f1)).mono ?_
  rintro e w2 ⟨v, rfl, rfl, H2⟩
  have H : Has w0 w2 (ca b1 45 (s.cells sa s.l.length sc) :: pl L :: stoB b db n old :: dskB db d :: r) := H.frame H2
  clear H2
  unfold anew8
  refine ⟨_, rfl, bif_i (fun h => ?_) fun h => ?_⟩
  · have h : s.right = false := by simpa using h
    rw [if_pos (.inl h)]
    exact ⟨rfl, H.drop⟩
  have h : ¬ s.right = false := by simpa using h
  refine ⟨_, H.cell rfl, bif_i (fun h2 => ?_) fun h2 => ?_⟩
  · have h2 : 32768 < s.snap.data.length := by simp at h2; omega
    rw [if_pos (.inr h2)]
    exact ⟨rfl, H.drop⟩
  have h2 : ¬ 32768 < s.snap.data.length := by simp at h2; omega
  rw [if_neg (fun e => e.elim h h2)]
  refine H.dr fun w3 H => ⟨_, _, H.row rfl, _, _, _, _, H.row rfl, ?_⟩
  refine (store_hard_spec hs.term H).mono ?_
  rintro e w4 ⟨v, rfl, rfl, H⟩
  refine ⟨_, rfl, H.row rfl, ?_⟩
  refine (store_snap_spec hs.snap H).mono ?_
  rintro e w5 ⟨v, rfl, rfl, H⟩
  refine ⟨_, rfl, H.al fun b2 w6 H => ⟨_, _, _, H.f1.cell rfl, ?_⟩⟩
  have H := Has.mkow (sz := 1) (n := 2) (vs := ss [hardB s.term s.vote, snapB s.snap]) H rfl (by decide)
  refine ⟨fun oa on oc i w' => ∃ k : Nat, i = (k : Int) ∧ k ≤ s.l.length ∧ on = k + 2 ∧ Has w0 w' (ow 9 1 oa on oc (ss (hardB s.term s.vote :: snapB s.snap :: (s.l.take k).map entB)) :: ca b1 45 (s.cells sa s.l.length sc) :: pl L :: stoB b db n old :: dskB db d :: r), fun _ _ _ i _ => s.l.length + 1 - i.toNat, ⟨0, rfl, by omega, rfl, H⟩, ?_⟩
  clear H
  rintro _ oa on oc i w7 ⟨k, rfl, hk, rfl, H⟩
  refine bif_i (fun h3 => ?_) fun h3 => ?_
  · have h3 : k < s.l.length := by simp at h3; omega
    obtain ⟨b7, o7, hb7, hr7⟩ := (hb.vw H.f2).ent h3
    refine ⟨b7, o7, hb7, by omega, by omega, _, _, _, _, hr7, H.al fun b8 w8 H => Has.st H (by simp) rfl fun w9 H => ⟨_, _, _, _, H.row rfl, ?_⟩⟩
    refine (store_entry_spec (hs.l _ (List.getElem_mem h3)) H.drop).mono ?_
    rintro e w10 ⟨x, rfl, rfl, H⟩
    refine ⟨_, rfl, H.al fun b9 w11 H => ?_⟩
    refine Has.app (m := 1) elS H.f1 (H.src (vs := [.string (bs (entB s.l[k]))]) elS rfl rfl) (by omega) (by simp only [maxLen]; omega) fun a12 c12 w12 H => ?_
    rw [ss_snoc] at H
    have e4 : hardB s.term s.vote :: snapB s.snap :: (s.l.take k).map entB ++ [entB s.l[k]] = hardB s.term s.vote :: snapB s.snap :: (s.l.take (k + 1)).map entB := by rw [List.take_succ_eq_append_getElem h3, List.map_append]; rfl
    rw [e4] at H
    rw [w64_id (by omega)]
    exact ⟨⟨k + 1, by omega, h3, rfl, H.f1.drop⟩, by dsimp only; omega⟩
  have h3 : k = s.l.length := by simp at h3; omega
  subst h3
  rw [List.take_length] at H
  have e5 : s.l.length + 2 = (anewRecs s).length := by simp [anewRecs]
  have H : Has w0 w7 (ow 9 1 oa (anewRecs s).length oc (ss (anewRecs s)) :: ca b1 45 (s.cells sa s.l.length sc) :: pl L :: stoB b db n old :: dskB db d :: r) := by rw [← e5]; exact H
  rw [e5]
  obtain ⟨a, c, lb, H⟩ := H.f3.sto
  have H : Has w0 w7 (ow 9 1 oa (anewRecs s).length oc (ss (anewRecs s)) :: logA 108 lb db n :: dskB db d :: ca b 81 (pv lb 0 :: old.cells a old.l.length c) :: ow 69 4 a old.l.length c (ecs old.l) :: ca b1 45 (s.cells sa s.l.length sc) :: pl L :: r) := by
    exact H.f6.f3.f4
  refine ⟨_, _, H.f3.cell rfl, ?_⟩
  refine (wal_Anew_spec hd hn (by rw [← e5]; omega) H).mono ?_
  rintro e w8 ⟨x, rfl, rfl, H⟩
  refine ⟨_, rfl, bif_i (fun h4 => ?_) fun h4 => ?_⟩
  · have h4 : (d.wanew n (anewRecs s)).1 ≠ 0 := by simp at h4; omega
    rw [if_pos h4]
    refine ⟨rfl, ?_⟩
    exact (Has.mksto H.drop.f4.drop.f2.f3.f1 rfl).f2
  · have h4 : ¬ (d.wanew n (anewRecs s)).1 ≠ 0 := by simp at h4; omega
    rw [if_neg h4]
    refine ⟨_, _, _, _, _, _, _, _, _, H.f5.row rfl, ?_⟩
    refine (store_copied_spec hs (hb.vw H.f6)).mono ?_
    rintro e w9 ⟨x, rfl, a2, c2, rfl, H2⟩
    have H := H.frame H2
    refine ⟨_, _, _, _, _, _, _, _, _, rfl, Has.st H.f4 (by simp [St.cells]) rfl fun w10 H => ⟨rfl, ?_⟩⟩
    exact (Has.mksto H.f2.drop.f4.drop.f4.drop rfl).f2

end
end Go.Proofs.YtbcepafeiocobaaGreat
