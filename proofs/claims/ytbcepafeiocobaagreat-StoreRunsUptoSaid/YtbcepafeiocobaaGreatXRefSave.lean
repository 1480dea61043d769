/-
  Layers 4, 5 and 8: a store is written, the reference's way.
-/
import Derived.Test.YtbcepafeiocobaaGreatXRecords
import Derived.Test.YtbcepafeiocobaaGreatXRo
set_option maxRecDepth 8000
namespace Go.Proofs.YtbcepafeiocobaaGreat
open Go.X

section
variable {w0 w : World} {r : List A} {L : List (Option Addr × List Value)} {s : St} {d : Dk} {db lb b n c : Nat} {a : Option Addr} {l : List (List UInt8)}

theorem ref04_Append_spec (hd : d.ok) {n : Nat} (hn : n < 16) {s : List UInt8} (hs : s.length ≤ 4611686018427387904) (H : Has w0 w (kdA 36 b d :: r)) : Calls Tryz.prog 70 #[pv b 0, .int .i64 (n : Int), .string (bs s)] w fun e w' => ∃ v, e = .returned v ∧ v = .int .i64 ((d.append n s).1 : Int) ∧ Has w0 w' (kdA 36 b (d.append n s).2 :: r) := by
  refine tontineref04_Disk_Append.ok _ _ _ _ ?_
  refine (ref04_no_spec hn H).mono ?_
  rintro e w1 ⟨v, rfl, rfl, H⟩
  unfold Dk.append
  refine ⟨_, rfl, bif_f rfl ⟨_, H.cell (rc4 2), bif_i (fun h => ?_) fun h => ?_⟩⟩
  · rw [if_pos h]; exact ⟨rfl, H⟩
  rw [if_neg (by simp [h])]
  have hu := hd.used
  have hr := hd.room
  have hz := sz_le d.fl hn
  have hz2 : sz (d.fl n) = (firm (d.fl n)).length + (soft (d.fl n)).length := rfl
  have hz3 : sumTo (fun i => sz (d.fl i)) 16 = d.used := rfl
  refine H.dr fun w2 H => ⟨_, H.cell (rc4 0), ?_⟩
  refine (ref04_Used_spec H (by omega)).mono ?_
  rintro e w3 ⟨v, rfl, rfl, H⟩
  refine ⟨_, rfl, H.cell (rc4 0), ?_⟩
  have e1 : w64 ((d.used : Int) + (s.length : Int)) = (d.used : Int) + (s.length : Int) := w64_id (by omega)
  simp only [bs_size, e1]
  refine bif_i (fun h2 => ?_) fun h2 => ?_
  · have h2 : d.room < d.used + s.length := by simp at h2; omega
    rw [if_pos h2]; exact ⟨rfl, H⟩
  have h2 : ¬ d.room < d.used + s.length := by simp at h2; omega
  rw [if_neg h2]
  refine (ref04_step_spec hd H).mono ?_
  rintro e w4 ⟨v, rfl, rfl, H⟩
  have hsf := step_fl d
  refine ⟨_, rfl, bif_i (fun h3 => ?_) fun h3 => ?_⟩
  · have h3 : ¬ d.step.1 = true := by simpa using h3
    rw [if_neg h3]; exact ⟨rfl, H⟩
  have h3 : d.step.1 = true := by simpa using h3
  rw [if_pos h3]
  refine H.dr fun w5 H => ⟨by omega, by omega, _, H.cell (rc2 hn), catD_bs (by rw [hsf.1]; omega) ⟨by omega, by omega, ?_⟩⟩
  refine H.st (by rw [rc_len]; simp; omega) rfl fun w6 H => ⟨by omega, by omega, ?_⟩
  rw [rs2 hn] at H
  refine H.st (by rw [rc_len]; simp; omega) rfl fun w7 H => ⟨rfl, ?_⟩
  rw [rs3 hn] at H
  have hfirm : (fun i => Value.string (bs (firm (d.step.2.fl i)))) = upd (fun i => .string (bs (firm (d.step.2.fl i)))) n (.string (bs (firm (d.step.2.fl n)))) := by
    funext i
    unfold upd
    split
    · rename_i e; subst e; rfl
    · rfl
  rw [hfirm, rcells_put d.step.2 n (firm (d.step.2.fl n), soft (d.step.2.fl n) ++ s)] at H
  rw [hsf.1] at H
  exact H

theorem ref05_frames_spec (hl : l.length ≤ 1000000000) (hv : Vw w a (ss l)) :
    Calls Tryz.prog 67 #[.slice a l.length c] w fun e w' => ∃ v, e = .returned v ∧ v = (if long l then .tuple #[.string (bs []), .bool false] else .tuple #[.string (bs (frames l)), .bool true]) ∧ Has w w' [] := by
  refine tontineref05_frames.ok _ _ _ ?_
  refine ⟨fun s i w' => ∃ k : Nat, i = (k : Int) ∧ k ≤ l.length ∧ s = bs (frames (l.take k)) ∧ long (l.take k) = false ∧ (frames (l.take k)).length ≤ 131082 * k ∧ Has w w' [], fun _ i _ => l.length + 1 - i.toNat, ⟨0, rfl, by omega, rfl, rfl, by simp [frames], Has.start w⟩, ?_⟩
  rintro _ s i w1 ⟨k, rfl, hk, rfl, hlg, hfl, H⟩
  refine bif_i (fun h => ?_) fun h => ?_
  · have h : k < l.length := by simp at h; omega
    obtain ⟨b3, o3, hb3, hc3⟩ := (hv.old H).at (by simp; omega)
    refine ⟨b3, o3, hb3, by omega, by omega, _, by rw [Int.toNat_natCast, Nat.mul_one]; exact hc3 k (.string (bs l[k])) (by rw [ss_get?, List.getElem?_eq_getElem h]; rfl), bif_i (fun h2 => ?_) fun h2 => ?_⟩
    · have h2 : 65536 < (l[k]).length := by simp at h2; omega
      rw [if_pos (long_at h h2)]
      exact ⟨rfl, H⟩
    · have h2 : ¬ 65536 < (l[k]).length := by simp at h2; omega
      obtain ⟨b4, o4, hb4, hc4⟩ := (hv.old H).at (by simp; omega)
      refine ⟨b4, o4, hb4, by omega, by omega, _, by rw [Int.toNat_natCast, Nat.mul_one]; exact hc4 k (.string (bs l[k])) (by rw [ss_get?, List.getElem?_eq_getElem h]; rfl), ?_⟩
      refine (ref05_Frame_spec (x := l[k]) (by omega)).mono ?_
      rintro e w2 ⟨v, rfl, rfl, H2⟩
      have hfr := frame_len l[k]
      have e1 : frames (l.take k) ++ frame l[k] = frames (l.take (k + 1)) := by unfold frames; rw [List.take_succ_eq_append_getElem h, List.flatMap_append]; simp
      refine ⟨_, rfl, catD_bs (by omega) ?_⟩
      rw [e1, w64_id (by omega)]
      refine ⟨⟨k + 1, by omega, h, rfl, by rw [long_take h, hlg]; simp [h2], ?_, H.frame H2⟩, by dsimp only; omega⟩
      rw [← e1, List.length_append]; omega
  · have h : k = l.length := by simp at h; omega
    subst h
    rw [List.take_length] at hlg hfl ⊢
    rw [if_neg (by simp [hlg])]
    exact ⟨rfl, H⟩

theorem frames_size {l : List (List UInt8)} (hg : long l = false) (hl : l.length ≤ 1000000000) : (frames l).length ≤ 131082 * l.length := by
  induction l with
  | nil => simp [frames]
  | cons x l ih =>
    rw [long_cons, Bool.or_eq_false_iff, decide_eq_false_iff_not] at hg
    simp only [List.length_cons] at hl ⊢
    have := ih hg.2 (by omega)
    have := frame_len x
    rw [frames_cons, List.length_append]; omega

theorem ref05_Log_Append_spec (hd : d.ok) (hn : n < 16) (hl : l.length ≤ 1000000000) (hv : Vw w a (ss l)) (H : Has w0 w (logA 120 lb db n :: kdA 36 db d :: r)) :
    Calls Tryz.prog 42 #[pv lb 0, .slice a l.length c] w fun e w' => ∃ v, e = .returned v ∧ v = .int .i64 ((d.wappend n l).1 : Int) ∧ Has w0 w' (logA 120 lb db n :: kdA 36 db (d.wappend n l).2 :: r) := by
  refine tontineref05_Log_Append.ok _ _ _ _ _ ?_
  refine (ref05_frames_spec hl hv).mono ?_
  rintro e w1 ⟨v, rfl, rfl, H2⟩
  have H : Has w0 w1 (logA 120 lb db n :: kdA 36 db d :: r) := H.frame H2
  clear H2
  unfold Dk.wappend
  cases hg : long l with
  | true => exact ⟨_, _, rfl, bif_t rfl ⟨rfl, H⟩⟩
  | false =>
    have hf := frames_size hg hl
    refine ⟨_, _, rfl, bif_f rfl (H.dr fun w2 H => ⟨_, _, H.cell rfl, _, H.cell rfl, ?_⟩)⟩
    refine (ref04_Append_spec hd hn (by omega) H.f1).mono ?_
    rintro e w3 ⟨v, rfl, rfl, H⟩
    rw [if_neg (by simp)]
    refine ⟨_, rfl, bif_i (fun h2 => ?_) fun h2 => ?_⟩
    · have h2 : (d.append n (frames l)).1 ≠ 0 := by simp at h2; omega
      rw [if_pos h2]
      exact ⟨rfl, H.f1⟩
    · have h2 : ¬ (d.append n (frames l)).1 ≠ 0 := by simp at h2; omega
      rw [if_neg h2]
      refine H.dr fun w4 H => ⟨_, _, H.f1.cell rfl, _, H.f1.cell rfl, ?_⟩
      refine (ref04_Sync_spec (hd.append hn _) hn H).mono ?_
      rintro e w5 ⟨v, rfl, rfl, H⟩
      exact ⟨_, rfl, rfl, H.f1⟩

theorem ref05_Log_Anew_spec (hd : d.ok) (hn : n < 16) (hl : l.length ≤ 1000000000) (hv : Vw w a (ss l)) (H : Has w0 w (logA 120 lb db n :: kdA 36 db d :: r)) :
    Calls Tryz.prog 37 #[pv lb 0, .slice a l.length c] w fun e w' => ∃ v, e = .returned v ∧ v = .int .i64 ((d.wanew n l).1 : Int) ∧ Has w0 w' (logA 120 lb db n :: kdA 36 db (d.wanew n l).2 :: r) := by
  refine tontineref05_Log_Anew.ok _ _ _ _ _ ?_
  refine (ref05_frames_spec hl hv).mono ?_
  rintro e w1 ⟨v, rfl, rfl, H2⟩
  have H : Has w0 w1 (logA 120 lb db n :: kdA 36 db d :: r) := H.frame H2
  clear H2
  unfold Dk.wanew
  cases hg : long l with
  | true => exact ⟨_, _, rfl, bif_t rfl ⟨rfl, H⟩⟩
  | false =>
    have hf := frames_size hg hl
    refine ⟨_, _, rfl, bif_f rfl (H.dr fun w2 H => ⟨_, _, H.cell rfl, _, H.cell rfl, ?_⟩)⟩
    refine (ref04_Replace_spec hd hn (by omega) H.f1).mono ?_
    rintro e w3 ⟨v, rfl, rfl, H⟩
    rw [if_neg (by simp)]
    exact ⟨_, rfl, rfl, H.f1⟩

theorem ref08_Save_spec (hs : s.ok) (hd : d.ok) (hn : n < 16) {t : Nat} (ht : t < 18446744073709551616) {v : Int} {l : List Ent} (hl : ∀ e ∈ l, e.ok) (hlen : s.l.length + l.length + 2 ≤ 1000000000)
    {sa : Option Addr} {sc : Nat} (hbs : Rb w0 L sa (ecs s.l)) {la : Option Addr} {lc : Nat} (hb : Rb w0 L la (ecs l)) (H : Has w0 w (pl L :: ca b 55 (pv lb 0 :: s.cells sa s.l.length sc) :: logA 120 lb db n :: kdA 36 db d :: r)) :
    Calls Tryz.prog 15 #[pv b 0, .agg #[.int .u64 (t : Int), .int .i64 v], .slice la l.length lc] w fun e w' => ∃ x, e = .returned x ∧ x = .int .i64 ((save8 s d n t v l).1 : Int) ∧
      ∃ a' c' L', (∀ p ∈ L, p ∈ L') ∧ Rb w0 L' a' (ecs (save8 s d n t v l).2.1.l) ∧
      Has w0 w' (pl L' :: ca b 55 (pv lb 0 :: (save8 s d n t v l).2.1.cells a' (save8 s d n t v l).2.1.l.length c') :: logA 120 lb db n :: kdA 36 db (save8 s d n t v l).2.2 :: r) := by
  refine tontineref08_Store_Save.ok _ _ _ _ _ _ _ ?_
  obtain ⟨q1, q2, q3⟩ := recs_len s t v l
  have rowOf : ∀ {w' : World} {q : List A} {s : St} {a : Option Addr} {c : Nat}, Has w0 w' (ca b 55 (pv lb 0 :: s.cells a s.l.length c) :: q) → rdRow w' b (0 + 1) (s.cells a s.l.length c) := fun H j v hj => H.cell (by rw [Nat.add_comm, Nat.add_comm 0 1, List.getElem?_cons_succ]; exact hj)
  refine H.al fun b1 w1 H => H.dr fun w2 H => ⟨_, _, _, _, _, _, _, _, _, rowOf H.f2, _, _, H.row rfl, ?_⟩
  have hsm := recs_small (s := s) ht v hl
  have hsv : save8 s d n t v l = match takes s (recsOf s t v l) with
      | none => (1, s, d)
      | some s' => if s'.right = false then (1, s, d) else if recsOf s t v l = [] then (0, s, d)
        else if (d.wappend n (recsOf s t v l)).1 ≠ 0 then ((d.wappend n (recsOf s t v l)).1, s, (d.wappend n (recsOf s t v l)).2) else (0, s', (d.wappend n (recsOf s t v l)).2) := by unfold save8; rfl
  refine ⟨?_, ?_⟩
  · refine (ref08_Records_spec hs ht hl hlen hbs hb H.f1).mono ?_
    rintro e w3 ⟨x, rfl, L', hsub, H, hcase⟩
    generalize recsOf s t v l = R at hsv hcase q3
    cases htk : takes s R with
    | none =>
      rw [htk] at hcase hsv
      obtain ⟨s2, a2, n2, c2, rfl⟩ := hcase
      refine ⟨_, _, _, _, _, _, _, _, _, _, _, _, ⟨_, rfl, H.al fun b2 w4 H => ?_⟩⟩
      refine Has.st H (by simp [St.cells, zero8]) rfl fun w5 H => bif_t rfl ?_
      rw [hsv]
      exact ⟨rfl, sa, sc, L', hsub, hbs.mono hsub, H.rm [0, 2]⟩
    | some s' =>
      rw [htk] at hcase hsv
      dsimp only at hsv
      obtain ⟨oa, oc, a2, c2, rfl, hoc, hoc2, hbo, hb2⟩ := hcase
      refine ⟨_, _, _, _, _, _, _, _, _, _, _, _, ⟨_, rfl, H.al fun b2 w4 H => ?_⟩⟩
      refine Has.st H (by simp [St.cells, zero8]) rfl fun w5 H => ?_
      have H : Has w0 w5 (ca b2 53 (s'.cells a2 s'.l.length c2) :: pl L' :: ca b1 40 [.int .u64 (t : Int), .int .i64 v] :: ca b 55 (pv lb 0 :: s.cells sa s.l.length sc) :: logA 120 lb db n :: kdA 36 db d :: r) := H
      refine bif_i (fun h2 => ?_) fun h2 => ?_
      · have h2 : s'.right = false := by simpa using h2
        rw [if_pos h2] at hsv
        rw [hsv]
        exact ⟨rfl, sa, sc, L', hsub, hbs.mono hsub, H.rm [0, 2]⟩
      have h2 : ¬ s'.right = false := by simpa using h2
      rw [if_neg h2] at hsv
      refine bif_i (fun h3 => ?_) fun h3 => ?_
      · have h3 : R.length = 0 := by simp at h3; simp [h3]
        rw [if_pos (List.eq_nil_of_length_eq_zero h3)] at hsv
        rw [hsv]
        exact ⟨rfl, sa, sc, L', hsub, hbs.mono hsub, H.rm [0, 2]⟩
      have h3 : ¬ R = [] := fun e => by rw [e] at h3; simp at h3
      rw [if_neg h3] at hsv
      refine ⟨_, _, H.f3.cell rfl, ?_⟩
      refine (ref05_Log_Append_spec hd hn (by omega) (hbo.vw H.f1) (H.ro [4, 5])).mono ?_
      rintro e w6 ⟨x, rfl, rfl, H⟩
      refine ⟨_, rfl, bif_i (fun h4 => ?_) fun h4 => ?_⟩
      · have h4 : (d.wappend n R).1 = 0 := by simp at h4; omega
        rw [if_neg (by omega)] at hsv
        rw [hsv]
        refine ⟨_, _, _, _, _, _, _, _, _, H.f2.row rfl, Has.st H.f5 (by simp [St.cells]) rfl fun w7 H => ⟨by rw [h4], a2, c2, L', hsub, hb2, ?_⟩⟩
        exact (H.rm [3, 5]).ro [3]
      · have h4 : (d.wappend n R).1 ≠ 0 := by simp at h4; omega
        rw [if_pos h4] at hsv
        rw [hsv]
        exact ⟨rfl, sa, sc, L', hsub, hbs.mono hsub, (H.rm [2, 4]).ro [2, 3]⟩
  · refine H.al fun b3 w3 H => ⟨H.f1.row rfl, rowOf H.f3, ?_⟩
    refine (ref08_Records_spec hs ht hl hlen hbs hb H.f2).mono ?_
    rintro e w4 ⟨x, rfl, L', hsub, H, hcase⟩
    generalize recsOf s t v l = R at hsv hcase q3
    cases htk : takes s R with
    | none =>
      rw [htk] at hcase hsv
      obtain ⟨s2, a2, n2, c2, rfl⟩ := hcase
      refine ⟨_, _, _, _, _, _, _, _, _, _, _, _, ⟨_, rfl, ?_⟩⟩
      refine Has.st H.f1 (by simp [St.cells, zero8]) rfl fun w5 H => bif_t rfl ?_
      rw [hsv]
      exact ⟨rfl, sa, sc, L', hsub, hbs.mono hsub, H.rm [0, 2]⟩
    | some s' =>
      rw [htk] at hcase hsv
      dsimp only at hsv
      obtain ⟨oa, oc, a2, c2, rfl, hoc, hoc2, hbo, hb2⟩ := hcase
      refine ⟨_, _, _, _, _, _, _, _, _, _, _, _, ⟨_, rfl, ?_⟩⟩
      refine Has.st H.f1 (by simp [St.cells, zero8]) rfl fun w5 H => ?_
      have H : Has w0 w5 (ca b3 53 (s'.cells a2 s'.l.length c2) :: pl L' :: ca b1 40 [.int .u64 (t : Int), .int .i64 v] :: ca b 55 (pv lb 0 :: s.cells sa s.l.length sc) :: logA 120 lb db n :: kdA 36 db d :: r) := H
      refine bif_i (fun h2 => ?_) fun h2 => ?_
      · have h2 : s'.right = false := by simpa using h2
        rw [if_pos h2] at hsv
        rw [hsv]
        exact ⟨rfl, sa, sc, L', hsub, hbs.mono hsub, H.rm [0, 2]⟩
      have h2 : ¬ s'.right = false := by simpa using h2
      rw [if_neg h2] at hsv
      refine bif_i (fun h3 => ?_) fun h3 => ?_
      · have h3 : R.length = 0 := by simp at h3; simp [h3]
        rw [if_pos (List.eq_nil_of_length_eq_zero h3)] at hsv
        rw [hsv]
        exact ⟨rfl, sa, sc, L', hsub, hbs.mono hsub, H.rm [0, 2]⟩
      have h3 : ¬ R = [] := fun e => by rw [e] at h3; simp at h3
      rw [if_neg h3] at hsv
      refine ⟨_, _, H.f3.cell rfl, ?_⟩
      refine (ref05_Log_Append_spec hd hn (by omega) (hbo.vw H.f1) (H.ro [4, 5])).mono ?_
      rintro e w6 ⟨x, rfl, rfl, H⟩
      refine ⟨_, rfl, bif_i (fun h4 => ?_) fun h4 => ?_⟩
      · have h4 : (d.wappend n R).1 = 0 := by simp at h4; omega
        rw [if_neg (by omega)] at hsv
        rw [hsv]
        refine ⟨_, _, _, _, _, _, _, _, _, H.f2.row rfl, Has.st H.f5 (by simp [St.cells]) rfl fun w7 H => ⟨by rw [h4], a2, c2, L', hsub, hb2, ?_⟩⟩
        exact (H.rm [3, 5]).ro [3]
      · have h4 : (d.wappend n R).1 ≠ 0 := by simp at h4; omega
        rw [if_pos h4] at hsv
        rw [hsv]
        exact ⟨rfl, sa, sc, L', hsub, hbs.mono hsub, (H.rm [2, 4]).ro [2, 3]⟩

theorem ref08_Anew_spec {old : St} (hs : s.ok) (hlen : s.l.length + 2 ≤ 1000000000) (hd : d.ok) (hn : n < 16) {oa0 : Option Addr} {oc0 : Nat} (hbo : Rb w0 L oa0 (ecs old.l))
    {sa : Option Addr} {sc : Nat} (hb : Rb w0 L sa (ecs s.l)) (H : Has w0 w (pl L :: ca b 55 (pv lb 0 :: old.cells oa0 old.l.length oc0) :: logA 120 lb db n :: kdA 36 db d :: r)) :
    Calls Tryz.prog 13 #[pv b 0, s.val sa s.l.length sc] w fun e w' => ∃ x, e = .returned x ∧ x = .int .i64 ((anew8 old d n s).1 : Int) ∧
      ∃ a' c' L', (∀ p ∈ L, p ∈ L') ∧ Rb w0 L' a' (ecs (anew8 old d n s).2.1.l) ∧
      Has w0 w' (pl L' :: ca b 55 (pv lb 0 :: (anew8 old d n s).2.1.cells a' (anew8 old d n s).2.1.l.length c') :: logA 120 lb db n :: kdA 36 db (anew8 old d n s).2.2 :: r) := by
  refine tontineref08_Store_Anew.ok _ _ _ _ _ _ _ _ _ _ _ ?_
  refine H.al fun b1 w1 H => ⟨_, _, _, _, _, _, _, _, _, H.row rfl, ?_⟩
  refine (ref08_Right_spec hs (hb.vw H.f1)).mono ?_
  rintro e w2 ⟨v, rfl, rfl, H2⟩
  have H : Has w0 w2 (ca b1 53 (s.cells sa s.l.length sc) :: pl L :: ca b 55 (pv lb 0 :: old.cells oa0 old.l.length oc0) :: logA 120 lb db n :: kdA 36 db d :: r) := H.frame H2
  clear H2
  unfold anew8
  refine ⟨_, rfl, bif_i (fun h => ?_) fun h => ?_⟩
  · have h : s.right = false := by simpa using h
    rw [if_pos (.inl h)]
    exact ⟨rfl, _, _, L, fun _ h => h, hbo, H.drop⟩
  have h : ¬ s.right = false := by simpa using h
  refine ⟨_, H.cell rfl, bif_i (fun h2 => ?_) fun h2 => ?_⟩
  · have h2 : 32768 < s.snap.data.length := by simp at h2; omega
    rw [if_pos (.inr h2)]
    exact ⟨rfl, _, _, L, fun _ h => h, hbo, H.drop⟩
  have h2 : ¬ 32768 < s.snap.data.length := by simp at h2; omega
  rw [if_neg (fun e => e.elim h h2)]
  refine H.dr fun w3 H => ⟨_, _, H.row rfl, _, _, _, _, H.row rfl, ?_⟩
  refine (ref08_Hard_spec hs.term H).mono ?_
  rintro e w4 ⟨v, rfl, rfl, H⟩
  refine ⟨_, rfl, H.row rfl, ?_⟩
  refine (ref08_Snap_spec hs.snap H).mono ?_
  rintro e w5 ⟨v, rfl, rfl, H⟩
  refine ⟨_, rfl, H.al fun b2 w6 H => ?_⟩
  have H := Has.mkow (sz := 1) (n := 2) (vs := ss [hardB s.term s.vote, snapB s.snap]) H rfl (by decide)
  refine ⟨fun oa on oc i w' => ∃ k : Nat, i = (k : Int) ∧ k ≤ s.l.length ∧ on = k + 2 ∧ Has w0 w' (ow 9 1 oa on oc (ss (hardB s.term s.vote :: snapB s.snap :: (s.l.take k).map entB)) :: ca b1 53 (s.cells sa s.l.length sc) :: pl L :: ca b 55 (pv lb 0 :: old.cells oa0 old.l.length oc0) :: logA 120 lb db n :: kdA 36 db d :: r), fun _ _ _ i _ => s.l.length + 1 - i.toNat, ⟨0, rfl, by omega, rfl, H⟩, ?_⟩
  clear H
  rintro _ oa on oc i w7 ⟨k, rfl, hk, rfl, H⟩
  refine ⟨_, _, _, H.f1.cell rfl, bif_i (fun h3 => ?_) fun h3 => ?_⟩
  · have h3 : k < s.l.length := by simp at h3; omega
    obtain ⟨b7, o7, hb7, hr7⟩ := (hb.vw H.f2).ent h3
    refine ⟨_, _, _, H.f1.cell rfl, b7, o7, hb7, by omega, by omega, _, _, _, _, hr7, ?_⟩
    refine (ref08_Entry_spec (hs.l _ (List.getElem_mem h3)) H).mono ?_
    rintro e w10 ⟨x, rfl, rfl, H⟩
    refine ⟨_, rfl, H.al fun b9 w11 H => ?_⟩
    refine Has.app (m := 1) elS H.f1 (H.src (vs := [.string (bs (entB s.l[k]))]) elS rfl rfl) (by omega) (by simp only [maxLen]; omega) fun a12 c12 w12 H => ?_
    rw [ss_snoc] at H
    have e4 : hardB s.term s.vote :: snapB s.snap :: (s.l.take k).map entB ++ [entB s.l[k]] = hardB s.term s.vote :: snapB s.snap :: (s.l.take (k + 1)).map entB := by rw [List.take_succ_eq_append_getElem h3, List.map_append]; rfl
    rw [e4] at H
    rw [w64_id (by omega)]
    exact ⟨⟨k + 1, by omega, h3, rfl, H.f1.drop⟩, by dsimp only; omega⟩
  have h3 : k = s.l.length := by simp at h3; omega
  subst h3
  rw [List.take_length] at H
  have e5 : s.l.length + 2 = (anewRecs s).length := by simp [anewRecs]
  have H : Has w0 w7 (ow 9 1 oa (anewRecs s).length oc (ss (anewRecs s)) :: ca b1 53 (s.cells sa s.l.length sc) :: pl L :: ca b 55 (pv lb 0 :: old.cells oa0 old.l.length oc0) :: logA 120 lb db n :: kdA 36 db d :: r) := by rw [← e5]; exact H
  rw [e5]
  refine ⟨_, _, H.f3.cell rfl, ?_⟩
  refine (ref05_Log_Anew_spec hd hn (by rw [← e5]; omega) H.vw (H.ro [4, 5])).mono ?_
  rintro e w8 ⟨x, rfl, rfl, H⟩
  refine ⟨_, rfl, bif_i (fun h4 => ?_) fun h4 => ?_⟩
  · have h4 : (d.wanew n (anewRecs s)).1 = 0 := by simp at h4; omega
    rw [if_neg (by omega)]
    refine H.dr fun w9 H => ⟨_, _, H.f3.row rfl, _, _, _, _, H.f3.row rfl, _, _, _, H.f3.cell rfl, ?_⟩
    refine Has.app0 elE H ((hb.vw H.f4).src elE (by simp) (ecs_one s.l)) (by omega) (by simp [maxLen]; omega) fun a1 c1 w10 H => ⟨H.f4.row rfl, H.f4.row rfl, ?_⟩
    refine Has.st H.f6 (by simp [St.cells]) rfl fun w11 H => ⟨by rw [h4], a1, c1, (a1, ecs s.l) :: L, fun _ h => .tail _ h, Rb.hd, ?_⟩
    exact (Has.plAdd ((H.rm [4, 5]).ro [1, 4, 0, 2, 3]))
  · have h4 : (d.wanew n (anewRecs s)).1 ≠ 0 := by simp at h4; omega
    rw [if_pos h4]
    exact ⟨rfl, _, _, L, fun _ h => h, hbo, (H.rm [2, 3]).ro [2, 3]⟩

end
end Go.Proofs.YtbcepafeiocobaaGreat
