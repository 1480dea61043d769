/-
  Layer 7 (rlog) and its reference: what may lie in a log.
-/
import Derived.Test.YtbcepafeiocobaaGreatLStore
import Derived.Test.YtbcepafeiocobaaGreatXEnt
import Derived.Test.YtbcepafeiocobaaGreatXSum
set_option maxRecDepth 8000
namespace Go.X
open Go

def lastE (i t : Nat) (l : List Ent) : Nat × Nat := match l.getLast? with | some e => (e.index, e.term) | none => (i, t)

theorem chain_snoc (i t : Nat) (a : List Ent) (e : Ent) (b : List Ent) : chain i t (a ++ e :: b) = (chain i t a && (e.may (((lastE i t a).1 + 1) % 18446744073709551616) (lastE i t a).2 && chain e.index e.term b)) := by
  rw [chain_append, chain]
  unfold lastE
  cases a.getLast? <;> rfl

theorem lastE_snoc (i t : Nat) (a : List Ent) (e : Ent) : lastE i t (a ++ [e]) = (e.index, e.term) := by simp [lastE]

structure St where
  term : Nat
  vote : Int
  snap : Snp
  l : List Ent

def St.right (s : St) : Bool := logOk s.snap s.l && decide (-1 ≤ s.vote) && decide (s.vote < 7)

structure St.ok (s : St) : Prop where
  term : s.term < 18446744073709551616
  vote : -9223372036854775808 ≤ s.vote ∧ s.vote ≤ 9223372036854775807
  snap : s.snap.ok
  l : ∀ e ∈ s.l, e.ok
  len : s.l.length ≤ 1000000000

def St.cells (s : St) (a : Option Addr) (n c : Nat) : List Value := [.int .u64 (s.term : Int), .int .i64 s.vote, .int .u64 (s.snap.index : Int), .int .u64 (s.snap.term : Int), .int .u64 (s.snap.config : Int), .string (bs s.snap.data), .slice a n c]

end Go.X
namespace Go.Proofs.YtbcepafeiocobaaGreat
open Go.X

theorem elE : El Tryz.prog 43 69 4 40 := El.of (by kernel_rfl)

section
variable {w0 w : World} {r : List A}

theorem rlog_configOf_spec {l : List UInt8} (hl : l.length ≤ 4611686018427387904) (H : Has w0 w r) :
    Calls Tryz.prog 91 #[.string (bs l)] w fun e w' => ∃ v, e = .returned v ∧ v = .tuple #[.int .u64 ((cfg l).1 : Int), .bool (cfg l).2] ∧ Has w0 w' r := by
  refine rlog_configOf.ok _ ?_
  refine (pack_From_spec l H).mono ?_
  rintro e w1 ⟨v, rfl, b, rfl, H⟩
  refine ⟨_, _, rfl, ?_⟩
  refine (pack_Reader_Num_spec H hl).mono ?_
  rintro e w2 ⟨v, rfl, rfl, H⟩
  refine ⟨_, rfl, ?_⟩
  refine (pack_Reader_Done_spec H).mono ?_
  rintro e w3 ⟨v, rfl, rfl, H⟩
  unfold cfg sound
  refine ⟨_, rfl, bif_i (fun h => ?_) fun h => ?_⟩
  · refine (quorum_Sound_spec H (Rd.num_lt _)).mono ?_
    rintro e w4 ⟨v, rfl, rfl, H⟩
    exact ⟨_, rfl, by rw [h]; rfl, H.drop⟩
  · exact ⟨by rw [h]; rfl, H.drop⟩

theorem ref07_Said_spec {l : List UInt8} (hl : l.length ≤ 4611686018427387904) (H : Has w0 w r) :
    Calls Tryz.prog 94 #[.string (bs l)] w fun e w' => ∃ v, e = .returned v ∧ v = .tuple #[.int .u64 ((cfg l).1 : Int), .bool (cfg l).2] ∧ Has w0 w' r := by
  refine tontineref07_Said.ok _ ?_
  refine H.al fun b w1 H => ?_
  have H : Has w0 w1 (rdA 155 b ⟨l, false⟩ :: r) := H
  refine (ref03_Reader_Num_spec H hl).mono ?_
  rintro e w2 ⟨v, rfl, rfl, H⟩
  unfold cfg sound
  refine ⟨_, rfl, _, H.cell rfl, bif_i (fun h => ?_) fun h => ?_⟩
  · refine ⟨_, H.cell rfl, ?_⟩
    rw [strEq_nil]
    refine bif_i (fun h2 => ?_) fun h2 => ?_
    · refine (ref06_Sound_spec H).mono ?_
      rintro e w4 ⟨v, rfl, rfl, H⟩
      refine ⟨_, rfl, ?_, H.drop⟩
      rw [Rd.done, h, h2]; rfl
    · refine ⟨?_, H.drop⟩
      rw [Rd.done, h2]; rfl
  · refine ⟨?_, H.drop⟩
    rw [Rd.done, h]; simp

theorem rlog_sound_spec {e : Ent} (he : e.ok) {i t : Nat} (H : Has w0 w r) :
    Calls Tryz.prog 79 #[.agg #[.int .u64 (e.term : Int), .int .u64 (e.index : Int), .int .i64 e.kind, .string (bs e.data)], .int .u64 (i : Int), .int .u64 (t : Int)] w fun ee w' => ∃ v, ee = .returned v ∧ v = .bool (e.may i t) ∧ Has w0 w' r := by
  refine rlog_sound.ok _ _ _ _ _ _ ?_
  have hd := he.data
  refine H.al fun b w1 H => ?_
  unfold Ent.may
  refine bif_i (fun h => ?_) fun h => ?_
  · have h : i = 0 := by simpa using h
    exact ⟨by simp [h], H.drop⟩
  have h : i ≠ 0 := by simpa using h
  refine ⟨_, H.cell rfl, bif_i (fun h2 => ?_) fun h2 => ?_⟩
  · have h2 : ¬ e.index = i := by simp at h2; omega
    exact ⟨by simp [h2], H.drop⟩
  have h2 : e.index = i := by simp at h2; omega
  refine ⟨_, H.cell rfl, bif_i (fun h3 => ?_) fun h3 => ?_⟩
  · have h3 : ¬ t ≤ e.term := by simp at h3; omega
    exact ⟨by simp [h3], H.drop⟩
  have h3 : t ≤ e.term := by simp at h3; omega
  refine ⟨_, H.cell rfl, bif_i (fun h4 => ?_) fun h4 => ?_⟩
  · have h4 : ¬ 0 ≤ e.kind := by simp at h4; omega
    exact ⟨by simp [h4], H.drop⟩
  have h4 : 0 ≤ e.kind := by simp at h4; omega
  refine ⟨_, H.cell rfl, bif_i (fun h5 => ?_) fun h5 => ?_⟩
  · have h5 : ¬ e.kind ≤ 2 := by simp at h5; omega
    exact ⟨by simp [h5], H.drop⟩
  have h5 : e.kind ≤ 2 := by simp at h5; omega
  refine ⟨_, H.cell rfl, bif_i (fun h6 => ?_) fun h6 => ?_⟩
  · have h6 : ¬ e.data.length ≤ 32768 := by simp at h6; omega
    exact ⟨by simp [h6], H.drop⟩
  have h6 : e.data.length ≤ 32768 := by simp at h6; omega
  refine ⟨_, H.cell rfl, ?_⟩
  refine (rlog_configOf_spec (by omega) H).mono ?_
  rintro ee w2 ⟨v, rfl, rfl, H⟩
  refine ⟨_, _, rfl, _, H.cell rfl, bif_i (fun h7 => ?_) fun h7 => ?_⟩
  · have h7 : e.kind ≠ 2 := by simpa using h7
    exact ⟨by simp [h, h2, h3, h4, h5, h6, h7], H.drop⟩
  · have h7 : e.kind = 2 := by simpa using h7
    exact ⟨by simp [h, h2, h3, h5, h6, h7], H.drop⟩

theorem ref07_May_spec {e : Ent} (he : e.ok) {i t : Nat} (H : Has w0 w r) :
    Calls Tryz.prog 87 #[.agg #[.int .u64 (e.term : Int), .int .u64 (e.index : Int), .int .i64 e.kind, .string (bs e.data)], .int .u64 (i : Int), .int .u64 (t : Int)] w fun ee w' => ∃ v, ee = .returned v ∧ v = .bool (e.may i t) ∧ Has w0 w' r := by
  refine tontineref07_May.ok _ _ _ _ _ _ ?_
  have hd := he.data
  refine H.al fun b w1 H => ?_
  unfold Ent.may
  refine ⟨fun w2 => (e.kind = 2 → (cfg e.data).2 = true) ∧ Has w0 w2 (blk b (.cells #[.int .u64 (e.term : Int), .int .u64 (e.index : Int), .int .i64 e.kind, .string (bs e.data)] 69) :: r), ⟨_, H.cell rfl, bif_i (fun h => ?_) fun h => ?_⟩, ?_⟩
  · have h : e.kind = 2 := by simpa using h
    refine ⟨_, H.cell rfl, ?_⟩
    refine (ref07_Said_spec (by omega) H).mono ?_
    rintro ee w2 ⟨v, rfl, rfl, H⟩
    refine ⟨_, _, rfl, bif_i (fun h7 => ?_) fun h7 => ?_⟩
    · have h7 : (cfg e.data).2 = false := by simpa using h7
      exact ⟨by simp [h, h7], H.drop⟩
    · exact ⟨fun _ => by simpa using h7, H⟩
  · have h : e.kind ≠ 2 := by simpa using h
    exact ⟨fun h2 => absurd h2 h, H⟩
  rintro _ w2 ⟨hk, H⟩
  have hk2 : (decide (e.kind ≠ 2) || (cfg e.data).2) = true := by
    by_cases h : e.kind = 2
    · simp [hk h]
    · simp [h]
  refine bif_i (fun h => ?_) fun h => ?_
  rotate_left
  · have h : i = 0 := by simp at h; omega
    exact ⟨by simp [h], H.drop⟩
  have h : i ≠ 0 := by simp at h; omega
  refine ⟨_, H.cell rfl, bif_i (fun h2 => ?_) fun h2 => ?_⟩
  rotate_left
  · have h2 : ¬ e.index = i := by simp at h2; omega
    exact ⟨by simp [h2], H.drop⟩
  have h2 : e.index = i := by simp at h2; omega
  refine ⟨_, H.cell rfl, bif_i (fun h3 => ?_) fun h3 => ?_⟩
  rotate_left
  · have h3 : ¬ t ≤ e.term := by simp at h3; omega
    exact ⟨by simp [h3], H.drop⟩
  have h3 : t ≤ e.term := by simp at h3; omega
  refine ⟨_, H.cell rfl, bif_i (fun h4 => ?_) fun h4 => ?_⟩
  rotate_left
  · have h4 : ¬ 0 ≤ e.kind := by simp at h4; omega
    exact ⟨by simp [h4], H.drop⟩
  have h4 : 0 ≤ e.kind := by simp at h4; omega
  refine ⟨_, H.cell rfl, bif_i (fun h5 => ?_) fun h5 => ?_⟩
  rotate_left
  · have h5 : ¬ e.kind ≤ 2 := by simp at h5; omega
    exact ⟨by simp [h5], H.drop⟩
  have h5 : e.kind ≤ 2 := by simp at h5; omega
  refine ⟨_, H.cell rfl, ?_, H.drop⟩
  rw [hk2]
  have e1 : decide (((bs e.data).size : Int) ≤ 32768) = decide (e.data.length ≤ 32768) := decide_eq_decide.2 (by rw [bs_size]; omega)
  rw [e1]
  simp [h, h2, h3, h4, h5]

theorem rlog_Last_spec {b c : Nat} {a : Option Addr} {s : Snp} {l : List Ent} (hl : l.length ≤ 1000000000) (H : Has w0 w (ca b 150 (s.cells ++ [.slice a l.length c]) :: ow 69 4 a l.length c (ecs l) :: r)) :
    Calls Tryz.prog 78 #[pv b 0] w fun e w' => ∃ v, e = .returned v ∧ v = .tuple #[.int .u64 ((lastE s.index s.term l).1 : Int), .int .u64 ((lastE s.index s.term l).2 : Int)] ∧
      Has w0 w' (ca b 150 (s.cells ++ [.slice a l.length c]) :: ow 69 4 a l.length c (ecs l) :: r) := by
  refine rlog_Log_Last.ok _ _ ?_
  refine ⟨_, _, _, H.cell rfl, bif_i (fun h => ?_) fun h => ?_⟩
  · have h : 0 < l.length := by simp at h; omega
    refine H.dr fun w1 H => ?_
    have e1 : w64 ((l.length : Int) - 1) = ((l.length - 1 : Nat) : Int) := by rw [w64_id (by omega)]; omega
    simp only [e1]
    have hlast : l.getLast? = some l[l.length - 1] := by rw [List.getLast?_eq_getElem?, List.getElem?_eq_getElem]
    obtain ⟨b1, o1, hb1, hc1⟩ := H.f1.vw.entAt (i := l.length - 1) (j := 1) (by omega) rfl
    obtain ⟨b2, o2, hb2, hc2⟩ := H.f1.vw.entAt (i := l.length - 1) (j := 0) (by omega) rfl
    refine ⟨_, _, _, H.cell rfl, b1, o1, hb1, by omega, by omega, _, hc1, _, _, _, H.cell rfl, b2, o2, hb2, by omega, by omega, _, hc2, ?_, H⟩
    unfold lastE
    rw [hlast]
  · have h : l.length = 0 := by simp at h; simp [h]
    obtain rfl : l = [] := List.eq_nil_of_length_eq_zero h
    refine H.dr fun w1 H => ⟨_, H.cell rfl, _, H.cell rfl, rfl, H⟩

theorem rlog_New_spec {s : Snp} (hs : s.ok) {a : Option Addr} {c : Nat} {l : List Ent} (hl : l.length ≤ 1000000000) (hle : ∀ e ∈ l, e.ok) (hv : Vw w a (ecs l)) :
    Calls Tryz.prog 53 #[.agg #[.int .u64 (s.index : Int), .int .u64 (s.term : Int), .int .u64 (s.config : Int), .string (bs s.data)], .slice a l.length c] w fun e w' => ∃ v, e = .returned v ∧
      (∃ p, v = .tuple #[.pointer p, .int .i64 (if logOk s l then 0 else 1)] ∧ (p = none ∨ ∃ b, p = some ⟨b, 0, none⟩)) ∧ Has w w' [] := by
  refine rlog_New.ok _ _ _ _ _ _ _ ?_
  refine (Has.start w).al fun b1 w1 H => ⟨_, H.cell rfl, ?_⟩
  refine (quorum_Sound_spec H hs.config).mono ?_
  rintro e w2 ⟨v, rfl, rfl, H⟩
  unfold logOk
  refine ⟨_, rfl, bif_i (fun h => ?_) fun h => ?_⟩
  · have h : sound s.config = false := by simp [sound] at h ⊢; omega
    exact ⟨⟨none, by rw [h]; rfl, .inl rfl⟩, H.drop⟩
  have h : sound s.config = true := by simp [sound] at h ⊢; omega
  rw [h]
  refine ⟨_, _, _, _, H.row rfl, ?_⟩
  refine H.al fun b2 w3 H => ?_
  refine ⟨fun i w' => ∃ (k : Nat) (a2 : Option Addr) (c2 : Nat), k ≤ l.length ∧ i = (k : Int) ∧ chain s.index s.term (l.take k) = true ∧ Has w w' (ca b2 150 (s.cells ++ [.slice a2 (l.take k).length c2]) :: ow 69 4 a2 (l.take k).length c2 (ecs (l.take k)) :: []), fun i _ => l.length + 1 - i.toNat, ⟨0, none, 0, by omega, rfl, rfl, ?_⟩, ?_⟩
  · have := H.f1.drop
    exact (this.mkow0 69 4).f1
  clear H
  rintro _ i w4 ⟨k, a2, c2, hk, rfl, hch, H⟩
  have hlen : (l.take k).length = k := by simp; omega
  refine bif_i (fun h2 => ?_) fun h2 => ?_
  · have h2 : k < l.length := by simp at h2; omega
    have hek := hle _ (List.getElem_mem h2)
    obtain ⟨b3, o3, hb3, hrow⟩ := (hv.old H).ent h2
    refine ⟨b3, o3, hb3, by omega, by omega, _, _, _, _, hrow, ?_⟩
    refine H.al fun b4 w5 H => H.st (by simp) rfl fun w6 H => ?_
    refine (rlog_Last_spec (by omega) H.f2.f2).mono ?_
    rintro e w7 ⟨v, rfl, rfl, H⟩
    refine ⟨_, _, rfl, _, _, _, _, H.f2.row rfl, ?_⟩
    have e1 : wu64 (((lastE s.index s.term (l.take k)).1 : Int) + 1) = (((lastE s.index s.term (l.take k)).1 + 1) % 18446744073709551616 : Nat) := by rw [wu64_mod]; omega
    rw [e1]
    refine (rlog_sound_spec hek H).mono ?_
    rintro e w8 ⟨v, rfl, rfl, H⟩
    have hsplit : l = l.take k ++ l[k] :: l.drop (k + 1) := by rw [← List.drop_eq_getElem_cons h2, List.take_append_drop]
    have hchain : chain s.index s.term l = (l[k].may (((lastE s.index s.term (l.take k)).1 + 1) % 18446744073709551616) (lastE s.index s.term (l.take k)).2 && chain l[k].index l[k].term (l.drop (k + 1))) := by
      have := chain_snoc s.index s.term (l.take k) l[k] (l.drop (k + 1))
      rw [← hsplit, hch, Bool.true_and] at this
      exact this
    refine ⟨_, rfl, bif_i (fun h3 => ?_) fun h3 => ?_⟩
    · have h3 : l[k].may (((lastE s.index s.term (l.take k)).1 + 1) % 18446744073709551616) (lastE s.index s.term (l.take k)).2 = false := by simpa using h3
      exact ⟨⟨none, by rw [hchain, h3]; rfl, .inl rfl⟩, H.drop.drop.drop⟩
    have h3 : l[k].may (((lastE s.index s.term (l.take k)).1 + 1) % 18446744073709551616) (lastE s.index s.term (l.take k)).2 = true := by simpa using h3
    refine H.dr fun w9 H => ⟨_, _, _, H.cell rfl, _, _, _, _, H.f2.row rfl, ?_⟩
    refine H.al fun b5 w10 H => ⟨H.f1.cell rfl, ?_⟩
    refine Has.app (m := 1) elE H.f2 (H.src (vs := l[k].cells) elE rfl rfl) (by omega) (by simp [maxLen]; omega) fun a11 c11 w11 H => ?_
    refine Has.st H.f2 (by simp [Snp.cells]) rfl fun w12 H => ?_
    rw [w64_id (by omega)]
    refine ⟨⟨k + 1, a11, c11, h2, by omega, ?_, ?_⟩, by dsimp only; omega⟩
    · rw [List.take_succ_eq_append_getElem h2, chain_snoc, hch, h3]; rfl
    · have e2 : ecs (l.take k) ++ l[k].cells = ecs (l.take (k + 1)) := by rw [List.take_succ_eq_append_getElem h2, ← ecs_append]; simp [ecs]
      have e3 : (l.take (k + 1)).length = (l.take k).length + 1 := by simp; omega
      rw [e2] at H
      rw [e3]
      exact H.f2.drop.f1.f2.drop.f1
  · have h2 : k = l.length := by simp at h2; omega
    subst h2
    rw [List.take_length] at hch
    exact ⟨⟨some ⟨b2, 0, none⟩, by rw [hch]; rfl, .inr ⟨b2, rfl⟩⟩, H.drop.drop⟩

end
end Go.Proofs.YtbcepafeiocobaaGreat
