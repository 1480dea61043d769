/-
  Layers 7 and 8: the reference's log, what may be a state, copies.
-/
import Derived.Test.YtbcepafeiocobaaGreatXLog
import Derived.Test.YtbcepafeiocobaaGreatXEq
set_option maxRecDepth 8000
namespace Go.X
open Go

/-- A state as a value. -/
def St.val (s : St) (a : Option Addr) (n c : Nat) : Value := .agg #[.int .u64 (s.term : Int), .int .i64 s.vote, .int .u64 (s.snap.index : Int), .int .u64 (s.snap.term : Int), .int .u64 (s.snap.config : Int), .string (bs s.snap.data), .slice a n c]

theorem strEq_dec (a b : List UInt8) : strEq (bs a) (bs b) = decide (a = b) := by
  rw [strEq_bs]
  by_cases h : a = b
  · simp [h]
  · simp [h]

theorem int_beq (a b : Nat) : ((a : Int) == (b : Int)) = decide (a = b) := by
  by_cases h : a = b
  · subst h; simp
  · have : ((a : Int) == (b : Int)) = false := by simp; omega
    rw [this]; simp [h]

theorem ent_dec (x y : Ent) : ((x.term : Int) == (y.term : Int) && ((x.index : Int) == (y.index : Int) && (x.kind == y.kind && (strEq (bs x.data) (bs y.data) && true)))) = decide (x = y) := by
  rw [int_beq, int_beq, strEq_dec]
  obtain ⟨a, b, c, d⟩ := x
  obtain ⟨a', b', c', d'⟩ := y
  by_cases h1 : a = a' <;> by_cases h2 : b = b' <;> by_cases h3 : c = c' <;> by_cases h4 : d = d' <;> simp [h1, h2, h3, h4]

theorem snp_dec (x y : Snp) : ((x.index : Int) == (y.index : Int) && ((x.term : Int) == (y.term : Int) && ((x.config : Int) == (y.config : Int) && (strEq (bs x.data) (bs y.data) && true)))) = decide (x = y) := by
  rw [int_beq, int_beq, int_beq, strEq_dec]
  obtain ⟨a, b, c, d⟩ := x
  obtain ⟨a', b', c', d'⟩ := y
  by_cases h1 : a = a' <;> by_cases h2 : b = b' <;> by_cases h3 : c = c' <;> by_cases h4 : d = d' <;> simp [h1, h2, h3, h4]

end Go.X
namespace Go.Proofs.YtbcepafeiocobaaGreat
open Go.X

section
variable {w0 w : World} {r : List A}

theorem eq_ent (x y : Ent) {xo yo : Operand} : eqRuns Tryz.prog .neq 69 xo yo (.agg #[.int .u64 (x.term : Int), .int .u64 (x.index : Int), .int .i64 x.kind, .string (bs x.data)]) (.agg #[.int .u64 (y.term : Int), .int .u64 (y.index : Int), .int .i64 y.kind, .string (bs y.data)]) (!decide (x = y)) := by
  have h : flatEq Tryz.prog #[.int .u64 (x.term : Int), .int .u64 (x.index : Int), .int .i64 x.kind, .string (bs x.data)] #[.int .u64 (y.term : Int), .int .u64 (y.index : Int), .int .i64 y.kind, .string (bs y.data)] (Tryz.prog.fieldsOf 69).toList =
      some ((x.term : Int) == (y.term : Int) && ((x.index : Int) == (y.index : Int) && (x.kind == y.kind && (strEq (bs x.data) (bs y.data) && true)))) := by kernel_rfl
  rw [ent_dec] at h
  exact (eqRuns_flat (by kernel_rfl) h).2

theorem eq_snp (x y : Snp) {xo yo : Operand} : eqRuns Tryz.prog .eql 42 xo yo (.agg #[.int .u64 (x.index : Int), .int .u64 (x.term : Int), .int .u64 (x.config : Int), .string (bs x.data)]) (.agg #[.int .u64 (y.index : Int), .int .u64 (y.term : Int), .int .u64 (y.config : Int), .string (bs y.data)]) (decide (x = y)) := by
  have h : flatEq Tryz.prog #[.int .u64 (x.index : Int), .int .u64 (x.term : Int), .int .u64 (x.config : Int), .string (bs x.data)] #[.int .u64 (y.index : Int), .int .u64 (y.term : Int), .int .u64 (y.config : Int), .string (bs y.data)] (Tryz.prog.fieldsOf 42).toList =
      some ((x.index : Int) == (y.index : Int) && ((x.term : Int) == (y.term : Int) && ((x.config : Int) == (y.config : Int) && (strEq (bs x.data) (bs y.data) && true)))) := by kernel_rfl
  rw [snp_dec] at h
  exact (eqRuns_flat (by kernel_rfl) h).1

theorem eq_hard (t u : Nat) (x y : Int) {xo yo : Operand} : eqRuns Tryz.prog .eql 40 xo yo (.agg #[.int .u64 (t : Int), .int .i64 x]) (.agg #[.int .u64 (u : Int), .int .i64 y]) (decide (t = u ∧ x = y)) ∧
    eqRuns Tryz.prog .neq 40 xo yo (.agg #[.int .u64 (t : Int), .int .i64 x]) (.agg #[.int .u64 (u : Int), .int .i64 y]) (!decide (t = u ∧ x = y)) := by
  have h : flatEq Tryz.prog #[.int .u64 (t : Int), .int .i64 x] #[.int .u64 (u : Int), .int .i64 y] (Tryz.prog.fieldsOf 40).toList = some ((t : Int) == (u : Int) && (x == y && true)) := by kernel_rfl
  have e : ((t : Int) == (u : Int) && (x == y && true)) = decide (t = u ∧ x = y) := by
    rw [int_beq]
    by_cases h1 : t = u <;> by_cases h2 : x = y <;> simp [h1, h2]
  rw [e] at h
  exact eqRuns_flat (by kernel_rfl) h

theorem ref07_Same_spec {a b : Option Addr} {c d : Nat} {l m : List Ent} (hl : l.length ≤ 1000000000) (hm : m.length ≤ 1000000000) (hv : Vw w a (ecs l)) (hw : Vw w b (ecs m)) :
    Calls Tryz.prog 59 #[.slice a l.length c, .slice b m.length d] w fun e w' => ∃ v, e = .returned v ∧ v = .bool (decide (l = m)) ∧ Has w w' [] := by
  refine tontineref07_Same.ok _ _ _ _ _ _ ?_
  refine bif_i (fun h => ?_) fun h => ?_
  · have h : ¬ l.length = m.length := by simp at h; omega
    exact ⟨by rw [decide_eq_false (fun e => h (by rw [e]))], Has.start w⟩
  have h : l.length = m.length := by simp at h; omega
  refine ⟨fun i w' => ∃ k : Nat, k ≤ l.length ∧ i = (k : Int) ∧ l.take k = m.take k ∧ Has w w' [], fun i _ => l.length + 1 - i.toNat, ⟨0, by omega, rfl, rfl, Has.start w⟩, ?_⟩
  rintro _ i w1 ⟨k, hk, rfl, he, H⟩
  refine bif_i (fun h2 => ?_) fun h2 => ?_
  · have h2 : k < l.length := by simp at h2; omega
    have h3 : k < m.length := by omega
    refine H.dr fun w2 H => ?_
    obtain ⟨b1, o1, hb1, hr1⟩ := (hv.old H).ent h2
    obtain ⟨b2, o2, hb2, hr2⟩ := (hw.old H).ent h3
    refine ⟨b1, o1, hb1, by omega, by omega, _, _, _, _, hr1, b2, o2, hb2, by omega, by omega, _, _, _, _, hr2, _, eq_ent l[k] m[k], bif_i (fun h4 => ?_) fun h4 => ?_⟩
    · have h4 : l[k] ≠ m[k] := by simpa using h4
      refine ⟨?_, H⟩
      rw [decide_eq_false]
      rintro rfl
      exact h4 rfl
    · have h4 : l[k] = m[k] := by simpa using h4
      rw [w64_id (by omega)]
      exact ⟨⟨k + 1, h2, by omega, by rw [List.take_succ_eq_append_getElem h2, List.take_succ_eq_append_getElem h3, he, h4], H⟩, by dsimp only; omega⟩
  · have h2 : k = l.length := by simp at h2; omega
    subst h2
    rw [List.take_length, h, List.take_length] at he
    exact ⟨by rw [decide_eq_true he], H⟩

theorem ref07_New_spec {s : Snp} (hs : s.ok) {a : Option Addr} {c : Nat} {l : List Ent} (hl : l.length ≤ 1000000000) (hle : ∀ e ∈ l, e.ok) (hv : Vw w a (ecs l)) :
    Calls Tryz.prog 64 #[.agg #[.int .u64 (s.index : Int), .int .u64 (s.term : Int), .int .u64 (s.config : Int), .string (bs s.data)], .slice a l.length c] w fun e w' => ∃ v, e = .returned v ∧
      (∃ p, v = .tuple #[.pointer p, .int .i64 (if logOk s l then 0 else 1)] ∧ (p = none ∨ ∃ b, p = some ⟨b, 0, none⟩)) ∧ Has w w' [] := by
  refine tontineref07_New.ok _ _ _ _ _ _ _ ?_
  refine (Has.start w).al fun b1 w1 H => ⟨_, H.cell rfl, ?_⟩
  refine (ref06_Sound_spec H).mono ?_
  rintro e w2 ⟨v, rfl, rfl, H⟩
  unfold logOk
  refine ⟨_, rfl, bif_i (fun h => ?_) fun h => ?_⟩
  · have h : sound s.config = false := by simp [sound] at h ⊢; omega
    exact ⟨⟨none, by rw [h]; rfl, .inl rfl⟩, H.drop⟩
  have h : sound s.config = true := by simp [sound] at h ⊢; omega
  rw [h]
  refine H.dr fun w3 H => ⟨_, H.cell rfl, _, H.cell rfl, ?_⟩
  refine ⟨fun i t n w' => ∃ k : Nat, k ≤ l.length ∧ n = (k : Int) ∧ chain s.index s.term (l.take k) = true ∧ i = ((lastE s.index s.term (l.take k)).1 : Int) ∧ t = ((lastE s.index s.term (l.take k)).2 : Int) ∧ Has w w' [ca b1 42 s.cells], fun _ _ i _ => l.length + 1 - i.toNat, ⟨0, by omega, rfl, rfl, rfl, rfl, H⟩, ?_⟩
  clear H
  rintro _ i t n w4 ⟨k, hk, rfl, hch, rfl, rfl, H⟩
  refine bif_i (fun h2 => ?_) fun h2 => ?_
  · have h2 : k < l.length := by simp at h2; omega
    have hek := hle _ (List.getElem_mem h2)
    obtain ⟨b3, o3, hb3, hrow⟩ := (hv.old H).ent h2
    refine ⟨b3, o3, hb3, by omega, by omega, _, _, _, _, hrow, ?_⟩
    have e1 : wu64 (((lastE s.index s.term (l.take k)).1 : Int) + 1) = (((lastE s.index s.term (l.take k)).1 + 1) % 18446744073709551616 : Nat) := by rw [wu64_mod]; omega
    rw [e1]
    refine (ref07_May_spec hek H).mono ?_
    rintro e w8 ⟨v, rfl, rfl, H⟩
    have hsplit : l = l.take k ++ l[k] :: l.drop (k + 1) := by rw [← List.drop_eq_getElem_cons h2, List.take_append_drop]
    have hchain : chain s.index s.term l = (l[k].may (((lastE s.index s.term (l.take k)).1 + 1) % 18446744073709551616) (lastE s.index s.term (l.take k)).2 && chain l[k].index l[k].term (l.drop (k + 1))) := by
      have := chain_snoc s.index s.term (l.take k) l[k] (l.drop (k + 1))
      rw [← hsplit, hch, Bool.true_and] at this
      exact this
    refine ⟨_, rfl, bif_i (fun h3 => ?_) fun h3 => ?_⟩
    · have h3 : l[k].may (((lastE s.index s.term (l.take k)).1 + 1) % 18446744073709551616) (lastE s.index s.term (l.take k)).2 = false := by simpa using h3
      exact ⟨⟨none, by rw [hchain, h3]; rfl, .inl rfl⟩, H.drop⟩
    have h3 : l[k].may (((lastE s.index s.term (l.take k)).1 + 1) % 18446744073709551616) (lastE s.index s.term (l.take k)).2 = true := by simpa using h3
    refine H.dr fun w9 H => ?_
    obtain ⟨b4, o4, hb4, hc4⟩ := (hv.old H).entAt (i := k) (j := 1) h2 rfl
    obtain ⟨b5, o5, hb5, hc5⟩ := (hv.old H).entAt (i := k) (j := 0) h2 rfl
    refine ⟨b4, o4, hb4, by omega, by omega, _, hc4, b5, o5, hb5, by omega, by omega, _, hc5, ?_⟩
    rw [w64_id (by omega)]
    refine ⟨⟨k + 1, h2, by omega, ?_, ?_, ?_, H⟩, by dsimp only; omega⟩
    · rw [List.take_succ_eq_append_getElem h2, chain_snoc, hch, h3]; rfl
    · rw [List.take_succ_eq_append_getElem h2, lastE_snoc]
    · rw [List.take_succ_eq_append_getElem h2, lastE_snoc]
  · have h2 : k = l.length := by simp at h2; omega
    subst h2
    rw [List.take_length] at hch
    refine H.dr fun w5 H => ⟨_, _, _, _, H.row rfl, ?_⟩
    refine Has.app0 elE H ((hv.old H).src elE (by simp) (ecs_one l)) (by omega) (by simp [maxLen]; omega) fun a6 c6 w6 H => ⟨H.f1.row rfl, ?_⟩
    refine H.al fun b7 w7 H => ⟨H.f2.row rfl, ?_⟩
    exact ⟨⟨some ⟨b7, 0, none⟩, by rw [hch]; rfl, .inr ⟨b7, rfl⟩⟩, H.drop.drop.drop⟩

theorem store_right_spec {s : St} (hs : s.ok) {a : Option Addr} {c : Nat} (hv : Vw w a (ecs s.l)) :
    Calls Tryz.prog 23 #[s.val a s.l.length c] w fun e w' => ∃ v, e = .returned v ∧ v = .bool s.right ∧ Has w w' [] := by
  refine store_State_right.ok _ _ _ _ _ _ _ _ _ ?_
  refine (Has.start w).al fun b1 w1 H => ⟨_, _, _, _, H.row rfl, _, _, _, H.cell rfl, ?_⟩
  refine (rlog_New_spec hs.snap hs.len hs.l (hv.old H)).mono ?_
  rintro e w2 ⟨v, rfl, ⟨p, rfl, hp⟩, H2⟩
  have H := H.frame H2
  unfold St.right
  have key : (bif ((if logOk s.snap s.l = true then (0 : Int) else 1) == 0) then (∃ v3 : Int, World.cell? w2 ⟨b1, 1, none⟩ = some (.int .i64 v3) ∧ (bif (decide (v3 ≥ (-1))) then (∃ v4 : Int, World.cell? w2 ⟨b1, 1, none⟩ = some (.int .i64 v4) ∧
      (Value.bool (decide (v4 < 7)) = .bool (logOk s.snap s.l && decide (-1 ≤ s.vote) && decide (s.vote < 7)) ∧ Has w w2 [])) else (Value.bool false = .bool (logOk s.snap s.l && decide (-1 ≤ s.vote) && decide (s.vote < 7)) ∧ Has w w2 [])))
      else (Value.bool false = .bool (logOk s.snap s.l && decide (-1 ≤ s.vote) && decide (s.vote < 7)) ∧ Has w w2 [])) := by
    refine bif_i (fun h => ?_) fun h => ?_
    · have h : logOk s.snap s.l = true := by
        by_cases h2 : logOk s.snap s.l = true
        · exact h2
        · simp [h2] at h
      rw [h]
      refine ⟨_, H.cell rfl, bif_i (fun h2 => ?_) fun h2 => ?_⟩
      · have h2 : -1 ≤ s.vote := by simpa using h2
        exact ⟨_, H.cell rfl, by simp [h2], H.drop⟩
      · have h2 : ¬ -1 ≤ s.vote := by simpa using h2
        exact ⟨by simp [h2], H.drop⟩
    · have h : logOk s.snap s.l = false := by
        by_cases h2 : logOk s.snap s.l = true
        · simp [h2] at h
        · simpa using h2
      exact ⟨by simp [h], H.drop⟩
  rcases hp with rfl | ⟨b, rfl⟩
  · exact .inl ⟨_, rfl, key⟩
  · exact .inr ⟨_, _, _, rfl, key⟩

theorem ref08_Right_spec {s : St} (hs : s.ok) {a : Option Addr} {c : Nat} (hv : Vw w a (ecs s.l)) :
    Calls Tryz.prog 33 #[s.val a s.l.length c] w fun e w' => ∃ v, e = .returned v ∧ v = .bool s.right ∧ Has w w' [] := by
  refine tontineref08_Right.ok _ _ _ _ _ _ _ _ _ ?_
  refine (Has.start w).al fun b1 w1 H => ⟨_, _, _, _, H.row rfl, _, _, _, H.cell rfl, ?_⟩
  refine (ref07_New_spec hs.snap hs.len hs.l (hv.old H)).mono ?_
  rintro e w2 ⟨v, rfl, ⟨p, rfl, hp⟩, H2⟩
  have H := H.frame H2
  unfold St.right
  have key : (bif ((if logOk s.snap s.l = true then (0 : Int) else 1) == 0) then (∃ v3 : Int, World.cell? w2 ⟨b1, 1, none⟩ = some (.int .i64 v3) ∧ (bif (decide (v3 ≥ (-1))) then (∃ v4 : Int, World.cell? w2 ⟨b1, 1, none⟩ = some (.int .i64 v4) ∧
      (Value.bool (decide (v4 ≤ 6)) = .bool (logOk s.snap s.l && decide (-1 ≤ s.vote) && decide (s.vote < 7)) ∧ Has w w2 [])) else (Value.bool false = .bool (logOk s.snap s.l && decide (-1 ≤ s.vote) && decide (s.vote < 7)) ∧ Has w w2 [])))
      else (Value.bool false = .bool (logOk s.snap s.l && decide (-1 ≤ s.vote) && decide (s.vote < 7)) ∧ Has w w2 [])) := by
    refine bif_i (fun h => ?_) fun h => ?_
    · have h : logOk s.snap s.l = true := by
        by_cases h2 : logOk s.snap s.l = true
        · exact h2
        · simp [h2] at h
      rw [h]
      refine ⟨_, H.cell rfl, bif_i (fun h2 => ?_) fun h2 => ?_⟩
      · have h2 : -1 ≤ s.vote := by simpa using h2
        refine ⟨_, H.cell rfl, ?_, H.drop⟩
        have e : decide (s.vote ≤ 6) = decide (s.vote < 7) := decide_eq_decide.2 (by omega)
        simp [h2, e]
      · have h2 : ¬ -1 ≤ s.vote := by simpa using h2
        exact ⟨by simp [h2], H.drop⟩
    · have h : logOk s.snap s.l = false := by
        by_cases h2 : logOk s.snap s.l = true
        · simp [h2] at h
        · simpa using h2
      exact ⟨by simp [h], H.drop⟩
  rcases hp with rfl | ⟨b, rfl⟩
  · exact .inl ⟨_, rfl, key⟩
  · exact .inr ⟨_, _, _, rfl, key⟩

theorem store_copied_spec {s : St} (hs : s.ok) {a : Option Addr} {c : Nat} (hv : Vw w a (ecs s.l)) :
    Calls Tryz.prog 24 #[s.val a s.l.length c] w fun e w' => ∃ v, e = .returned v ∧ (∃ a' c', v = s.val a' s.l.length c' ∧ Has w w' [ow 69 4 a' s.l.length c' (ecs s.l)]) := by
  refine store_State_copied.ok _ _ _ _ _ _ _ _ _ ?_
  have hlen := hs.len
  refine (Has.start w).al fun b1 w1 H => H.al fun b2 w2 H => ⟨_, _, _, H.f1.cell rfl, ?_⟩
  refine Has.app0 elE H ((hv.old H).src elE (by simp) (ecs_one s.l)) (by omega) (by simp [maxLen]; omega) fun a3 c3 w3 H => ?_
  refine Has.st H.f2 (by simp) rfl fun w4 H => ⟨_, _, _, _, _, _, _, _, _, H.row rfl, ?_⟩
  refine Has.st H.f2 (by simp) rfl fun w5 H => ⟨_, _, _, _, _, _, _, _, _, H.row rfl, ?_⟩
  exact ⟨a3, c3, rfl, H.drop.drop⟩

theorem store_last_spec {s : St} (hs : s.ok) {a : Option Addr} {c : Nat} (hv : Vw w a (ecs s.l)) :
    Calls Tryz.prog 38 #[s.val a s.l.length c] w fun e w' => ∃ v, e = .returned v ∧ v = .tuple #[.int .u64 ((lastE s.snap.index s.snap.term s.l).1 : Int), .int .u64 ((lastE s.snap.index s.snap.term s.l).2 : Int)] ∧ Has w w' [] := by
  refine store_State_last.ok _ _ _ _ _ _ _ _ _ ?_
  have hlen := hs.len
  refine (Has.start w).al fun b1 w1 H => ⟨_, _, _, H.cell rfl, bif_i (fun h => ?_) fun h => ?_⟩
  · have h : 0 < s.l.length := by simp at h; omega
    refine H.dr fun w1 H => ?_
    have e1 : w64 ((s.l.length : Int) - 1) = ((s.l.length - 1 : Nat) : Int) := by rw [w64_id (by omega)]; omega
    simp only [e1]
    have hlast : s.l.getLast? = some s.l[s.l.length - 1] := by rw [List.getLast?_eq_getElem?, List.getElem?_eq_getElem]
    obtain ⟨b1, o1, hb1, hc1⟩ := (hv.old H).entAt (i := s.l.length - 1) (j := 1) (by omega) rfl
    obtain ⟨b2, o2, hb2, hc2⟩ := (hv.old H).entAt (i := s.l.length - 1) (j := 0) (by omega) rfl
    refine ⟨_, _, _, H.cell rfl, b1, o1, hb1, by omega, by omega, _, hc1, _, _, _, H.cell rfl, b2, o2, hb2, by omega, by omega, _, hc2, ?_, H.drop⟩
    unfold lastE
    rw [hlast]
  · have h : s.l.length = 0 := by simp at h; simp [h]
    have hl : s.l = [] := List.eq_nil_of_length_eq_zero h
    refine H.dr fun w1 H => ⟨_, H.cell rfl, _, H.cell rfl, ?_, H.drop⟩
    rw [hl]; rfl

end
end Go.Proofs.YtbcepafeiocobaaGreat
