/-
  StoreLasts in plain Lean: what a log's file says when it is cut short; what a store's file and its state agree upon, call by call; what is found behind a crash.
-/
import Derived.Test.YtbcepafeiocobaaGreatXAnew
import Derived.Test.YtbcepafeiocobaaGreatXBegun
namespace Go.X
open Go

theorem hasZ_take {l : List UInt8} (h : hasZ l = false) (k : Nat) : hasZ (l.take k) = false := by
  have := hasZ_append (l.take k) (l.drop k)
  rw [List.take_append_drop, h] at this
  cases ht : hasZ (l.take k) with
  | false => rfl
  | true => rw [ht] at this; simp at this

theorem first_cut {x : List UInt8} {k : Nat} (hk : k < (frame x).length) : first ((frame x).take k) = none := by
  have hl : (frame x).length = (enc (summed x)).length + 1 := by simp [frame]
  have e : (frame x).take k = (enc (summed x)).take k := by unfold frame; rw [List.take_append_of_le_length (by omega)]
  have hz : hasZ ((enc (summed x)).take k) = false := hasZ_take (hasZ_encP _ [] rfl (by simp)) k
  unfold first
  rw [e, if_pos]
  exact zeroAt_is (Nat.le_refl _) (by rw [List.take_length]; exact hz) (.inl rfl)

theorem frames_cons (x : List UInt8) (l : List (List UInt8)) : frames (x :: l) = frame x ++ frames l := by simp [frames]
theorem frames_append (a b : List (List UInt8)) : frames (a ++ b) = frames a ++ frames b := by simp [frames]
theorem long_cons (x : List UInt8) (l : List (List UInt8)) : long (x :: l) = (decide (65536 < x.length) || long l) := by simp [long]
theorem long_append (a b : List (List UInt8)) : long (a ++ b) = (long a || long b) := by simp [long]
theorem frame_ne (x : List UInt8) : frame x ≠ [] := by simp [frame]
theorem frames_nil {l : List (List UInt8)} (h : frames l = []) : l = [] := by
  cases l with
  | nil => rfl
  | cons x l => rw [frames_cons] at h; simp [frame] at h

/-- Frames that are cut short anywhere say some first records. -/
theorem scan_cut : ∀ (l : List (List UInt8)), long l = false → ∀ k, ∃ j, j ≤ l.length ∧ (scan ((frames l).take k)).1 = l.take j
  | [], _, k => ⟨0, by simp, by simp [frames, scan_nil]⟩
  | x :: l, h, k => by
    rw [long_cons, Bool.or_eq_false_iff, decide_eq_false_iff_not] at h
    rw [frames_cons]
    by_cases hk : k < (frame x).length
    · refine ⟨0, by simp, ?_⟩
      rw [List.take_append_of_le_length (by omega), scan_none (first_cut hk)]; rfl
    · obtain ⟨j, hj, hs⟩ := scan_cut l h.2 (k - (frame x).length)
      refine ⟨j + 1, by simp; omega, ?_⟩
      rw [List.take_append, List.take_of_length_le (l := frame x) (by omega), scan_some (first_frame (by omega) _), List.drop_left, hs]; rfl

theorem sz_used {d : Dk} (h : d.ok) {n : Nat} (hn : n < 16) : sz (d.fl n) ≤ d.used := sz_le d.fl hn

/-- Opened, whatever stands there. -/
theorem Inf.opened2 {d : Dk} {room u n : Nat} {l : List UInt8} (h : Inf d room u n (some (l, []))) (hn : n < 16) : ∃ d', d.opened n = (0, (scan l).1, d') := by
  by_cases hs : (scan l).2 < l.length
  · have hu : u ≤ room := by have := h.ok.used; rw [h.used, h.room] at this; exact this
    have hr := h.read
    have e1 : firm (some (l, [])) ++ soft (some (l, [])) = l := by simp [firm, soft]
    rw [if_neg (by simp), e1] at hr
    have hst : d.start n = (0, d) := by
      unfold Dk.start
      rw [hr, if_neg (by simp)]
    have hre := h.replace (s := l.take (scan l).2) (by simp [sz, firm, soft]; omega)
    refine ⟨(d.replace n (l.take (scan l).2)).2, ?_⟩
    unfold Dk.opened
    rw [hst, hr]
    dsimp only
    rw [if_neg (by simp), if_pos hs, hre]
  · have hle := scan_le _ l (Nat.le_refl _)
    obtain ⟨d', h1, _⟩ := h.opened1 hn (by omega)
    exact ⟨d', h1⟩

theorem Dk.crash_inf {d : Dk} (h : d.ok) (ks : List Int) (n : Nat) : Inf (d.crash ks) d.room (d.crash ks).used n (crashed ks n (d.fl n)) := ⟨rfl, rfl, rfl, rfl, h.crash ks, rfl⟩

/-- What is found behind a crash: what the firm records and some first ones of those that weren't firm yet say. -/
theorem open_crash {d : Dk} {R out : List (List UInt8)} {s : St} {x : List UInt8} {ks : List Int} (hd : d.ok) (hv : d.fl 0 = some (frames R, x)) (hx : x = [] ∨ x = frames out) (hlR : long R = false) (hlo : long out = false)
    (ht : takes (first8 7) R = some s) (hs : s.right = true) (hr : ∀ j, ∃ s', takes s (out.take j) = some s' ∧ s'.right = true) :
    ∃ j s' d', j ≤ out.length ∧ (d.crash ks).open8 0 7 = (0, some s', d') ∧ takes s (out.take j) = some s' := by
  have hi := Dk.crash_inf hd ks 0
  rw [hv] at hi
  have hfin : ∀ {j : Nat} {d' : Dk}, j ≤ out.length → (d.crash ks).opened 0 = (0, R ++ out.take j, d') → ∃ j s' d', j ≤ out.length ∧ (d.crash ks).open8 0 7 = (0, some s', d') ∧ takes s (out.take j) = some s' := by
    intro j d' hj ho
    obtain ⟨s', h1, h2⟩ := hr j
    refine ⟨j, s', d', hj, ?_, h1⟩
    unfold Dk.open8
    rw [if_neg (by decide), ho]
    dsimp only
    rw [if_neg (by simp), takes_append, ht, Option.bind_some, h1]
    dsimp only
    rw [if_pos h2]
  unfold crashed at hi
  dsimp only at hi
  split at hi
  · rename_i hc
    have ho := hi.opened2 (by omega)
    obtain ⟨d', ho⟩ := ho
    rw [scan_frames R hlR] at ho
    rcases hx with rfl | rfl
    · rw [List.take_nil, scan_nil] at ho
      exact hfin (j := 0) (Nat.zero_le _) (by rw [ho]; rfl)
    · obtain ⟨j, hj, hsj⟩ := scan_cut out hlo (kept ks 0 (frames out).length)
      rw [hsj] at ho
      exact hfin hj ho
  · rename_i hc
    have hc1 : frames R = [] := Classical.byContradiction fun h => hc (.inl h)
    obtain ⟨d', ho, _⟩ := hi.opened0 (by omega)
    have hR := frames_nil hc1
    exact hfin (j := 0) (Nat.zero_le _) (by rw [ho, hR]; rfl)

/-! ### What records do to a state that is right -/

theorem chain_mem : ∀ {l : List Ent} {i t : Nat}, chain i t l = true → ∀ e ∈ l, 0 ≤ e.kind ∧ e.kind ≤ 2 ∧ e.data.length ≤ 32768
  | [], _, _, _, e, he => by cases he
  | x :: l, i, t, h, e, he => by
    simp only [chain, Bool.and_eq_true, Ent.may, decide_eq_true_eq] at h
    rcases List.mem_cons.1 he with rfl | he
    · exact ⟨h.1.1.1.1.2, h.1.1.1.2, h.1.1.2⟩
    · exact chain_mem h.2 e he

theorem St.right_iff {s : St} : s.right = true ↔ logOk s.snap s.l = true ∧ -1 ≤ s.vote ∧ s.vote < 7 := by
  unfold St.right
  simp only [Bool.and_eq_true, decide_eq_true_eq, and_assoc]

theorem logOk_prefix {p : Snp} {a b : List Ent} (h : logOk p (a ++ b) = true) : logOk p a = true := by
  unfold logOk at h ⊢
  rw [chain_append] at h
  simp only [Bool.and_eq_true] at h ⊢
  exact ⟨h.1, h.2.1⟩

theorem vote_w {v : Int} (hv : -9223372036854775808 ≤ v ∧ v ≤ 9223372036854775807) : u64 (v + 1) ≤ 7 ↔ -1 ≤ v ∧ v ≤ 6 := by
  unfold u64; omega

theorem take_hard_some {s s' : St} {t : Nat} (ht : t < 18446744073709551616) {v : Int} (hv : -9223372036854775808 ≤ v ∧ v ≤ 9223372036854775807) (h : take s (hardB t v) = some s') : -1 ≤ v ∧ v ≤ 6 ∧ s' = { s with term := t, vote := v } := by
  by_cases hk : u64 (v + 1) ≤ 7
  · have hv2 := (vote_w hv).1 hk
    rw [take_hard ht hv2] at h
    exact ⟨hv2.1, hv2.2, (Option.some.inj h).symm⟩
  · exfalso
    have h1 : Rd.num ⟨hardB t v, false⟩ = (1, ⟨wNum t ++ wNum (u64 (v + 1)), false⟩) := by
      unfold hardB; rw [List.append_assoc, num_w (by omega)]
    have h2 : Rd.num ⟨wNum t ++ wNum (u64 (v + 1)), false⟩ = (t, ⟨wNum (u64 (v + 1)), false⟩) := num_w ht _ _
    have h3 : (Rd.up ⟨wNum (u64 (v + 1)), false⟩ 7).2.done = false := by
      have h4 := num_w (x := u64 (v + 1)) (u64_lt _) [] false
      rw [List.append_nil] at h4
      unfold Rd.up
      rw [h4]
      dsimp only
      rw [if_neg hk]
      rfl
    unfold take at h
    rw [h1] at h; dsimp only at h
    rw [if_pos rfl, h2] at h; dsimp only at h
    rw [if_neg (by rw [h3]; simp)] at h
    cases h

theorem num_bad {s : Rd} (h : s.bad = true) : s.num.2.bad = true := by
  unfold Rd.num
  split
  · exact h
  · rfl
theorem up_bad {s : Rd} (h : s.bad = true) (k : Nat) : (s.up k).2.bad = true := by
  unfold Rd.up
  split
  · exact num_bad h
  · rfl
theorem text_bad {s : Rd} (h : s.bad = true) (k : Nat) : (s.text k).2.done = false := by
  unfold Rd.text
  split
  · simp [Rd.done, up_bad h]
  · simp [Rd.done, Rd.fail]

theorem take_ent_some {s s' : St} {e : Ent} (he : e.ok) (h : take s (entB e) = some s') : 0 ≤ e.kind ∧ e.kind ≤ 2 ∧ e.data.length ≤ 65536 ∧ s' = { s with l := s.l ++ [e] } := by
  by_cases hk : u64 e.kind ≤ 2
  · have hk2 : 0 ≤ e.kind ∧ e.kind ≤ 2 := by
      have := he.kind
      unfold u64 at hk; omega
    by_cases hd : e.data.length ≤ 65536
    · rw [take_ent he hk2 hd] at h
      exact ⟨hk2.1, hk2.2, hd, (Option.some.inj h).symm⟩
    · exfalso
      have h1 : Rd.num ⟨entB e, false⟩ = (2, ⟨wNum e.term ++ (wNum e.index ++ (wNum (u64 e.kind) ++ wText e.data)), false⟩) := by
        unfold entB; rw [List.append_assoc, List.append_assoc, List.append_assoc, num_w (by omega)]
      have h2 := num_w he.term (wNum e.index ++ (wNum (u64 e.kind) ++ wText e.data)) false
      have h3 := num_w he.index (wNum (u64 e.kind) ++ wText e.data) false
      have h4 : Rd.up ⟨wNum (u64 e.kind) ++ wText e.data, false⟩ 2 = (u64 e.kind, ⟨wText e.data, false⟩) := up_w hk (by omega) _ _
      have h5 : (Rd.text ⟨wText e.data, false⟩ 65536).2.done = false := by
        have hd2 := he.data
        have h6 := num_w (x := e.data.length) (by omega) e.data false
        unfold Rd.text Rd.up
        unfold wText
        rw [h6]
        dsimp only
        rw [if_neg hd]
        simp [Rd.done, Rd.fail]
      unfold take at h
      rw [h1] at h; dsimp only at h
      rw [if_neg (by omega), if_pos rfl, h2] at h; dsimp only at h
      rw [h3] at h; dsimp only at h
      rw [h4] at h; dsimp only at h
      rw [if_neg (by rw [h5]; simp)] at h
      cases h
  · exfalso
    have h1 : Rd.num ⟨entB e, false⟩ = (2, ⟨wNum e.term ++ (wNum e.index ++ (wNum (u64 e.kind) ++ wText e.data)), false⟩) := by
      unfold entB; rw [List.append_assoc, List.append_assoc, List.append_assoc, num_w (by omega)]
    have h2 := num_w he.term (wNum e.index ++ (wNum (u64 e.kind) ++ wText e.data)) false
    have h3 := num_w he.index (wNum (u64 e.kind) ++ wText e.data) false
    have h4 : (Rd.up ⟨wNum (u64 e.kind) ++ wText e.data, false⟩ 2).2.bad = true := by
      unfold Rd.up
      rw [num_w (u64_lt _)]
      dsimp only
      rw [if_neg hk]
      rfl
    have h5 := text_bad h4 65536
    unfold take at h
    rw [h1] at h; dsimp only at h
    rw [if_neg (by omega), if_pos rfl, h2] at h; dsimp only at h
    rw [h3] at h; dsimp only at h
    rw [if_neg (by rw [h5]; simp)] at h
    cases h

/-- Entries that are taken one by one. -/
theorem takes_ents : ∀ (l : List Ent) {s s2 : St}, (∀ e ∈ l, e.ok) → takes s (l.map entB) = some s2 → (∀ e ∈ l, 0 ≤ e.kind ∧ e.kind ≤ 2 ∧ e.data.length ≤ 65536) ∧ s2 = { s with l := s.l ++ l }
  | [], s, s2, _, h => ⟨by simp, by simp only [List.map_nil, takes, Option.some.injEq] at h; simp [← h]⟩
  | e :: l, s, s2, he, h => by
    rw [List.map_cons] at h
    simp only [takes] at h
    cases ht : take s (entB e) with
    | none => rw [ht] at h; cases h
    | some s1 =>
      rw [ht, Option.bind_some] at h
      obtain ⟨h1, h2, h3, rfl⟩ := take_ent_some (he e (.head _)) ht
      obtain ⟨h4, h5⟩ := takes_ents l (fun x hx => he x (.tail _ hx)) h
      refine ⟨fun x hx => ?_, by rw [h5]; simp⟩
      rcases List.mem_cons.1 hx with rfl | hx
      · exact ⟨h1, h2, h3⟩
      · exact h4 x hx
theorem takes_ents_mk : ∀ (l : List Ent) (s : St), (∀ e ∈ l, e.ok) → (∀ e ∈ l, 0 ≤ e.kind ∧ e.kind ≤ 2 ∧ e.data.length ≤ 65536) → takes s (l.map entB) = some { s with l := s.l ++ l }
  | [], s, _, _ => by simp [takes]
  | e :: l, s, he, hk => by
    have h1 := hk e (.head _)
    simp only [List.map_cons, takes]
    rw [take_ent (he e (.head _)) ⟨h1.1, h1.2.1⟩ h1.2.2, Option.bind_some, takes_ents_mk l _ (fun x hx => he x (.tail _ hx)) fun x hx => hk x (.tail _ hx)]
    simp

theorem takes_take {s s2 : St} {l : List (List UInt8)} (h : takes s l = some s2) (j : Nat) : ∃ s', takes s (l.take j) = some s' ∧ takes s' (l.drop j) = some s2 := by
  have h1 := takes_append (l.take j) (l.drop j) s
  rw [List.take_append_drop, h] at h1
  cases ht : takes s (l.take j) with
  | none => rw [ht] at h1; cases h1
  | some s' => rw [ht, Option.bind_some] at h1; exact ⟨s', rfl, h1.symm⟩

/-- Each state on the way is one that may be. -/
theorem takes_right {s s2 : St} {t : Nat} {v : Int} {l : List Ent} (hs : s.right = true) (ht : t < 18446744073709551616) (hv : -9223372036854775808 ≤ v ∧ v ≤ 9223372036854775807) (hl : ∀ e ∈ l, e.ok)
    (h : takes s (recsOf s t v l) = some s2) (h2 : s2.right = true) : ∀ j, ∃ s', takes s ((recsOf s t v l).take j) = some s' ∧ s'.right = true := by
  intro j
  obtain ⟨s', h3, h4⟩ := takes_take h j
  refine ⟨s', h3, ?_⟩
  have hA : ∀ (k : Nat) (s' : St), takes s ((recs1 s t v).take k) = some s' → s'.right = true ∧ s'.snap = s.snap ∧ s'.l = s.l := by
    intro k s' h
    unfold recs1 at h
    split at h
    · rw [List.take_nil] at h
      simp only [takes, Option.some.injEq] at h
      subst h; exact ⟨hs, rfl, rfl⟩
    · cases k with
      | zero => simp only [List.take_zero, takes, Option.some.injEq] at h; subst h; exact ⟨hs, rfl, rfl⟩
      | succ k =>
        simp only [List.take_succ_cons, List.take_nil, takes] at h
        cases hq : take s (hardB t v) with
        | none => rw [hq] at h; cases h
        | some s1 =>
          rw [hq, Option.bind_some] at h
          obtain ⟨h5, h6, rfl⟩ := take_hard_some ht hv hq
          cases h
          exact ⟨St.right_iff.2 ⟨(St.right_iff.1 hs).1, h5, by dsimp only; omega⟩, rfl, rfl⟩
  have hB : ∀ (k : Nat) (s1 s' : St), s1.right = true → takes s1 ((recs2 s l).take k) = some s' → s'.right = true := by
    intro k s1 s' hr h
    unfold recs2 at h
    cases l with
    | nil =>
      rw [List.take_nil] at h
      simp only [takes, Option.some.injEq] at h
      subst h; exact hr
    | cons e l =>
      dsimp only at h
      split at h
      · cases k with
        | zero => simp only [List.take_zero, takes, Option.some.injEq] at h; subst h; exact hr
        | succ k =>
          simp only [List.take_succ_cons, List.take_nil, takes] at h
          rw [take_cut (hl e (.head _)).index, Option.bind_some] at h
          cases h
          have h5 := St.right_iff.1 hr
          obtain ⟨t1, ht1⟩ : ∃ t1, s1.l = (s1.l.takeWhile fun x => decide (x.index < e.index)) ++ t1 := ⟨_, (List.takeWhile_append_dropWhile).symm⟩
          refine St.right_iff.2 ⟨?_, h5.2⟩
          have h6 := h5.1
          rw [ht1] at h6
          exact logOk_prefix h6
      · rw [List.take_nil] at h
        simp only [takes, Option.some.injEq] at h
        subst h; exact hr
  by_cases hj : j ≤ (recs1 s t v ++ recs2 s l).length
  · have e1 : (recsOf s t v l).take j = (recs1 s t v).take j ++ (recs2 s l).take (j - (recs1 s t v).length) := by
      unfold recsOf
      rw [List.take_append_of_le_length hj, List.take_append]
    rw [e1, takes_append] at h3
    cases hq : takes s ((recs1 s t v).take j) with
    | none => rw [hq] at h3; cases h3
    | some s1 =>
      rw [hq, Option.bind_some] at h3
      exact hB _ _ _ (hA _ _ hq).1 h3
  · have e1 : (recsOf s t v l).drop j = (l.drop (j - (recs1 s t v ++ recs2 s l).length)).map entB := by
      unfold recsOf
      rw [List.drop_append, List.drop_of_length_le (l := recs1 s t v ++ recs2 s l) (by omega), List.nil_append, List.map_drop]
    rw [e1] at h4
    have h5 := (takes_ents _ (fun e he => hl e (List.mem_of_mem_drop he)) h4).2
    subst h5
    have h6 := St.right_iff.1 h2
    exact St.right_iff.2 ⟨logOk_prefix h6.1, h6.2⟩

theorem takes_snap {s s2 : St} {t : Nat} {v : Int} {l : List Ent} (ht : t < 18446744073709551616) (hv : -9223372036854775808 ≤ v ∧ v ≤ 9223372036854775807) (hl : ∀ e ∈ l, e.ok) (h : takes s (recsOf s t v l) = some s2) : s2.snap = s.snap := by
  unfold recsOf at h
  rw [takes_append, takes_append] at h
  have h1 : ∀ s1, takes s (recs1 s t v) = some s1 → s1.snap = s.snap := by
    intro s1 h
    unfold recs1 at h
    split at h
    · simp only [takes, Option.some.injEq] at h; rw [← h]
    · simp only [takes] at h
      cases hq : take s (hardB t v) with
      | none => rw [hq] at h; cases h
      | some s3 =>
        rw [hq, Option.bind_some] at h
        obtain ⟨_, _, rfl⟩ := take_hard_some ht hv hq
        cases h; rfl
  have h2 : ∀ s0 s1, takes s0 (recs2 s l) = some s1 → s1.snap = s0.snap := by
    intro s0 s1 h
    unfold recs2 at h
    cases l with
    | nil => simp only [takes, Option.some.injEq] at h; rw [← h]
    | cons e l =>
      dsimp only at h
      split at h
      · simp only [takes] at h
        rw [take_cut (hl e (.head _)).index, Option.bind_some] at h
        cases h; rfl
      · simp only [takes, Option.some.injEq] at h; rw [← h]
  cases hq : takes s (recs1 s t v) with
  | none => rw [hq] at h; cases h
  | some s1 =>
    rw [hq, Option.bind_some] at h
    cases hq2 : takes s1 (recs2 s l) with
    | none => rw [hq2] at h; cases h
    | some s3 =>
      rw [hq2, Option.bind_some] at h
      rw [(takes_ents l hl h).2]
      show s3.snap = _
      rw [h2 _ _ hq2, h1 _ hq]

/-- A state that was written anew is read back. -/
theorem anew_takes {s : St} {m : Nat} (hs : s.ok) (hr : s.right = true) (hd : s.snap.data.length ≤ 65536) : takes (first8 m) (anewRecs s) = some s := by
  have h := St.right_iff.1 hr
  have hc : chain s.snap.index s.snap.term s.l = true := by
    have := h.1
    unfold logOk at this
    simp only [Bool.and_eq_true] at this
    exact this.2
  unfold anewRecs
  simp only [takes]
  rw [take_hard hs.term ⟨h.2.1, by omega⟩, Option.bind_some, take_snap hs.snap hd, Option.bind_some, takes_ents_mk s.l _ hs.l fun e he => ?_]
  · simp
  · have := chain_mem hc e he
    exact ⟨this.1, this.2.1, by omega⟩

/-! ### A law's calls -/

def dw (l : List Ent) : Nat := (l.map fun e => e.data.length / 50).sum
/-- How much a call weighs. -/
def wt (s : St) : Nat := 1 + s.l.length + s.snap.data.length / 50 + dw s.l

theorem dw_cons (e : Ent) (l : List Ent) : dw (e :: l) = e.data.length / 50 + dw l := by simp [dw]
theorem dw_append (a b : List Ent) : dw (a ++ b) = dw a + dw b := by simp [dw]
theorem dw_mem {e : Ent} : ∀ {l : List Ent}, e ∈ l → e.data.length / 50 ≤ dw l
  | x :: l, h => by
    rw [dw_cons]
    rcases List.mem_cons.1 h with rfl | h
    · omega
    · have := dw_mem h; omega

theorem ents_frames : ∀ {l : List Ent}, (∀ e ∈ l, e.ok) → (frames (l.map entB)).length ≤ 200 * (l.length + dw l)
  | [], _ => by simp [frames, dw]
  | e :: l, h => by
    have h1 := ents_frames (l := l) fun x hx => h x (.tail _ hx)
    have h2 := entB_len (h e (.head _))
    have h3 := frame_len (entB e)
    rw [List.map_cons, frames_cons, List.length_append, dw_cons, List.length_cons]
    omega

theorem ents_long : ∀ {l : List Ent}, (∀ e ∈ l, e.ok) → dw l ≤ 400 → long (l.map entB) = false
  | [], _, _ => rfl
  | e :: l, h, hd => by
    rw [dw_cons] at hd
    have h1 := ents_long (l := l) (fun x hx => h x (.tail _ hx)) (by omega)
    have h2 := entB_len (h e (.head _))
    rw [List.map_cons, long_cons, h1, Bool.or_false, decide_eq_false_iff_not]
    omega

theorem recs_frames {s : St} {t : Nat} (ht : t < 18446744073709551616) (v : Int) {l : List Ent} (hl : ∀ e ∈ l, e.ok) : (frames (recsOf s t v l)).length ≤ 200 * (1 + l.length + dw l) := by
  have h1 := ents_frames hl
  have h2 := hardB_len ht v
  have h3 := frame_len (hardB t v)
  have h4 : (frames (recs1 s t v)).length ≤ 64 := by
    unfold recs1; split
    · simp [frames]
    · rw [frames_cons, List.length_append]; simp [frames]; omega
  have h5 : (frames (recs2 s l)).length ≤ 46 := by
    unfold recs2; split
    · simp [frames]
    · rename_i e l
      split
      · have h6 := cutB_len (hl e (.head _)).index
        have h7 := frame_len (cutB e.index)
        rw [frames_cons, List.length_append]; simp [frames]; omega
      · simp [frames]
  unfold recsOf
  rw [frames_append, frames_append, List.length_append, List.length_append]
  omega

theorem recs_long {s : St} {t : Nat} (ht : t < 18446744073709551616) (v : Int) {l : List Ent} (hl : ∀ e ∈ l, e.ok) (hd : dw l ≤ 400) : long (recsOf s t v l) = false := by
  have h2 := hardB_len ht v
  have h4 : long (recs1 s t v) = false := by
    unfold recs1; split
    · rfl
    · rw [long_cons]; simp [long]; omega
  have h5 : long (recs2 s l) = false := by
    unfold recs2; split
    · rfl
    · rename_i e l
      split
      · have h6 := cutB_len (hl e (.head _)).index
        rw [long_cons]; simp [long]; omega
      · rfl
  unfold recsOf
  rw [long_append, long_append, h4, h5, ents_long hl hd]; rfl

theorem anew_frames {s : St} (hs : s.ok) : (frames (anewRecs s)).length ≤ 600 * wt s := by
  have h1 := ents_frames hs.l
  have h2 := hardB_len hs.term s.vote
  have h3 := frame_len (hardB s.term s.vote)
  have h4 := snapB_len hs.snap
  have h5 := frame_len (snapB s.snap)
  unfold anewRecs wt
  rw [frames_cons, frames_cons, List.length_append, List.length_append]
  omega

theorem anew_long {s : St} (hs : s.ok) (hd : s.snap.data.length ≤ 32768) (hw : dw s.l ≤ 400) : long (anewRecs s) = false := by
  have h2 := hardB_len hs.term s.vote
  have h4 := snapB_len hs.snap
  unfold anewRecs
  rw [long_cons, long_cons, ents_long hs.l hw, Bool.or_false, Bool.or_eq_false_iff, decide_eq_false_iff_not, decide_eq_false_iff_not]
  omega

/-- What a store's file and its state agree upon, when calls of this weight were answered. -/
structure Lst (d : Dk) (s : St) (W : Nat) : Prop where
  room : d.room = 1048576
  ok : d.ok
  val : ∃ R, d.fl 0 = some (frames R, []) ∧ d.used = (frames R).length ∧ (frames R).length ≤ 600 * W ∧ long R = false ∧ takes (first8 7) R = some s
  sok : s.ok
  right : s.right = true
  data : s.snap.data.length ≤ 65536
  len : s.l.length ≤ 3 * W

/-- What is found behind a crash is one of these. -/
def Finds (d : Dk) (q : St → Prop) : Prop := d.ok ∧ ∀ ks, ∃ s' d', (d.crash ks).open8 0 7 = (0, some s', d') ∧ q s'

theorem Lst.finds {d : Dk} {s : St} {W : Nat} (h : Lst d s W) : Finds d fun s' => s' = s := by
  refine ⟨h.ok, fun ks => ?_⟩
  obtain ⟨R, h1, _, _, h2, h3⟩ := h.val
  obtain ⟨j, s', d', hj, ho, ht⟩ := open_crash (out := []) (ks := ks) h.ok h1 (.inl rfl) h2 rfl h3 h.right (fun j => ⟨s, by simp [takes], h.right⟩)
  refine ⟨s', d', ho, ?_⟩
  simp [takes] at ht
  exact ht.symm

theorem step_cases (d : Dk) (hd : d.ok) : (d.step.1 = true ∧ d.step.2.off = d.off) ∨ (d.step.1 = false) := by
  unfold Dk.step
  split
  · exact .inr rfl
  · split
    · exact .inl ⟨rfl, rfl⟩
    · exact .inl ⟨rfl, rfl⟩

/-- Saved: refused; or it lasts; or the disk went off on the way. -/
theorem Lst.save {d : Dk} {s : St} {W : Nat} (h : Lst d s W) {t : Nat} (ht : t < 18446744073709551616) {v : Int} (hv : -9223372036854775808 ≤ v ∧ v ≤ 9223372036854775807) {l : List Ent} (hl : ∀ e ∈ l, e.ok) (hw : W + (1 + l.length + dw l) ≤ 400) :
    (save8 s d 0 t v l = (1, s, d)) ∨
    (∃ s' d', takes s (recsOf s t v l) = some s' ∧ s'.right = true ∧ save8 s d 0 t v l = (0, s', d') ∧ Lst d' s' (W + (1 + l.length + dw l))) ∨
    (∃ s' d', takes s (recsOf s t v l) = some s' ∧ s'.right = true ∧ save8 s d 0 t v l = (10, s, d') ∧ Finds d' fun q => q = s ∨ ∃ k, k < (recsOf s t v l).length ∧ takes s ((recsOf s t v l).take (k + 1)) = some q) := by
  obtain ⟨R, r1, r2, r3, r4, r5⟩ := h.val
  have hs := h.sok
  have hlen := h.len
  obtain ⟨q1, q2, q3⟩ := recs_len s t v l
  have hfr := recs_frames (s := s) ht v hl
  have hlg := recs_long (s := s) ht v hl (by omega)
  unfold save8
  cases hts : takes s (recsOf s t v l) with
  | none => exact .inl rfl
  | some s' =>
    dsimp only
    by_cases hr : s'.right = false
    · rw [if_pos hr]; exact .inl rfl
    rw [if_neg hr]
    have hr : s'.right = true := by simpa using hr
    have hpre := takes_right h.right ht hv hl hts hr
    generalize hR : recsOf s t v l = out at hts q3 hfr hlg hpre ⊢
    obtain ⟨hsok', hslen'⟩ := takes_ok out hs (by omega) hts
    by_cases hout : out = []
    · rw [if_pos hout]
      subst hout
      simp only [takes, Option.some.injEq] at hts
      subst hts
      exact .inr (.inl ⟨s, d, rfl, hr, rfl, ⟨h.room, h.ok, ⟨R, r1, r2, by omega, r4, r5⟩, hs, hr, h.data, by omega⟩⟩)
    rw [if_neg hout]
    have hfind : ∀ {d' : Dk} {x : List UInt8}, d'.ok → d'.fl 0 = some (frames R, x) → x = [] ∨ x = frames out → Finds d' fun q => q = s ∨ ∃ k, k < out.length ∧ takes s (out.take (k + 1)) = some q := by
      intro d' x hd' hx1 hx2
      refine ⟨hd', fun ks => ?_⟩
      obtain ⟨j, s2, d2, hj, ho, hq⟩ := open_crash (ks := ks) hd' hx1 hx2 r4 hlg r5 h.right hpre
      refine ⟨s2, d2, ho, ?_⟩
      cases j with
      | zero => simp [takes] at hq; exact .inl hq.symm
      | succ j => exact .inr ⟨j, by omega, hq⟩
    have hdata : s'.snap.data.length ≤ 65536 := by
      have : s'.snap = s.snap := by rw [← hR] at hts; exact takes_snap ht hv hl hts
      rw [this]; exact h.data
    have e0 : firm (d.fl 0) = frames R ∧ soft (d.fl 0) = [] := by rw [r1]; exact ⟨rfl, rfl⟩
    by_cases hoff : d.off = true
    · have ha : d.wappend 0 out = (10, d) := by
        unfold Dk.wappend Dk.append
        rw [if_neg (by simp [hlg]), if_pos hoff, if_pos (by simp)]
      rw [ha, if_pos (by simp)]
      exact .inr (.inr ⟨s', d, rfl, hr, rfl, hfind h.ok r1 (.inl rfl)⟩)
    have hroom : ¬ d.room < d.used + (frames out).length := by rw [h.room]; omega
    have happ : d.append 0 (frames out) = if d.step.1 then (0, d.step.2.put 0 (frames R, frames out)) else (10, d.step.2) := by
      unfold Dk.append
      rw [if_neg hoff, if_neg hroom, e0.1, e0.2, List.nil_append]
    have hfl := step_fl d
    cases hst : d.step.1 with
    | false =>
      rw [hst, if_neg (by simp)] at happ
      have ha : d.wappend 0 out = (10, d.step.2) := by
        unfold Dk.wappend
        rw [if_neg (by simp [hlg]), happ, if_pos (by simp)]
      rw [ha, if_pos (by simp)]
      exact .inr (.inr ⟨s', _, rfl, hr, rfl, hfind h.ok.step (by rw [hfl.1]; exact r1) (.inl rfl)⟩)
    | true =>
      rw [hst, if_pos rfl] at happ
      have hoff2 : d.step.2.off = d.off := by
        rcases step_cases d h.ok with h1 | h1
        · exact h1.2
        · rw [hst] at h1; cases h1
      have ok1 : (d.step.2.put 0 (frames R, frames out)).ok := by
        have := h.ok.append (n := 0) (by omega) (frames out)
        rw [happ] at this; exact this
      obtain ⟨d1, hd1⟩ : ∃ d1, d1 = d.step.2.put 0 (frames R, frames out) := ⟨_, rfl⟩
      rw [← hd1] at happ ok1
      have v1 : d1.fl 0 = some (frames R, frames out) := by rw [hd1]; simp [Dk.put, upd]
      have room1 : d1.room = 1048576 := by rw [hd1]; show d.step.2.room = _; rw [hfl.2, h.room]
      have off1 : ¬ d1.off = true := by rw [hd1]; show ¬ d.step.2.off = true; rw [hoff2]; exact hoff
      have used1 : d1.used = (frames R).length + (frames out).length := by
        have h1 := used_put d.step.2 (n := 0) (by omega) (frames R, frames out)
        have h2 : d.step.2.used = d.used := by unfold Dk.used; rw [hfl.1]
        rw [← hd1, hfl.1, r1, h2, r2] at h1
        simp [sz, firm, soft] at h1; omega
      have hsy : d1.sync 0 = if d1.step.1 then (0, d1.step.2.put 0 (frames R ++ frames out, [])) else (10, d1.step.2) := by
        unfold Dk.sync
        rw [if_neg off1, v1, if_neg (by simp)]; rfl
      have ha : d.wappend 0 out = d1.sync 0 := by
        unfold Dk.wappend
        rw [if_neg (by simp [hlg]), happ, if_neg (by simp)]
      have hfl1 := step_fl d1
      cases hst1 : d1.step.1 with
      | false =>
        rw [hst1, if_neg (by simp)] at hsy
        rw [ha, hsy, if_pos (by simp)]
        exact .inr (.inr ⟨s', _, rfl, hr, rfl, hfind ok1.step (by rw [hfl1.1]; exact v1) (.inr rfl)⟩)
      | true =>
        rw [hst1, if_pos rfl] at hsy
        have ok2 : (d1.step.2.put 0 (frames R ++ frames out, [])).ok := by
          have := ok1.sync (n := 0) (by omega)
          rw [hsy] at this; exact this
        rw [ha, hsy, if_neg (by simp)]
        refine .inr (.inl ⟨s', _, rfl, hr, rfl, ?_⟩)
        refine ⟨by show d1.step.2.room = _; rw [hfl1.2, room1], ok2, ⟨R ++ out, ?_, ?_, ?_, ?_, ?_⟩, hsok', hr, hdata, by omega⟩
        · rw [frames_append]; simp [Dk.put, upd]
        · have h1 := used_put d1.step.2 (n := 0) (by omega) (frames R ++ frames out, [])
          have h2 : d1.step.2.used = d1.used := by unfold Dk.used; rw [hfl1.1]
          rw [hfl1.1, v1, h2, used1] at h1
          simp [sz, firm, soft] at h1
          rw [frames_append, List.length_append]; omega
        · rw [frames_append, List.length_append]; omega
        · rw [long_append, r4, hlg]; rfl
        · rw [takes_append, r5]; exact hts

/-- Anew: refused; or it lasts; or the disk went off. -/
theorem Lst.anew {d : Dk} {s : St} {W : Nat} (h : Lst d s W) {n : St} (hn : n.ok) (hw : W + wt n ≤ 400) :
    (anew8 s d 0 n = (1, s, d)) ∨
    (∃ d', anew8 s d 0 n = (0, n, d') ∧ Lst d' n (W + wt n)) ∨
    (∃ d', anew8 s d 0 n = (10, s, d') ∧ Finds d' fun q => q = s) := by
  obtain ⟨R, r1, r2, r3, r4, r5⟩ := h.val
  unfold anew8
  by_cases hr : n.right = false ∨ 32768 < n.snap.data.length
  · rw [if_pos hr]; exact .inl rfl
  rw [if_neg hr]
  have hr1 : n.right = true := by
    cases hq : n.right with
    | true => rfl
    | false => exact absurd (.inl hq) hr
  have hr2 : n.snap.data.length ≤ 32768 := Nat.le_of_not_lt fun hq => hr (.inr hq)
  have hwd : dw n.l ≤ 400 := by unfold wt at hw; omega
  have hlg := anew_long hn hr2 hwd
  have hfr := anew_frames hn
  have hfind : ∀ {d' : Dk}, d'.ok → d'.fl 0 = some (frames R, []) → Finds d' fun q => q = s := by
    intro d' hd' hx1
    refine ⟨hd', fun ks => ?_⟩
    obtain ⟨j, s2, d2, hj, ho, hq⟩ := open_crash (out := []) (ks := ks) hd' hx1 (.inl rfl) r4 rfl r5 h.right (fun j => ⟨s, by simp [takes], h.right⟩)
    refine ⟨s2, d2, ho, ?_⟩
    simp [takes] at hq; exact hq.symm
  by_cases hoff : d.off = true
  · have ha : d.wanew 0 (anewRecs n) = (10, d) := by
      unfold Dk.wanew Dk.replace
      rw [if_neg (by simp [hlg]), if_pos hoff]
    rw [ha, if_pos (by simp)]
    exact .inr (.inr ⟨d, rfl, hfind h.ok r1⟩)
  have hroom : ¬ d.room + sz (d.fl 0) < d.used + (frames (anewRecs n)).length := by
    rw [r1, r2, h.room]; simp [sz, firm, soft]; omega
  have hre : d.wanew 0 (anewRecs n) = if d.step.1 then (0, d.step.2.put 0 (frames (anewRecs n), [])) else (10, d.step.2) := by
    unfold Dk.wanew Dk.replace
    rw [if_neg (by simp [hlg]), if_neg hoff, if_neg hroom]
  have hfl := step_fl d
  cases hst : d.step.1 with
  | false =>
    rw [hst, if_neg (by simp)] at hre
    rw [hre, if_pos (by simp)]
    exact .inr (.inr ⟨_, rfl, hfind h.ok.step (by rw [hfl.1]; exact r1)⟩)
  | true =>
    rw [hst, if_pos rfl] at hre
    have ok1 : (d.step.2.put 0 (frames (anewRecs n), [])).ok := by
      have := h.ok.wanew (n := 0) (by omega) (anewRecs n)
      rw [hre] at this; exact this
    rw [hre, if_neg (by simp)]
    refine .inr (.inl ⟨_, rfl, ?_⟩)
    refine ⟨by show d.step.2.room = _; rw [hfl.2, h.room], ok1, ⟨anewRecs n, ?_, ?_, ?_, hlg, anew_takes hn hr1 (by omega)⟩, hn, hr1, by omega, by unfold wt; omega⟩
    · simp [Dk.put, upd]
    · have h1 := used_put d.step.2 (n := 0) (by omega) (frames (anewRecs n), [])
      have h2 : d.step.2.used = d.used := by unfold Dk.used; rw [hfl.1]
      rw [hfl.1, r1, h2, r2] at h1
      simp [sz, firm, soft] at h1
      show (d.step.2.put 0 (frames (anewRecs n), [])).used = _
      omega
    · omega

end Go.X
