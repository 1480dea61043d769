/-
  Layer 9 (wheel) in plain Lean: timers in places; what a tick does to them.
-/
import Derived.Test.YtdlalkhnppahfaaXRo
namespace Go.X
open Go

structure Tm where
  id : Int
  due : Nat
  turn : Nat
  deriving DecidableEq

/-- A timer's place, at a time. -/
def place (now due : Nat) : Nat :=
  if due / 64 = now / 64 then due % 64 else if due / 8192 = now / 8192 then 64 + due / 64 % 128 else if due / 2097152 = now / 2097152 then 192 + due / 8192 % 256 else 448

theorem place_lt (now due : Nat) : place now due < 449 := by unfold place; split <;> (try split) <;> (try split) <;> omega

/-- Timers, each at its place. -/
structure At (now : Nat) (pl : List (List Tm)) (T : List Tm) : Prop where
  len : pl.length = 449
  perm : pl.flatten.Perm T
  at_ : ∀ j (h : j < pl.length), ∀ t ∈ pl[j], place now t.due = j

def putAt (pl : List (List Tm)) (j : Nat) (t : Tm) : List (List Tm) := pl.set j (pl[j]?.getD [] ++ [t])
def putAll (now : Nat) (l : List Tm) (pl : List (List Tm)) : List (List Tm) := l.foldl (fun pl t => putAt pl (place now t.due) t) pl

theorem flatten_set {α : Type} : ∀ (pl : List (List α)) (j : Nat) (x : List α) (h : j < pl.length), ((pl.set j x).flatten).Perm (x ++ (pl.set j []).flatten)
  | y :: pl, 0, x, _ => by simp
  | y :: pl, j + 1, x, h => by
    have h' : j < pl.length := by simpa using h
    have ih := flatten_set pl j x h'
    simp only [List.set_cons_succ, List.flatten_cons]
    exact (ih.append_left y).trans (by rw [← List.append_assoc, ← List.append_assoc]; exact List.perm_append_comm.append_right _)

theorem flatten_split {α : Type} (pl : List (List α)) (j : Nat) (h : j < pl.length) : pl.flatten.Perm (pl[j] ++ (pl.set j []).flatten) := by
  have := flatten_set pl j pl[j] h
  rwa [List.set_getElem_self] at this

theorem putAt_len (pl : List (List Tm)) (j : Nat) (t : Tm) : (putAt pl j t).length = pl.length := by simp [putAt]
theorem putAt_perm {pl : List (List Tm)} {j : Nat} (h : j < pl.length) (t : Tm) : (putAt pl j t).flatten.Perm (t :: pl.flatten) := by
  unfold putAt
  rw [List.getElem?_eq_getElem h, Option.getD_some]
  refine (flatten_set pl j _ h).trans ?_
  have h1 := flatten_split pl j h
  have h2 : (pl[j] ++ [t] ++ (pl.set j []).flatten).Perm (t :: (pl[j] ++ (pl.set j []).flatten)) := by
    rw [List.append_assoc]
    exact List.perm_middle
  exact h2.trans (h1.symm.cons t)
theorem putAt_mem {pl : List (List Tm)} {j k : Nat} {t x : Tm} (hk : k < (putAt pl j t).length) (hx : x ∈ (putAt pl j t)[k]) : (∃ h : k < pl.length, x ∈ pl[k]) ∨ (k = j ∧ x = t) := by
  have hk' : k < pl.length := by rwa [putAt_len] at hk
  simp only [putAt, List.getElem_set] at hx
  split at hx
  · rename_i e
    subst e
    rw [List.getElem?_eq_getElem hk', Option.getD_some, List.mem_append] at hx
    rcases hx with hx | hx
    · exact .inl ⟨hk', hx⟩
    · simp at hx; exact .inr ⟨rfl, hx⟩
  · exact .inl ⟨hk', hx⟩

theorem putAll_len (now : Nat) : ∀ (l : List Tm) (pl : List (List Tm)), (putAll now l pl).length = pl.length
  | [], _ => rfl
  | t :: l, pl => by
    show (putAll now l (putAt pl _ t)).length = _
    rw [putAll_len now l, putAt_len]
theorem putAll_perm (now : Nat) : ∀ (l : List Tm) (pl : List (List Tm)), pl.length = 449 → (putAll now l pl).flatten.Perm (l ++ pl.flatten)
  | [], pl, _ => List.Perm.refl _
  | t :: l, pl, h => by
    show (putAll now l (putAt pl _ t)).flatten.Perm _
    refine (putAll_perm now l _ (by rw [putAt_len]; exact h)).trans ?_
    refine ((putAt_perm (by rw [h]; exact place_lt _ _) t).append_left l).trans ?_
    exact List.perm_middle
theorem putAll_at (now : Nat) : ∀ (l : List Tm) (pl : List (List Tm)), (∀ j (h : j < pl.length), ∀ t ∈ pl[j], place now t.due = j) → ∀ j (h : j < (putAll now l pl).length), ∀ t ∈ (putAll now l pl)[j], place now t.due = j
  | [], pl, hp => hp
  | t :: l, pl, hp => by
    refine putAll_at now l (putAt pl _ t) fun j h x hx => ?_
    rcases putAt_mem h hx with ⟨h', hx⟩ | ⟨rfl, rfl⟩
    · exact hp j h' x hx
    · rfl

/-- A place's timers go to theirs. -/
def casc (now j : Nat) (pl : List (List Tm)) : List (List Tm) := putAll now (pl[j]?.getD []) (pl.set j [])

theorem casc_at {now j : Nat} {pl : List (List Tm)} {T : List Tm} (hl : pl.length = 449) (hj : j < 449) (hp : pl.flatten.Perm T) (h : ∀ k (hk : k < pl.length), k ≠ j → ∀ t ∈ pl[k], place now t.due = k) : At now (casc now j pl) T := by
  have hj' : j < pl.length := by omega
  unfold casc
  rw [List.getElem?_eq_getElem hj', Option.getD_some]
  refine ⟨by rw [putAll_len]; simp [hl], ?_, putAll_at now _ _ fun k hk t ht => ?_⟩
  · exact (putAll_perm now _ _ (by simp [hl])).trans ((flatten_split pl j hj').symm.trans hp)
  · rw [List.getElem_set] at ht
    split at ht
    · cases ht
    · rename_i e
      exact h k (by simpa using hk) (fun e' => e e'.symm) t ht

/-- What a tick makes of the places, ahead of the timers that are due. -/
def tick1 (now : Nat) (pl : List (List Tm)) : List (List Tm) := if now % 8192 = 0 then casc now (192 + now / 8192 % 256) pl else pl
def tick2 (now : Nat) (pl : List (List Tm)) : List (List Tm) := if now % 64 = 0 then casc now (64 + now / 64 % 128) (tick1 now pl) else tick1 now pl

theorem tick_at {now : Nat} {pl : List (List Tm)} {T : List Tm} (h : At now pl T) (hn : now + 1 < 2097152) (hd : ∀ t ∈ T, now < t.due) : At (now + 1) (tick2 (now + 1) pl) T := by
  have hdue : ∀ k (hk : k < pl.length), ∀ t ∈ pl[k], now < t.due := fun k hk t ht => hd t (h.perm.mem_iff.1 (List.mem_flatten.2 ⟨_, List.getElem_mem hk, ht⟩))
  have hlen := h.len
  unfold tick2 tick1
  by_cases h1 : (now + 1) % 8192 = 0
  · rw [if_pos h1, if_pos (by omega)]
    have h2 : At (now + 1) (casc (now + 1) (192 + (now + 1) / 8192 % 256) pl) T := by
      refine casc_at h.len (by omega) h.perm fun k hk hne t ht => ?_
      have e1 := h.at_ k hk t ht
      have e2 := hdue k hk t ht
      unfold place at e1 ⊢
      split at e1
      · omega
      · split at e1
        · omega
        · split at e1
          · rw [if_neg (by omega), if_neg (by omega), if_pos (by omega)]; exact e1
          · rw [if_neg (by omega), if_neg (by omega), if_neg (by omega)]; exact e1
    exact casc_at h2.len (by omega) h2.perm fun k hk _ t ht => h2.at_ k hk t ht
  · rw [if_neg h1]
    by_cases h3 : (now + 1) % 64 = 0
    · rw [if_pos h3]
      refine casc_at h.len (by omega) h.perm fun k hk hne t ht => ?_
      have e1 := h.at_ k hk t ht
      have e2 := hdue k hk t ht
      unfold place at e1 ⊢
      split at e1
      · omega
      · split at e1
        · rw [if_neg (by omega), if_pos (by omega)]; exact e1
        · split at e1
          · rw [if_neg (by omega), if_neg (by omega), if_pos (by omega)]; exact e1
          · rw [if_neg (by omega), if_neg (by omega), if_neg (by omega)]; exact e1
    · rw [if_neg h3]
      refine ⟨h.len, h.perm, fun k hk t ht => ?_⟩
      have e1 := h.at_ k hk t ht
      have g1 : (now + 1) / 64 = now / 64 := by omega
      have g2 : (now + 1) / 8192 = now / 8192 := by omega
      have g3 : (now + 1) / 2097152 = now / 2097152 := by omega
      unfold place at e1 ⊢
      rw [g1, g2, g3]; exact e1

theorem filter_flatten_at {α : Type} (p : α → Bool) (pl : List (List α)) (j : Nat) (h : j < pl.length) (hj : ∀ x ∈ pl[j], p x = true) (ho : ∀ k (hk : k < pl.length), k ≠ j → ∀ x ∈ pl[k], p x = false) :
    (pl.flatten.filter p).Perm pl[j] ∧ (pl.flatten.filter fun x => !p x).Perm (pl.set j []).flatten := by
  have h1 := flatten_split pl j h
  have h2 : ∀ x ∈ (pl.set j []).flatten, p x = false := by
    intro x hx
    obtain ⟨l, hl, hx⟩ := List.mem_flatten.1 hx
    obtain ⟨k, hk, rfl⟩ := List.getElem_of_mem hl
    rw [List.getElem_set] at hx
    split at hx
    · cases hx
    · rename_i e
      exact ho k (by simpa using hk) (fun e' => e e'.symm) x hx
  have f1 : pl[j].filter p = pl[j] := List.filter_eq_self.2 hj
  have f2 : ((pl.set j []).flatten).filter p = [] := List.filter_eq_nil_iff.2 fun x hx => by rw [h2 x hx]; simp
  have f3 : pl[j].filter (fun x => !p x) = [] := List.filter_eq_nil_iff.2 fun x hx => by rw [hj x hx]; simp
  have f4 : ((pl.set j []).flatten).filter (fun x => !p x) = (pl.set j []).flatten := List.filter_eq_self.2 fun x hx => by rw [h2 x hx]; rfl
  constructor
  · have := h1.filter p
    rwa [List.filter_append, f1, f2, List.append_nil] at this
  · have := h1.filter fun x => !p x
    rwa [List.filter_append, f3, f4, List.nil_append] at this

/-- The timers that are due. -/
theorem due_at {now : Nat} {pl : List (List Tm)} {T : List Tm} (h : At now pl T) (hd : ∀ t ∈ T, now ≤ t.due) :
    (∃ hj : now % 64 < pl.length, (pl[now % 64]).Perm (T.filter fun t => decide (t.due = now))) ∧ At now (pl.set (now % 64) []) (T.filter fun t => !decide (t.due = now)) := by
  have hj : now % 64 < pl.length := by rw [h.len]; omega
  have hdue : ∀ k (hk : k < pl.length), ∀ t ∈ pl[k], now ≤ t.due := fun k hk t ht => hd t (h.perm.mem_iff.1 (List.mem_flatten.2 ⟨_, List.getElem_mem hk, ht⟩))
  have h1 := filter_flatten_at (fun t => decide (t.due = now)) pl (now % 64) hj (fun t ht => by
      have e1 := h.at_ _ hj t ht
      have e2 := hdue _ hj t ht
      unfold place at e1
      split at e1
      · simp; omega
      · split at e1
        · omega
        · split at e1 <;> omega) (fun k hk hne t ht => by
      have e1 := h.at_ k hk t ht
      simp only [decide_eq_false_iff_not]
      intro e
      apply hne
      rw [← e1, e]
      unfold place
      rw [if_pos rfl])
  refine ⟨⟨hj, (h1.1.symm).trans (h.perm.filter _)⟩, by simp [h.len], (h1.2.symm).trans (h.perm.filter _), fun k hk t ht => ?_⟩
  rw [List.getElem_set] at ht
  split at ht
  · cases ht
  · exact h.at_ k (by simpa using hk) t ht

theorem perm_sorted {l m : List Tm} (hp : l.Perm m) (hl : l.Pairwise (fun a b => a.turn < b.turn)) (hm : m.Pairwise (fun a b => a.turn < b.turn)) : l = m :=
  hp.eq_of_pairwise (fun a b _ _ h1 h2 => by omega) hl hm

end Go.X
