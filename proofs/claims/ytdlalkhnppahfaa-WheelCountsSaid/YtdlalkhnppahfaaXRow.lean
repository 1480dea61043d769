/-
  What append, conversions and slicing do to rows that a call owns: over whatever program.
-/
import Derived.Test.YtdlalkhnppahfaaXWord
import Derived.Deep.AppendSrc
import Derived.Laws.IdiomStrings
import Derived.Laws.BytesArg
namespace Go.X
open Go

/-- A slice type, its elements' type, how many cells and bytes an element has. -/
structure El (P : Program) (t e : TypeId) (size bytes : Nat) : Prop where
  under : P.underlying t = some (.slice e)
  info : ∃ i z, P.info? e = some i ∧ i.zero = some z ∧ i.size = size ∧ i.bytes = bytes ∧ z.cells.size = size
  pos : 0 < size

def elOk (P : Program) (t e size bytes : Nat) : Bool :=
  (match P.underlying t with | some (.slice e') => e' == e | _ => false) && decide (0 < size) &&
  (match P.info? e with | some i => i.size == size && i.bytes == bytes && (match i.zero with | some z => z.cells.size == size | none => false) | none => false)

theorem El.of {P : Program} {t e size bytes : Nat} (h : elOk P t e size bytes = true) : El P t e size bytes := by
  unfold elOk at h
  simp only [Bool.and_eq_true, decide_eq_true_eq] at h
  obtain ⟨⟨h1, h2⟩, h3⟩ := h
  refine ⟨?_, ?_, h2⟩
  · split at h1
    · rename_i e' he; rw [he]; simp at h1; rw [h1]
    · cases h1
  · split at h3
    · rename_i i hi
      simp only [Bool.and_eq_true, beq_iff_eq] at h3
      obtain ⟨⟨h4, h5⟩, h6⟩ := h3
      split at h6
      · rename_i z hz; exact ⟨i, z, hi, hz, h4, h5, by simpa using h6⟩
      · cases h6
    · cases h3

/-- Bytes as cells. -/
def bc (l : List UInt8) : List Value := l.map fun b => .int .u8 (b.toNat : Int)
@[simp] theorem bc_length (l : List UInt8) : (bc l).length = l.length := by simp [bc]
@[simp] theorem bc_append (a b : List UInt8) : bc a ++ bc b = bc (a ++ b) := by simp [bc]
theorem bc_get? (l : List UInt8) (i : Nat) : (bc l)[i]? = l[i]?.map fun b => Value.int .u8 (b.toNat : Int) := by simp [bc]
theorem byteCells_bs (l : List UInt8) : byteCells (bs l) = bc l := rfl

section
variable {P : Program} {w0 w : World} {r : List A} {t e ty tx : TypeId} {size bytes : Nat} {a : Option Addr} {n c : Nat} {xs news : List Value} {x : Value} {m : Nat} {K : Option Addr → Nat → Nat → World → Prop}

theorem wr_eq : ∀ (xs : List Value) (l : List Value) (o : Nat), o + xs.length ≤ l.length → wr l o xs = l.take o ++ xs ++ l.drop (o + xs.length)
  | [], l, o, h => by simp [wr]
  | v :: xs, l, o, h => by
    simp only [List.length_cons] at h
    have hv : o < l.length := by omega
    have e1 : (l.set o v).take (o + 1) = l.take o ++ [v] := by
      rw [List.take_set]
      rw [List.take_succ_eq_append_getElem hv, List.set_append_right _ _ (by simp; omega)]
      have g : o - min o l.length = 0 := by omega
      simp [g]
    have e2 : (l.set o v).drop (o + 1 + xs.length) = l.drop (o + (xs.length + 1)) := by
      rw [List.drop_set_of_lt (by omega)]; congr 1; omega
    rw [wr, wr_eq xs (l.set o v) (o + 1) (by simp; omega), e1, e2]
    simp

/-- 'append' upon a row that is ours. -/
theorem Has.app (el : El P t e size bytes) (H : Has w0 w (ow e size a n c xs :: r)) (hs : Src P size tx x m news w) (b1 : (n + m) * bytes ≤ 140737488355328) (b2 : n + m ≤ maxLen)
    (k : ∀ a' c' w', Has w0 w' (ow e size a' (n + m) c' (xs ++ news) :: r) → K a' (n + m) c' w') : exSl P (Builtin.append_ #[t, tx] ty #[.slice a n c, x]) K w := by
  obtain ⟨ht, ⟨i, z, hi, hz, rfl, rfl, hzs⟩, hpos⟩ := el
  have hg := H
  obtain ⟨hb, D, ⟨D1, D2, hu, hx, ha, hr⟩, hge⟩ := hg
  obtain ⟨hxl, ha⟩ := ha
  by_cases hroom : n + m ≤ c
  · rcases ha with ⟨rfl, rfl, rfl, _⟩ | ⟨b, cur, mk, rfl, hD, hcur, hnc, hcm, hsz, htk, hmk⟩
    · obtain rfl : m = 0 := by omega
      obtain rfl : news = [] := List.eq_nil_of_length_eq_zero (by simpa using hs.newsLen)
      have hrun : (Builtin.append_ #[t, tx] ty #[.slice none 0 0, x]).run P w = .ok (.slice none 0 0) w := by
        rcases hs.kind with ⟨e', hk⟩ | hk <;> simp [Builtin.append_, run_underlying ht, run_underlying hk, sizeOf, typeInfo, hi, hs.len, hs.cells]
      unfold exSl; rw [hrun]
      exact k none 0 w (by simpa using H)
    · have hrow := Nat.mul_le_mul_right i.size hroom
      rw [Nat.add_mul, ← hs.newsLen] at hrow
      have hc : ∀ j, j < news.length → (w.cell? ⟨b, 0 + n * i.size + j, none⟩).isSome = true := fun j hj => by
        rw [cell_of_row w b _ cur e mk hcur, Nat.zero_add]
        have : n * i.size + j < cur.size := by omega
        simp [this]
      have hf : ∀ j, j < news.length → w.frozen? ⟨b, 0 + n * i.size + j, none⟩ = false := fun j hj => by
        unfold World.frozen?
        simp only [hcur]
        rcases hmk with h | h
        · simp; omega
        · simp; omega
      have hrun := run_append_room_src (P := P) w t tx ty e i ht hi b 0 n c x m news hs hroom hc hf
      unfold exSl; rw [hrun]
      refine k _ _ _ ?_
      have hset : w.heap[b]? = some (.cells cur.toList.toArray e mk) := by simpa using hcur
      obtain ⟨e1, e2, e3, e4⟩ := setCells_rest b news (0 + n * i.size) w
      have hat := setCells_at b news (0 + n * i.size) w cur.toList hset
      have H2 : Has w0 w (blk b (.cells cur e mk) :: r) := ⟨hb, D, ⟨D1, D2, hu, hx, ⟨hD, hcur⟩, hr⟩, hge⟩
      have H3 := H2.turn e1 e2 e3 e4 hat (fun j hj => setCells_block b news (0 + n * i.size) w j hj)
      refine H3.imp fun D hd => ⟨by rw [List.length_append, hxl, hs.newsLen, Nat.add_mul], .inr ⟨b, _, mk, rfl, hd.1, hd.2, hroom, hcm, by simp [wr_length, hsz], ?_, ?_⟩⟩
      · rw [Nat.zero_add, wr_eq _ _ _ (by simp; omega)]
        have hl : (cur.toList.take (n * i.size) ++ news).length = (n + m) * i.size := by rw [List.length_append, htk, hxl, hs.newsLen, Nat.add_mul]
        simp only []
        rw [← hl, List.take_left, htk]
      · simpa [wr_length] using hmk
  · have hcmax := grownCap_le_maxLen w (n + m) c e b2
    have hgt := grownCap_ge w (n + m) c e
    have hold : (Builtin.firstCells i.size n (.slice a n c)).run P w.drew = .ok xs.toArray w.drew := by
      rcases ha with ⟨rfl, rfl, rfl, _⟩ | ⟨b, cur, mk, rfl, hD, hcur, hnc, hcm, hsz, htk, hmk⟩
      · obtain rfl : xs = [] := List.eq_nil_of_length_eq_zero (by simpa using hxl)
        exact run_firstCells_none w.drew i.size 0 0 0
      · refine run_firstCells_some w.drew i.size n _ n c xs hxl fun j v hj => ?_
        rw [Addr.add_lit, Nat.zero_add]
        show w.cell? _ = _
        rw [cell_of_row w b j cur e mk hcur]
        rw [← htk, List.getElem?_take] at hj
        split at hj
        · simpa using hj
        · cases hj
    have hrun := run_append_grow_src (P := P) w t tx ty e i z ht hi hz a n c xs hold x m news hs (by omega) (by simp only [maxLen] at b2; omega) (growslice_fits (by omega) b1)
    unfold exSl; rw [hrun]
    refine k _ _ _ ?_
    have H2 := (H.drop.drew).new (.cells ((xs ++ news).toArray ++ Builtin.zeroCells z.cells (grownCap w (n + m) c e - (n + m))) e)
    have hl : (xs ++ news).length = (n + m) * i.size := by rw [List.length_append, hxl, hs.newsLen, Nat.add_mul]
    refine H2.imp fun D hd => ⟨hl, .inr ⟨_, _, _, rfl, hd.1, hd.2, hgt, hcmax, ?_, ?_, .inl (Nat.le_refl _)⟩⟩
    · rw [Array.size_append, size_zeroCells, List.size_toArray, hl, hzs, ← Nat.add_mul]
      exact Nat.mul_le_mul_right _ (by omega)
    · simp only [Array.toList_append]
      rw [← hl]
      exact List.take_left

/-- .. upon nothing. -/
theorem Has.app0 (el : El P t e size bytes) (H : Has w0 w r) (hs : Src P size tx x m news w) (b1 : m * bytes ≤ 140737488355328) (b2 : m ≤ maxLen)
    (k : ∀ a' c' w', Has w0 w' (ow e size a' m c' news :: r) → K a' m c' w') : exSl P (Builtin.append_ #[t, tx] ty #[.slice none 0 0, x]) K w := by
  have := H.mkow0 e size
  refine Has.app (K := K) (n := 0) (m := m) el this hs (by simpa using b1) (by simpa using b2) fun a' c' w' H => ?_
  simp only [Nat.zero_add, List.nil_append] at H ⊢
  exact k a' c' w' H

/-- What is appended: a block of cells that is there. -/
theorem Has.src {b T : Nat} {vs : List Value} (el : El P tx e size bytes) (H : Has w0 w (ca b T vs :: r)) (hl : vs.length = m * size) (h1 : vs.all Value.oneCell' = true) {cc : Nat} : Src P size tx (.slice (some ⟨b, 0, none⟩) m cc) m vs w :=
  Src.ofSlice w el.under _ m cc vs hl (fun j u hj => by rw [Addr.add_lit, Nat.zero_add]; exact H.cell hj) (fun x hx => List.all_eq_true.1 h1 x hx)

/-- What is appended: a slice that is ours. -/
theorem Has.osrc (el : El P tx e size bytes) (H : Has w0 w (ow e size a n c xs :: r)) (h1 : ∀ x ∈ xs, x.oneCell' = true) : Src P size tx (.slice a n c) n xs w := by
  have hl := H.owLen.1
  by_cases hn : 0 < n
  · obtain ⟨b, rfl, hc⟩ := H.owCell hn
    exact Src.ofSlice w el.under _ n c xs hl (fun j u hj => by rw [Addr.add_lit, Nat.zero_add]; exact hc j u hj) h1
  · obtain rfl : n = 0 := by omega
    obtain rfl : xs = [] := List.eq_nil_of_length_eq_zero (by simpa using hl)
    cases a with
    | none => exact Src.ofNil w el.under c
    | some a => exact Src.ofSlice w el.under _ 0 c [] (by simp) (fun j u hj => by cases hj) h1

theorem bc_one (l : List UInt8) : ∀ x ∈ bc l, x.oneCell' = true := fun x hx => by
  obtain ⟨_, _, rfl⟩ := List.mem_map.1 hx; rfl

/-- A row's bytes as a text. -/
theorem Has.b2s (hu : P.underlying t = some (.slice e)) (he : P.underlying e = some (.int .u8)) (hd : P.underlying tx = some .string) {l : List UInt8} (H : Has w0 w (ow e 1 a n c (bc l) :: r)) : b2sR P t tx (.slice a n c) (bs l) w := by
  have hl := H.owLen.1
  obtain rfl : n = l.length := by simpa using hl.symm
  unfold b2sR
  by_cases hn : 0 < l.length
  · obtain ⟨b, rfl, hc⟩ := H.owCell hn
    exact run_convert_bytes_back w t tx e ⟨b, 0, none⟩ c l hu he hd fun j hj => by rw [Addr.add_lit, Nat.zero_add]; exact hc j _ (by rw [bc_get?, List.getElem?_eq_getElem hj]; rfl)
  · obtain rfl : l = [] := List.eq_nil_of_length_eq_zero (by omega)
    cases a with
    | none => exact run_convert_bytes_nil w t e hu he 0 c tx hd
    | some a => exact run_convert_bytes_back w t tx e a c [] hu he hd (fun j hj => by cases hj)

/-- A block's bytes as a text. -/
theorem Has.b2sc (hu : P.underlying t = some (.slice e)) (he : P.underlying e = some (.int .u8)) (hd : P.underlying tx = some .string) {b T : Nat} {l : List UInt8} (H : Has w0 w (ca b T (bc l) :: r)) (hn : n = l.length) {cc : Nat} : b2sR P t tx (.slice (some ⟨b, 0, none⟩) n cc) (bs l) w := by
  subst hn
  unfold b2sR
  exact run_convert_bytes_back w t tx e ⟨b, 0, none⟩ cc l hu he hd fun j hj => by rw [Addr.add_lit, Nat.zero_add]; exact H.cell (by rw [bc_get?, List.getElem?_eq_getElem hj]; rfl)

/-- A text's bytes as a row. -/
theorem Has.s2b (hs : P.underlying tx = some .string) (hd : P.underlying t = some (.slice e)) (he : P.underlying e = some (.int .u8)) {l : List UInt8} (H : Has w0 w r) (hl : l.length ≤ maxLen)
    (k : ∀ a' c' w', Has w0 w' (ow e 1 a' l.length c' (bc l) :: r) → K a' l.length c' w') : exSl P (convert tx t (.string (bs l))) K w := by
  unfold exSl
  rw [run_bytes_of_string w tx t e (bs l) hs hd he]
  refine k _ _ _ ?_
  have hge := grownCap_ge w (bs l).size 0 e
  have hle := grownCap_le_maxLen w (bs l).size 0 e hl
  have hz : (bytesRow (bs l) (grownCap w (bs l).size 0 e)).size = grownCap w (bs l).size 0 e := by
    have : (Array.map (fun b : UInt8 => Value.int .u8 (b.toNat : Int)) (bs l).data).size = l.length := by simp [bs]
    simp only [bytesRow, Array.size_append, this, Array.size_replicate]
    simp only [bs_size] at hge ⊢
    omega
  refine (H.drew.new _).imp fun D hd => ⟨by simp, .inr ⟨_, _, _, rfl, hd.1, hd.2, hge, hle, by omega, ?_, .inr (Nat.le_refl _)⟩⟩
  simp [bytesRow, bs, bc]

/-- A shorter slice of the same row. -/
theorem Has.owTake (H : Has w0 w (ow e size a n c xs :: r)) (hk : m ≤ n) : Has w0 w (ow e size a m c (xs.take (m * size)) :: r) := by
  refine H.imp fun D hd => ?_
  obtain ⟨hl, hd⟩ := hd
  have hmn := Nat.mul_le_mul_right size hk
  refine ⟨by rw [List.length_take, hl]; omega, ?_⟩
  rcases hd with ⟨rfl, rfl, rfl, h⟩ | ⟨b, cur, mk, rfl, h1, h2, h3, h4, h5, h6, h7⟩
  · exact .inl ⟨rfl, by omega, rfl, h⟩
  · refine .inr ⟨b, cur, mk, rfl, h1, h2, by omega, h4, h5, ?_, h7⟩
    rw [← h6, List.take_take]; congr 1; omega

/-- The same slice with less room. -/
theorem Has.owCap (H : Has w0 w (ow e size a n c xs :: r)) {c' : Nat} (h1 : n ≤ c') (h2 : c' ≤ c) : Has w0 w (ow e size a n c' xs :: r) := by
  refine H.imp fun D hd => ?_
  obtain ⟨hl, hd⟩ := hd
  refine ⟨hl, ?_⟩
  rcases hd with ⟨rfl, rfl, rfl, h⟩ | ⟨b, cur, mk, rfl, h3, h4, h5, h6, h7, h8, h9⟩
  · obtain rfl : c' = 0 := by omega
    exact .inl ⟨rfl, rfl, rfl, h⟩
  · exact .inr ⟨b, cur, mk, rfl, h3, h4, h1, by omega, Nat.le_trans (Nat.mul_le_mul_right size h2) h7, h8, h9⟩

theorem set_byte {o v : Nat} {l : List UInt8} (h : o < l.length) (hv : v < 256) : (bc l).set o (.int .u8 (v : Int)) = bc (l.set o (UInt8.ofNat v)) := by
  unfold bc
  rw [List.map_set]
  congr 2
  simp; omega

/-- A store into a row that is ours. -/
theorem Has.owSt {b o : Nat} {ys : List Value} {L : World → Prop} (H : Has w0 w (ow e size (some ⟨b, 0, none⟩) n c xs :: r)) (hl : o + ys.length ≤ xs.length) (h1 : ys.all Value.oneCell' = true)
    (k : ∀ w', Has w0 w' (ow e size (some ⟨b, 0, none⟩) n c (wr xs o ys) :: r) → L w') : stD w b o ys L := by
  obtain ⟨hb, D, ⟨D1, D2, hu, hx, ⟨hxl, ha⟩, hr⟩, hge⟩ := H
  rcases ha with ⟨h, _⟩ | ⟨b', cur, mk, hbb, hD, hcur, hnc, hcm, hsz, htk, hmk⟩
  · cases h
  · obtain rfl : b = b' := by simpa using hbb
    have hnsz := Nat.mul_le_mul_right size hnc
    have H2 : Has w0 w (blk b (.cells cur.toList.toArray e mk) :: r) := ⟨hb, D, ⟨D1, D2, hu, hx, ⟨hD, by simpa using hcur⟩, hr⟩, hge⟩
    have hcl : cur.toList.length = cur.size := by simp
    refine Has.stm H2 (by omega) (fun j h1 h2 h3 => by rcases hmk with h | h <;> omega) (fun x hx => List.all_eq_true.1 h1 x hx) fun w' H3 => ?_
    refine k w' (H3.imp fun D hd => ⟨by rw [wr_length]; exact hxl, .inr ⟨b, _, mk, rfl, hd.1, hd.2, hnc, hcm, by simp [wr_length, hsz], ?_, by simpa [wr_length] using hmk⟩⟩)
    simp only []
    rw [wr_eq _ _ _ (by omega), wr_eq _ _ _ hl, ← htk]
    rw [hxl] at hl
    have e0 : ys.length + o ≤ n * size := by omega
    rw [List.take_append, List.take_append, List.take_take, List.take_take, List.drop_take]
    simp only [List.length_append, List.length_take, hcl]
    have g1 : min (n * size) o = o := by omega
    have g2 : min o cur.size = o := by omega
    have g3 : min o (n * size) = o := by omega
    have g4 : n * size - min o cur.size - ys.length = n * size - (o + ys.length) := by omega
    have g5 : min (n * size) o - 0 = o := by omega
    simp only [g1, g2, g3, g4]
    rw [List.take_of_length_le (l := ys) (by omega)]

end
end Go.X
