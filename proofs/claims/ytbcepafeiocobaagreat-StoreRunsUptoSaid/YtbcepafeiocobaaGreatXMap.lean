/-
  Maps with whole numbers as keys that a call owns: over whatever program.
-/
import Derived.Test.YtbcepafeiocobaaGreatXView
import Derived.Maps.RangeRun
namespace Go.X
open Go
open Go.MapKept (Stamped IsKey findNow_spec stamped_push stamped_modify)

def mget (l : List (Int × Value)) (k : Int) : Option Value := (l.find? (·.1 == k)).map (·.2)
def mset (l : List (Int × Value)) (k : Int) (v : Value) : List (Int × Value) := if (mget l k).isSome then l.map (fun p => if p.1 = k then (k, v) else p) else l ++ [(k, v)]

def MapIs (es : Array MapEntry) (clock : Nat) (l : List (Int × Value)) : Prop := Stamped es clock ∧ es.toList.map (fun e => (e.key, e.val)) = l.map fun p => (Value.int .i64 p.1, p.2)

/-- A map that is ours. -/
def mpA (b : Nat) (l : List (Int × Value)) : A := ex fun p : Array MapEntry × Nat => star (blk b (.map p.1 p.2)) (pur' (MapIs p.1 p.2 l))

theorem MapIs.key {es : Array MapEntry} {clock : Nat} {l : List (Int × Value)} (h : MapIs es clock l) : ∀ x ∈ es.toList, IsKey (.int .i64) x.key := by
  intro x hx
  have : (x.key, x.val) ∈ es.toList.map (fun e => (e.key, e.val)) := List.mem_map.2 ⟨x, hx, rfl⟩
  rw [h.2] at this
  obtain ⟨p, _, hp⟩ := List.mem_map.1 this
  have : x.key = .int .i64 p.1 := (congrArg Prod.fst hp).symm
  rw [this]; exact rfl

theorem MapIs.nodup {es : Array MapEntry} {clock : Nat} {l : List (Int × Value)} (h : MapIs es clock l) : (l.map (·.1)).Nodup := by
  have h1 := h.1.2.2
  have h2 := congrArg (List.map Prod.fst) h.2
  simp only [List.map_map] at h2
  have h3 : es.toList.map (·.key) = (l.map (·.1)).map (Value.int .i64) := by
    rw [List.map_map]; exact h2
  rw [h3] at h1
  exact (List.pairwise_map.1 h1).imp fun h e => h (by rw [e])

theorem mget_mem {l : List (Int × Value)} (hn : (l.map (·.1)).Nodup) {k : Int} {v : Value} (h : (k, v) ∈ l) : mget l k = some v := by
  induction l with
  | nil => cases h
  | cons p t ih =>
    simp only [List.map_cons, List.nodup_cons] at hn
    unfold mget
    rcases List.mem_cons.1 h with rfl | h
    · simp
    · have : p.1 ≠ k := fun e => hn.1 (by rw [e]; exact List.mem_map.2 ⟨_, h, rfl⟩)
      rw [List.find?_cons]
      have hb : (p.1 == k) = false := by simpa using this
      rw [hb]
      exact ih hn.2 h

theorem mget_of {l : List (Int × Value)} {k : Int} {v : Value} (h : mget l k = some v) : (k, v) ∈ l := by
  unfold mget at h
  simp only [Option.map_eq_some_iff] at h
  obtain ⟨p, hp, rfl⟩ := h
  have h1 := List.mem_of_find?_eq_some hp
  have h2 := List.find?_some hp
  have : p.1 = k := by simpa using h2
  rw [← this]; exact h1

theorem mget_none {l : List (Int × Value)} {k : Int} (h : ∀ p ∈ l, p.1 ≠ k) : mget l k = none := by
  unfold mget
  rw [List.find?_eq_none.2 (fun p hp => by simpa using h p hp)]; rfl

theorem mget_mset (l : List (Int × Value)) (k : Int) (v : Value) (k' : Int) : mget (mset l k v) k' = if k' = k then some v else mget l k' := by
  unfold mset
  split
  · rename_i h
    induction l with
    | nil => simp [mget] at h
    | cons p t ih =>
      by_cases hp : p.1 = k
      · subst hp
        by_cases hk : k' = p.1
        · subst hk; simp [mget]
        · have hb : (p.1 == k') = false := by simp; exact fun e => hk e.symm
          have : ∀ t : List (Int × Value), (t.map fun q => if q.1 = p.1 then (p.1, v) else q).find? (·.1 == k') = t.find? (·.1 == k') := by
            intro t
            induction t with
            | nil => rfl
            | cons q t ih =>
              by_cases hq : q.1 = p.1
              · simp only [List.map_cons, if_pos hq, List.find?_cons, hb]
                rw [show (q.1 == k') = false from by rw [hq]; exact hb]; exact ih
              · simp only [List.map_cons, if_neg hq, List.find?_cons]
                split
                · rfl
                · exact ih
          unfold mget
          rw [this, if_neg hk]
      · have h2 : (mget t k).isSome = true := by
          unfold mget at h ⊢
          rw [List.find?_cons, show (p.1 == k) = false from by simpa using hp] at h
          exact h
        have ih := ih h2
        unfold mget at ih ⊢
        simp only [List.map_cons, if_neg hp, List.find?_cons]
        by_cases hk : p.1 = k'
        · have : k' ≠ k := fun e => hp (hk.trans e)
          simp [hk, this]
        · rw [show (p.1 == k') = false from by simpa using hk]
          exact ih
  · rename_i h
    have hn : mget l k = none := by simpa using h
    unfold mget at hn ⊢
    rw [List.find?_append]
    by_cases hk : k' = k
    · subst hk
      have : l.find? (·.1 == k') = none := by simpa using hn
      rw [this]; simp
    · have : ([(k, v)] : List (Int × Value)).find? (·.1 == k') = none := by simp; exact fun e => hk e.symm
      rw [this, if_neg hk]; simp

section
variable {P : Program} {w0 w : World} {r : List A} {t kt e b : Nat} {l : List (Int × Value)} {k : Int} {z v : Value}

theorem Has.mp (H : Has w0 w (mpA b l :: r)) : ∃ es clock, MapIs es clock l ∧ Has w0 w (blk b (.map es clock) :: r) := by
  obtain ⟨⟨es, clock⟩, H⟩ := H.ex
  have H := H.star.f1
  obtain ⟨hm, H⟩ := H.pur
  exact ⟨es, clock, hm, H⟩

theorem Has.mkmp {es : Array MapEntry} {clock : Nat} (hm : MapIs es clock l) (H : Has w0 w (blk b (.map es clock) :: r)) : Has w0 w (mpA b l :: r) :=
  Has.mkex (es, clock) (Has.unstar (H.mkpur hm).f1)

theorem Has.mp0 (H : Has w0 w (blk b (.map #[] 0) :: r)) : Has w0 w (mpA b [] :: r) := H.mkmp ⟨⟨by simp, by simp, by simp⟩, rfl⟩

theorem mapIs_get {es : Array MapEntry} {clock : Nat} (hm : MapIs es clock l) (k : Int) : Instr.findNow (.int .i64) (.int .i64 k) es.toList 0 = some none ∧ mget l k = none ∧ (∀ x ∈ es.toList, x.key ≠ .int .i64 k) ∨
    ∃ (j : Nat) (x : MapEntry), Instr.findNow (.int .i64) (.int .i64 k) es.toList 0 = some (some (j, x.val)) ∧ es.toList[j]? = some x ∧ x.key = .int .i64 k ∧ mget l k = some x.val ∧ l[j]? = some (k, x.val) := by
  rcases findNow_spec (d := .int .i64) (k := .int .i64 k) rfl es.toList 0 hm.key with ⟨h1, h2⟩ | ⟨j, x, h1, h2, h3⟩
  · refine .inl ⟨h1, mget_none fun p hp e => ?_, h2⟩
    have : (Value.int .i64 p.1, p.2) ∈ es.toList.map (fun e => (e.key, e.val)) := by rw [hm.2]; exact List.mem_map.2 ⟨p, hp, rfl⟩
    obtain ⟨x, hx, hxe⟩ := List.mem_map.1 this
    have hk : x.key = .int .i64 p.1 := congrArg Prod.fst hxe
    exact h2 x hx (by rw [hk, e])
  · refine .inr ⟨j, x, by simpa using h1, h2, h3, ?_⟩
    have hj := congrArg (fun l => l[j]?) hm.2
    simp only [List.getElem?_map, h2, Option.map_some] at hj
    cases hl : l[j]? with
    | none => rw [hl] at hj; cases hj
    | some p =>
      rw [hl] at hj
      simp only [Option.map_some, Option.some.injEq, Prod.mk.injEq] at hj
      have hk : p.1 = k := by
        have := hj.1.symm.trans h3
        cases this; rfl
      have hp : p = (k, x.val) := by rw [← hk, hj.2]
      refine ⟨mget_mem hm.nodup ?_, by rw [hp]⟩
      rw [← hp]; exact List.mem_of_getElem? hl

theorem Has.look (ht : P.underlying t = some (.map kt e)) (hk : P.underlying kt = some (.int .i64)) (hz : (P.info? e).bind (·.zero) = some z) (H : Has w0 w (mpA b l :: r)) (k : Int) :
    lookR P t (.map (some b)) (.int .i64 k) false ((mget l k).getD z) w ∧ lookR P t (.map (some b)) (.int .i64 k) true (.tuple #[(mget l k).getD z, .bool (mget l k).isSome]) w := by
  obtain ⟨es, clock, hm, H⟩ := H.mp
  have hb := H.get
  cases hi : P.info? e with
  | none => rw [hi] at hz; cases hz
  | some i =>
    rw [hi] at hz
    have hz : i.zero = some z := hz
    unfold lookR
    rcases mapIs_get hm k with ⟨h1, h2, _⟩ | ⟨j, x, h1, _, _, h2, _⟩
    · rw [h2]
      constructor <;> simp [Instr.lookup, run_underlying ht, MapKept.run_getObj_map hb, MapKept.run_checkKey hk (k := .int .i64 k) rfl, MapKept.run_findKey hk h1, zeroValue, typeInfo, hi, hz, Result.andThen]
    · rw [h2]
      constructor <;> simp [Instr.lookup, run_underlying ht, MapKept.run_getObj_map hb, MapKept.run_checkKey hk (k := .int .i64 k) rfl, MapKept.run_findKey hk h1, Result.andThen]

theorem Has.upd (ht : P.underlying t = some (.map kt e)) (hk : P.underlying kt = some (.int .i64)) (H : Has w0 w (mpA b l :: r)) {k : Int} {v : Value} {K : World → Prop}
    (f : ∀ w', Has w0 w' (mpA b (mset l k v) :: r) → K w') : exU P (Instr.mapUpdate t (.map (some b)) (.int .i64 k) v) K w := by
  obtain ⟨es, clock, hm, H⟩ := H.mp
  have hb := H.get
  have turn : ∀ o, Has w0 { w with heap := w.heap.setIfInBounds b o } (blk b o :: r) := fun o => H.turn rfl rfl rfl (by simp) (MapKept.heap_set hb).1 (MapKept.heap_set hb).2
  unfold exU
  rcases mapIs_get hm k with ⟨h1, h2, h3⟩ | ⟨j, x, h1, h2, h3, h4, h5⟩
  · have hr : (Instr.mapUpdate t (.map (some b)) (.int .i64 k) v).run P w = .ok () { w with heap := w.heap.setIfInBounds b (.map (es.push { key := .int .i64 k, val := v, born := clock }) (clock + 1)) } := by
      simp [Instr.mapUpdate, run_underlying ht, MapKept.run_getObj_map hb, MapKept.run_checkKey hk (k := .int .i64 k) rfl, MapKept.run_findKey hk h1, MapKept.run_setObj_map _ hb, Result.andThen]
    rw [hr]
    refine f _ ((turn _).mkmp ⟨stamped_push hm.1 h3, ?_⟩)
    have : mset l k v = l ++ [(k, v)] := by unfold mset; rw [if_neg (by simp [h2])]
    rw [this]
    simp [hm.2]
  · have hj : es[j]? = some x := by simpa using h2
    have hr : (Instr.mapUpdate t (.map (some b)) (.int .i64 k) v).run P w = .ok () { w with heap := w.heap.setIfInBounds b (.map (es.modify j fun e => { e with key := .int .i64 k, val := v }) clock) } := by
      simp [Instr.mapUpdate, run_underlying ht, MapKept.run_getObj_map hb, MapKept.run_checkKey hk (k := .int .i64 k) rfl, MapKept.run_findKey hk h1, MapKept.run_setObj_map _ hb, Result.andThen, hj, h3, MapKept.run_keyThatStays (d := .int .i64) (k := .int .i64 k) rfl]
    rw [hr]
    have hkey : ∀ e', es[j]? = some e' → ({ e' with key := .int .i64 k, val := v } : MapEntry).key = e'.key := fun e' he' => by rw [hj] at he'; cases he'; exact h3.symm
    refine f _ ((turn _).mkmp ⟨stamped_modify hm.1 j (fun e => { e with key := .int .i64 k, val := v }) (fun _ _ => rfl) (fun e' _ he' => hkey e' he'), ?_⟩)
    have : mset l k v = l.map (fun p => if p.1 = k then (k, v) else p) := by unfold mset; rw [if_pos (by simp [h4])]
    rw [this]
    apply List.ext_getElem?
    intro i
    have hmi := congrArg (fun l => l[i]?) hm.2
    simp only [List.getElem?_map, Array.getElem?_toList] at hmi
    simp only [List.getElem?_map, Array.getElem?_toList, Array.getElem?_modify]
    have hnd := hm.nodup
    by_cases hij : j = i
    · subst hij
      simp [hj, h5]
    · rw [if_neg hij, hmi]
      cases hl : l[i]? with
      | none => rfl
      | some p =>
        have : p.1 ≠ k := by
          intro e
          have h6 : (l.map (·.1))[i]? = some k := by rw [List.getElem?_map, hl]; simp [e]
          have h7 : (l.map (·.1))[j]? = some k := by rw [List.getElem?_map, h5]; rfl
          have hi1 := (List.getElem?_eq_some_iff.1 h6).1
          exact hij (((List.getElem?_inj hi1 hnd).1 (h6.trans h7.symm)).symm)
        simp [this]

/-! ### Going through a map -/

/-- A map that is gone through, its iterator, and what is left. -/
def itA (it b : Nat) (l left : List (Int × Value)) : A := ex fun p : Array MapEntry × Nat × Array Nat => star (blk it (.mapIter (some b) p.2.1 p.2.2 p.2.1)) (star (blk b (.map p.1 p.2.1)) (pur' (MapIs p.1 p.2.1 l ∧ (leftOf p.1 p.2.2).toList.map (fun e => (e.key, e.val)) = left.map fun p => (Value.int .i64 p.1, p.2))))

theorem Has.it {it : Nat} {left : List (Int × Value)} (H : Has w0 w (itA it b l left :: r)) : ∃ es clock seen, MapIs es clock l ∧ (leftOf es seen).toList.map (fun e => (e.key, e.val)) = left.map (fun p => (Value.int .i64 p.1, p.2)) ∧
    Has w0 w (blk it (.mapIter (some b) clock seen clock) :: blk b (.map es clock) :: r) := by
  obtain ⟨⟨es, clock, seen⟩, H⟩ := H.ex
  have H := H.star.f1.star.f1
  obtain ⟨⟨h1, h2⟩, H⟩ := H.pur
  exact ⟨es, clock, seen, h1, h2, H.f1⟩

theorem Has.mkit {it : Nat} {left : List (Int × Value)} {es : Array MapEntry} {clock : Nat} {seen : Array Nat} (h1 : MapIs es clock l) (h2 : (leftOf es seen).toList.map (fun e => (e.key, e.val)) = left.map (fun p => (Value.int .i64 p.1, p.2)))
    (H : Has w0 w (blk it (.mapIter (some b) clock seen clock) :: blk b (.map es clock) :: r)) : Has w0 w (itA it b l left :: r) :=
  Has.mkex (es, clock, seen) (Has.unstar (Has.f1 (Has.unstar ((H.f1.mkpur ⟨h1, h2⟩).f1))))

theorem Has.rng (ht : P.underlying t = some (.map kt e)) (H : Has w0 w (mpA b l :: r)) {K : Nat → World → Prop} (f : ∀ it w', Has w0 w' (itA it b l l :: r) → K it w') : exPt P (Instr.range t (.map (some b))) K w := by
  obtain ⟨es, clock, hm, H⟩ := H.mp
  unfold exPt
  rw [run_range_map w t kt e b es clock ht H.get]
  refine f _ _ (Has.mkit hm ?_ (H.new _))
  have : leftOf es #[] = es := by
    unfold leftOf
    rw [Array.filter_eq_self]
    intro x _; simp
  rw [this]; exact hm.2

/-- The iteration is over: the map again. -/
theorem Has.itEnd {it : Nat} {left : List (Int × Value)} (H : Has w0 w (itA it b l left :: r)) : Has w0 w (mpA b l :: r) := by
  obtain ⟨es, clock, seen, h1, _, H⟩ := H.it
  exact H.drop.mkmp h1

theorem left_push {es : Array MapEntry} {seen : Array Nat} {x : MapEntry} : (leftOf es (seen.push x.born)).toList = (leftOf es seen).toList.filter (fun y => !(y.born == x.born)) := by
  unfold leftOf
  simp only [Array.toList_filter, List.filter_filter]
  congr 1
  funext y
  simp only [Array.contains_push]
  rw [Bool.not_or, Bool.and_comm]

theorem filter_split {l : List MapEntry} {x : MapEntry} (hn : (l.map (·.born)).Nodup) (hx : x ∈ l) : ∃ a c, l = a ++ x :: c ∧ l.filter (fun y => !(y.born == x.born)) = a ++ c := by
  induction l with
  | nil => cases hx
  | cons y t ih =>
    simp only [List.map_cons, List.nodup_cons] at hn
    rcases List.mem_cons.1 hx with rfl | hx
    · refine ⟨[], t, rfl, ?_⟩
      rw [List.filter_cons, if_neg (by simp), List.nil_append, List.filter_eq_self]
      intro y hy
      have : y.born ≠ x.born := fun e => hn.1 (by rw [← e]; exact List.mem_map.2 ⟨y, hy, rfl⟩)
      simpa using this
    · obtain ⟨a, c, h1, h2⟩ := ih hn.2 hx
      have : y.born ≠ x.born := fun e => hn.1 (by rw [e]; exact List.mem_map.2 ⟨x, hx, rfl⟩)
      refine ⟨y :: a, c, by rw [h1]; rfl, ?_⟩
      rw [List.filter_cons, if_pos (by simpa using this), h2]; rfl

theorem map_split {l1 : List MapEntry} {left : List (Int × Value)} {a c : List MapEntry} {x : MapEntry} (h : l1.map (fun e => (e.key, e.val)) = left.map (fun p => (Value.int .i64 p.1, p.2))) (hs : l1 = a ++ x :: c) :
    ∃ a' k v c', left = a' ++ (k, v) :: c' ∧ x.key = .int .i64 k ∧ x.val = v ∧ (a ++ c).map (fun e => (e.key, e.val)) = (a' ++ c').map (fun p => (Value.int .i64 p.1, p.2)) := by
  subst hs
  rw [List.map_append, List.map_cons] at h
  obtain ⟨a', s, hl, ha, hs⟩ := List.map_eq_append_iff.1 h.symm
  obtain ⟨p, c', rfl, hp, hc⟩ := List.map_eq_cons_iff.1 hs
  simp only [Prod.mk.injEq] at hp
  exact ⟨a', p.1, p.2, c', by rw [hl], hp.1.symm, hp.2.symm, by rw [List.map_append, List.map_append, ha, hc]⟩

/-- A step of the iteration. -/
theorem Has.nx {it : Nat} {left : List (Int × Value)} {ty : TypeId} (H : Has w0 w (itA it b l left :: r)) {K0 : World → Prop} {K1 : Value → Value → World → Prop} (f0 : left = [] → ∀ w', Has w0 w' (itA it b l left :: r) → K0 w')
    (f1 : ∀ a k v c w', left = a ++ (k, v) :: c → entR P (pv it 0) (.tuple #[.int .i64 k, v]) w' → Has w0 w' (itA it b l (a ++ c) :: r) → K1 (.int .i64 k) v w') :
    nextD P (Instr.next (pv it 0) false ty) K0 K1 w := by
  obtain ⟨es, clock, seen, hm, hl, H0⟩ := H.it
  have hr := H0.get
  have hb := H0.f1.get
  rcases run_next_at (P := P) w ty it b clock clock seen es clock hr hb hm.1.1 (Nat.le_refl _) with ⟨h1, h2⟩ | ⟨x, hx, w1, hw1, h2⟩
  · refine ⟨_, _, h2, .inl ⟨rfl, f0 ?_ w H⟩⟩
    have : (leftOf es seen).toList = [] := List.eq_nil_of_length_eq_zero (by simpa using h1)
    rw [this] at hl
    exact List.map_eq_nil_iff.1 hl.symm
  · have hsub : (leftOf es seen).toList.Sublist es.toList := by unfold leftOf; rw [Array.toList_filter]; exact List.filter_sublist
    have hnd : ((leftOf es seen).toList.map (·.born)).Nodup := hm.1.2.1.sublist (hsub.map _)
    obtain ⟨a, c, hs, hf⟩ := filter_split hnd hx
    obtain ⟨a', k, v, c', hleft, hk, hv, hac⟩ := map_split hl hs
    refine ⟨_, _, h2, .inr ⟨x.key, x.val, rfl, ?_⟩⟩
    rw [hk, hv]
    have hpush : (leftOf es (seen.push x.born)).toList.map (fun e => (e.key, e.val)) = (a' ++ c').map (fun p => (Value.int .i64 p.1, p.2)) := by rw [left_push, hf]; exact hac
    have hturn : Has w0 (ChangeMaps.setBlock w1 it (.mapIter (some b) clock (seen.push x.born) clock)) (blk it (.mapIter (some b) clock (seen.push x.born) clock) :: blk b (.map es clock) :: r) := by
      have Hd : Has w0 w1 (blk it (.mapIter (some b) clock seen clock) :: blk b (.map es clock) :: r) := by
        rcases hw1 with rfl | rfl
        · exact H0
        · exact H0.drew
      exact Hd.turn rfl rfl rfl (by simp [ChangeMaps.setBlock]) (MapKept.heap_set Hd.get).1 (MapKept.heap_set Hd.get).2
    refine f1 a' k v c' _ hleft ?_ (Has.mkit hm hpush hturn)
    have := run_entry_at (P := P) _ it b clock seen es clock x hturn.get hturn.f1.get (hsub.subset hx) hm.1.2.1
    rw [hk, hv] at this
    exact this

end
end Go.X
