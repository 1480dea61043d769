/-
  Layer 8 (store): records' bytes, the program's and the reference's.
-/
import Derived.Test.YtbcepafeiocobaaGreatXTake
set_option maxRecDepth 8000
namespace Go.X
open Go

def u64 (i : Int) : Nat := (i % 18446744073709551616).toNat
theorem u64_lt (i : Int) : u64 i < 18446744073709551616 := by unfold u64; omega
theorem wu_w (i : Int) : wu64 (w64 i) = (u64 i : Int) := by
  rw [wu64_mod, show w64 i = IntKind.i64.wrap i from rfl, IntKind.wrap_i64]
  unfold u64; omega
theorem wu_u (i : Int) : wu64 i = (u64 i : Int) := by
  rw [wu64_mod]
  unfold u64; omega

def hardB (t : Nat) (v : Int) : List UInt8 := wNum 1 ++ wNum t ++ wNum (u64 (v + 1))
def entB (e : Ent) : List UInt8 := wNum 2 ++ wNum e.term ++ wNum e.index ++ wNum (u64 e.kind) ++ wText e.data
def cutB (i : Nat) : List UInt8 := wNum 3 ++ wNum i
def snapB (s : Snp) : List UInt8 := wNum 4 ++ wNum s.index ++ wNum s.term ++ wNum s.config ++ wText s.data

theorem hardB_len {t : Nat} (h : t < 18446744073709551616) (v : Int) : (hardB t v).length ≤ 27 := by
  have h1 := wNum_len (x := 1) (by omega); have h2 := wNum_len h; have h3 := wNum_len (u64_lt (v + 1))
  simp only [hardB, List.length_append]; omega
theorem cutB_len {i : Nat} (h : i < 18446744073709551616) : (cutB i).length ≤ 18 := by
  have h1 := wNum_len (x := 3) (by omega); have h2 := wNum_len h
  simp only [cutB, List.length_append]; omega
theorem wText_len {l : List UInt8} (h : l.length < 18446744073709551616) : (wText l).length ≤ 9 + l.length := by
  have := wNum_len h
  simp only [wText, List.length_append]; omega
theorem entB_len {e : Ent} (h : e.ok) : (entB e).length ≤ 45 + e.data.length := by
  have h1 := wNum_len (x := 2) (by omega); have h2 := wNum_len h.term; have h3 := wNum_len h.index; have h4 := wNum_len (u64_lt e.kind)
  have h5 := wText_len (l := e.data) (by have := h.data; omega)
  simp only [entB, List.length_append]; omega
theorem snapB_len {s : Snp} (h : s.ok) : (snapB s).length ≤ 45 + s.data.length := by
  have h1 := wNum_len (x := 4) (by omega); have h2 := wNum_len h.term; have h3 := wNum_len h.index; have h4 := wNum_len h.config
  have h5 := wText_len (l := s.data) (by have := h.data; omega)
  simp only [snapB, List.length_append]; omega

/-- A writer that is new. -/
theorem Has.wt0 {w0 w : World} {r : List A} {T e b : Nat} (H : Has w0 w (ca b T [.slice none 0 0] :: r)) : Has w0 w (wtA T e b [] :: r) := (H.mkow0 e 1).f1.mkwt rfl

def ns (l : List Nat) : List Value := l.map fun (x : Nat) => .int .u64 (x : Int)

end Go.X
namespace Go.Proofs.YtbcepafeiocobaaGreat
open Go.X

section
variable {w0 w : World} {r : List A}

theorem store_hard_spec {t : Nat} (ht : t < 18446744073709551616) {v : Int} (H : Has w0 w r) :
    Calls Tryz.prog 29 #[.agg #[.int .u64 (t : Int), .int .i64 v]] w fun e w' => ∃ x, e = .returned x ∧ x = .string (bs (hardB t v)) ∧ Has w0 w' r := by
  refine store_hard.ok _ _ ?_
  have h1 := wNum_len (x := 1) (by omega); have h2 := wNum_len ht; have h3 := wNum_len (u64_lt (v + 1))
  refine H.al fun b1 w1 H => H.dr fun w2 H => ⟨_, H.cell rfl, _, H.cell rfl, H.al fun b2 w3 H => ⟨H.f1.cell rfl, H.f1.cell rfl, ?_⟩⟩
  refine (pack_Writer_Num_spec (x := 1) (Has.wt0 H) (by omega) (by simp)).mono ?_
  rintro e w4 ⟨x, rfl, rfl, H⟩
  refine ⟨_, _, rfl, H.f1.cell rfl, H.f1.cell rfl, ?_⟩
  refine (pack_Writer_Num_spec H ht (by simp; omega)).mono ?_
  rintro e w5 ⟨x, rfl, rfl, H⟩
  refine ⟨_, _, rfl, H.f1.cell rfl, ?_⟩
  rw [wu_w]
  refine (pack_Writer_Num_spec H (u64_lt _) (by simp; omega)).mono ?_
  rintro e w6 ⟨x, rfl, rfl, H⟩
  refine ⟨_, _, rfl, H.f1.cell rfl, ?_⟩
  refine (pack_Writer_Bytes_spec H).mono ?_
  rintro e w7 ⟨x, rfl, rfl, H⟩
  exact ⟨_, rfl, H.f1.cell rfl, by simp [hardB], H.drop.drop⟩

theorem store_entry_spec {e : Ent} (he : e.ok) (H : Has w0 w r) :
    Calls Tryz.prog 31 #[.agg #[.int .u64 (e.term : Int), .int .u64 (e.index : Int), .int .i64 e.kind, .string (bs e.data)]] w fun ee w' => ∃ x, ee = .returned x ∧ x = .string (bs (entB e)) ∧ Has w0 w' r := by
  refine store_entry.ok _ _ _ _ ?_
  have hd := he.data
  have h1 := wNum_len (x := 2) (by omega); have h2 := wNum_len he.term; have h3 := wNum_len he.index; have h4 := wNum_len (u64_lt e.kind)
  refine H.al fun b1 w1 H => H.dr fun w2 H => ⟨_, H.cell rfl, _, H.cell rfl, _, H.cell rfl, _, H.cell rfl, H.al fun b2 w3 H => ⟨H.f1.cell rfl, H.f1.cell rfl, H.f1.cell rfl, H.f1.cell rfl, ?_⟩⟩
  refine (pack_Writer_Num_spec (x := 2) (Has.wt0 H) (by omega) (by simp)).mono ?_
  rintro ee w4 ⟨x, rfl, rfl, H⟩
  refine ⟨_, _, rfl, H.f1.cell rfl, H.f1.cell rfl, H.f1.cell rfl, H.f1.cell rfl, ?_⟩
  refine (pack_Writer_Num_spec H he.term (by simp; omega)).mono ?_
  rintro ee w5 ⟨x, rfl, rfl, H⟩
  refine ⟨_, _, rfl, H.f1.cell rfl, H.f1.cell rfl, H.f1.cell rfl, ?_⟩
  refine (pack_Writer_Num_spec H he.index (by simp; omega)).mono ?_
  rintro ee w6 ⟨x, rfl, rfl, H⟩
  refine ⟨_, _, rfl, H.f1.cell rfl, H.f1.cell rfl, ?_⟩
  rw [wu_u]
  refine (pack_Writer_Num_spec H (u64_lt _) (by simp; omega)).mono ?_
  rintro ee w7 ⟨x, rfl, rfl, H⟩
  refine ⟨_, _, rfl, H.f1.cell rfl, H.f1.cell rfl, ?_⟩
  refine (pack_Writer_Text_spec H (by omega) (by simp; omega)).mono ?_
  rintro ee w8 ⟨x, rfl, rfl, H⟩
  refine ⟨_, _, rfl, H.f1.cell rfl, ?_⟩
  refine (pack_Writer_Bytes_spec H).mono ?_
  rintro ee w9 ⟨x, rfl, rfl, H⟩
  exact ⟨_, rfl, H.f1.cell rfl, by simp [entB], H.drop.drop⟩

theorem store_cut_spec {i : Nat} (hi : i < 18446744073709551616) (H : Has w0 w r) :
    Calls Tryz.prog 39 #[.int .u64 (i : Int)] w fun e w' => ∃ x, e = .returned x ∧ x = .string (bs (cutB i)) ∧ Has w0 w' r := by
  refine store_cut.ok _ ?_
  have h1 := wNum_len (x := 3) (by omega)
  refine H.al fun b2 w3 H => ?_
  refine (pack_Writer_Num_spec (x := 3) (Has.wt0 H) (by omega) (by simp)).mono ?_
  rintro e w4 ⟨x, rfl, rfl, H⟩
  refine ⟨_, _, rfl, ?_⟩
  refine (pack_Writer_Num_spec H hi (by simp; omega)).mono ?_
  rintro e w5 ⟨x, rfl, rfl, H⟩
  refine ⟨_, _, rfl, ?_⟩
  refine (pack_Writer_Bytes_spec H).mono ?_
  rintro e w7 ⟨x, rfl, rfl, H⟩
  exact ⟨_, rfl, by simp [cutB], H.drop⟩

theorem ref08_nums_spec {a : Option Addr} {c : Nat} {l : List Nat} (hl : l.length ≤ 100) (hx : ∀ x ∈ l, x < 18446744073709551616) (hv : Vw w a (ns l)) :
    Calls Tryz.prog 65 #[.slice a l.length c] w fun e w' => ∃ x, e = .returned x ∧ x = .string (bs (l.flatMap wNum)) ∧ Has w w' [] := by
  refine tontineref08_nums.ok _ _ _ ?_
  refine ⟨fun s i w' => ∃ k : Nat, k ≤ l.length ∧ i = (k : Int) ∧ s = bs ((l.take k).flatMap wNum) ∧ ((l.take k).flatMap wNum).length ≤ 9 * k ∧ Has w w' [], fun _ i _ => 101 - i.toNat, ⟨0, by omega, rfl, rfl, by simp, Has.start w⟩, ?_⟩
  rintro _ s i w1 ⟨k, hk, rfl, rfl, hb, H⟩
  refine bif_i (fun h => ?_) fun h => ?_
  · have h : k < l.length := by simp at h; omega
    obtain ⟨b, o, hab, hc⟩ := (hv.old H).at (by simp [ns]; omega)
    refine ⟨b, o, hab, by omega, by omega, _, hc k (.int .u64 (l[k] : Int)) (by simp [ns, h]) |> (by rw [Int.toNat_natCast, Nat.mul_one]; exact ·), ?_⟩
    have hxk := hx _ (List.getElem_mem h)
    have hw := wNum_len hxk
    refine (ref03_Num_spec H hxk).mono ?_
    rintro e w2 ⟨x, rfl, rfl, H⟩
    have e1 : (l.take k).flatMap wNum ++ wNum l[k] = (l.take (k + 1)).flatMap wNum := by rw [List.take_succ_eq_append_getElem h, List.flatMap_append]; simp
    refine ⟨_, rfl, catD_bs (by omega) ?_⟩
    rw [e1, w64_id (by omega)]
    refine ⟨⟨k + 1, h, by omega, rfl, ?_, H⟩, by dsimp only; omega⟩
    rw [← e1, List.length_append]; omega
  · have h : k = l.length := by simp at h; omega
    subst h
    rw [List.take_length]
    exact ⟨rfl, H⟩

theorem ref08_Hard_spec {t : Nat} (ht : t < 18446744073709551616) {v : Int} (H : Has w0 w r) :
    Calls Tryz.prog 34 #[.agg #[.int .u64 (t : Int), .int .i64 v]] w fun e w' => ∃ x, e = .returned x ∧ x = .string (bs (hardB t v)) ∧ Has w0 w' r := by
  refine tontineref08_Hard.ok _ _ ?_
  refine H.al fun b1 w1 H => ⟨_, H.cell rfl, _, H.cell rfl, ?_⟩
  rw [wu_w]
  refine H.al fun b2 w2 H => ?_
  have hv : Vw w2 (some ⟨b2, 0, none⟩) (ns [1, t, u64 (v + 1)]) := .inr ⟨b2, 0, rfl, fun j x hj => by rw [Nat.zero_add]; exact H.cell (vs := ns [1, t, u64 (v + 1)]) hj⟩
  refine (ref08_nums_spec (c := 3) (by simp) (by have := u64_lt (v + 1); simp; omega) hv).mono ?_
  rintro e w3 ⟨x, rfl, rfl, H2⟩
  exact ⟨_, rfl, by simp [hardB], (H.frame H2).drop.drop⟩

theorem ref08_Cut_spec {i : Nat} (hi : i < 18446744073709551616) (H : Has w0 w r) :
    Calls Tryz.prog 69 #[.int .u64 (i : Int)] w fun e w' => ∃ x, e = .returned x ∧ x = .string (bs (cutB i)) ∧ Has w0 w' r := by
  refine tontineref08_Cut.ok _ ?_
  refine H.al fun b2 w2 H => ?_
  have hv : Vw w2 (some ⟨b2, 0, none⟩) (ns [3, i]) := .inr ⟨b2, 0, rfl, fun j x hj => by rw [Nat.zero_add]; exact H.cell (vs := ns [3, i]) hj⟩
  refine (ref08_nums_spec (c := 2) (by simp) (by simp; omega) hv).mono ?_
  rintro e w3 ⟨x, rfl, rfl, H2⟩
  exact ⟨_, rfl, by simp [cutB], (H.frame H2).drop⟩

theorem ref08_Entry_spec {e : Ent} (he : e.ok) (H : Has w0 w r) :
    Calls Tryz.prog 36 #[.agg #[.int .u64 (e.term : Int), .int .u64 (e.index : Int), .int .i64 e.kind, .string (bs e.data)]] w fun ee w' => ∃ x, ee = .returned x ∧ x = .string (bs (entB e)) ∧ Has w0 w' r := by
  refine tontineref08_Entry.ok _ _ _ _ ?_
  have hd := he.data
  have h1 := wNum_len (x := 2) (by omega); have h2 := wNum_len he.term; have h3 := wNum_len he.index; have h4 := wNum_len (u64_lt e.kind)
  have h5 := wText_len (l := e.data) (by omega)
  refine H.al fun b1 w1 H => H.dr fun w2 H => ⟨_, H.cell rfl, _, H.cell rfl, _, H.cell rfl, _, H.cell rfl, ?_⟩
  rw [wu_u]
  refine H.al fun b2 w2 H => ⟨H.f1.cell rfl, H.f1.cell rfl, ?_⟩
  have hv : Vw w2 (some ⟨b2, 0, none⟩) (ns [2, e.term, e.index, u64 e.kind]) := .inr ⟨b2, 0, rfl, fun j x hj => by rw [Nat.zero_add]; exact H.cell (vs := ns [2, e.term, e.index, u64 e.kind]) hj⟩
  refine (ref08_nums_spec (c := 4) (by simp) (by have := u64_lt e.kind; have := he.term; have := he.index; simp; omega) hv).mono ?_
  rintro ee w3 ⟨x, rfl, rfl, H2⟩
  have H := H.frame H2
  refine ⟨_, rfl, H.f1.cell rfl, H.f1.cell rfl, ?_⟩
  refine (ref03_Text_spec H (by omega)).mono ?_
  rintro ee w4 ⟨x, rfl, rfl, H⟩
  refine ⟨_, rfl, H.f1.cell rfl, catD_bs (by simp; omega) ⟨by simp [entB], H.drop.drop⟩⟩

end
end Go.Proofs.YtbcepafeiocobaaGreat
