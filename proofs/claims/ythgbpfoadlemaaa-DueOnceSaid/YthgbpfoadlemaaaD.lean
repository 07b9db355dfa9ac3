/- Texts that the claim rests on: part 4. No conditions. -/
import Derived.Test.YthgbpfoadlemaaaC
/- The statements' deeds: few and do. -/
namespace Go.Proofs.Ythgbpfoadlemaaa
open Go.Fw
structure Deed where
  do_ : Int
  list : Int
  at_ : Int
  n : Int
  id : ByteArray
  addr : ByteArray
  subs : List Sub
  adm : List Bool
def deedRow (d : Deed) (vs va : Value) : List Value := [.int .i64 d.do_, .int .i64 d.list, .int .i64 d.at_, .int .i64 d.n, .string d.id, .string d.addr, vs, va]
abbrev DeedV := Deed × Value × Value
def dRow (x : DeedV) : List Value := deedRow x.1 x.2.1 x.2.2
def DeedIn (S : Nat → Prop) (h : Heap) (x : DeedV) : Prop := RowsR S h x.2.1 5 (x.1.subs.map subRow) ∧ RowsR S h x.2.2 1 (x.1.adm.map boolRow)
def Deeds (S : Nat → Prop) (h : Heap) (v : Value) (l : List DeedV) : Prop := RowsR S h v 8 (l.map dRow) ∧ ∀ x ∈ l, DeedIn S h x
def fewD (d : Deed) : Bool := decide (d.subs.length ≤ 8) && decide (d.adm.length ≤ 10) && decide (d.id.size ≤ 40)
def few (l : List Deed) : Bool := l.all fewD && decide (l.length ≤ 20)
section
variable {p : Nat} {m : Led} {h : Heap} {F : List Res} {K : Kont} {N : Nat}
set_option maxRecDepth 8000 in
theorem few_fn {v : Value} {l : List DeedV} (hv : Deeds (fun _ => True) h v l) (hl : l.length ≤ 9223372036854775807) (hk : K (.bool (few (l.map (·.1)))) h) : FnH Try.prog 8 #[v] h K := by
  refine f8_fn ?_
  simp only [f8_T0]
  refine LoopS.st (σ := Nat) (fun k => [v, .bool false, .int .i64 k]) (fun k h' => h' = h ∧ k ≤ l.length ∧ ((l.take k).map (·.1)).all fewD = true) (fun k => l.length - k) 0 rfl ⟨rfl, Nat.zero_le _, rfl⟩ ?_
  rintro k h' ⟨rfl, hkl, hall⟩
  obtain ⟨hr, hin⟩ := hv
  obtain ⟨av, cv, rfl⟩ := hr.val
  simp only [List.length_map] at hr ⊢
  by_cases hlt : k < l.length
  · have hi : ((k : Int) < (l.length : Int)) = True := by simp; omega
    obtain ⟨b, o, cap, he, _, hc⟩ := hr.at_ (k := k) (by simpa using hlt)
    simp only [Value.slice.injEq, List.length_map] at he
    obtain ⟨rfl, _, rfl⟩ := he
    have hx := hin l[k] (List.getElem_mem hlt)
    have hcell : ∀ j, j < 8 → cellAt h' b (o + k * 8 + j) = (dRow l[k])[j]? := fun j hj => by
      rw [hc k j (by simpa using hlt) hj]
      simp [hlt]
    have htk : l.take (k + 1) = l.take k ++ [l[k]] := List.take_succ_eq_append_getElem hlt
    have hmem : l[k].1 ∈ l.map (·.1) := List.mem_map.2 ⟨l[k], List.getElem_mem hlt, rfl⟩
    generalize l[k] = x at *
    obtain ⟨d, vs, va⟩ := x
    have c6 : cellAt h' b (o + k * 8 + 6) = some vs := hcell 6 (by omega)
    have c7 : cellAt h' b (o + k * 8 + 7) = some va := hcell 7 (by omega)
    have c4 : cellAt h' b (o + k * 8 + 4) = some (.string d.id) := hcell 4 (by omega)
    have hki : o + (k : Int).toNat * 8 = o + k * 8 := by simp
    have hls : ∀ K, oLen (some (.slice 40)) vs K h' = K (.int .i64 d.subs.length) h' := fun K => by obtain ⟨_, _, e⟩ := hx.1.val; simp only [List.length_map] at e; rw [e]; rfl
    have hla : ∀ K, oLen (some (.slice 4)) va K h' = K (.int .i64 d.adm.length) h' := fun K => by obtain ⟨_, _, e⟩ := hx.2.val; simp only [List.length_map] at e; rw [e]; rfl
    have hno : fewD d = false → few (l.map (·.1)) = false := fun hd => by
      have : (l.map (·.1)).all fewD = false := by rw [List.all_eq_false]; exact ⟨d, hmem, by simp [hd]⟩
      simp only [few, this, Bool.false_and]
    have hret : fewD d = false → retL Try.prog f8_L Try.f8.results.toList K .ret [.slice (some ⟨b, o, none⟩) l.length cv, .bool false, .int .i64 k] h' := fun hd => by
      rw [f8_ret]; rw [hno hd] at hk; exact hk
    simp (disch := omega) only [f8_T5, go_sem, hi, decide_true, index_slice, hki, c6, hls]
    cases d0 : decide ((8 : Int) < d.subs.length) with
    | true =>
      simp only [go_sem]
      refine hret ?_
      have : ¬ d.subs.length ≤ 8 := by have := of_decide_eq_true d0; omega
      simp [fewD, this]
    | false =>
      have e0 : d.subs.length ≤ 8 := by have := of_decide_eq_false d0; omega
      simp (disch := omega) only [go_sem, index_slice, hki, c7, hla]
      cases d1 : decide ((10 : Int) < d.adm.length) with
      | true =>
        simp only [go_sem]
        refine hret ?_
        have : ¬ d.adm.length ≤ 10 := by have := of_decide_eq_true d1; omega
        simp [fewD, this]
      | false =>
        have e1 : d.adm.length ≤ 10 := by have := of_decide_eq_false d1; omega
        simp (disch := omega) only [go_sem, index_slice, hki, c4]
        refine cond_cases (fun hc => ?_) (fun hc => ?_)
        · refine hret ?_
          have : ¬ d.id.size ≤ 40 := by have := of_decide_eq_true hc; omega
          simp [fewD, this]
        · have e2 : d.id.size ≤ 40 := by have := of_decide_eq_false hc; omega
          simp (disch := omega) only [go_sem, bin_add_in]
          refine NextSt.mk (k + 1) rfl ⟨rfl, hlt, ?_⟩ (by omega)
          rw [htk, List.map_append, List.all_append, hall]
          simp [fewD, e0, e1, e2]
  · have hi : ((k : Int) < (l.length : Int)) = False := by simp; omega
    simp only [f8_T5, go_sem, hi, decide_false, f8_T2, f8_ret]
    rw [List.take_of_length_le (by omega)] at hall
    have : few (l.map (·.1)) = decide ((l.length : Int) ≤ 20) := by
      simp only [few, hall, Bool.true_and, List.length_map]
      by_cases e : l.length ≤ 20
      · simp [e]; omega
      · simp [e]; omega
    rw [this] at hk
    exact hk
/-- What a deed does. -/
inductive DoSpec (m : Led) (d : Deed) : Led → List ByteArray → List Bkt → Prop
  | cutNone : pickI d.do_ 7 = 3 → m.bk d.list d.addr = none → DoSpec m d m [] []
  | cutSome (b : Bkt) : pickI d.do_ 7 = 3 → m.bk d.list d.addr = some b → DoSpec m d (m.del d.list d.addr) [] [b]
  | due (al : List ByteArray) : pickI d.do_ 7 = 4 → al.Pairwise ltB → (∀ a, a ∈ al ↔ m.bk d.list a ≠ none) → DoSpec m d (m.delAll d.list (gone m d.list (oldB d.at_ d.n) al)) [] (cuts m d.list (oldB d.at_ d.n) al)
  | drain (al : List ByteArray) : pickI d.do_ 7 = 5 → al.Pairwise ltB → (∀ a, a ∈ al ↔ m.bk d.list a ≠ none) → DoSpec m d (m.delAll d.list (gone m d.list (fun _ => true) al)) [] (cuts m d.list (fun _ => true) al)
  | mergeSame : pickI d.do_ 7 = 6 → d.list = d.n → DoSpec m d m [] []
  | merge (al : List ByteArray) : pickI d.do_ 7 = 6 → d.list ≠ d.n → al.Pairwise ltB → (∀ a, a ∈ al ↔ m.bk d.list a ≠ none) → DoSpec m d (mgLed m d.list d.n d.subs al) [] (mgCut m d.list d.subs al)
  | release : pickI d.do_ 7 < 3 → DoSpec m d (rel d.id d.n d.list d.at_ (pickI d.n 97) m (d.subs.zip d.adm)).m (rel d.id d.n d.list d.at_ (pickI d.n 97) m (d.subs.zip d.adm)).sg (rel d.id d.n d.list d.at_ (pickI d.n 97) m (d.subs.zip d.adm)).fl
theorem bkts_one {b : Bkt} {sl : Value} (hs : Sep h (idsR b sl :: F)) : Sep (h.push (.cells ⟨bktRow b sl⟩ 36)) (bktsR (.slice (some ⟨h.size, 0, none⟩) 1 1) [b] :: F) := by
  have hone := bktRow_one (hs.at 0)
  have h1 := hs.newVec (rows := [bktRow b sl]) (e := 36) (sz := 5) (n := 1) rfl (by simp [bktRow]) (by simpa using hone)
  have e : (⟨[bktRow b sl].flatten⟩ : Array Value) = ⟨bktRow b sl⟩ := by simp
  rw [e] at h1
  have h2 := bkt_sep (h1.pick 1)
  have h3 := ((h2.newAll (f := fun i : Nat => slotR bktE ([] : List Bkt)[i]? ([] : List (List Value))[i]?) (fun i => by simp [slotR])).swap.snoc (xs := []) (rows := []))
  exact (h3.swap).unovec
set_option maxRecDepth 8000 in
theorem do_fn {x : DeedV} (hs : Sep h (ledR p m none :: F)) (hm : m.Ok N) (hN : N ≤ 1073741824) (hf : fewD x.1 = true) (hin : ∀ h', Sep h' F → DeedIn (fun _ => True) h' x)
    (hk : ∀ h' v16 v17 m' sg cut, DoSpec m x.1 m' sg cut → Sep h' (ledR p m' none :: bktsR v17 cut :: strsR v16 sg :: F) → K (.tuple #[v16, v17]) h') : FnH Try.prog 10 #[ptr p, .agg ⟨dRow x⟩] h K := by
  refine f10_fn ?_
  obtain ⟨d, vs, va⟩ := x
  simp only at hf hin hk
  obtain ⟨hsl, hal⟩ : d.subs.length ≤ 8 ∧ d.adm.length ≤ 10 := by
    simp only [fewD, Bool.and_eq_true, decide_eq_true_eq] at hf
    exact ⟨hf.1.1, hf.1.2⟩
  simp only [f10_T0, go_sem]
  refine s_box hs fun h1 bx hs => ?_
  have cx : ∀ j, cellAt h1 bx j = (deedRow d vs va)[j]? := fun j => by rw [(hs.at 0).cell j]; simp [dRow]
  have c0 : cellAt h1 bx 0 = some (.int .i64 d.do_) := cx 0
  have c1 : cellAt h1 bx 1 = some (.int .i64 d.list) := cx 1
  have c2 : cellAt h1 bx 2 = some (.int .i64 d.at_) := cx 2
  have c3 : cellAt h1 bx 3 = some (.int .i64 d.n) := cx 3
  have c4 : cellAt h1 bx 4 = some (.string d.id) := cx 4
  have c5 : cellAt h1 bx 5 = some (.string d.addr) := cx 5
  have c6 : cellAt h1 bx 6 = some vs := cx 6
  have c7 : cellAt h1 bx 7 = some va := cx 7
  have hb := pickI_bounds d.do_ 7 (by omega)
  have hs := hs.swap
  have hnil : ∀ {h' : Heap} {G : List Res}, Sep h' G → Sep h' (bktsR (.slice none 0 0) [] :: strsR (.slice none 0 0) [] :: G) := fun hs => (hs.nilVec).newOvec
  have hnil1 : ∀ {h' : Heap} {v : Value} {c : List Bkt} {m' : Led} {G : List Res}, Sep h' (ledR p m' none :: bktsR v c :: cellR bx ⟨deedRow d vs va⟩ 34 :: G) → Sep h' (ledR p m' none :: bktsR v c :: strsR (.slice none 0 0) [] :: G) := fun hs => (hs.nilVec (e := 9) (sz := 1)).sel [1, 1, 0] |>.del 3
  have hsub : ∀ h', Sep h' (cellR bx ⟨deedRow d vs va⟩ 34 :: F) → RowsR (fun _ => True) h' vs 5 (d.subs.map subRow) := fun h' hs => (hin h' hs.tail).1
  have hadm : ∀ h', Sep h' (cellR bx ⟨deedRow d vs va⟩ 34 :: F) → RowsR (fun _ => True) h' va 1 (d.adm.map boolRow) := fun h' hs => (hin h' hs.tail).2
  simp (disch := omega) only [go_sem, Nat.zero_add, c0, pure_pick]
  refine cond_cases (fun hc => ?_) (fun hc => ?_)
  · have h3 : pickI d.do_ 7 = 3 := by simpa using hc
    simp only [go_sem, c1, c5]
    refine cut_fn hs (fun hn h2 hs => ?_) (fun b hb h2 sl hs => ?_)
    · simp only [go_sem]
      refine s_alloc hs fun h3' y hs => ?_
      refine s_store hs rfl rfl rfl fun h4 hs => ?_
      simp only [go_sem, Bool.not_false]
      rw [f10_ret]
      exact hk h4 _ _ _ _ _ (.cutNone h3 hn) ((hnil hs).sel [3, 0, 0] |>.del 3 |>.del 3)
    · simp only [go_sem]
      have hone := bkt_one b (hs.at 1)
      refine s_alloc hs fun h3' y hs => ?_
      refine s_store hs rfl rfl hone fun h4 hs => ?_
      simp only [go_sem, Bool.not_true]
      rw [load_cellR (n := 5) (c := ⟨bktRow b sl⟩) (t := 36) (hs.at 0) rfl]
      rw [build_slice_of (cs := ⟨bktRow b sl⟩) (by omega) (fill_one rfl)]
      rw [f10_ret]
      have h5 := bkts_one (hs.pick 2)
      exact hk _ _ _ _ _ _ (.cutSome b h3 hb) (((h5.nilVec (e := 9) (sz := 1)).sel [3, 1, 0]).del 3 |>.del 3)
  · have h3 : pickI d.do_ 7 ≠ 3 := by simpa using hc
    refine cond_cases (fun hc => ?_) (fun hc => ?_)
    · have h4 : pickI d.do_ 7 = 4 := by simpa using hc
      simp only [go_sem, c1, c2, c3]
      refine due_fn hs hm (by omega) fun h2 v al hal hmem hs => ?_
      rw [f10_ret]
      exact hk h2 _ v _ _ _ (.due al h4 hal hmem) (hnil1 hs)
    have h4 : pickI d.do_ 7 ≠ 4 := by simpa using hc
    refine cond_cases (fun hc => ?_) (fun hc => ?_)
    · have h5 : pickI d.do_ 7 = 5 := by simpa using hc
      simp only [go_sem, c1]
      refine drain_fn hs hm (by omega) fun h2 v al hal hmem hs => ?_
      rw [f10_ret]
      exact hk h2 _ v _ _ _ (.drain al h5 hal hmem) (hnil1 hs)
    have h5 : pickI d.do_ 7 ≠ 5 := by simpa using hc
    refine cond_cases (fun hc => ?_) (fun hc => ?_)
    · have h6 : pickI d.do_ 7 = 6 := by simpa using hc
      simp only [go_sem, c1, c3, c6]
      refine merge_fn hs hm hN (by omega) hsub (fun he => ?_) (fun hne h2 v al hal hmem hs => ?_)
      · rw [f10_ret]
        exact hk h1 _ _ _ _ _ (.mergeSame h6 he) (hnil1 (hs.newOvec.swap))
      · rw [f10_ret]
        exact hk h2 _ v _ _ _ (.merge al h6 hne hal hmem) (hnil1 hs)
    have h6 : pickI d.do_ 7 ≠ 6 := by simpa using hc
    simp (disch := omega) only [go_sem, c1, c2, c3, c4, c6, c7, pure_pick]
    refine rel_fn (subs := d.subs) (adm := d.adm) hs hm (by omega) (by omega) hsub hadm fun h2 v16 v17 st hst hok hs => ?_
    simp only [go_sem]
    rw [f10_ret]
    subst hst
    exact hk h2 v16 v17 _ _ _ (.release (by omega)) (hs.del 3)
end
end Go.Proofs.Ythgbpfoadlemaaa

/- Sequences of deeds; the example of the document. -/
namespace Go.Proofs.Ythgbpfoadlemaaa
open Go.Fw
section
variable {p : Nat} {m m' : Led} {h : Heap} {F : List Res} {K : Kont} {N : Nat} {d : Deed} {sg : List ByteArray} {cut : List Bkt}
theorem delAll_some {l l' : Int} {a' : ByteArray} {al : List ByteArray} {b : Bkt} (h : (m.delAll l al).bk l' a' = some b) : m.bk l' a' = some b := by
  simp only [Led.delAll] at h
  split at h
  · cases h
  · exact h
theorem delAll_ok {l : Int} {al : List ByteArray} (hm : m.Ok N) : (m.delAll l al).Ok N := by
  obtain ⟨L, hL, hc⟩ := hm.cov
  refine ⟨⟨L, hL, fun l' a' h => hc l' a' fun e => h ?_⟩, hm.ocov, fun l' a' b h => hm.ids l' a' b (delAll_some h), fun l' a' b h => hm.key l' a' b (delAll_some h), fun l' a' b h => hm.ne l' a' b (delAll_some h)⟩
  simp only [Led.delAll, e, ite_self]
theorem mrg_key {src into : Int} {a : ByteArray} {b : Bkt} (hm : m.Ok N) (hb : m.bk src a = some b) : (mrg m into b).list = into ∧ (mrg m into b).addr = a ∧ (mrg m into b).ids.length ≤ 2 * N ∧ (mrg m into b).ids ≠ [] := by
  obtain ⟨h1, h2⟩ := hm.key _ _ _ hb
  have h3 := hm.ids _ _ _ hb
  have h4 := hm.ne _ _ _ hb
  unfold mrg
  split
  · exact ⟨rfl, h2, by simp only; omega, h4⟩
  · rename_i g hg
    obtain ⟨h5, h6⟩ := hm.key _ _ _ hg
    have h7 := hm.ids _ _ _ hg
    exact ⟨h5, h6.trans h2, by simp only [List.length_append]; omega, by simp [h4]⟩
theorem mg_cases {src into l : Int} {to : List Sub} {al : List ByteArray} {a : ByteArray} {b : Bkt} (h : (mgLed m src into to al).bk l a = some b) : l ≠ src ∧ ((∃ b0, l = into ∧ m.bk src a = some b0 ∧ b = mrg m into b0) ∨ m.bk l a = some b) := by
  simp only [mgLed] at h
  split at h
  · cases h
  · rename_i hne
    refine ⟨hne, ?_⟩
    split at h
    · rename_i hc
      cases hb : m.bk src a with
      | none => rw [hb] at h; cases h
      | some b0 => rw [hb] at h; injection h with h; exact .inl ⟨b0, hc.1, rfl, h.symm⟩
    · exact .inr h
theorem mg_ok {src into : Int} {to : List Sub} {al : List ByteArray} (hm : m.Ok N) : (mgLed m src into to al).Ok (2 * N) := by
  have h2 := hm.mono (show N ≤ 2 * N by omega)
  obtain ⟨L, hL, hc⟩ := hm.cov
  refine ⟨⟨L ++ L.map (fun x => (into, x.2)), by simp; omega, fun l a hla => ?_⟩, h2.ocov, fun l a b hb => ?_, fun l a b hb => ?_, fun l a b hb => ?_⟩
  · obtain ⟨b, hb⟩ := Option.ne_none_iff_exists'.1 hla
    rw [List.mem_append]
    obtain ⟨_, ⟨b0, rfl, h0, _⟩ | h0⟩ := mg_cases hb
    · exact .inr (List.mem_map.2 ⟨(src, a), hc _ _ (by rw [h0]; simp), rfl⟩)
    · exact .inl (hc _ _ (by rw [h0]; simp))
  all_goals
    obtain ⟨_, ⟨b0, h1, h0, rfl⟩ | h0⟩ := mg_cases hb
  · exact (mrg_key hm h0).2.2.1
  · exact h2.ids _ _ _ h0
  · exact ⟨(mrg_key hm h0).1.trans h1.symm, (mrg_key hm h0).2.1⟩
  · exact h2.key _ _ _ h0
  · exact (mrg_key hm h0).2.2.2
  · exact h2.ne _ _ _ h0
theorem do_ok (hd : DoSpec m d m' sg cut) (hf : fewD d = true) (hm : m.Ok N) : m'.Ok (2 * N + 200) := by
  have h2 := hm.mono (show N ≤ 2 * N + 200 by omega)
  cases hd with
  | cutNone => exact h2
  | cutSome => exact h2.del ..
  | due => exact delAll_ok h2
  | drain => exact delAll_ok h2
  | mergeSame => exact h2
  | merge => exact (mg_ok hm).mono (by omega)
  | release =>
    have h0 : RelOk ⟨m, [], []⟩ N 0 := ⟨hm, Nat.le_refl _, Nat.le_refl _⟩
    have h1 := rel_ok (id := d.id) (size := d.n) (list := d.list) (now := d.at_) (budget := pickI d.n 97) (d.subs.zip d.adm) _ 0 h0
    refine h1.ok.mono ?_
    simp only [fewD, Bool.and_eq_true, decide_eq_true_eq] at hf
    have : (d.subs.zip d.adm).length ≤ 8 := by rw [List.length_zip]; omega
    omega
/-- What a sequence of deeds comes to: the results of each. -/
inductive Runs : Led → List Deed → Led → List (List ByteArray × List Bkt) → Prop
  | nil (m : Led) : Runs m [] m []
  | snoc {m m' m'' : Led} {l : List Deed} {d : Deed} {rs : List (List ByteArray × List Bkt)} {sg : List ByteArray} {cut : List Bkt} : Runs m l m' rs → DoSpec m' d m'' sg cut → Runs m (l ++ [d]) m'' (rs ++ [(sg, cut)])
def bnd (k : Nat) : Nat := 200 * (2 ^ k - 1)
theorem bnd_succ (k : Nat) : 2 * bnd k + 200 = bnd (k + 1) := by
  unfold bnd
  have : 1 ≤ 2 ^ k := Nat.one_le_two_pow
  rw [Nat.pow_succ]
  omega
theorem bnd_le {k : Nat} (h : k ≤ 21) : bnd k ≤ 500000000 := by
  unfold bnd
  have : 2 ^ k ≤ 2 ^ 21 := Nat.pow_le_pow_right (by omega) h
  omega
theorem runs_ok {l : List Deed} {rs : List (List ByteArray × List Bkt)} (hr : Runs Led.nil l m rs) (hf : l.all fewD = true) : m.Ok (bnd l.length) := by
  generalize hn : Led.nil = m0 at hr
  induction hr with
  | nil => subst hn; exact nil_ok.mono (Nat.zero_le _)
  | snoc h1 h2 ih =>
    rw [List.all_append, Bool.and_eq_true] at hf
    have := do_ok h2 (by simpa using hf.2) (ih hf.1)
    rw [List.length_append, List.length_singleton, ← bnd_succ]
    exact this
end
end Go.Proofs.Ythgbpfoadlemaaa

/- The example of the document. -/
namespace Go.Proofs.Ythgbpfoadlemaaa
open Go.Fw
section
variable {p : Nat} {m m' : Led} {h : Heap} {F : List Res} {K : Kont} {N : Nat} {v : Value}
/-- A slice of buckets, read. -/
theorem bkts_read {l : List Bkt} (hr : (bktsR v l).has h) : ∃ L : List (Bkt × Value), L.map (·.1) = l ∧ Bkts (fun _ => True) h v L := by
  obtain ⟨rows, hl, hrows, hel⟩ := hr.ovec
  have hget : ∀ i (hi : i < l.length), ∃ sl, rows[i]'(by omega) = bktRow l[i] sl ∧ (idsR l[i] sl).has h := by
    intro i hi
    obtain ⟨S, sl, S1, S2, ⟨e, _⟩, h2, _⟩ := hel.elems hi (by omega)
    exact ⟨sl, e, ⟨S2, h2⟩⟩
  refine ⟨List.zipWith (fun b row => (b, row.getD 2 undef)) l rows, ?_, ?_, ?_⟩
  · apply List.ext_getElem
    · simp [List.length_zipWith, hl]
    · intro i h1 h2
      simp
  · have e : (List.zipWith (fun b row => (b, row.getD 2 undef)) l rows).map (fun p => bktRow p.1 p.2) = rows := by
      apply List.ext_getElem
      · simp [List.length_zipWith, hl]
      · intro i h1 h2
        obtain ⟨sl, e, _⟩ := hget i (by omega)
        simp [e, bktRow]
    rw [e]; exact hrows
  · intro x hx
    obtain ⟨i, hi, rfl⟩ := List.mem_iff_getElem.1 hx
    rw [List.length_zipWith] at hi
    obtain ⟨sl, e, hsl⟩ := hget i (by omega)
    simp only [List.getElem_zipWith, e]
    exact hsl.rows
theorem slice_at {t : TypeId} {sz b o n cap lo hi : Nat} {k1 k2 : IntKind} {l u : Int} (hl : l = lo) (hu : u = hi) (hlo : lo ≤ hi) (hhi : hi ≤ n) (hn : n ≤ cap) (hc : lo < cap) :
    oSlice (some (.slice t)) (some sz) (.slice (some ⟨b, o, none⟩) n cap) (some (.int k1 l)) (some (.int k2 u)) K h = K (.slice (some ⟨b, o + lo * sz, none⟩) (hi - lo) (cap - lo)) h := by
  subst hl; subst hu
  exact slice_val hlo hhi hn hc
theorem bkts_lenV {l : List Bkt} (hr : (bktsR v l).has h) (t : TypeId) (K : Kont) (h' : Heap) : oLen (some (.slice t)) v K h' = K (.int .i64 l.length) h' := by
  obtain ⟨rows, hl, hrows, _⟩ := hr.ovec
  obtain ⟨a, c, rfl⟩ := hrows.val
  rw [← hl]; rfl
theorem vec_lenV {e : TypeId} {sz : Nat} {rows : List (List Value)} (hr : (vecR v e sz rows).has h) (t : TypeId) (K : Kont) (h' : Heap) : oLen (some (.slice t)) v K h' = K (.int .i64 rows.length) h' := by
  obtain ⟨a, c, rfl⟩ := hr.rows.val
  rfl
theorem bkts_len {l : List Bkt} {t : TypeId} (hr : (bktsR v l).has h) (hK : K (.int .i64 l.length) h) : oLen (some (.slice t)) v K h := by
  obtain ⟨rows, hl, hrows, _⟩ := hr.ovec
  refine s_len hrows ?_
  rw [hl]; exact hK
def sA : ByteArray := ⟨#[97]⟩
def sB : ByteArray := ⟨#[98]⟩
def sC : ByteArray := ⟨#[99]⟩
def sX : ByteArray := ⟨#[120]⟩
def sY : ByteArray := ⟨#[121]⟩
def sE : ByteArray := ⟨#[]⟩
def exB : Bkt := ⟨1, sB, [sX], 10, 5⟩
def exB2 : Bkt := ⟨1, sB, [sX, sY], 20, 5⟩
def exSubs : List Sub := [⟨0, sA, 0, sE, 0⟩, ⟨0, sB, 1, sE, 0⟩, ⟨0, sC, 3, sE, 0⟩]
def exM1 : Led := ((Led.nil.owe sA sX).owe sB sX).put exB
def exM3 : Led := (exM1.owe sB sY).del 1 sB
theorem ex1 : rel sX 10 1 5 15 Led.nil (exSubs.zip [true, true, true]) = ⟨exM1, [sA], []⟩ := by kernel_rfl
theorem ex2 : rel sX 10 2 6 0 exM1 ([⟨0, sB, 0, sE, 0⟩].zip [true]) = ⟨exM1, [], []⟩ := by kernel_rfl
theorem ex3 : rel sY 10 1 7 15 exM1 ((((exSubs.drop 1).take 1)).zip [true]) = ⟨exM3, [], [exB2]⟩ := by kernel_rfl
theorem ex3_bk (l : Int) (a : ByteArray) : exM3.bk l a = none := by
  by_cases h : l = 1 ∧ a = sB
  · simp [exM3, Led.del, h.1, h.2]
  · have h1 : exM3.bk l a = exM1.bk l a := by simp only [exM3, Led.del, if_neg h, Led.owe]
    have h2 : exM1.bk l a = none := by
      show (if l = exB.list ∧ a = exB.addr then some exB else none) = none
      exact if_neg h
    rw [h1, h2]
theorem ex3_ow (i : ByteArray) : exM3.ow sB i = true ↔ i = sX ∨ i = sY := by
  have hab : sB ≠ sA := by decide
  simp only [exM3, exM1, Led.del, Led.owe, Led.put, Led.nil, owSet, hab, false_and, true_and, if_false]
  by_cases h1 : i = sX <;> by_cases h2 : i = sY <;> simp [h1, h2]
theorem ex_ok3 : exM3.Ok 10 := by
  refine ⟨⟨[], by simp, fun l a h => absurd (ex3_bk l a) h⟩, fun a => ⟨[sX, sY], by simp, fun i hi => ?_⟩, (fun l a b h => by rw [ex3_bk] at h; cases h), (fun l a b h => by rw [ex3_bk] at h; cases h), (fun l a b h => by rw [ex3_bk] at h; cases h)⟩
  simp only [exM3, exM1, Led.del, Led.owe, Led.put, Led.nil, owSet] at hi
  split at hi
  · rename_i e; simp [e.2]
  · split at hi
    · rename_i e; simp [e.2]
    · split at hi
      · rename_i e; simp [e.2]
      · cases hi
theorem ex_ok1 : exM1.Ok 10 := by
  have h := nil_ok.owe sA sX
  have h := h.owe sB sX
  have h := h.put (b := exB) (by simp [exB]) (by simp [exB])
  exact h.mono (by omega)
theorem xy_lt : [sX, sY].Pairwise ltB := by
  rw [List.pairwise_cons]
  refine ⟨fun b hb => ?_, by simp⟩
  rw [List.mem_singleton] at hb
  subst hb
  show sX.data.toList < sY.data.toList
  decide
set_option maxRecDepth 16000 in
set_option maxHeartbeats 1000000 in
theorem small_fn (hs : Sep h F) (hk : ∀ h', Sep h' F → K (.bool true) h') : FnH Try.prog 7 #[] h K := by
  refine f7_fn ?_
  simp only [f7_T0, go_sem]
  refine new_fn hs fun h1 p hs => ?_
  unfold ptr
  simp only [go_sem, Option.isNone]
  rw [build_of (cs := ⟨subRow ⟨0, sA, 0, sE, 0⟩⟩) rfl, build_of (cs := ⟨subRow ⟨0, sB, 1, sE, 0⟩⟩) rfl, build_of (cs := ⟨subRow ⟨0, sC, 3, sE, 0⟩⟩) rfl]
  rw [build_slice_of (cs := ⟨(exSubs.map subRow).flatten⟩) (by omega) (by kernel_rfl)]
  have hs := hs.newVec (rows := exSubs.map subRow) (e := 40) (sz := 5) (n := 3) rfl (by simp [exSubs, subRow]) (by simp [exSubs, subRow, go_sem])
  generalize h1.push (.cells ⟨(exSubs.map subRow).flatten⟩ 40) = h2, h1.size = b1 at hs
  rw [build_slice_of (cs := ⟨([true, true, true].map boolRow).flatten⟩) (by omega) (by kernel_rfl)]
  have hs := hs.newVec (rows := [true, true, true].map boolRow) (e := 4) (sz := 1) (n := 3) rfl (by simp [boolRow]) (by simp [boolRow, go_sem])
  generalize h2.push (.cells ⟨([true, true, true].map boolRow).flatten⟩ 4) = h3, h2.size = b2 at hs
  refine rel_fn (N := 0) (subs := exSubs) (adm := [true, true, true]) (hs.pick 2) nil_ok (by omega) (by simp [exSubs]) (fun h' hs => (hs.at 1).rows) (fun h' hs => (hs.at 0).rows) fun h4 va vx st hst _ hs => ?_
  have hst := hst.trans ex1
  subst hst
  simp only [go_sem]
  rw [build_of (cs := ⟨subRow ⟨0, sB, 0, sE, 0⟩⟩) rfl]
  rw [build_slice_of (cs := ⟨([⟨0, sB, 0, sE, 0⟩].map subRow).flatten⟩) (by omega) (by kernel_rfl)]
  have hs := hs.newVec (rows := [⟨0, sB, 0, sE, 0⟩].map subRow) (e := 40) (sz := 5) (n := 1) rfl (by simp [subRow]) (by simp [subRow, go_sem])
  generalize h4.push (.cells ⟨([⟨0, sB, 0, sE, 0⟩].map subRow).flatten⟩ 40) = h5, h4.size = b3 at hs
  rw [build_slice_of (cs := ⟨([true].map boolRow).flatten⟩) (by omega) (by kernel_rfl)]
  have hs := hs.newVec (rows := [true].map boolRow) (e := 4) (sz := 1) (n := 1) rfl (by simp [boolRow]) (by simp [boolRow, go_sem])
  generalize h5.push (.cells ⟨([true].map boolRow).flatten⟩ 4) = h6, h5.size = b4 at hs
  refine rel_fn (N := 10) (subs := [⟨0, sB, 0, sE, 0⟩]) (adm := [true]) (hs.pick 2) ex_ok1 (by omega) (by simp) (fun h' hs => (hs.at 1).rows) (fun h' hs => (hs.at 0).rows) fun h7 vb vy st hst _ hs => ?_
  have hst := hst.trans ex2
  subst hst
  simp only [go_sem]
  rw [slice_at (l := 1) (u := 2) (lo := 1) (hi := 2) rfl rfl (by omega) (by omega) (by omega) (by omega)]
  rw [build_slice_of (cs := ⟨([true].map boolRow).flatten⟩) (by omega) (by kernel_rfl)]
  have hs := hs.newVec (rows := [true].map boolRow) (e := 4) (sz := 1) (n := 1) rfl (by simp [boolRow]) (by simp [boolRow, go_sem])
  generalize h7.push (.cells ⟨([true].map boolRow).flatten⟩ 4) = h8, h7.size = b5 at hs
  refine rel_fn (N := 10) (subs := (exSubs.drop 1).take 1) (adm := [true]) (hs.pick 1) ex_ok1 (by omega) (by simp [exSubs]) (fun h' hs => rows_part' (n := 3) (cap := 3) (lo := 1) (hi := 2) (rows := exSubs.map subRow) (hs.at 8).rows rfl (by omega) (by omega) (by omega)) (fun h' hs => (hs.at 0).rows) fun h9 vc vz st hst _ hs => ?_
  have hst := hst.trans ex3
  subst hst
  simp only [go_sem]
  refine bkts_len (hs.at 1) ?_
  simp only [go_sem, List.length_singleton]
  simp only [Int.natCast_one, decide_true, Bool.not_true, go_sem]
  rw [build_slice_of (cs := ⟨([sX, sY].map strRow).flatten⟩) (by omega) (by kernel_rfl)]
  have hs := hs.newVec (rows := [sX, sY].map strRow) (e := 9) (sz := 1) (n := 2) rfl (by simp [strRow]) (by simp [strRow, go_sem])
  generalize h9.push (.cells ⟨([sX, sY].map strRow).flatten⟩ 9) = h10, h9.size = b6 at hs
  rw [build_of (cs := ⟨bktRow exB2 (.slice (some ⟨b6, 0, none⟩) 2 2)⟩) rfl]
  rw [build_slice_of (cs := ⟨bktRow exB2 (.slice (some ⟨b6, 0, none⟩) 2 2)⟩) (by omega) (fill_one rfl)]
  have hs := bkts_one (b := exB2) hs
  generalize h10.push (.cells ⟨bktRow exB2 (.slice (some ⟨b6, 0, none⟩) 2 2)⟩ 36) = h11, h10.size = b7 at hs
  rw [build_slice_of (cs := ⟨([sA].map strRow).flatten⟩) (by omega) (by kernel_rfl)]
  have hs := hs.newVec (rows := [sA].map strRow) (e := 9) (sz := 1) (n := 1) rfl (by simp [strRow]) (by simp [strRow, go_sem])
  generalize h11.push (.cells ⟨([sA].map strRow).flatten⟩ 9) = h12, h11.size = b8 at hs
  refine strings_fn (l := [sA]) (l' := [sA]) (hs.at 11).rows (hs.at 0).rows (by simp) ?_
  have l1 : ∀ K, oLen (some (.slice 36)) vx K h12 = K (.int .i64 0) h12 := fun K => bkts_lenV (l := []) (hs.at 10) 36 K h12
  have l2 : ∀ K, oLen (some (.slice 9)) vb K h12 = K (.int .i64 0) h12 := fun K => vec_lenV (rows := []) (hs.at 7) 9 K h12
  have l3 : ∀ K, oLen (some (.slice 36)) vy K h12 = K (.int .i64 0) h12 := fun K => bkts_lenV (l := []) (hs.at 6) 36 K h12
  have l4 : ∀ K, oLen (some (.slice 9)) vc K h12 = K (.int .i64 0) h12 := fun K => vec_lenV (rows := []) (hs.at 4) 9 K h12
  simp only [go_sem, decide_true, l1, l2, l3, l4]
  obtain ⟨L1, hL1, hB1⟩ := bkts_read (v := vz) (l := [exB2]) (hs.at 3)
  obtain ⟨L2, hL2, hB2⟩ := bkts_read (l := [exB2]) (hs.at 1)
  have hlen1 : L1.length = 1 := by have := congrArg List.length hL1; simpa using this
  refine same_fn hB1 hB2 (by omega) (fun x hx => ?_) ?_
  · have : x.1 ∈ [exB2] := by rw [← hL1]; exact List.mem_map.2 ⟨x, hx, rfl⟩
    rw [List.mem_singleton] at this
    rw [this]; decide
  rw [hL1, hL2]
  simp only [go_sem, decide_true]
  refine (buckets_new (m := exM3) (hs.at 2) ex_ok3 (by omega)).use hs fun h13 vbs Rs hRs _ hs => ?_
  obtain ⟨bs, hbs, rfl⟩ := hRs
  have hnil : bs = [] := by
    cases bs with
    | nil => rfl
    | cons b r => have := (hbs.mem b).1 (List.mem_cons_self ..); rw [ex3_bk] at this; cases this
  subst hnil
  have l5 : ∀ K, oLen (some (.slice 36)) vbs K h13 = K (.int .i64 0) h13 := fun K => bkts_lenV (l := []) (hs.at 0) 36 K h13
  simp only [go_sem, l5, decide_true]
  refine l_owed (p := p) (m := exM3) (q := none) (N := 10) (hs.at 3) ex_ok3 (by omega) hs fun h14 vo al hal hmem hs => ?_
  have hal' : al = [sX, sY] := sorted_unique hal xy_lt (fun x => (hmem x).trans ((ex3_ow x).trans (by simp)))
  subst hal'
  rw [build_slice_of (cs := ⟨([sX, sY].map strRow).flatten⟩) (by omega) (by kernel_rfl)]
  have hs := hs.newVec (rows := [sX, sY].map strRow) (e := 9) (sz := 1) (n := 2) rfl (by simp [strRow]) (by simp [strRow, go_sem])
  generalize h14.push (.cells ⟨([sX, sY].map strRow).flatten⟩ 9) = h15, h14.size = b9 at hs
  refine strings_fn (l := [sX, sY]) (l' := [sX, sY]) (hs.at 1).rows (hs.at 0).rows (by simp) ?_
  simp only [go_sem, decide_true]
  rw [f7_ret]
  refine hk h15 ?_
  exact hs.tail.tail.tail.tail.tail.tail.tail.tail.tail.tail.tail.tail.tail.tail.tail.tail.tail
end
end Go.Proofs.Ythgbpfoadlemaaa

/- What the laws of the ledger share. -/
namespace Go.Proofs.Ythgbpfoadlemaaa
open Go.Fw
theorem pairwise_unique {α : Type} {r : α → α → Prop} (hirr : ∀ a, ¬ r a a) (hasym : ∀ a b, r a b → r b a → False) : ∀ {l l' : List α}, l.Pairwise r → l'.Pairwise r → (∀ x, x ∈ l ↔ x ∈ l') → l = l'
  | [], [], _, _, _ => rfl
  | [], b :: _, _, _, h => by have := (h b).2 (List.mem_cons_self ..); cases this
  | a :: _, [], _, _, h => by have := (h a).1 (List.mem_cons_self ..); cases this
  | a :: l, b :: l', h1, h2, h => by
    rw [List.pairwise_cons] at h1 h2
    have hab : a = b := by
      rcases List.mem_cons.1 ((h a).1 (List.mem_cons_self ..)) with e | e
      · exact e
      · rcases List.mem_cons.1 ((h b).2 (List.mem_cons_self ..)) with e' | e'
        · exact e'.symm
        · exact (hasym _ _ (h1.1 b e') (h2.1 a e)).elim
    subst hab
    rw [pairwise_unique hirr hasym h1.2 h2.2 (fun x => ?_)]
    constructor
    · intro hx
      rcases List.mem_cons.1 ((h x).1 (List.mem_cons_of_mem _ hx)) with e | e
      · subst e; exact absurd (h1.1 x hx) (hirr x)
      · exact e
    · intro hx
      rcases List.mem_cons.1 ((h x).2 (List.mem_cons_of_mem _ hx)) with e | e
      · subst e; exact absurd (h2.1 x hx) (hirr x)
      · exact e
theorem ltB_asymm {a b : ByteArray} (h1 : ltB a b) (h2 : ltB b a) : False := ltB_irrefl a (ltB_trans h1 h2)
theorem keyLt_asymm (a b : Bkt) (h1 : keyLt a b) (h2 : keyLt b a) : False := by
  rcases h1 with h1 | ⟨e1, h1⟩ <;> rcases h2 with h2 | ⟨e2, h2⟩
  · omega
  · omega
  · omega
  · exact ltB_asymm h1 h2
theorem bkts_unique {l l' : List Bkt} (h1 : l.Pairwise keyLt) (h2 : l'.Pairwise keyLt) (h : ∀ x, x ∈ l ↔ x ∈ l') : l = l' := pairwise_unique keyLt_irrefl keyLt_asymm h1 h2 h
section
variable {p : Nat} {m m' : Led} {h : Heap} {F : List Res} {K : Kont} {N : Nat} {v : Value}
/-- Buckets apart: their rows, and what they own, for all heaps in which they lie so. -/
theorem bkts_apart {l : List Bkt} (hs : Sep h (bktsR v l :: F)) : ∃ L : List (Bkt × Value), L.map (·.1) = l ∧ Sep h (vecR v 36 5 (L.map fun x => bktRow x.1 x.2) :: elemsR bktE l (L.map fun x => bktRow x.1 x.2) :: F) ∧
    ∀ h', (elemsR bktE l (L.map fun x => bktRow x.1 x.2)).has h' → ∀ x ∈ L, RowsR (fun _ => True) h' x.2 1 (x.1.ids.map strRow) := by
  obtain ⟨rows, hl, hs⟩ := hs.ovec
  have hel := hs.at 1
  have hget : ∀ i (hi : i < l.length), ∃ sl, rows[i]'(by omega) = bktRow l[i] sl := by
    intro i hi
    obtain ⟨S, sl, S1, S2, ⟨e, _⟩, _⟩ := Res.has.elems (R := bktE) (xs := l) (rows := rows) hel hi (by omega)
    exact ⟨sl, e⟩
  have e : (List.zipWith (fun b row => (b, row.getD 2 undef)) l rows).map (fun p : Bkt × Value => bktRow p.1 p.2) = rows := by
    apply List.ext_getElem
    · simp [List.length_zipWith, hl]
    · intro i h1 h2
      obtain ⟨sl, e⟩ := hget i (by omega)
      simp [e, bktRow]
  have e1 : (List.zipWith (fun b row => (b, row.getD 2 undef)) l rows).map (·.1) = l := by
    apply List.ext_getElem
    · simp [List.length_zipWith, hl]
    · intro i h1 h2
      simp
  refine ⟨List.zipWith (fun b row => (b, row.getD 2 undef)) l rows, e1, by rw [e]; exact hs, fun h' hr x hx => ?_⟩
  rw [e] at hr
  obtain ⟨i, hi, rfl⟩ := List.mem_iff_getElem.1 hx
  rw [List.length_zipWith] at hi
  obtain ⟨S, sl, S1, S2, ⟨e, _⟩, h2, _⟩ := hr.elems (i := i) (by omega) (by omega)
  simp only [List.getElem_zipWith, e]
  exact Res.has.rows ⟨S2, h2⟩
theorem few_len {l : List Deed} (hf : few l = true) : l.length ≤ 20 ∧ l.all fewD = true := by
  simp only [few, Bool.and_eq_true, decide_eq_true_eq] at hf
  exact ⟨hf.2, hf.1⟩
theorem runs_take {l : List DeedV} {k : Nat} {rs : List (List ByteArray × List Bkt)} (hf : few (l.map (·.1)) = true) (hr : Runs Led.nil ((l.take k).map (·.1)) m rs) : m.Ok (bnd 20) := by
  obtain ⟨h1, h2⟩ := few_len hf
  have ha : ((l.take k).map (·.1)).all fewD = true := by
    rw [List.all_eq_true] at h2 ⊢
    intro x hx
    obtain ⟨y, hy, rfl⟩ := List.mem_map.1 hx
    exact h2 _ (List.mem_map.2 ⟨y, List.mem_of_mem_take hy, rfl⟩)
  refine (runs_ok hr ha).mono ?_
  have : ((l.take k).map (·.1)).length ≤ 20 := by
    rw [List.length_map, List.length_take]
    rw [List.length_map] at h1
    omega
  unfold bnd
  have := Nat.pow_le_pow_right (show 0 < 2 by omega) this
  omega
theorem bnd20 : bnd 20 ≤ 500000000 := bnd_le (by omega)
theorem few_at {l : List DeedV} (hf : few (l.map (·.1)) = true) {k : Nat} (hk : k < l.length) : fewD l[k].1 = true := by
  have h2 := (few_len hf).2
  rw [List.all_eq_true] at h2
  exact h2 _ (List.mem_map.2 ⟨l[k], List.getElem_mem hk, rfl⟩)
/-- An element of a slice: its address, its cells, itself. -/
theorem elem_at {sz : Nat} {rows : List (List Value)} {k : Nat} {r : List Value} (hr : RowsR (fun _ => True) h v sz rows) (hk : k < rows.length) (hrk : rows[k] = r) (hsz : 0 < sz) : ∃ b o : Nat,
    (∀ K, oIndexAddr (.slice sz) v (.int .i64 (k : Int)) K h = K (.pointer (some ⟨b, o, none⟩)) h) ∧ (∀ j, j < sz → cellAt h b (o + j) = r[j]?) ∧ (∀ K, oLoad (.agg sz) (.pointer (some ⟨b, o, none⟩)) K h = K (.agg ⟨r⟩) h) := by
  obtain ⟨b, o, cap, rfl, _, hc⟩ := hr.at_ hk
  have hcell : ∀ j, j < sz → cellAt h b (o + k * sz + j) = r[j]? := fun j hj => by
    rw [hc k j hk hj, List.getElem?_eq_getElem hk, hrk]
    rfl
  have hlen : r.length = sz := by rw [← hrk]; exact hr.len (List.getElem_mem hk)
  refine ⟨b, o + k * sz, fun K => by rw [index_slice (by omega) (by omega)]; simp, hcell, fun K => ?_⟩
  refine propext ⟨fun hh => ?_, fun hh => load_cells (n := sz) r hlen hsz hcell hh⟩
  have := load_cells (n := sz) (K := fun v _ => v = .agg ⟨r⟩) r hlen hsz hcell rfl
  rw [load_agg] at this hh
  cases hr : Fw.rowAt h b with
  | none => rw [hr] at this; exact this.elim
  | some c =>
    rw [hr] at this hh
    simp only [oRow] at this hh
    rw [this.2] at hh
    exact hh.2
theorem len_val {sz : Nat} {rows : List (List Value)} (hr : RowsR (fun _ => True) h v sz rows) (t : TypeId) (K : Kont) (h' : Heap) : oLen (some (.slice t)) v K h' = K (.int .i64 rows.length) h' := by
  obtain ⟨a, c, rfl⟩ := hr.val
  rfl
end
end Go.Proofs.Ythgbpfoadlemaaa

/- What the arguments of the laws read as. -/
namespace Go.Proofs.Ythgbpfoadlemaaa
open Go.Fw
theorem fu40_0 : fieldAt Try.prog 40 0 = some (3, 0, 1) := by kernel_rfl
theorem fu40_1 : fieldAt Try.prog 40 1 = some (9, 1, 1) := by kernel_rfl
theorem fu40_2 : fieldAt Try.prog 40 2 = some (3, 2, 1) := by kernel_rfl
theorem fu40_3 : fieldAt Try.prog 40 3 = some (9, 3, 1) := by kernel_rfl
theorem fu40_4 : fieldAt Try.prog 40 4 = some (3, 4, 1) := by kernel_rfl
theorem fu34_0 : fieldAt Try.prog 34 0 = some (3, 0, 1) := by kernel_rfl
theorem fu34_1 : fieldAt Try.prog 34 1 = some (3, 1, 1) := by kernel_rfl
theorem fu34_2 : fieldAt Try.prog 34 2 = some (3, 2, 1) := by kernel_rfl
theorem fu34_3 : fieldAt Try.prog 34 3 = some (3, 3, 1) := by kernel_rfl
theorem fu34_4 : fieldAt Try.prog 34 4 = some (9, 4, 1) := by kernel_rfl
theorem fu34_5 : fieldAt Try.prog 34 5 = some (9, 5, 1) := by kernel_rfl
theorem fu34_6 : fieldAt Try.prog 34 6 = some (31, 6, 1) := by kernel_rfl
theorem fu34_7 : fieldAt Try.prog 34 7 = some (32, 7, 1) := by kernel_rfl
theorem co40 : Try.prog.cellsOf 40 = 5 := by kernel_rfl
theorem co34 : Try.prog.cellsOf 34 = 8 := by kernel_rfl
theorem co4 : Try.prog.cellsOf 4 = 1 := by kernel_rfl
theorem ru3 : Try.prog.underlying 3 = some (.int .i64) := by kernel_rfl
theorem ru9 : Try.prog.underlying 9 = some .string := by kernel_rfl
theorem ru4 : Try.prog.underlying 4 = some .bool := by kernel_rfl
theorem ru31 : Try.prog.underlying 31 = some (.slice 40) := by kernel_rfl
theorem ru32 : Try.prog.underlying 32 = some (.slice 4) := by kernel_rfl
theorem ru22 : Try.prog.underlying 22 = some (.slice 34) := by kernel_rfl
theorem rd_sub : Rdr Try.prog 40 (fun _ (s : Sub) cs => cs = subRow s) := by
  intro H enc w fuel cs x h
  obtain ⟨hl, _, _, g0⟩ := rd_field h fu40_0
  obtain ⟨_, _, _, g1⟩ := rd_field h fu40_1
  obtain ⟨_, _, _, g2⟩ := rd_field h fu40_2
  obtain ⟨_, _, _, g3⟩ := rd_field h fu40_3
  obtain ⟨_, _, _, g4⟩ := rd_field h fu40_4
  rw [co40] at hl
  match cs, hl with
  | [c0, c1, c2, c3, c4], _ =>
    obtain ⟨n0, e0, _⟩ := rd_int ru3 _ _ _ _ _ _ g0
    obtain ⟨n1, e1, _⟩ := rd_str ru9 _ _ _ _ _ _ g1
    obtain ⟨n2, e2, _⟩ := rd_int ru3 _ _ _ _ _ _ g2
    obtain ⟨n3, e3, _⟩ := rd_str ru9 _ _ _ _ _ _ g3
    obtain ⟨n4, e4, _⟩ := rd_int ru3 _ _ _ _ _ _ g4
    simp only [List.drop_zero, List.drop_succ_cons, List.take_succ_cons, List.take_zero, List.cons.injEq, and_true] at e0 e1 e2 e3 e4
    subst e0 e1 e2 e3 e4
    exact ⟨⟨n0, n1, n2, n3, n4⟩, rfl⟩
theorem rd_adm : Rdr Try.prog 4 (fun _ (b : Bool) cs => cs = boolRow b) := rd_bool ru4
theorem rd_subs : Rdr Try.prog 31 (fun h (l : List Sub) cs => ∃ v, cs = [v] ∧ RowsR (fun b => b < h.size) h v 5 (l.map subRow)) := by
  intro H enc w fuel cs x h
  obtain ⟨xs, v, rfl, hr, _, hx⟩ := rd_slice ru31 co40 (by omega) rd_sub H enc w fuel _ x h
  refine ⟨xs.map (·.1), v, rfl, ?_⟩
  have : xs.map (·.2) = (xs.map (·.1)).map subRow := by
    rw [List.map_map]; exact List.map_congr_left fun x hm => hx x hm
  rw [← this]; exact hr
theorem rd_adms : Rdr Try.prog 32 (fun h (l : List Bool) cs => ∃ v, cs = [v] ∧ RowsR (fun b => b < h.size) h v 1 (l.map boolRow)) := by
  intro H enc w fuel cs x h
  obtain ⟨xs, v, rfl, hr, _, hx⟩ := rd_slice ru32 co4 (by omega) rd_adm H enc w fuel _ x h
  refine ⟨xs.map (·.1), v, rfl, ?_⟩
  have : xs.map (·.2) = (xs.map (·.1)).map boolRow := by
    rw [List.map_map]; exact List.map_congr_left fun x hm => hx x hm
  rw [← this]; exact hr
theorem rd_deed : Rdr Try.prog 34 (fun h (x : DeedV) cs => cs = dRow x ∧ DeedIn (fun b => b < h.size) h x) := by
  intro H enc w fuel cs x h
  obtain ⟨hl, _, _, g0⟩ := rd_field h fu34_0
  obtain ⟨_, _, _, g1⟩ := rd_field h fu34_1
  obtain ⟨_, _, _, g2⟩ := rd_field h fu34_2
  obtain ⟨_, _, _, g3⟩ := rd_field h fu34_3
  obtain ⟨_, _, _, g4⟩ := rd_field h fu34_4
  obtain ⟨_, _, _, g5⟩ := rd_field h fu34_5
  obtain ⟨_, _, _, g6⟩ := rd_field h fu34_6
  obtain ⟨_, _, _, g7⟩ := rd_field h fu34_7
  rw [co34] at hl
  match cs, hl with
  | [c0, c1, c2, c3, c4, c5, c6, c7], _ =>
    obtain ⟨n0, e0, _⟩ := rd_int ru3 _ _ _ _ _ _ g0
    obtain ⟨n1, e1, _⟩ := rd_int ru3 _ _ _ _ _ _ g1
    obtain ⟨n2, e2, _⟩ := rd_int ru3 _ _ _ _ _ _ g2
    obtain ⟨n3, e3, _⟩ := rd_int ru3 _ _ _ _ _ _ g3
    obtain ⟨n4, e4, _⟩ := rd_str ru9 _ _ _ _ _ _ g4
    obtain ⟨n5, e5, _⟩ := rd_str ru9 _ _ _ _ _ _ g5
    obtain ⟨n6, v6, e6, r6⟩ := rd_subs _ _ _ _ _ _ g6
    obtain ⟨n7, v7, e7, r7⟩ := rd_adms _ _ _ _ _ _ g7
    simp only [List.drop_zero, List.drop_succ_cons, List.take_succ_cons, List.take_zero, List.cons.injEq, and_true] at e0 e1 e2 e3 e4 e5 e6 e7
    subst e0 e1 e2 e3 e4 e5 e6 e7
    exact ⟨(⟨n0, n1, n2, n3, n4, n5, n6, n7⟩, c6, c7), rfl, r6, r7⟩
theorem rd_deeds : Rdr Try.prog 22 (fun h (l : List DeedV) cs => ∃ v, cs = [v] ∧ Deeds (fun b => b < h.size) h v l ∧ l.length ≤ maxLen) := by
  intro H enc w fuel cs x h
  obtain ⟨xs, v, rfl, hr, hm, hx⟩ := rd_slice ru22 co34 (by omega) rd_deed H enc w fuel _ x h
  refine ⟨xs.map (·.1), v, rfl, ⟨?_, fun y hy => ?_⟩, by simpa using hm⟩
  · have : xs.map (·.2) = (xs.map (·.1)).map dRow := by
      rw [List.map_map]; exact List.map_congr_left fun x hm => (hx x hm).1
    rw [← this]; exact hr
  · obtain ⟨z, hz, rfl⟩ := List.mem_map.1 hy
    exact (hx z hz).2
theorem frozen_deeds {h0 h : Heap} {v : Value} {l : List DeedV} (hr : (frozenR h0).has h) (hv : Deeds (fun b => b < h0.size) h0 v l) : Deeds (fun _ => True) h v l :=
  ⟨frozen_rows hr hv.1, fun x hx => ⟨frozen_rows hr (hv.2 x hx).1, frozen_rows hr (hv.2 x hx).2⟩⟩
end Go.Proofs.Ythgbpfoadlemaaa

/- Comparing strings. -/
namespace Go.Fw
theorem bytesLess_iff : ∀ (a b : List UInt8), Op.bytesLess a b = true ↔ a < b
  | _, [] => by simp [Op.bytesLess]
  | [], _ :: _ => by simp [Op.bytesLess]
  | a :: x, b :: y => by
    simp only [Op.bytesLess, Bool.or_eq_true, decide_eq_true_eq, Bool.and_eq_true, beq_iff_eq, bytesLess_iff x y, List.cons_lt_cons_iff]
theorem lessB_iff {a b : ByteArray} : lessB a b = true ↔ ltB a b := by
  unfold lessB ltB
  rw [bytesLess_iff, ByteArray.toList_eq, ByteArray.toList_eq]
end Go.Fw
