/- Proves the statement DueMerges: whatever the input, the law returns true and the input reads as it did; no conditions. -/
import Derived.Test.YthgbpfoadlemaaaD
import Derived.Test.YthgbpfoadlemaaaRows
import Derived.WalkKit
import Derived.ProofKit
import Derived.OpenShut
import Derived.ChangeOld
import Derived.Below
import Derived.SizedLaws
import Derived.Carry
/- DueBuckets: what a release does. -/
namespace Go.Proofs.Ythgbpfoadlemaaa
open Go.Fw
section
variable {p : Nat} {m m' : Led} {h : Heap} {F : List Res} {K : Kont} {N : Nat} {v : Value} {l : List DeedV} {id : ByteArray} {size list now budget : Int}
/-- What stands of a release. -/
structure RelFacts (m : Led) (id : ByteArray) (list budget : Int) (st : RelSt) : Prop where
  full : ∀ b ∈ st.fl, budget ≤ b.size ∧ b.list = list ∧ ∃ ids, b.ids = ids ++ [id]
  bk : ∀ l a b, st.m.bk l a = some b → m.bk l a = some b ∨ (0 < budget → b.size < budget)
theorem addTo_key {st : Led} {a : ByteArray} (hm : st.Ok N) : (addTo st id a size list now).list = list ∧ (addTo st id a size list now).addr = a := by
  unfold addTo
  cases hb : st.bk list a with
  | none => exact ⟨rfl, rfl⟩
  | some b => obtain ⟨h1, h2⟩ := hm.key _ _ _ hb; exact ⟨h1, h2⟩
theorem relStep_facts {st : RelSt} {x : Sub × Bool} {k : Nat} (hst : RelOk st N k) (hf : RelFacts m id list budget st) : RelFacts m id list budget (relStep id size list now budget st x) := by
  unfold relStep
  split
  · split
    · exact ⟨hf.full, hf.bk⟩
    · have h4 := hst.ok.owe x.1.addr id
      obtain ⟨k1, k2⟩ := addTo_key (id := id) (size := size) (list := list) (now := now) (a := x.1.addr) h4
      have hids : ∃ ids, (addTo (st.m.owe x.1.addr id) id x.1.addr size list now).ids = ids ++ [id] := ⟨_, rfl⟩
      generalize addTo (st.m.owe x.1.addr id) id x.1.addr size list now = b at k1 k2 hids
      unfold bump
      split
      · rename_i hb
        refine ⟨fun c hc => ?_, fun l a c hc => hf.bk l a c (del_some hc)⟩
        rcases List.mem_append.1 hc with hc | hc
        · exact hf.full c hc
        · rw [List.mem_singleton] at hc; subst hc; exact ⟨hb.2, k1, hids⟩
      · rename_i hb
        refine ⟨hf.full, fun l a c hc => ?_⟩
        simp only [Led.put] at hc
        split at hc
        · injection hc with hc
          subst hc
          exact .inr fun h0 => Classical.byContradiction fun hh => hb ⟨h0, by omega⟩
        · exact hf.bk l a c hc
  · exact hf
theorem rel_facts : ∀ (x : List (Sub × Bool)) (st : RelSt) (k : Nat), RelOk st N k → RelFacts m id list budget st → RelFacts m id list budget (x.foldl (relStep id size list now budget) st)
  | [], _, _, _, h => h
  | y :: x, _, k, h1, h2 => rel_facts x _ (k + 1) (relStep_ok (id := id) (size := size) (list := list) (now := now) (budget := budget) (x := y) h1) (relStep_facts (size := size) (now := now) h1 h2)
theorem rel_all (hm : m.Ok N) (x : List (Sub × Bool)) : RelFacts m id list budget (rel id size list now budget m x) :=
  rel_facts (N := N) x _ 0 ⟨hm, Nat.le_refl _, Nat.le_refl _⟩ ⟨(by intro b hb; cases hb), fun _ _ _ h => .inl h⟩
theorem relStep_ids {st : RelSt} {x : Sub × Bool} {k : Nat} (hst : RelOk st N k) (hf : ∀ b ∈ st.fl, b.ids.length ≤ N + 2 * k) : ∀ b ∈ (relStep id size list now budget st x).fl, b.ids.length ≤ N + 2 * (k + 1) := by
  have hf' : ∀ b ∈ st.fl, b.ids.length ≤ N + 2 * (k + 1) := fun b hb => by have := hf b hb; omega
  unfold relStep
  split
  · split
    · exact hf'
    · have h4 := hst.ok.owe x.1.addr id
      have h5 := (addTo_ok (id := id) (a := x.1.addr) (size := size) (list := list) (now := now) h4).1
      unfold bump
      split
      · intro b hb
        rcases List.mem_append.1 hb with hb | hb
        · exact hf' b hb
        · rw [List.mem_singleton] at hb; subst hb; omega
      · exact hf'
  · exact hf'
theorem rel_ids : ∀ (x : List (Sub × Bool)) (st : RelSt) (k : Nat), RelOk st N k → (∀ b ∈ st.fl, b.ids.length ≤ N + 2 * k) → ∀ b ∈ (x.foldl (relStep id size list now budget) st).fl, b.ids.length ≤ N + 2 * (k + x.length)
  | [], _, _, _, h => h
  | y :: x, _, k, h1, h2 => by
    have := rel_ids x _ (k + 1) (relStep_ok (id := id) (size := size) (list := list) (now := now) (budget := budget) (x := y) h1) (relStep_ids h1 h2)
    intro b hb
    have := this b hb
    simp only [List.length_cons]
    omega
theorem rel_ids_all (hm : m.Ok N) (x : List (Sub × Bool)) : ∀ b ∈ (rel id size list now budget m x).fl, b.ids.length ≤ N + 2 * x.length := by
  have := rel_ids (N := N) (id := id) (size := size) (list := list) (now := now) (budget := budget) x ⟨m, [], []⟩ 0 ⟨hm, Nat.le_refl _, Nat.le_refl _⟩ (by intro b hb; cases hb)
  intro b hb
  have := this b hb
  omega
theorem cnt_pos {bs : List Bkt} {b : Bkt} {i : ByteArray} (hb : b ∈ bs) (hi : i ∈ b.ids) : 0 < cnt bs b.addr i := by
  induction bs with
  | nil => cases hb
  | cons c r ih =>
    simp only [cnt, List.map_cons, List.sum_cons]
    rcases List.mem_cons.1 hb with rfl | hb
    · have : 0 < cnt1 b.addr i b := by
        simp only [cnt1, if_true, cntIds]
        exact List.length_pos_of_mem (List.mem_filter.2 ⟨hi, by simp⟩)
      omega
    · have := ih hb
      simp only [cnt] at this
      omega
end
end Go.Proofs.Ythgbpfoadlemaaa

/- DueBuckets: the walk. -/
namespace Go.Proofs.Ythgbpfoadlemaaa
open Go.Fw
section
variable {p : Nat} {m m' : Led} {h : Heap} {F : List Res} {K : Kont} {N : Nat} {q : LPost} {L : List (Bkt × Value)} {v0 v1 v2 v4 v6 v7 v8 v9 v10 v11 v14 v15 v17 v18 vb : Value}
def rowB (x : Bkt × Value) : List Value := bktRow x.1 x.2
/-- Buckets that lie in the frame. -/
structure InF (F : List Res) (v : Value) (L : List (Bkt × Value)) : Prop where
  rows : ∀ h', Sep h' F → RowsR (fun _ => True) h' v 5 (L.map rowB)
  ids : ∀ h', Sep h' F → ∀ x ∈ L, RowsR (fun _ => True) h' x.2 1 (x.1.ids.map strRow)
theorem InF.one (hi : InF F v0 L) (hs : Sep h F) {x : Bkt × Value} (hx : x ∈ L) : (⟨rowB x⟩ : Array Value).toList.all oneC = true := by
  obtain ⟨a, c, e⟩ := (hi.ids h hs x hx).val
  simp only [rowB, bktRow, e]
  rfl
theorem InF.mono {G : List Res} (hi : InF F v0 L) (hg : ∀ h, Sep h G → Sep h F) : InF G v0 L := ⟨fun h' hs => hi.rows h' (hg h' hs), fun h' hs => hi.ids h' (hg h' hs)⟩
theorem inF_mk {bs : List Bkt} {G : List Res} (hLs : ∀ h', (elemsR bktE bs (L.map fun x => bktRow x.1 x.2)).has h' → ∀ x ∈ L, RowsR (fun _ => True) h' x.2 1 (x.1.ids.map strRow)) :
    InF (vecR vb 36 5 (L.map fun x => bktRow x.1 x.2) :: elemsR bktE bs (L.map fun x => bktRow x.1 x.2) :: G) vb L := ⟨fun _ hs => (hs.at 0).rows, fun h' hs => hLs h' (hs.at 1)⟩
set_option maxRecDepth 16000 in
theorem before_round {k : Nat} (hi : InF F vb L) (hne : ∀ x ∈ L, x.1.ids ≠ []) (hso : (L.map (·.1)).Pairwise keyLt) (hl : L.length ≤ 4294967296) (hs : Sep h F) (hlt : k < L.length)
    (hq : ∀ h', Sep h' F → q .normal [v0, v1, v2, v4, v6, v7, v8, v9, vb, .int .i64 ((k : Int) + 1), v14, v15, v17, v18] h') : f4_T17 q [v0, v1, v2, v4, v6, v7, v8, v9, vb, .int .i64 k, v14, v15, v17, v18] h := by
  have hlv : ∀ K, oLen (some (.slice 36)) vb K h = K (.int .i64 L.length) h := fun K => by rw [len_val (hi.rows h hs), List.length_map]
  have hd : decide ((k : Int) < (L.length : Int)) = true := by simp; omega
  obtain ⟨b, o, hidx, hcell, hload⟩ := elem_at (r := rowB L[k]) (hi.rows h hs) (by simpa using hlt) (by simp) (by omega)
  have hmem : L[k] ∈ L := List.getElem_mem hlt
  have hnek := hne _ hmem
  have hone := hi.one hs hmem
  have hprev : k ≠ 0 → ∃ y ∈ L, keyLt y.1 L[k].1 ∧ ∀ (h' : Heap), Sep h' F → ∃ b o, (∀ K, oIndexAddr (.slice 5) vb (.int .i64 ((k : Int) - 1)) K h' = K (.pointer (some ⟨b, o, none⟩)) h') ∧ cellAt h' b (o + 0) = some (.int .i64 y.1.list) ∧ cellAt h' b (o + 1) = some (.string y.1.addr) := by
    intro hk0
    have hk1 : (k : Int) - 1 = ((k - 1 : Nat) : Int) := by omega
    refine ⟨L[k - 1]'(by omega), List.getElem_mem _, ?_, fun h' hs' => ?_⟩
    · have := List.pairwise_iff_getElem.1 hso (k - 1) k (by simp; omega) (by simpa using hlt) (by omega)
      simpa using this
    · obtain ⟨b', o', hidx', hcell', _⟩ := elem_at (r := rowB (L[k - 1]'(by omega))) (k := k - 1) (hi.rows h' hs') (by simp; omega) (by simp) (by omega)
      rw [hk1]
      exact ⟨b', o', hidx', hcell' 0 (by omega), hcell' 1 (by omega)⟩
  generalize L[k] = x at hmem hnek hone hprev hload
  obtain ⟨bx, sl⟩ := x
  simp -implicitDefEqProofs only [f4_T17, go_sem, hlv, hd, hidx, hload]
  refine s_alloc hs fun h3 y hs => ?_
  refine s_store hs rfl rfl hone fun h4 hs => ?_
  have hsF := hs.tail
  have c0 : cellAt h4 y 0 = some (.int .i64 bx.list) := (hs.at 0).cell 0
  have c1 : cellAt h4 y 1 = some (.string bx.addr) := (hs.at 0).cell 1
  have c2 : cellAt h4 y 2 = some sl := (hs.at 0).cell 2
  have hll : ∀ K, oLen (some (.slice 9)) sl K h4 = K (.int .i64 bx.ids.length) h4 := fun K => by rw [len_val (hi.ids h4 hsF _ hmem), List.length_map]
  have hz : decide ((bx.ids.length : Int) = 0) = false := by
    have : bx.ids.length ≠ 0 := fun e => hnek (List.eq_nil_of_length_eq_zero e)
    simpa using this
  have hq := hq h4 hsF
  simp only at hprev
  clear hs hidx hload hlv hi hone hmem hcell
  by_cases hk0 : k = 0
  · have hg : decide ((0 : Int) < (k : Int)) = false := by simp [hk0]
    simp -implicitDefEqProofs (disch := omega) only [go_sem, Nat.zero_add, c2, hll, hz, hg, bin_add_in]
    exact hq
  · have hg : decide ((0 : Int) < (k : Int)) = true := by simp; omega
    obtain ⟨z, _, hlt', hpz⟩ := hprev hk0
    obtain ⟨b', o', hidx', d0, d1⟩ := hpz h4 hsF
    have e1 : decide (bx.list < z.1.list) = false := by
      rcases hlt' with h | ⟨h, _⟩ <;> simp <;> omega
    cases e2 : decide (z.1.list = bx.list) with
    | false =>
      simp -implicitDefEqProofs (disch := omega) only [go_sem, Nat.zero_add, c2, hll, hz, hg, bin_sub_in, hidx', d0, c0, e1, e2, bin_add_in]
      exact hq
    | true =>
      have e3 : lessB z.1.addr bx.addr = true := by
        rcases hlt' with h | ⟨_, h⟩
        · simp at e2; omega
        · exact lessB_iff.2 h
      simp -implicitDefEqProofs (disch := omega) only [go_sem, Nat.zero_add, c2, hll, hz, hg, bin_sub_in, hidx', d0, c0, e1, e2, d1, c1, e3, Bool.not_true, bin_add_in]
      exact hq
set_option maxRecDepth 16000 in
theorem before_loop (hi : InF F vb L) (hne : ∀ x ∈ L, x.1.ids ≠ []) (hso : (L.map (·.1)).Pairwise keyLt) (hl : L.length ≤ 4294967296) (hs : Sep h F)
    (hq : ∀ h' v11, Sep h' F → f4_T4 q [v0, v1, v2, v4, v6, v7, v8, v9, vb, v11, v14, v15, v17, v18] h') : f4_T16 q [v0, v1, v2, v4, v6, v7, v8, v9, vb, .int .i64 0, v14, v15, v17, v18] h := by
  refine LoopS.st (σ := Nat) (fun k => [v0, v1, v2, v4, v6, v7, v8, v9, vb, .int .i64 k, v14, v15, v17, v18]) (fun k h' => Sep h' F ∧ k ≤ L.length) (fun k => L.length - k) 0 rfl ⟨hs, Nat.zero_le _⟩ ?_
  rintro k h2 ⟨hs, hkl⟩
  by_cases hlt : k < L.length
  · refine before_round hi hne hso hl hs hlt fun h' hs => ?_
    rw [thenL_normal]
    exact NextSt.mk (k + 1) rfl ⟨hs, hlt⟩ (by omega)
  · have hlv : ∀ K, oLen (some (.slice 36)) vb K h2 = K (.int .i64 L.length) h2 := fun K => by rw [len_val (hi.rows h2 hs), List.length_map]
    have hd : decide ((k : Int) < (L.length : Int)) = false := by simp; omega
    simp only [f4_T17, go_sem, hlv, hd]
    exact hq h2 _ hs
end
end Go.Proofs.Ythgbpfoadlemaaa

/- DueBuckets: the walk, continued. -/
namespace Go.Proofs.Ythgbpfoadlemaaa
open Go.Fw
section
variable {p : Nat} {m m' : Led} {h : Heap} {F : List Res} {K : Kont} {N : Nat} {q : LPost} {L : List (Bkt × Value)} {v v0 v1 v2 v4 v6 v7 v8 v9 v10 v11 v14 v15 v17 v18 vb : Value}
/-- The last of the ids. -/
theorem last_at {ids : List ByteArray} {id : ByteArray} {sl : Value} (hr : RowsR (fun _ => True) h sl 1 ((ids ++ [id]).map strRow)) : ∃ b o, (∀ K, oIndexAddr (.slice 1) sl (.int .i64 (((ids ++ [id]).length : Int) - 1)) K h = K (.pointer (some ⟨b, o, none⟩)) h) ∧ cellAt h b o = some (.string id) := by
  obtain ⟨b, o, hidx, hcell, _⟩ := elem_at (k := ids.length) (r := strRow id) hr (by simp) (by simp [strRow]) (by omega)
  refine ⟨b, o, fun K => ?_, ?_⟩
  · have : (((ids ++ [id]).length : Int) - 1) = (ids.length : Int) := by simp
    rw [this]; exact hidx K
  · have := hcell 0 (by omega)
    simpa [strRow] using this
/-- A deed's box in the frame. -/
def BoxIn (F : List Res) (b : Nat) (x : DeedV) : Prop := ∀ h', Sep h' F → (cellR b ⟨dRow x⟩ 34).has h'
set_option maxRecDepth 16000 in
theorem full_round {k bd : Nat} {x : DeedV} {budget : Int} (hi : InF F vb L) (hbox : BoxIn F bd x) (hfull : ∀ y ∈ L, budget ≤ y.1.size ∧ y.1.list = x.1.list ∧ ∃ ids, y.1.ids = ids ++ [x.1.id]) (hl : L.length ≤ 4294967296) (hids : ∀ y ∈ L, y.1.ids.length ≤ 4294967296)
    (hs : Sep h F) (hlt : k < L.length)
    (hq : ∀ h', Sep h' F → q .normal [v0, v1, .int .i64 budget, ptr bd, v6, v7, v8, v9, v10, v11, vb, .int .i64 ((k : Int) + 1), v17, v18] h') : f4_T14 q [v0, v1, .int .i64 budget, ptr bd, v6, v7, v8, v9, v10, v11, vb, .int .i64 k, v17, v18] h := by
  have hlv : ∀ K, oLen (some (.slice 36)) vb K h = K (.int .i64 L.length) h := fun K => by rw [len_val (hi.rows h hs), List.length_map]
  have hd : decide ((k : Int) < (L.length : Int)) = true := by simp; omega
  obtain ⟨b, o, hidx, hcell, hload⟩ := elem_at (r := rowB L[k]) (hi.rows h hs) (by simpa using hlt) (by simp) (by omega)
  have hmem : L[k] ∈ L := List.getElem_mem hlt
  have hone := hi.one hs hmem
  generalize L[k] = y at hmem hone hload
  obtain ⟨bx, sl⟩ := y
  obtain ⟨f1, f2, ids, f3⟩ := hfull _ hmem
  have hil := hids _ hmem
  simp only at f1 f2 f3 hil
  unfold ptr at hq ⊢
  simp -implicitDefEqProofs only [f4_T14, go_sem, hlv, hd, hidx, hload]
  refine s_alloc hs fun h3 y hs => ?_
  refine s_store hs rfl rfl hone fun h4 hs => ?_
  have hsF := hs.tail
  have c0 : cellAt h4 y 0 = some (.int .i64 bx.list) := (hs.at 0).cell 0
  have c2 : cellAt h4 y 2 = some sl := (hs.at 0).cell 2
  have c3 : cellAt h4 y 3 = some (.int .i64 bx.size) := (hs.at 0).cell 3
  have g1 : cellAt h4 bd 1 = some (.int .i64 x.1.list) := (hbox h4 hsF).cell 1
  have g4 : cellAt h4 bd 4 = some (.string x.1.id) := (hbox h4 hsF).cell 4
  have hll : ∀ K, oLen (some (.slice 9)) sl K h4 = K (.int .i64 bx.ids.length) h4 := fun K => by rw [len_val (hi.ids h4 hsF _ hmem), List.length_map]
  have hrl := hi.ids h4 hsF _ hmem
  simp only [f3] at hrl
  obtain ⟨b2, o2, hix, cl⟩ := last_at hrl
  rw [← f3] at hix
  have e1 : decide (bx.size < budget) = false := by simp; omega
  have e2 : decide (bx.list = x.1.list) = true := by simp [f2]
  have e3 : decide ((bx.ids.length : Int) = 0) = false := by rw [f3]; simp; omega
  have hq := hq h4 hsF
  clear hs hidx hload hlv hi hone hmem hcell hbox
  simp -implicitDefEqProofs (disch := omega) only [go_sem, Nat.zero_add, c3, e1, c0, g1, e2, Bool.not_true, c2, hll, e3, bin_sub_in, hix, cl, g4, bin_add_in]
  exact hq
set_option maxRecDepth 16000 in
theorem full_loop {bd : Nat} {x : DeedV} {budget : Int} (hi : InF F vb L) (hbox : BoxIn F bd x) (hfull : ∀ y ∈ L, budget ≤ y.1.size ∧ y.1.list = x.1.list ∧ ∃ ids, y.1.ids = ids ++ [x.1.id]) (hl : L.length ≤ 4294967296) (hids : ∀ y ∈ L, y.1.ids.length ≤ 4294967296)
    (hs : Sep h F) (hq : ∀ h' v15, Sep h' F → f4_T6 q [v0, v1, .int .i64 budget, ptr bd, v6, v7, v8, v9, v10, v11, vb, v15, v17, v18] h') : f4_T13 q [v0, v1, .int .i64 budget, ptr bd, v6, v7, v8, v9, v10, v11, vb, .int .i64 0, v17, v18] h := by
  refine LoopS.st (σ := Nat) (fun k => [v0, v1, .int .i64 budget, ptr bd, v6, v7, v8, v9, v10, v11, vb, .int .i64 k, v17, v18]) (fun k h' => Sep h' F ∧ k ≤ L.length) (fun k => L.length - k) 0 rfl ⟨hs, Nat.zero_le _⟩ ?_
  rintro k h2 ⟨hs, hkl⟩
  by_cases hlt : k < L.length
  · refine full_round hi hbox hfull hl hids hs hlt fun h' hs => ?_
    rw [thenL_normal]
    exact NextSt.mk (k + 1) rfl ⟨hs, hlt⟩ (by omega)
  · have hlv : ∀ K, oLen (some (.slice 36)) vb K h2 = K (.int .i64 L.length) h2 := fun K => by rw [len_val (hi.rows h2 hs), List.length_map]
    have hd : decide ((k : Int) < (L.length : Int)) = false := by simp; omega
    simp only [f4_T14, go_sem, hlv, hd]
    exact hq h2 _ hs
set_option maxRecDepth 16000 in
theorem after_round {k bd : Nat} {x : DeedV} {budget : Int} {B : List (Bkt × Value)} (hi : InF F vb L) (hb : InF F v10 B) (hbox : BoxIn F bd x) (hne : ∀ y ∈ L, y.1.ids ≠ [])
    (hafter : ∀ y ∈ L, y.1.list = x.1.list → ∀ ids, y.1.ids = ids ++ [x.1.id] → cnt (B.map (·.1)) y.1.addr x.1.id = 0 → ¬ budget ≤ y.1.size) (hl : L.length ≤ 4294967296) (hids : ∀ y ∈ L, y.1.ids.length ≤ 4294967296)
    (ht : total (B.map (·.1)) < 4611686018427387904) (hbl : B.length < 4611686018427387904)
    (hs : Sep h F) (hlt : k < L.length)
    (hq : ∀ h', Sep h' F → q .normal [v0, v1, .int .i64 budget, ptr bd, v6, v7, v8, v9, v10, v11, v14, v15, vb, .int .i64 ((k : Int) + 1)] h') : f4_T11 q [v0, v1, .int .i64 budget, ptr bd, v6, v7, v8, v9, v10, v11, v14, v15, vb, .int .i64 k] h := by
  have hlv : ∀ K, oLen (some (.slice 36)) vb K h = K (.int .i64 L.length) h := fun K => by rw [len_val (hi.rows h hs), List.length_map]
  have hd : decide ((k : Int) < (L.length : Int)) = true := by simp; omega
  obtain ⟨b, o, hidx, hcell, hload⟩ := elem_at (r := rowB L[k]) (hi.rows h hs) (by simpa using hlt) (by simp) (by omega)
  have hmem : L[k] ∈ L := List.getElem_mem hlt
  have hone := hi.one hs hmem
  generalize L[k] = y at hmem hone hload
  obtain ⟨bx, sl⟩ := y
  have hil := hids _ hmem
  have haf := hafter _ hmem
  have hnn := hne _ hmem
  simp only at hil haf hnn
  obtain ⟨ids, z, f3⟩ : ∃ ids z, bx.ids = ids ++ [z] := ⟨_, _, (List.dropLast_concat_getLast hnn).symm⟩
  unfold ptr at hq ⊢
  simp -implicitDefEqProofs only [f4_T11, go_sem, hlv, hd, hidx, hload]
  refine s_alloc hs fun h3 y hs => ?_
  refine s_store hs rfl rfl hone fun h4 hs => ?_
  have hsF := hs.tail
  have c0 : cellAt h4 y 0 = some (.int .i64 bx.list) := (hs.at 0).cell 0
  have c1 : cellAt h4 y 1 = some (.string bx.addr) := (hs.at 0).cell 1
  have c2 : cellAt h4 y 2 = some sl := (hs.at 0).cell 2
  have c3 : cellAt h4 y 3 = some (.int .i64 bx.size) := (hs.at 0).cell 3
  have g1 : cellAt h4 bd 1 = some (.int .i64 x.1.list) := (hbox h4 hsF).cell 1
  have g4 : cellAt h4 bd 4 = some (.string x.1.id) := (hbox h4 hsF).cell 4
  have hll : ∀ K, oLen (some (.slice 9)) sl K h4 = K (.int .i64 bx.ids.length) h4 := fun K => by rw [len_val (hi.ids h4 hsF _ hmem), List.length_map]
  have hrl := hi.ids h4 hsF _ hmem
  simp only [f3] at hrl
  obtain ⟨b2, o2, hix, cl⟩ := last_at hrl
  rw [← f3] at hix
  have e3 : decide ((0 : Int) < bx.ids.length) = true := by rw [f3]; simp
  have hq := hq h4 hsF
  have hB : Bkts (fun _ => True) h4 v10 B := ⟨hb.rows h4 hsF, hb.ids h4 hsF⟩
  clear hs hidx hload hlv hi hone hmem hcell hbox hb
  cases e0 : decide (bx.list = x.1.list) with
  | false =>
    simp -implicitDefEqProofs (disch := omega) only [go_sem, Nat.zero_add, c0, g1, e0, bin_add_in]
    exact hq
  | true =>
    cases e1 : decide (z = x.1.id) with
    | false =>
      simp -implicitDefEqProofs (disch := omega) only [go_sem, Nat.zero_add, c0, g1, e0, c2, hll, e3, bin_sub_in, hix, cl, g4, e1, bin_add_in]
      exact hq
    | true =>
      simp -implicitDefEqProofs (disch := omega) only [go_sem, Nat.zero_add, c0, g1, e0, c2, hll, e3, bin_sub_in, hix, cl, g4, e1, c1]
      refine l_count hB ht hbl ?_
      cases e2 : decide (((cnt (B.map (·.1)) bx.addr x.1.id : Nat) : Int) = 0) with
      | false =>
        simp -implicitDefEqProofs (disch := omega) only [go_sem, e2, bin_add_in]
        exact hq
      | true =>
        have hz : z = x.1.id := of_decide_eq_true e1
        have hlt' : decide (budget ≤ bx.size) = false := by
          rw [decide_eq_false_iff_not]
          refine haf (of_decide_eq_true e0) ids (by rw [f3, hz]) ?_
          have := of_decide_eq_true e2
          omega
        simp -implicitDefEqProofs (disch := omega) only [go_sem, Nat.zero_add, e2, c3, hlt', bin_add_in]
        exact hq
set_option maxRecDepth 16000 in
theorem after_loop {bd : Nat} {x : DeedV} {budget : Int} {B : List (Bkt × Value)} (hi : InF F vb L) (hb : InF F v10 B) (hbox : BoxIn F bd x) (hne : ∀ y ∈ L, y.1.ids ≠ [])
    (hafter : ∀ y ∈ L, y.1.list = x.1.list → ∀ ids, y.1.ids = ids ++ [x.1.id] → cnt (B.map (·.1)) y.1.addr x.1.id = 0 → ¬ budget ≤ y.1.size) (hl : L.length ≤ 4294967296) (hids : ∀ y ∈ L, y.1.ids.length ≤ 4294967296)
    (ht : total (B.map (·.1)) < 4611686018427387904) (hbl : B.length < 4611686018427387904)
    (hs : Sep h F) (hq : ∀ h' v18, Sep h' F → f4_T8 q [v0, v1, .int .i64 budget, ptr bd, v6, v7, v8, v9, v10, v11, v14, v15, vb, v18] h') : f4_T10 q [v0, v1, .int .i64 budget, ptr bd, v6, v7, v8, v9, v10, v11, v14, v15, vb, .int .i64 0] h := by
  refine LoopS.st (σ := Nat) (fun k => [v0, v1, .int .i64 budget, ptr bd, v6, v7, v8, v9, v10, v11, v14, v15, vb, .int .i64 k]) (fun k h' => Sep h' F ∧ k ≤ L.length) (fun k => L.length - k) 0 rfl ⟨hs, Nat.zero_le _⟩ ?_
  rintro k h2 ⟨hs, hkl⟩
  by_cases hlt : k < L.length
  · refine after_round hi hb hbox hne hafter hl hids ht hbl hs hlt fun h' hs => ?_
    rw [thenL_normal]
    exact NextSt.mk (k + 1) rfl ⟨hs, hlt⟩ (by omega)
  · have hlv : ∀ K, oLen (some (.slice 36)) vb K h2 = K (.int .i64 L.length) h2 := fun K => by rw [len_val (hi.rows h2 hs), List.length_map]
    have hd : decide ((k : Int) < (L.length : Int)) = false := by simp; omega
    simp only [f4_T11, go_sem, hlv, hd]
    exact hq h2 _ hs
end
end Go.Proofs.Ythgbpfoadlemaaa

/- DueBuckets: the law. -/
namespace Go.Proofs.Ythgbpfoadlemaaa
open Go.Fw
section
variable {p : Nat} {m m' : Led} {h : Heap} {F : List Res} {K : Kont} {N : Nat} {q : LPost} {v : Value} {l : List DeedV} {x : DeedV} {budget : Int}
theorem total_bound {bs : List Bkt} {M : Nat} (hb : ∀ b ∈ bs, b.ids.length ≤ M) : total bs ≤ bs.length * M := by
  induction bs with
  | nil => simp [total]
  | cons b r ih =>
    have h1 := ih (fun c hc => hb c (List.mem_cons_of_mem _ hc))
    have h2 := hb b (List.mem_cons_self ..)
    simp only [total, List.map_cons, List.sum_cons, List.length_cons, Nat.add_mul] at *
    omega
theorem total_ok (hm : m.Ok N) (hN : N ≤ 1073741824) {bs : List Bkt} (hb : AllB m bs) : total bs < 4611686018427387904 := by
  have h1 := total_bound (bs := bs) (M := N) (fun b hb' => hm.ids _ _ _ ((hb.mem b).1 hb'))
  have h2 := all_len hm hb.sorted (fun b hb' => (hb.mem b).1 hb')
  have h3 : bs.length * N ≤ N * N := Nat.mul_le_mul_right _ h2
  have h4 : N * N ≤ 1073741824 * 1073741824 := Nat.mul_le_mul hN hN
  omega
set_option maxRecDepth 16000 in
theorem buckets_law (hs : Sep h F) (hv : ∀ h', Sep h' F → Deeds (fun _ => True) h' v l) (hx : ∀ h', Sep h' F → DeedIn (fun _ => True) h' x) (hl : l.length ≤ 9223372036854775807) (hk : ∀ h', Sep h' F → K (.bool true) h') :
    FnH Try.prog 4 #[v, .agg ⟨dRow x⟩, .int .i64 budget] h K := by
  refine f4_fn ?_
  simp only [f4_T0, go_sem]
  refine s_box hs fun h1 bd hs => ?_
  refine small_fn hs fun h2 hs => ?_
  refine few_fn (hv h2 hs.tail) hl ?_
  cases hf : few (l.map (·.1)) with
  | false =>
    simp only [go_sem, Bool.not_false]
    rw [f4_ret]
    exact hk h2 hs.tail
  | true =>
    have hload : ∀ K, oLoad (.agg 8) (.pointer (some ⟨bd, 0, none⟩)) K h2 = K (.agg ⟨dRow x⟩) h2 := fun K => load_cellR (t := 34) (hs.at 0) rfl
    simp only [go_sem, Bool.not_true, hload]
    rw [build_slice_of (cs := ⟨dRow x⟩) (by omega) (fill_one rfl)]
    have hone : ∀ y ∈ dRow x, oneC y = true := by
      obtain ⟨a, c, e⟩ := (hx h2 hs.tail).1.val
      obtain ⟨a', c', e'⟩ := (hx h2 hs.tail).2.val
      simp only [dRow, deedRow, e, e']
      simp [go_sem]
    have hs1 := hs.newVec (rows := [dRow x]) (e := 34) (sz := 8) (n := 1) rfl (by simp [dRow, deedRow]) (by simpa using hone)
    have e : (⟨[dRow x].flatten⟩ : Array Value) = ⟨dRow x⟩ := by simp
    rw [e] at hs1
    generalize h2.push (.cells ⟨dRow x⟩ 34) = h3, h2.size = bs0 at hs1
    refine few_fn (l := [x]) ⟨(hs1.at 0).rows, fun y hy => by rw [List.mem_singleton] at hy; subst hy; exact hx h3 hs1.tail.tail⟩ (by simp) ?_
    have hs := hs1.tail
    cases hf2 : few ([x].map (·.1)) with
    | false =>
      simp only [go_sem, Bool.not_false]
      rw [f4_ret]
      exact hk h3 hs.tail
    | true =>
      cases hb : decide (budget < 1) with
      | true =>
        simp only [go_sem, Bool.not_true, hb]
        rw [f4_ret]
        exact hk h3 hs.tail
      | false =>
        have hbud : 1 ≤ budget := by have := of_decide_eq_false hb; omega
        have hfx : fewD x.1 = true := by have := (few_len hf2).2; simpa using this
        have hl20 : l.length ≤ 20 := by simpa using (few_len hf).1
        have hN := bnd20
        simp only [go_sem, Bool.not_true, hb]
        refine new_fn hs fun h4 p hs => ?_
        have hend : ∀ h' v9 v10 v11 v14 v15 v17 v18 rs m, Runs Led.nil (l.map (·.1)) m rs → Sep h' (ledR p m none :: cellR bd ⟨dRow x⟩ 34 :: F) →
            f4_T2 (retL Try.prog f4_L Try.f4.results.toList K) [v, .agg ⟨dRow x⟩, .int .i64 budget, ptr bd, .bool false, .bool true, ptr p, v9, v10, v11, v14, v15, v17, v18] h' := by
          intro h' v9 v10 v11 v14 v15 v17 v18 rs m hr hs
          have hm : m.Ok (bnd 20) := runs_take (k := l.length) hf (by rw [List.take_length]; exact hr)
          simp only [f4_T2, go_sem]
          refine (buckets_new (hs.at 0) hm (by omega)).use hs fun h5 vb Rs hRs _ hs => ?_
          obtain ⟨bs, hbs, rfl⟩ := hRs
          obtain ⟨B, hB, hs, hBs⟩ := bkts_apart (l := bs) (F := ledR p m none :: cellR bd ⟨dRow x⟩ 34 :: F) hs
          have hBl : B.length = bs.length := by rw [← hB, List.length_map]
          have hbl : bs.length ≤ bnd 20 := all_len hm hbs.sorted (fun b hb => (hbs.mem b).1 hb)
          have hBm : ∀ y ∈ B, m.bk y.1.list y.1.addr = some y.1 := fun y hy => (hbs.mem y.1).1 (by rw [← hB]; exact List.mem_map.2 ⟨y, hy, rfl⟩)
          have hiB : ∀ (G : List Res), InF (vecR vb 36 5 (B.map fun x => bktRow x.1 x.2) :: elemsR bktE bs (B.map fun x => bktRow x.1 x.2) :: G) vb B := fun G => ⟨fun h' hs => (hs.at 0).rows, fun h' hs => hBs h' (hs.at 1)⟩
          refine before_loop (hiB _) (fun y hy => hm.ne _ _ _ (hBm y hy)) (by rw [hB]; exact hbs.sorted) (by omega) hs fun h6 v11' hs => ?_
          have hc : (cellR bd ⟨dRow x⟩ 34).has h6 := hs.at 3
          obtain ⟨d, vs, va⟩ := x
          have c1 : cellAt h6 bd 1 = some (.int .i64 d.list) := hc.cell 1
          have c2 : cellAt h6 bd 2 = some (.int .i64 d.at_) := hc.cell 2
          have c3 : cellAt h6 bd 3 = some (.int .i64 d.n) := hc.cell 3
          have c4 : cellAt h6 bd 4 = some (.string d.id) := hc.cell 4
          have c6 : cellAt h6 bd 6 = some vs := hc.cell 6
          have c7 : cellAt h6 bd 7 = some va := hc.cell 7
          simp only at hfx hx
          have hsl : d.subs.length ≤ 8 := by simp only [fewD, Bool.and_eq_true, decide_eq_true_eq] at hfx; exact hfx.1.1
          unfold ptr
          simp only [f4_T4, go_sem, Nat.zero_add, c1, c2, c3, c4, c6, c7]
          refine rel_fn (p := p) (subs := d.subs) (adm := d.adm) (hs.pick 2) hm (by omega) (by omega) (fun h' hs => (hx h' hs.tail.tail.tail).1) (fun h' hs => (hx h' hs.tail.tail.tail).2) fun h7 v16 v17' st hst hok hs => ?_
          have hfacts : RelFacts m d.id d.list budget st := by rw [hst]; exact rel_all hm _
          have hok' := hok.ok
          simp only [go_sem]
          obtain ⟨C, hC, hs, hCs⟩ := bkts_apart (hs.pick 1)
          have hCl : C.length = st.fl.length := by rw [← hC, List.length_map]
          have hCm : ∀ y ∈ C, y.1 ∈ st.fl := fun y hy => by rw [← hC]; exact List.mem_map.2 ⟨y, hy, rfl⟩
          have hCi : ∀ y ∈ C, y.1.ids.length ≤ 4294967296 := fun y hy => by
            have h1 := rel_ids_all (id := d.id) (size := d.n) (list := d.list) (now := d.at_) (budget := budget) hm (d.subs.zip d.adm) y.1 (by rw [← hst]; exact hCm y hy)
            have : (d.subs.zip d.adm).length ≤ 8 := by rw [List.length_zip]; omega
            omega
          have hbox : BoxIn (vecR v17' 36 5 (C.map fun x => bktRow x.1 x.2) :: elemsR bktE st.fl (C.map fun x => bktRow x.1 x.2) :: ledR p st.m none :: strsR v16 st.sg :: vecR vb 36 5 (B.map fun x => bktRow x.1 x.2) :: elemsR bktE bs (B.map fun x => bktRow x.1 x.2) :: cellR bd ⟨dRow (d, vs, va)⟩ 34 :: F) bd (d, vs, va) := fun h' hs => hs.at 6
          have hfl := hok.fl
          refine full_loop (x := (d, vs, va)) (bd := bd) (L := C) (inF_mk hCs) hbox (fun y hy => hfacts.full _ (hCm y hy)) (by omega) hCi hs fun h8 v15' hs => ?_
          simp only [f4_T6, go_sem]
          unfold ptr
          refine (buckets_new (p := p) (hs.at 2) hok' (by omega)).use hs fun h9 va' Rs hRs _ hs => ?_
          obtain ⟨zs, hzs, rfl⟩ := hRs
          obtain ⟨A, hA, hs, hAs⟩ := bkts_apart (l := zs) hs
          have hAl : A.length = zs.length := by rw [← hA, List.length_map]
          have hal : zs.length ≤ bnd 20 + 2 * 100 := all_len hok' hzs.sorted (fun b hb => (hzs.mem b).1 hb)
          have hAm : ∀ y ∈ A, st.m.bk y.1.list y.1.addr = some y.1 := fun y hy => (hzs.mem y.1).1 (by rw [← hA]; exact List.mem_map.2 ⟨y, hy, rfl⟩)
          refine after_loop (x := (d, vs, va)) (bd := bd) (L := A) (B := B) (inF_mk hAs) ((inF_mk hBs).mono (fun _ hs => hs.tail.tail.tail.tail.tail.tail)) ?_ (fun y hy => hok'.ne _ _ _ (hAm y hy)) (fun y hy hyl ids hyi hcnt hge => ?_) (by omega) (fun y hy => by
            have := hok'.ids _ _ _ (hAm y hy); omega) (by rw [hB]; exact total_ok hm (by omega) hbs) (by omega) hs fun h10 v18' hs => ?_
          · exact fun h' hs => hs.at 8
          · rcases hfacts.bk _ _ _ (hAm y hy) with h | h
            · have hmem : y.1 ∈ bs := (hbs.mem _).2 h
              have := cnt_pos (i := d.id) hmem (by rw [hyi]; simp)
              rw [hB] at hcnt
              simp only at hcnt
              omega
            · have := h (by omega)
              omega
          · simp only [f4_T8]
            rw [f4_ret]
            exact hk h10 hs.tail.tail.tail.tail.tail.tail.tail.tail.tail
        unfold ptr at hend ⊢
        refine LoopS.st (σ := Nat) (fun k => [v, .agg ⟨dRow x⟩, .int .i64 budget, .pointer (some ⟨bd, 0, none⟩), .bool false, .bool true, .pointer (some ⟨p, 0, none⟩), .int .i64 k, undef, undef, undef, undef, undef, undef])
          (fun k h' => k ≤ l.length ∧ ∃ m rs, Runs Led.nil ((l.take k).map (·.1)) m rs ∧ Sep h' (ledR p m none :: cellR bd ⟨dRow x⟩ 34 :: F)) (fun k => l.length - k) 0 rfl ⟨Nat.zero_le _, Led.nil, [], .nil _, hs⟩ ?_
        rintro k h5 ⟨hkl, m, rs, hr, hs⟩
        refine Eq.mpr (by simp only [f4_T20]; rfl) ?_
        refine s_len (hv h5 hs.tail.tail).1 ?_
        simp only [List.length_map]
        by_cases hlt : k < l.length
        · have hi : ((k : Int) < (l.length : Int)) = True := by simp; omega
          simp only [go_sem, hi, decide_true]
          refine s_idxN (hv h5 hs.tail.tail).1 (by simpa using hlt) (by omega) ?_
          rw [List.getElem_map]
          refine do_fn (x := l[k]) hs (runs_take hf hr) (by omega) (few_at hf hlt) (fun h' hs => (hv h' hs.tail).2 _ (List.getElem_mem hlt)) fun h6 v16 v17 m' sg cut hd hs => ?_
          simp (disch := omega) only [go_sem, bin_add_in]
          refine NextSt.mk (k + 1) rfl ⟨hlt, m', rs ++ [(sg, cut)], ?_, hs.del 1 |>.del 1⟩ (by omega)
          rw [List.take_succ_eq_append_getElem hlt, List.map_append]
          exact hr.snoc hd
        · have hi : ((k : Int) < (l.length : Int)) = False := by simp; omega
          simp only [go_sem, hi, decide_false]
          rw [List.take_of_length_le (by omega)] at hr
          exact hend h5 _ _ _ _ _ _ _ rs m hr hs
end
end Go.Proofs.Ythgbpfoadlemaaa

/- DueMerges: what a merge does. -/
namespace Go.Proofs.Ythgbpfoadlemaaa
open Go.Fw
theorem perm_of_mem {α : Type} [DecidableEq α] {l l' : List α} (h1 : l.Nodup) (h2 : l'.Nodup) (h : ∀ a, a ∈ l ↔ a ∈ l') : l.Perm l' := (List.perm_ext_iff_of_nodup h1 h2).2 h
def sumF (f : Bkt → Int) (l : List Bkt) : Int := (l.map f).sum
theorem sumF_append (f : Bkt → Int) (a b : List Bkt) : sumF f (a ++ b) = sumF f a + sumF f b := by simp [sumF]
theorem sumF_perm {f : Bkt → Int} {a b : List Bkt} (h : a.Perm b) : sumF f a = sumF f b := by
  unfold sumF
  induction h with
  | nil => rfl
  | cons x _ ih => simp only [List.map_cons, List.sum_cons, ih]
  | swap x y l => simp only [List.map_cons, List.sum_cons]; omega
  | trans _ _ h1 h2 => exact h1.trans h2
section
variable {m : Led} {N : Nat} {src into : Int} {to : List Sub} {al : List ByteArray} {bs zs : List Bkt} {f : Bkt → Int} {M : Int}
theorem nodup_of_sorted {l : List Bkt} (h : l.Pairwise keyLt) : l.Nodup := h.imp fun hab e => by subst e; exact keyLt_irrefl _ hab
theorem fromL_sorted (hm : m.Ok N) (hal : al.Pairwise ltB) : (al.filterMap (m.bk src)).Pairwise keyLt := by
  rw [List.pairwise_filterMap]
  refine hal.imp ?_
  intro a a' haa b hbb b' hbb'
  obtain ⟨h1, h2⟩ := hm.key _ _ _ hbb
  obtain ⟨h3, h4⟩ := hm.key _ _ _ hbb'
  exact .inr ⟨h1.trans h3.symm, by rw [h2, h4]; exact haa⟩
theorem fromL_mem (hm : m.Ok N) (hmem : ∀ a, a ∈ al ↔ m.bk src a ≠ none) (b : Bkt) : b ∈ al.filterMap (m.bk src) ↔ b.list = src ∧ m.bk src b.addr = some b := by
  rw [List.mem_filterMap]
  constructor
  · rintro ⟨a, _, ha⟩
    obtain ⟨h1, h2⟩ := hm.key _ _ _ ha
    exact ⟨h1, by rw [h2]; exact ha⟩
  · rintro ⟨h1, h2⟩
    exact ⟨b.addr, (hmem _).2 (by rw [h2]; simp), h2⟩
/-- Merging keeps sums, up to multiples of M. -/
theorem sum_merge (hM : ∀ b g : Bkt, m.bk src b.addr = some b → m.bk into b.addr = some g → M ∣ f (mrg m into b) - (f g + f b)) (hM0 : ∀ b : Bkt, m.bk src b.addr = some b → m.bk into b.addr = none → f (mrg m into b) = f b) :
    ∀ (A : List Bkt), (∀ b ∈ A, m.bk src b.addr = some b) → M ∣ sumF f (A.map (mrg m into)) - (sumF f A + sumF f (A.filterMap fun b => m.bk into b.addr))
  | [], _ => by simp [sumF]
  | b :: A, hA => by
    have ih := sum_merge hM hM0 A (fun c hc => hA c (List.mem_cons_of_mem _ hc))
    have hb := hA b (List.mem_cons_self ..)
    simp only [sumF, List.map_cons, List.sum_cons] at ih ⊢
    cases hg : m.bk into b.addr with
    | none =>
      simp only [List.filterMap_cons, hg, hM0 b hb hg]
      obtain ⟨c, hc⟩ := ih
      exact ⟨c, by rw [← hc]; omega⟩
    | some g =>
      simp only [List.filterMap_cons, hg]
      obtain ⟨c, hc⟩ := ih
      obtain ⟨d, hd⟩ := hM b g hb hg
      refine ⟨c + d, ?_⟩
      rw [Int.mul_add, ← hc, ← hd]
      simp only [List.map_cons, List.sum_cons]
      omega
def merges (src : Int) (m : Led) (to : List Sub) (a : ByteArray) : Bool := (m.bk src a).isSome && digs to a
theorem merge_sum (hm : m.Ok N) (hne : src ≠ into) (hbs : AllB m bs) (hal : al.Pairwise ltB) (hmem : ∀ a, a ∈ al ↔ m.bk src a ≠ none) (has : AllB (mgLed m src into to al) zs)
    (hM : ∀ b g : Bkt, m.bk src b.addr = some b → m.bk into b.addr = some g → M ∣ f (mrg m into b) - (f g + f b)) (hM0 : ∀ b : Bkt, m.bk src b.addr = some b → m.bk into b.addr = none → f (mrg m into b) = f b) :
    M ∣ sumF f bs - sumF f (mgCut m src to al ++ zs) := by
  let A := al.filterMap (m.bk src)
  have hA : ∀ b, b ∈ A ↔ b.list = src ∧ m.bk src b.addr = some b := fromL_mem hm hmem
  have hAn : A.Nodup := nodup_of_sorted (fromL_sorted hm hal)
  have hbn : bs.Nodup := nodup_of_sorted hbs.sorted
  let D := A.filter fun b => digs to b.addr
  have hD : ∀ b, b ∈ D ↔ (b.list = src ∧ m.bk src b.addr = some b) ∧ digs to b.addr = true := fun b => by rw [List.mem_filter, hA]
  have hDn : D.Nodup := hAn.filter _
  let R1 := bs.filter fun b => !decide (b.list = src) && !(decide (b.list = into) && merges src m to b.addr)
  let R2 := bs.filter fun b => decide (b.list = into) && merges src m to b.addr
  have hdi : ∀ a, digs to a = true → ∀ b, m.bk src a = some b → merges src m to a = true := fun a h1 b h2 => by simp [merges, h1, h2]
  -- the buckets before
  have p1 : bs.Perm (A ++ (R1 ++ R2)) := by
    refine perm_of_mem hbn ?_ (fun b => ?_)
    · rw [List.nodup_append]
      refine ⟨hAn, ?_, fun a ha b hb e => ?_⟩
      · rw [List.nodup_append]
        refine ⟨hbn.filter _, hbn.filter _, fun a ha b hb e => ?_⟩
        subst e
        have h1 := (List.mem_filter.1 ha).2
        have h2 := (List.mem_filter.1 hb).2
        rw [h2] at h1
        simp at h1
      · subst e
        have h1 := ((hA a).1 ha).1
        rcases List.mem_append.1 hb with hb | hb
        · have h2 := (List.mem_filter.1 hb).2
          simp [h1] at h2
        · have h2 := (List.mem_filter.1 hb).2
          simp only [Bool.and_eq_true, decide_eq_true_eq] at h2
          exact hne (h1.symm.trans h2.1)
    · rw [List.mem_append, List.mem_append, hA, List.mem_filter, List.mem_filter, hbs.mem]
      constructor
      · intro hb
        by_cases h1 : b.list = src
        · exact .inl ⟨h1, by rw [← h1]; exact hb⟩
        · by_cases h2 : (decide (b.list = into) && merges src m to b.addr) = true
          · exact .inr (.inr ⟨hb, h2⟩)
          · exact .inr (.inl ⟨hb, by simp [h1, h2]⟩)
      · rintro (⟨h1, h2⟩ | ⟨h, _⟩ | ⟨h, _⟩)
        · rw [h1]; exact h2
        · exact h
        · exact h
  have hkey : ∀ b ∈ D, (mrg m into b).list = into ∧ (mrg m into b).addr = b.addr := fun b hb => by
    have h := mrg_key (into := into) hm ((hD b).1 hb).1.2
    exact ⟨h.1, h.2.1⟩
  -- the buckets afterwards
  have p2 : zs.Perm (R1 ++ D.map (mrg m into)) := by
    refine perm_of_mem (nodup_of_sorted has.sorted) ?_ (fun b => ?_)
    · rw [List.nodup_append]
      refine ⟨hbn.filter _, ?_, fun a ha b hb e => ?_⟩
      · have : (D.map (mrg m into)).Pairwise (· ≠ ·) := by
          rw [List.pairwise_map]
          have hs : D.Pairwise fun a b => a.addr ≠ b.addr := by
            have h1 : A.Pairwise keyLt := fromL_sorted hm hal
            have h2 : D.Pairwise keyLt := h1.filter _
            refine List.Pairwise.imp_of_mem ?_ h2
            rintro a b ha hb hab e
            have e1 := ((hD a).1 ha).1.1
            have e2 := ((hD b).1 hb).1.1
            rcases hab with h | ⟨_, h⟩
            · omega
            · rw [e] at h; exact ltB_irrefl _ h
          refine List.Pairwise.imp_of_mem ?_ hs
          intro a b ha hb hab e
          have h1 := (hkey a ha).2
          have h2 := (hkey b hb).2
          rw [e] at h1
          exact hab (h1.symm.trans h2)
        exact this
      · subst e
        obtain ⟨c, hc, rfl⟩ := List.mem_map.1 hb
        have h1 := (List.mem_filter.1 ha).2
        obtain ⟨k1, k2⟩ := hkey c hc
        obtain ⟨⟨_, h3⟩, h4⟩ := (hD c).1 hc
        have h5 := hdi _ h4 _ h3
        rw [k1, k2, h5] at h1
        simp at h1
    · rw [List.mem_append, List.mem_filter, List.mem_map, has.mem, hbs.mem]
      constructor
      · intro hb
        simp only [mgLed] at hb
        split at hb
        · cases hb
        · rename_i hns
          split at hb
          · rename_i hc
            right
            cases hsb : m.bk src b.addr with
            | none => rw [hsb] at hb; cases hb
            | some c =>
              rw [hsb] at hb
              simp only [Option.map_some, Option.some.injEq] at hb
              obtain ⟨k1, k2⟩ := hm.key _ _ _ hsb
              exact ⟨c, (hD c).2 ⟨⟨k1, by rw [k2]; exact hsb⟩, by rw [k2]; exact hc.2.2⟩, hb⟩
          · rename_i hc
            refine .inl ⟨hb, ?_⟩
            simp only [Bool.and_eq_true, Bool.not_eq_true', decide_eq_false_iff_not, Bool.and_eq_false_iff]
            refine ⟨hns, ?_⟩
            by_cases h1 : b.list = into
            · right
              cases hmg : merges src m to b.addr with
              | false => rfl
              | true =>
                exfalso
                simp only [merges, Bool.and_eq_true, Option.isSome_iff_exists] at hmg
                obtain ⟨⟨c, hc'⟩, hd⟩ := hmg
                exact hc ⟨h1, memB_iff.2 ((hmem _).2 (by rw [hc']; simp)), hd⟩
            · exact .inl h1
      · rintro (⟨hb, hc⟩ | ⟨c, hc, rfl⟩)
        · simp only [Bool.and_eq_true, Bool.not_eq_true', decide_eq_false_iff_not, Bool.and_eq_false_iff] at hc
          simp only [mgLed]
          rw [if_neg hc.1, if_neg]
          · exact hb
          · rintro ⟨h1, h2, h3⟩
            rcases hc.2 with h | h
            · exact h h1
            · obtain ⟨c, hc'⟩ := Option.ne_none_iff_exists'.1 ((hmem _).1 (memB_iff.1 h2))
              rw [hdi _ h3 _ hc'] at h; cases h
        · obtain ⟨k1, k2⟩ := hkey c hc
          obtain ⟨⟨_, h3⟩, h4⟩ := (hD c).1 hc
          simp only [mgLed, k1, k2]
          rw [if_neg hne.symm, if_pos ⟨trivial, memB_iff.2 ((hmem _).2 (by rw [h3]; simp)), h4⟩, h3]
          rfl
  -- what was merged into
  have p3 : R2.Perm (D.filterMap fun b => m.bk into b.addr) := by
    refine perm_of_mem (hbn.filter _) ?_ (fun b => ?_)
    · have h1 : A.Pairwise keyLt := fromL_sorted hm hal
      have h2 : D.Pairwise keyLt := h1.filter _
      have h3 : (D.filterMap fun b => m.bk into b.addr).Pairwise (· ≠ ·) := by
        rw [List.pairwise_filterMap]
        refine List.Pairwise.imp_of_mem ?_ h2
        rintro a b ha hb hab c hc d hd e
        subst e
        have e1 := ((hD a).1 ha).1.1
        have e2 := ((hD b).1 hb).1.1
        have e3 := (hm.key _ _ _ hc).2
        have e4 := (hm.key _ _ _ hd).2
        rcases hab with h | ⟨_, h⟩
        · omega
        · rw [← e3, ← e4] at h; exact ltB_irrefl _ h
      exact h3
    · rw [List.mem_filter, List.mem_filterMap, hbs.mem]
      simp only [Bool.and_eq_true, decide_eq_true_eq, merges, Option.isSome_iff_exists]
      constructor
      · rintro ⟨hb, h1, ⟨c, hc⟩, hd⟩
        obtain ⟨k1, k2⟩ := hm.key _ _ _ hc
        exact ⟨c, (hD c).2 ⟨⟨k1, by rw [k2]; exact hc⟩, by rw [k2]; exact hd⟩, by rw [k2, ← h1]; exact hb⟩
      · rintro ⟨c, hc, hb⟩
        obtain ⟨⟨_, h3⟩, h4⟩ := (hD c).1 hc
        obtain ⟨k1, k2⟩ := hm.key _ _ _ hb
        exact ⟨by rw [k1, k2]; exact hb, k1, ⟨c, by rw [k2]; exact h3⟩, by rw [k2]; exact h4⟩
  have hcutD : A.Perm (mgCut m src to al ++ D) := by
    have : ∀ (p : Bkt → Bool) (l : List Bkt), l.Perm (l.filter (fun b => !p b) ++ l.filter p) := by
      intro p l
      induction l with
      | nil => exact List.Perm.refl _
      | cons x r ih =>
        by_cases hp : p x = true
        · simp only [List.filter_cons, hp, Bool.not_true, Bool.false_eq_true, if_false, if_true]
          exact (List.Perm.cons x ih).trans List.perm_middle.symm
        · simp only [List.filter_cons, hp, Bool.not_false, Bool.false_eq_true, if_false, if_true]
          simpa [hp] using List.Perm.cons x ih
    exact this (fun b => digs to b.addr) A
  have hmain := sum_merge (f := f) (M := M) hM hM0 D (fun b hb => ((hD b).1 hb).1.2)
  have e1 : sumF f bs = sumF f (mgCut m src to al) + sumF f D + (sumF f R1 + sumF f R2) := by
    rw [sumF_perm p1, sumF_append, sumF_append, sumF_perm hcutD, sumF_append]
  have e2 : sumF f (mgCut m src to al ++ zs) = sumF f (mgCut m src to al) + (sumF f R1 + sumF f (D.map (mrg m into))) := by
    rw [sumF_append, sumF_perm p2, sumF_append]
  have e3 : sumF f R2 = sumF f (D.filterMap fun b => m.bk into b.addr) := sumF_perm p3
  obtain ⟨c, hc⟩ := hmain
  refine ⟨-c, ?_⟩
  rw [Int.mul_neg, ← hc, e1, e2, e3]
  omega
end
end Go.Proofs.Ythgbpfoadlemaaa

/- DueMerges: the walk. -/
namespace Go.Proofs.Ythgbpfoadlemaaa
open Go.Fw
section
variable {p : Nat} {m m' : Led} {h : Heap} {F : List Res} {K : Kont} {N : Nat} {q : LPost} {L B A D : List (Bkt × Value)} {src into : Int}
  {v v0 v1 v2 v3 v8 v9 v10 v11 v12 v14 v15 v16 v17 v18 v19 v20 v21 v22 v23 v24 : Value}
theorem InF.lenV (hi : InF F v L) (hs : Sep h F) (K : Kont) : oLen (some (.slice 36)) v K h = K (.int .i64 L.length) h := by rw [len_val (hi.rows h hs), List.length_map]
theorem InF.bkts (hi : InF F v L) (hs : Sep h F) : Bkts (fun _ => True) h v L := ⟨hi.rows h hs, hi.ids h hs⟩
set_option maxRecDepth 16000 in
/-- Each id is counted before and afterwards. -/
theorem ids_loop {y : Nat} {x : Bkt × Value} (hb : InF F v12 B) (hd : InF F v16 D) (hy : ∀ h', Sep h' F → (cellR y ⟨rowB x⟩ 36).has h') (hx : ∀ h', Sep h' F → RowsR (fun _ => True) h' x.2 1 (x.1.ids.map strRow)) (hxl : x.1.ids.length ≤ 4294967296)
    (hcnt : ∀ a i, cnt (B.map (·.1)) a i = cnt (D.map (·.1)) a i) (ht : total (B.map (·.1)) < 4611686018427387904) (hbl : B.length < 4611686018427387904) (ht' : total (D.map (·.1)) < 4611686018427387904) (hbl' : D.length < 4611686018427387904)
    (hs : Sep h F) (hq : ∀ h' v21, Sep h' F → f6_T18 q [v0, v1, v2, v3, v8, v9, v10, v11, v12, v14, v15, v16, v17, v18, v19, .pointer (some ⟨y, 0, none⟩), v21, v22, v23, v24] h') :
    f6_T25 q [v0, v1, v2, v3, v8, v9, v10, v11, v12, v14, v15, v16, v17, v18, v19, .pointer (some ⟨y, 0, none⟩), .int .i64 0, v22, v23, v24] h := by
  refine LoopS.st (σ := Nat) (fun k => [v0, v1, v2, v3, v8, v9, v10, v11, v12, v14, v15, v16, v17, v18, v19, .pointer (some ⟨y, 0, none⟩), .int .i64 k, v22, v23, v24]) (fun k h' => Sep h' F ∧ k ≤ x.1.ids.length) (fun k => x.1.ids.length - k) 0 rfl ⟨hs, Nat.zero_le _⟩ ?_
  rintro k h2 ⟨hs, hkl⟩
  obtain ⟨bx, sl⟩ := x
  simp only at hx hxl hkl hy ⊢
  have c1 : cellAt h2 y 1 = some (.string bx.addr) := (hy h2 hs).cell 1
  have c2 : cellAt h2 y 2 = some sl := (hy h2 hs).cell 2
  have hlv : ∀ K, oLen (some (.slice 9)) sl K h2 = K (.int .i64 bx.ids.length) h2 := fun K => by rw [len_val (hx h2 hs), List.length_map]
  by_cases hlt : k < bx.ids.length
  · have hdk : decide ((k : Int) < (bx.ids.length : Int)) = true := by simp; omega
    obtain ⟨b, o, hidx, hcell, _⟩ := elem_at (r := strRow bx.ids[k]) (hx h2 hs) (by simpa using hlt) (by simp) (by omega)
    have c0 : cellAt h2 b o = some (.string bx.ids[k]) := hcell 0 (by omega)
    simp only [f6_T26, go_sem, Nat.zero_add, c1, c2, hlv, hdk, hidx, c0]
    refine l_count (hb.bkts hs) ht hbl ?_
    simp only [go_sem, c1, c2, hidx, c0]
    refine l_count (hd.bkts hs) ht' hbl' ?_
    rw [hcnt]
    simp (disch := omega) only [go_sem, decide_true, Bool.not_true, bin_add_in]
    refine NextSt.mk (k + 1) rfl ⟨hs, hlt⟩ (by omega)
  · have hdk : decide ((k : Int) < (bx.ids.length : Int)) = false := by simp; omega
    simp only [f6_T26, go_sem, Nat.zero_add, c2, hlv, hdk]
    exact hq h2 _ hs
set_option maxRecDepth 16000 in
/-- Is the bucket there afterwards? -/
theorem same_round {i k : Nat} {t : Bool} (hb : InF F v12 B) (ha : InF F v15 A) (hi : i < B.length) (hk : k < A.length) (hl : A.length ≤ 4294967296) (hl' : B.length ≤ 4294967296) (hai : ∀ y ∈ A, y.1.ids.length ≤ 4294967296)
    (hs : Sep h F) (hq : ∀ h', Sep h' F → q .normal [v0, v1, v2, v3, v8, v9, v10, v11, v12, v14, v15, v16, v17, v18, .int .i64 i, v20, v21, .bool (t || decide (A[k].1 = B[i].1)), .int .i64 ((k + 1 : Nat) : Int), v24] h') :
    f6_T23 q [v0, v1, v2, v3, v8, v9, v10, v11, v12, v14, v15, v16, v17, v18, .int .i64 i, v20, v21, .bool t, .int .i64 k, v24] h := by
  have hdk : decide ((k : Int) < (A.length : Int)) = true := by simp; omega
  have hk1 : (k : Int) + 1 = ((k + 1 : Nat) : Int) := rfl
  have hi1 : (i : Int) + 1 = ((i + 1 : Nat) : Int) := rfl
  have hlv := ha.lenV hs
  cases t with
  | true =>
    simp -implicitDefEqProofs (disch := omega) only [f6_T23, go_sem, hlv, hdk, bin_add_in, hk1]
    simpa using hq h hs
  | false =>
    simp -implicitDefEqProofs (disch := omega) only [f6_T23, go_sem, hlv, hdk, bin_add_in, hk1]
    refine s_slice (ha.rows h hs) (by omega) (by simp; omega) fun va hva => ?_
    simp -implicitDefEqProofs (disch := omega) only [go_sem, hi1]
    refine s_slice (hb.rows h hs) (by omega) (by simp; omega) fun vb hvb => ?_
    have e1 : ((A.map rowB).drop k).take (k + 1 - k) = [A[k]].map rowB := by
      rw [← List.map_drop, ← List.map_take, List.drop_eq_getElem_cons hk, show k + 1 - k = 0 + 1 from by omega, List.take_succ_cons, List.take_zero]
    have e2 : ((B.map rowB).drop i).take (i + 1 - i) = [B[i]].map rowB := by
      rw [← List.map_drop, ← List.map_take, List.drop_eq_getElem_cons hi, show i + 1 - i = 0 + 1 from by omega, List.take_succ_cons, List.take_zero]
    rw [e1] at hva
    rw [e2] at hvb
    refine same_fn (l := [A[k]]) (l' := [B[i]]) ⟨hva, fun y hy => by rw [List.mem_singleton] at hy; subst hy; exact ha.ids h hs _ (List.getElem_mem hk)⟩ ⟨hvb, fun y hy => by rw [List.mem_singleton] at hy; subst hy; exact hb.ids h hs _ (List.getElem_mem hi)⟩ (by simp)
      (fun y hy => by rw [List.mem_singleton] at hy; subst hy; have := hai _ (List.getElem_mem hk); omega) ?_
    have e3 : decide ([A[k]].map (·.1) = [B[i]].map (·.1)) = decide (A[k].1 = B[i].1) := by simp
    rw [e3]
    simpa using hq h hs
set_option maxRecDepth 16000 in
theorem same_loop {i : Nat} (hb : InF F v12 B) (ha : InF F v15 A) (hi : i < B.length) (hl : A.length ≤ 4294967296) (hl' : B.length ≤ 4294967296) (hai : ∀ y ∈ A, y.1.ids.length ≤ 4294967296)
    (hs : Sep h F) (hq : ∀ h' v23, Sep h' F → f6_T20 q [v0, v1, v2, v3, v8, v9, v10, v11, v12, v14, v15, v16, v17, v18, .int .i64 i, v20, v21, .bool (A.any fun y => decide (y.1 = B[i].1)), v23, v24] h') :
    f6_T22 q [v0, v1, v2, v3, v8, v9, v10, v11, v12, v14, v15, v16, v17, v18, .int .i64 i, v20, v21, .bool false, .int .i64 0, v24] h := by
  refine LoopS.st (σ := Nat) (fun k => [v0, v1, v2, v3, v8, v9, v10, v11, v12, v14, v15, v16, v17, v18, .int .i64 i, v20, v21, .bool ((A.take k).any fun y => decide (y.1 = B[i].1)), .int .i64 k, v24]) (fun k h' => Sep h' F ∧ k ≤ A.length) (fun k => A.length - k) 0 rfl ⟨hs, Nat.zero_le _⟩ ?_
  rintro k h2 ⟨hs, hkl⟩
  by_cases hlt : k < A.length
  · refine same_round hb ha hi hlt hl hl' hai hs fun h' hs => ?_
    rw [thenL_normal]
    refine NextSt.mk (k + 1) ?_ ⟨hs, hlt⟩ (by omega)
    rw [List.take_succ_eq_append_getElem hlt, List.any_append]
    simp
  · have hdk : decide ((k : Int) < (A.length : Int)) = false := by simp; omega
    simp only [f6_T23, go_sem, ha.lenV hs, hdk]
    rw [List.take_of_length_le (by omega)]
    exact hq h2 _ hs
def wsum (l : List (Bkt × Value)) : Int := l.foldl (fun n x => IntKind.i64.wrap (n + x.1.size)) 0
theorem wsum_snoc (l : List (Bkt × Value)) (x : Bkt × Value) : wsum (l ++ [x]) = IntKind.i64.wrap (wsum l + x.1.size) := by simp [wsum, List.foldl_append]
end
end Go.Proofs.Ythgbpfoadlemaaa

/- DueMerges: the walk, continued, and the law. -/
namespace Go.Proofs.Ythgbpfoadlemaaa
open Go.Fw
section
variable {p : Nat} {m m' : Led} {h : Heap} {F : List Res} {K : Kont} {N : Nat} {q : LPost} {L B A C D : List (Bkt × Value)} {src into : Int}
  {v v0 v1 v2 v3 v8 v9 v10 v11 v12 v14 v15 v16 v17 v18 v19 v20 v21 v22 v23 v24 : Value}
structure MI where
  k : Nat
  v20 : Value
  v21 : Value
  v22 : Value
  v23 : Value
set_option maxRecDepth 16000 in
theorem mBefore_loop (hb : InF F v12 B) (ha : InF F v15 A) (hd : InF F v16 D) (hl : A.length ≤ 4294967296) (hl' : B.length ≤ 4294967296) (hai : ∀ y ∈ A, y.1.ids.length ≤ 4294967296) (hbi : ∀ y ∈ B, y.1.ids.length ≤ 4294967296)
    (hcnt : ∀ a i, cnt (B.map (·.1)) a i = cnt (D.map (·.1)) a i) (ht : total (B.map (·.1)) < 4611686018427387904) (ht' : total (D.map (·.1)) < 4611686018427387904) (hbl' : D.length < 4611686018427387904)
    (hsame : ∀ x ∈ B, x.1.list ≠ src → x.1.list ≠ into → (A.any fun y => decide (y.1 = x.1)) = true)
    (hs : Sep h F) (hq : ∀ h' v19 v20 v21 v22 v23, Sep h' F → f6_T4 q [v0, .int .i64 src, .int .i64 into, v3, v8, v9, v10, v11, v12, v14, v15, v16, .int .i64 (wsum B), v18, v19, v20, v21, v22, v23, v24] h') :
    f6_T11 q [v0, .int .i64 src, .int .i64 into, v3, v8, v9, v10, v11, v12, v14, v15, v16, .int .i64 0, v18, .int .i64 0, v20, v21, v22, v23, v24] h := by
  refine LoopS.st (σ := MI) (fun s => [v0, .int .i64 src, .int .i64 into, v3, v8, v9, v10, v11, v12, v14, v15, v16, .int .i64 (wsum (B.take s.k)), v18, .int .i64 s.k, s.v20, s.v21, s.v22, s.v23, v24]) (fun s h' => Sep h' F ∧ s.k ≤ B.length) (fun s => B.length - s.k) ⟨0, v20, v21, v22, v23⟩ rfl ⟨hs, Nat.zero_le _⟩ ?_
  rintro ⟨k, v20, v21, v22, v23⟩ h2 ⟨hs, hkl⟩
  simp only at hkl ⊢
  by_cases hlt : k < B.length
  · have hdk : decide ((k : Int) < (B.length : Int)) = true := by simp; omega
    have hmem : B[k] ∈ B := List.getElem_mem hlt
    obtain ⟨b, o, hidx, hcell, hload⟩ := elem_at (r := rowB B[k]) (hb.rows h2 hs) (by simpa using hlt) (by simp) (by omega)
    have hone := hb.one hs hmem
    have hsm := hsame _ hmem
    have htk : wsum (B.take (k + 1)) = IntKind.i64.wrap (wsum (B.take k) + B[k].1.size) := by rw [List.take_succ_eq_append_getElem hlt, wsum_snoc]
    simp only [f6_T12, f6_T16, go_sem, hb.lenV hs, hdk, hidx, hload]
    refine s_alloc hs fun h3 y hs => ?_
    refine s_store hs rfl rfl hone fun h4 hs => ?_
    have c3 : cellAt h4 y 3 = some (.int .i64 B[k].1.size) := (hs.at 0).cell 3
    simp only [go_sem, Nat.zero_add, c3, bin_add]
    have hG : ∀ h, Sep h (cellR y ⟨rowB B[k]⟩ 36 :: F) → Sep h F := fun _ hs => hs.tail
    refine ids_loop (x := B[k]) (hb.mono hG) (hd.mono hG) (fun h' hs => hs.at 0) (fun h' hs => hb.ids h' hs.tail _ hmem) (hbi _ hmem) hcnt ht (by omega) ht' hbl' hs fun h5 v21' hs => ?_
    simp only [f6_T18]
    refine same_loop (i := k) (hb.mono hG) (ha.mono hG) hlt hl hl' hai hs fun h6 v23' hs => ?_
    have c0 : cellAt h6 y 0 = some (.int .i64 B[k].1.list) := (hs.at 0).cell 0
    have hsF := hs.tail
    have hk1 : (k : Int) + 1 = ((k + 1 : Nat) : Int) := rfl
    have hfin : ∀ (t : Bool), (thenL (NextSt (fun s : MI => [v0, .int .i64 src, .int .i64 into, v3, v8, v9, v10, v11, v12, v14, v15, v16, .int .i64 (wsum (B.take s.k)), v18, .int .i64 s.k, s.v20, s.v21, s.v22, s.v23, v24]) (fun s h' => Sep h' F ∧ s.k ≤ B.length) (fun s => B.length - s.k) ⟨k, v20, v21, v22, v23⟩) (inBL 2 (thenL (f6_T4 q) q))) .normal
        [v0, .int .i64 src, .int .i64 into, v3, v8, v9, v10, v11, v12, v14, v15, v16, .int .i64 (IntKind.i64.wrap (wsum (B.take k) + B[k].1.size)), v18, .int .i64 ((k + 1 : Nat) : Int), .pointer (some ⟨y, 0, none⟩), v21', .bool t, v23', v24] h6 := by
      intro t
      rw [thenL_normal]
      refine NextSt.mk ⟨k + 1, .pointer (some ⟨y, 0, none⟩), v21', .bool t, v23'⟩ ?_ ⟨hsF, hlt⟩ (by simp only; omega)
      simp only
      rw [htk]
    generalize (A.any fun y => decide (y.1 = B[k].1)) = t at hsm
    cases e0 : decide (B[k].1.list = src) with
    | true =>
      simp -implicitDefEqProofs (disch := omega) only [f6_T20, f6_T14, go_sem, Nat.zero_add, c0, e0, Bool.not_true, bin_add_in, hk1]
      exact hfin t
    | false =>
      cases e1 : decide (B[k].1.list = into) with
      | true =>
        simp -implicitDefEqProofs (disch := omega) only [f6_T20, f6_T14, go_sem, Nat.zero_add, c0, e0, e1, Bool.not_true, Bool.not_false, bin_add_in, hk1]
        exact hfin t
      | false =>
        have ht1 : t = true := hsm (of_decide_eq_false e0) (of_decide_eq_false e1)
        subst ht1
        simp -implicitDefEqProofs (disch := omega) only [f6_T20, f6_T14, go_sem, Nat.zero_add, c0, e0, e1, Bool.not_true, Bool.not_false, bin_add_in, hk1]
        exact hfin true
  · have hdk : decide ((k : Int) < (B.length : Int)) = false := by simp; omega
    simp only [f6_T12, go_sem, hb.lenV hs, hdk]
    rw [List.take_of_length_le (by omega)]
    exact hq h2 _ _ _ _ _ hs
set_option maxRecDepth 16000 in
theorem both_round {k : Nat} (hc : InF F v14 C) (hd : InF F v16 (C ++ A)) (hcl : ∀ x ∈ C, x.1.list = src) (hal : ∀ x ∈ A, x.1.list ≠ src) (hl : (C ++ A).length ≤ 4294967296) (hlt : k < (C ++ A).length) {n : Int}
    (hs : Sep h F) (hq : ∀ h', Sep h' F → q .normal [v0, .int .i64 src, v2, v3, v8, v9, v10, v11, v12, v14, v15, v16, v17, .int .i64 (IntKind.i64.wrap (n + (C ++ A)[k].1.size)), v19, v20, v21, v22, v23, .int .i64 ((k + 1 : Nat) : Int)] h') :
    f6_T9 q [v0, .int .i64 src, v2, v3, v8, v9, v10, v11, v12, v14, v15, v16, v17, .int .i64 n, v19, v20, v21, v22, v23, .int .i64 k] h := by
  have hdk : decide ((k : Int) < ((C ++ A).length : Int)) = true := by simp only [decide_eq_true_eq]; omega
  obtain ⟨b, o, hidx, hcell, _⟩ := elem_at (r := rowB (C ++ A)[k]) (hd.rows h hs) (by simpa using hlt) (by rw [List.getElem_map]) (by omega)
  have c0 : cellAt h b (o + 0) = some (.int .i64 (C ++ A)[k].1.list) := hcell 0 (by omega)
  have c3 : cellAt h b (o + 3) = some (.int .i64 (C ++ A)[k].1.size) := hcell 3 (by omega)
  have hw : IntKind.i64.wrap ((k : Int) + 1) = ((k + 1 : Nat) : Int) := IntWalk.i64_in _ ⟨by omega, by omega⟩
  have hq := hq h hs
  have hlv := hd.lenV hs
  have hlc := hc.lenV hs
  have hwhere : (k < C.length ∧ (C ++ A)[k].1.list = src) ∨ (C.length ≤ k ∧ (C ++ A)[k].1.list ≠ src) := by
    by_cases hh : k < C.length
    · refine .inl ⟨hh, ?_⟩
      rw [List.getElem_append_left hh]
      exact hcl _ (List.getElem_mem hh)
    · refine .inr ⟨by omega, ?_⟩
      rw [List.getElem_append_right (by omega)]
      exact hal _ (List.getElem_mem _)
  generalize (C ++ A)[k] = x at *
  clear hs hcell hc hd
  rcases hwhere with ⟨h1, h2⟩ | ⟨h1, h2⟩
  · have d1 : decide ((C.length : Int) ≤ (k : Int)) = false := by simp; omega
    have d2 : decide ((k : Int) < (C.length : Int)) = true := by simp; omega
    have d3 : decide (x.1.list = src) = true := by simp [h2]
    simp -implicitDefEqProofs (disch := omega) only [f6_T9, go_sem, hlv, hdk, hidx, c3, bin_add, hlc, d1, d2, c0, d3, Bool.not_true, hw]
    exact hq
  · have d1 : decide ((C.length : Int) ≤ (k : Int)) = true := by simp; omega
    have d2 : decide ((k : Int) < (C.length : Int)) = false := by simp; omega
    have d3 : decide (x.1.list = src) = false := by simp [h2]
    simp -implicitDefEqProofs (disch := omega) only [f6_T9, go_sem, hlv, hdk, hidx, c3, bin_add, hlc, d1, d2, c0, d3, hw]
    exact hq
set_option maxRecDepth 16000 in
theorem both_loop (hc : InF F v14 C) (hd : InF F v16 (C ++ A)) (hcl : ∀ x ∈ C, x.1.list = src) (hal : ∀ x ∈ A, x.1.list ≠ src) (hl : (C ++ A).length ≤ 4294967296)
    (hs : Sep h F) (hq : ∀ h' v24, Sep h' F → f6_T6 q [v0, .int .i64 src, v2, v3, v8, v9, v10, v11, v12, v14, v15, v16, v17, .int .i64 (wsum (C ++ A)), v19, v20, v21, v22, v23, v24] h') :
    f6_T8 q [v0, .int .i64 src, v2, v3, v8, v9, v10, v11, v12, v14, v15, v16, v17, .int .i64 0, v19, v20, v21, v22, v23, .int .i64 0] h := by
  refine LoopS.st (σ := Nat) (fun k => [v0, .int .i64 src, v2, v3, v8, v9, v10, v11, v12, v14, v15, v16, v17, .int .i64 (wsum ((C ++ A).take k)), v19, v20, v21, v22, v23, .int .i64 k]) (fun k h' => Sep h' F ∧ k ≤ (C ++ A).length) (fun k => (C ++ A).length - k) 0 rfl ⟨hs, Nat.zero_le _⟩ ?_
  rintro k h2 ⟨hs, hkl⟩
  by_cases hlt : k < (C ++ A).length
  · refine both_round hc hd hcl hal hl hlt hs fun h' hs => ?_
    rw [thenL_normal]
    refine NextSt.mk (k + 1) ?_ ⟨hs, hlt⟩ (by omega)
    rw [List.take_succ_eq_append_getElem hlt, wsum_snoc]
  · have hdk : decide ((k : Int) < ((C ++ A).length : Int)) = false := by simp only [decide_eq_false_iff_not]; omega
    simp only [f6_T9, go_sem, hd.lenV hs, hdk]
    rw [List.take_of_length_le (by omega)]
    exact hq h2 _ hs
theorem cnt_sum (l : List Bkt) (a i : ByteArray) : ((cnt l a i : Nat) : Int) = sumF (fun b => ((cnt1 a i b : Nat) : Int)) l := by
  induction l with
  | nil => rfl
  | cons b r ih =>
    simp only [cnt, sumF, List.map_cons, List.sum_cons] at ih ⊢
    rw [Int.natCast_add, ih]
theorem cntIds_append (a b : List ByteArray) (i : ByteArray) : cntIds (a ++ b) i = cntIds a i + cntIds b i := by simp [cntIds, List.filter_append]
theorem merge_cnt {bs zs : List Bkt} {to : List Sub} {al : List ByteArray} (hm : m.Ok N) (hne : src ≠ into) (hbs : AllB m bs) (hal : al.Pairwise ltB) (hmem : ∀ a, a ∈ al ↔ m.bk src a ≠ none) (hz : AllB (mgLed m src into to al) zs) (a i : ByteArray) :
    cnt bs a i = cnt (mgCut m src to al ++ zs) a i := by
  have h := merge_sum (f := fun b => ((cnt1 a i b : Nat) : Int)) (M := 0) hm hne hbs hal hmem hz (fun b g hb hg => ?_) (fun b hb hg => ?_)
  · rw [Int.zero_dvd, ← cnt_sum, ← cnt_sum] at h
    omega
  · have hk := (hm.key _ _ _ hg).2
    have e : mrg m into b = { g with ids := g.ids ++ b.ids, size := IntKind.i64.wrap (g.size + b.size), at_ := if b.at_ < g.at_ then b.at_ else g.at_ } := by simp [mrg, hg]
    rw [Int.zero_dvd, e]
    simp only [cnt1, hk]
    split
    · rw [cntIds_append]; omega
    · simp
  · have e : mrg m into b = { b with list := into } := by simp [mrg, hg]
    rw [e]
    rfl
theorem wrap_mod (n : Int) : ∃ c, IntKind.i64.wrap n = n + 18446744073709551616 * c ∧ -9223372036854775808 ≤ IntKind.i64.wrap n ∧ IntKind.i64.wrap n ≤ 9223372036854775807 := by
  refine ⟨-((n + 9223372036854775808) / 18446744073709551616), ?_⟩
  rw [IntKind.wrap_i64]
  omega
theorem wsum_mod (l : List (Bkt × Value)) : ∃ c, wsum l = sumF (·.size) (l.map (·.1)) + 18446744073709551616 * c ∧ -9223372036854775808 ≤ wsum l ∧ wsum l ≤ 9223372036854775807 := by
  have gen : ∀ (l : List (Bkt × Value)) (n : Int), -9223372036854775808 ≤ n → n ≤ 9223372036854775807 → ∃ c, l.foldl (fun n x => IntKind.i64.wrap (n + x.1.size)) n = n + sumF (·.size) (l.map (·.1)) + 18446744073709551616 * c ∧
      -9223372036854775808 ≤ l.foldl (fun n x => IntKind.i64.wrap (n + x.1.size)) n ∧ l.foldl (fun n x => IntKind.i64.wrap (n + x.1.size)) n ≤ 9223372036854775807 := by
    intro l
    induction l with
    | nil => intro n h1 h2; exact ⟨0, by simp [sumF], h1, h2⟩
    | cons x r ih =>
      intro n h1 h2
      obtain ⟨c, hc, h3, h4⟩ := wrap_mod (n + x.1.size)
      obtain ⟨d, hd, h5, h6⟩ := ih _ h3 h4
      refine ⟨c + d, ?_, h5, h6⟩
      rw [List.foldl_cons, hd, hc]
      simp only [sumF, List.map_cons, List.sum_cons]
      omega
  obtain ⟨c, h1, h2, h3⟩ := gen l 0 (by omega) (by omega)
  exact ⟨c, by unfold wsum; rw [h1]; omega, h2, h3⟩
theorem merge_wsum {bs zs : List Bkt} {to : List Sub} {al : List ByteArray} (hm : m.Ok N) (hne : src ≠ into) (hbs : AllB m bs) (hal : al.Pairwise ltB) (hmem : ∀ a, a ∈ al ↔ m.bk src a ≠ none) (hz : AllB (mgLed m src into to al) zs)
    (hB : B.map (·.1) = bs) (hD : D.map (·.1) = mgCut m src to al ++ zs) : wsum B = wsum D := by
  have h := merge_sum (f := (·.size)) (M := 18446744073709551616) hm hne hbs hal hmem hz (fun b g hb hg => ?_) (fun b hb hg => ?_)
  · obtain ⟨c, h1, h2, h3⟩ := wsum_mod B
    obtain ⟨d, h4, h5, h6⟩ := wsum_mod D
    obtain ⟨e, he⟩ := h
    rw [hB] at h1
    rw [hD] at h4
    omega
  · have e : mrg m into b = { g with ids := g.ids ++ b.ids, size := IntKind.i64.wrap (g.size + b.size), at_ := if b.at_ < g.at_ then b.at_ else g.at_ } := by simp [mrg, hg]
    obtain ⟨c, hc, _⟩ := wrap_mod (g.size + b.size)
    exact ⟨c, by rw [e]; simp only; omega⟩
  · have e : mrg m into b = { b with list := into } := by simp [mrg, hg]
    rw [e]
theorem mgCut_list {to : List Sub} {al : List ByteArray} (hm : m.Ok N) : ∀ b ∈ mgCut m src to al, b.list = src ∧ m.bk src b.addr = some b := by
  intro b hb
  obtain ⟨a, _, ha⟩ := List.mem_filterMap.1 (List.mem_filter.1 hb).1
  obtain ⟨h1, h2⟩ := hm.key _ _ _ ha
  exact ⟨h1, by rw [h2]; exact ha⟩
set_option maxRecDepth 16000 in
theorem merges_law {l : List DeedV} {to : List Sub} {vt : Value} (hs : Sep h F) (hv : ∀ h', Sep h' F → Deeds (fun _ => True) h' v l) (ht : ∀ h', Sep h' F → RowsR (fun _ => True) h' vt 5 (to.map subRow)) (hl : l.length ≤ 9223372036854775807) (hk : ∀ h', Sep h' F → K (.bool true) h') :
    FnH Try.prog 6 #[v, .int .i64 src, .int .i64 into, vt] h K := by
  refine f6_fn ?_
  simp only [f6_T0, go_sem]
  refine small_fn hs fun h1 hs => ?_
  refine few_fn (hv h1 hs) hl ?_
  cases hf : few (l.map (·.1)) with
  | false =>
    simp only [go_sem, Bool.not_false]
    rw [f6_ret]
    exact hk h1 hs
  | true =>
    have hlt : ∀ K, oLen (some (.slice 40)) vt K h1 = K (.int .i64 to.length) h1 := fun K => by rw [len_val (ht h1 hs), List.length_map]
    cases d0 : decide ((8 : Int) < to.length) with
    | true =>
      simp only [go_sem, Bool.not_true, hlt, d0]
      rw [f6_ret]
      exact hk h1 hs
    | false =>
      have hto : to.length ≤ 8 := by have := of_decide_eq_false d0; omega
      cases d1 : decide (src = into) with
      | true =>
        simp only [go_sem, Bool.not_true, hlt, d0, d1]
        rw [f6_ret]
        exact hk h1 hs
      | false =>
        have hne : src ≠ into := of_decide_eq_false d1
        have hl20 : l.length ≤ 20 := by simpa using (few_len hf).1
        have hN := bnd20
        simp only [go_sem, Bool.not_true, hlt, d0, d1]
        refine new_fn hs fun h2 p hs => ?_
        have hend : ∀ h' v11 v12 v14 v15 v16 v17 v18 v19 v20 v21 v22 v23 v24 rs m, Runs Led.nil (l.map (·.1)) m rs → Sep h' (ledR p m none :: F) →
            f6_T2 (retL Try.prog f6_L Try.f6.results.toList K) [v, .int .i64 src, .int .i64 into, vt, .bool false, .bool true, .pointer (some ⟨p, 0, none⟩), v11, v12, v14, v15, v16, v17, v18, v19, v20, v21, v22, v23, v24] h' := by
          intro h' v11 v12 v14 v15 v16 v17 v18 v19 v20 v21 v22 v23 v24 rs m hr hs
          have hm : m.Ok (bnd 20) := runs_take (k := l.length) hf (by rw [List.take_length]; exact hr)
          simp only [f6_T2, go_sem]
          refine (buckets_new (p := p) (hs.at 0) hm (by omega)).use hs fun h3 vb Rs hRs _ hs => ?_
          obtain ⟨bs, hbs, rfl⟩ := hRs
          refine (copy_new (p := p) (hs.at 1) hm (by omega)).use hs fun h4 vc Rs hRs _ hs => ?_
          obtain ⟨c, rfl, rfl⟩ := hRs
          unfold ptr
          simp only [go_sem, Option.isNone]
          refine merge_fn (p := p) (to := to) (hs.pick 2) hm (by omega) (by omega) (fun h' hs => ht h' hs.tail.tail) (fun e => absurd e hne) (fun _ h5 vcut al hal hmem hs => ?_)
          have hmg := (mg_ok (src := src) (into := into) (to := to) (al := al) hm)
          refine (buckets_new (p := p) (hs.at 0) hmg (by omega)).use hs fun h6 va Rs hRs _ hs => ?_
          obtain ⟨zs, hzs, rfl⟩ := hRs
          refine (buckets_new (p := c) (hs.at 3) hm (by omega)).use hs fun h7 vcb Rs hRs _ hs => ?_
          obtain ⟨cs, hcs, rfl⟩ := hRs
          have hcb : cs = bs := bkts_unique hcs.sorted hbs.sorted (fun x => (hcs.mem x).trans (hbs.mem x).symm)
          subst hcb
          have hbl : cs.length ≤ bnd 20 := all_len hm hbs.sorted (fun b hb => (hbs.mem b).1 hb)
          obtain ⟨Lc, hLc, hBc⟩ := bkts_read (hs.at 0)
          obtain ⟨Lb, hLb, hBb⟩ := bkts_read (hs.at 5)
          refine same_fn hBc hBb (by rw [← List.length_map (f := (·.1)), hLc]; omega) (fun y hy => ?_) ?_
          · have h1 : y.1 ∈ cs := by rw [← hLc]; exact List.mem_map.2 ⟨y, hy, rfl⟩
            have := hm.ids _ _ _ ((hbs.mem y.1).1 h1)
            omega
          rw [hLc, hLb]
          simp only [go_sem, decide_true, Bool.not_true]
          obtain ⟨B, hB, hs, hBs⟩ := bkts_apart (hs.pick 5)
          obtain ⟨C, hC, hs, hCs⟩ := bkts_apart (hs.pick 5)
          obtain ⟨A, hA, hs, hAs⟩ := bkts_apart (hs.pick 5)
          have hBl : B.length = cs.length := by rw [← hB, List.length_map]
          have hcutb : ∀ b ∈ mgCut m src to al, b.list = src ∧ m.bk src b.addr = some b := mgCut_list hm
          have hCl : C.length ≤ bnd 20 := by
            have h1 : (mgCut m src to al).length ≤ al.length := Nat.le_trans (List.length_filter_le _ _) (List.length_filterMap_le _ _)
            have h2 := addrs_len hm hal hmem
            rw [← List.length_map (f := (·.1)), hC]; omega
          have hAl : A.length ≤ 2 * bnd 20 := by
            have := all_len hmg hzs.sorted (fun b hb => (hzs.mem b).1 hb)
            rw [← List.length_map (f := (·.1)), hA]; exact this
          have hAm : ∀ y ∈ A, (mgLed m src into to al).bk y.1.list y.1.addr = some y.1 := fun y hy => (hzs.mem y.1).1 (by rw [← hA]; exact List.mem_map.2 ⟨y, hy, rfl⟩)
          have hBm : ∀ y ∈ B, m.bk y.1.list y.1.addr = some y.1 := fun y hy => (hbs.mem y.1).1 (by rw [← hB]; exact List.mem_map.2 ⟨y, hy, rfl⟩)
          have hCm : ∀ y ∈ C, y.1.list = src ∧ m.bk src y.1.addr = some y.1 := fun y hy => hcutb y.1 (by rw [← hC]; exact List.mem_map.2 ⟨y, hy, rfl⟩)
          have hCin := inF_mk (bs := mgCut m src to al) (vb := vcut) (L := C) (G := []) hCs
          have hAin := inF_mk (bs := zs) (vb := va) (L := A) (G := []) hAs
          have honeC : ∀ r ∈ C.map (fun x => bktRow x.1 x.2), ∀ y ∈ r, oneC y = true := by
            intro r hr
            obtain ⟨x, hx, rfl⟩ := List.mem_map.1 hr
            obtain ⟨a, c, e⟩ := (hCs h7 (hs.at 3) x hx).val
            rw [e]; simp [bktRow, go_sem]
          have honeA : ∀ r ∈ A.map (fun x => bktRow x.1 x.2), ∀ y ∈ r, oneC y = true := by
            intro r hr
            obtain ⟨x, hx, rfl⟩ := List.mem_map.1 hr
            obtain ⟨a, c, e⟩ := (hAs h7 (hs.at 1) x hx).val
            rw [e]; simp [bktRow, go_sem]
          rw [build_slice_0]
          have hs := hs.newVec (rows := []) (e := 36) (sz := 5) (n := 0) rfl (by simp) (by simp)
          refine s_append (S := fun _ => True) hs (news := C.map fun x => bktRow x.1 x.2) rfl (by omega) (by omega) (hs.at 3).rows honeC (by simp only [List.length_nil, List.length_map]; omega) fun v1 h8 hs => ?_
          refine s_append (S := fun _ => True) hs (news := A.map fun x => bktRow x.1 x.2) rfl (by omega) (by omega) (hs.at 1).rows honeA (by simp only [List.nil_append, List.length_map]; omega) fun vd h9 hs => ?_
          rw [List.nil_append, ← List.map_append] at hs
          have hDm : (C ++ A).map (·.1) = mgCut m src to al ++ zs := by rw [List.map_append, hC, hA]
          have hBi : ∀ y ∈ B, y.1.ids.length ≤ bnd 20 := fun y hy => hm.ids _ _ _ (hBm y hy)
          have hAi : ∀ y ∈ A, y.1.ids.length ≤ 2 * bnd 20 := fun y hy => hmg.ids _ _ _ (hAm y hy)
          have hCi : ∀ y ∈ C, y.1.ids.length ≤ 2 * bnd 20 := fun y hy => by have := hm.ids _ _ _ (hCm y hy).2; omega
          have htB : total (B.map (·.1)) < 4611686018427387904 := by rw [hB]; exact total_ok hm (by omega) hbs
          have htD : total ((C ++ A).map (·.1)) < 4611686018427387904 := by
            have h1 := total_bound (bs := (C ++ A).map (·.1)) (M := 2 * bnd 20) (fun b hb => by
              obtain ⟨y, hy, rfl⟩ := List.mem_map.1 hb
              rcases List.mem_append.1 hy with hy | hy
              · exact hCi y hy
              · exact hAi y hy)
            have h2 : ((C ++ A).map (·.1)).length ≤ 3 * bnd 20 := by rw [List.length_map, List.length_append]; omega
            have h3 : ((C ++ A).map (·.1)).length * (2 * bnd 20) ≤ (3 * bnd 20) * (2 * bnd 20) := Nat.mul_le_mul_right _ h2
            have h4 : (3 * bnd 20) * (2 * bnd 20) ≤ (3 * 500000000) * (2 * 500000000) := Nat.mul_le_mul (by omega) (by omega)
            omega
          have hDl : (C ++ A).length ≤ 4294967296 := by rw [List.length_append]; omega
          refine mBefore_loop (B := B) (A := A) (D := C ++ A) ((inF_mk hBs).mono (fun _ hs => hs.tail.tail.tail.tail.tail)) ((inF_mk hAs).mono (fun _ hs => hs.tail)) ?_ (by omega) (by omega) (fun y hy => by have := hAi y hy; omega) (fun y hy => by have := hBi y hy; omega)
            (fun a i => by rw [hB, hDm]; exact merge_cnt hm hne hbs hal hmem hzs a i) htB htD (by omega) (fun x hx h1 h2 => ?_) hs fun h10 v19 v20 v21 v22 v23 hs => ?_
          · refine ⟨fun h' hs => (hs.at 0).rows, fun h' hs x hx => ?_⟩
            rcases List.mem_append.1 hx with hx | hx
            · exact hCs h' (hs.at 4) x hx
            · exact hAs h' (hs.at 2) x hx
          · have h3 := hBm x hx
            have h4 : x.1 ∈ zs := by
              rw [hzs.mem]
              simp only [mgLed]
              rw [if_neg h1, if_neg (fun e => h2 e.1)]
              exact h3
            rw [← hA] at h4
            obtain ⟨y, hy, e⟩ := List.mem_map.1 h4
            exact List.any_eq_true.2 ⟨y, hy, by simp [e]⟩
          · simp only [f6_T4]
            refine both_loop (C := C) (A := A) ((inF_mk hCs).mono (fun _ hs => hs.tail.tail.tail)) ?_ (fun y hy => (hCm y hy).1) (fun y hy => (mg_cases (hAm y hy)).1) hDl hs fun h11 v24 hs => ?_
            · refine ⟨fun h' hs => (hs.at 0).rows, fun h' hs x hx => ?_⟩
              rcases List.mem_append.1 hx with hx | hx
              · exact hCs h' (hs.at 4) x hx
              · exact hAs h' (hs.at 2) x hx
            · rw [merge_wsum hm hne hbs hal hmem hzs hB hDm]
              simp only [f6_T6, go_sem, decide_true]
              rw [f6_ret]
              exact hk h11 hs.tail.tail.tail.tail.tail.tail.tail.tail.tail.tail
        unfold ptr
        refine LoopS.st (σ := Nat) (fun k => [v, .int .i64 src, .int .i64 into, vt, .bool false, .bool true, .pointer (some ⟨p, 0, none⟩), .int .i64 k, undef, undef, undef, undef, undef, undef, undef, undef, undef, undef, undef, undef])
          (fun k h' => k ≤ l.length ∧ ∃ m rs, Runs Led.nil ((l.take k).map (·.1)) m rs ∧ Sep h' (ledR p m none :: F)) (fun k => l.length - k) 0 rfl ⟨Nat.zero_le _, Led.nil, [], .nil _, hs⟩ ?_
        rintro k h5 ⟨hkl, m, rs, hr, hs⟩
        refine Eq.mpr (by simp only [f6_T29]; rfl) ?_
        refine s_len (hv h5 hs.tail).1 ?_
        simp only [List.length_map]
        by_cases hlt : k < l.length
        · have hi : ((k : Int) < (l.length : Int)) = True := by simp; omega
          simp only [go_sem, hi, decide_true]
          refine s_idxN (hv h5 hs.tail).1 (by simpa using hlt) (by omega) ?_
          rw [List.getElem_map]
          refine do_fn (x := l[k]) hs (runs_take hf hr) (by omega) (few_at hf hlt) (fun h' hs => (hv h' hs).2 _ (List.getElem_mem hlt)) fun h6 v16 v17 m' sg cut hd hs => ?_
          simp (disch := omega) only [go_sem, bin_add_in]
          refine NextSt.mk (k + 1) rfl ⟨hlt, m', rs ++ [(sg, cut)], ?_, hs.del 1 |>.del 1⟩ (by omega)
          rw [List.take_succ_eq_append_getElem hlt, List.map_append]
          exact hr.snoc hd
        · have hi : ((k : Int) < (l.length : Int)) = False := by simp; omega
          simp only [go_sem, hi, decide_false]
          rw [List.take_of_length_le (by omega)] at hr
          exact hend h5 _ _ _ _ _ _ _ _ _ _ _ _ _ rs m hr hs
end
end Go.Proofs.Ythgbpfoadlemaaa

/- DueMerges: the statement. -/
namespace Go.Proofs.Ythgbpfoadlemaaa.dueMerges
open Go.ChangeShapes Go.WideShapes Go.ChangeAt Go.RowKit Go.Fw Go.Proofs.Ythgbpfoadlemaaa
set_option linter.unusedVariables false
theorem own : ownKnob Try.prog.godebug = none := by kernel_rfl
theorem laidOut : laidOutB Try.prog = true := by kernel_rfl
theorem walk (v vt : Value) (a1 a2 : Int) (l : List DeedV) (to : List Sub) (W : World) (hv : Deeds (fun b => b < W.heap.size) W.heap v l) (ht : RowsR (fun b => b < W.heap.size) W.heap vt 5 (to.map subRow)) (hl : l.length ≤ maxLen) :
    Calls Try.prog 6 #[v, .int .i64 a1, .int .i64 a2, vt] W fun e W' => e = .returned (.bool true) ∧ Below W.heap.size W W' :=
  fn_below fun hs => merges_law hs (fun h' hs => frozen_deeds (hs.at 0) hv) (fun h' hs => frozen_rows (hs.at 0) ht) (by unfold maxLen at hl; omega) fun h' hs => ⟨rfl, hs⟩
set_option maxRecDepth 100000 in
theorem lifted (os : Os) (started : os.Started) (H : Type) (enc : TypeId × Value → H) :
    ReturnsInHanded {} Try.checked os 6 .any (Rows.dueMergesSpec.pre6 enc Try.prog Try.f6 Rows.dueMergesRow.domain false) (Rows.dueMergesSpec.post enc Try.prog Try.f6 false true false false) := by
  refine returnsInHanded_of_change (C := Try.checked) own started (by kernel_rfl) Try.func6
    (ChangeSpec.witness6 (enc := enc) (C := Try.checked) false ⟨#[], #[.slice none 0 0, .int .i64 0, .int .i64 0, .slice none 0 0], []⟩ 8 (by kernel_rfl) (by kernel_rfl) (by kernel_rfl) (by kernel_rfl)) ?_
  intro W base args ds gs before hval0 hW hcnd _
  have hval : ∀ (j : Nat) t v, Try.f6.params[j]? = some t → args[j]? = some v → Value.okWide Try.prog W .any base t v := hval0
  have hW' := hW
  obtain ⟨p, q, hA0, hV, rfl, hfz, hnd⟩ := hW
  have hA : DataW.TrodAll enc Try.prog W 0 (fun _ => true) true Try.f6.params.toList args.toList ds p := hA0
  rw [Try.params6] at hA hval
  obtain ⟨v0, vs0, d0, ds0, p0, q0, hargs, rfl, rfl, h0, r0⟩ := trodAll_cons hA
  obtain ⟨v1, vs1, d1, ds1, p1, q1, rfl, rfl, rfl, h1, r1⟩ := trodAll_cons r0
  obtain ⟨v2, vs2, d2, ds2, p2, q2, rfl, rfl, rfl, h2, r2⟩ := trodAll_cons r1
  obtain ⟨v3, vs3, d3, ds3, p3, q3, rfl, rfl, rfl, h3, r3⟩ := trodAll_cons r2
  obtain ⟨rfl, rfl, rfl⟩ := trodAll_nil r3
  obtain rfl : args = #[v0, v1, v2, v3] := by cases args; simp_all
  obtain ⟨rfl, rfl⟩ := trodVars_none hV
  obtain ⟨a0, len0, cap0, rfl⟩ := okWide_slice ru22 (hval 0 22 v0 rfl rfl)
  have k0 := h0
  have lt0 : ∀ x ∈ p0, x.block < W.heap.size := by obtain ⟨m, hm⟩ := k0; exact DataW.trod_lt m _ _ _ hm
  obtain ⟨fuel0, g0⟩ := h0
  obtain ⟨l0, v0', e0, hd0, hl0⟩ := rd_deeds _ _ _ _ _ _ g0
  simp only [Value.cells, List.cons.injEq, and_true] at e0
  subst e0
  obtain ⟨a1, rfl, rfl, rfl, w1⟩ := open_int ru3 (hval 1 3 v1 rfl rfl) h1
  obtain ⟨a2, rfl, rfl, rfl, w2⟩ := open_int ru3 (hval 2 3 v2 rfl rfl) h2
  obtain ⟨a3, len3, cap3, rfl⟩ := okWide_slice ru31 (hval 3 31 v3 rfl rfl)
  have k3 := h3
  have lt3 : ∀ x ∈ p3, x.block < W.heap.size := by obtain ⟨m, hm⟩ := k3; exact DataW.trod_lt m _ _ _ hm
  obtain ⟨fuel3, g3⟩ := h3
  obtain ⟨l3, v3', e3, hd3⟩ := rd_subs _ _ _ _ _ _ g3
  simp only [Value.cells, List.cons.injEq, and_true] at e3
  subst e3
  clear hA0 hval0
  refine (walk _ _ a1 a2 l0 l3 W hd0 hd3 hl0).mono fun e W' ⟨he, bel⟩ => ?_
  subst he
  exact ⟨_, rfl, _, _, _, [], _, [], hW', trodAll_mk1 (shut_bool ru4 _), trodAll_cons_mk (Below.trod laidOut (by kernel_rfl) (of_decide_eq_true (by kernel_rfl)) k0 bel lt0) (trodAll_cons_mk (shut_int ru3 w1) (trodAll_cons_mk (shut_int ru3 w2) (trodAll_cons_mk (Below.trod laidOut (by kernel_rfl) (of_decide_eq_true (by kernel_rfl)) k3 bel lt3) trodAll_mk0))), rfl, bel.frame _, fun h => by cases h⟩
theorem over : Rows.dueMergesRow.holds Try.pinned (OpenSpec.ofChange Rows.dueMergesSpec) :=
  OpenClaim.holds_of_wide 6 Try.f6 rfl rfl rfl rfl rfl rfl rfl ⟨rfl, rfl, rfl, rfl, rfl⟩ rfl rfl rfl rfl rfl (by kernel_rfl) Try.func6 (by kernel_rfl)
    (of_decide_eq_true (by kernel_rfl)) (by unfold Func.isWrapper; first | (rw [if_pos (by decide +kernel)]; kernel_rfl) | (rw [if_neg (by decide +kernel)]; exact ⟨rfl, rfl⟩))
    (fun os started H enc _ => lifted os started H enc)
theorem proved : Rows.DueMergesSaid := over
end Go.Proofs.Ythgbpfoadlemaaa.dueMerges
namespace Go.Proofs.Ythgbpfoadlemaaa
/-- The statement DueMerges. -/
theorem dueMerges_holds : Rows.DueMergesSaid := dueMerges.proved
#print axioms dueMerges_holds
end Go.Proofs.Ythgbpfoadlemaaa
