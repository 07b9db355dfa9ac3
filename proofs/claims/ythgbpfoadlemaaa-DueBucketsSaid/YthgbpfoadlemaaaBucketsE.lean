/- Proves the statement DueBuckets: whatever the input, the law returns true and the input reads as it did; no conditions. -/
import Derived.Test.YthgbpfoadlemaaaD
import Derived.Test.YthgbpfoadlemaaaRows
import Derived.WalkKit
import Derived.ProofKit
import Derived.OpenShut
import Derived.ChangeOld
import Derived.Below
import Derived.SizedLaws
import Derived.Carry
/- DueBuckets: what a release does. -/
namespace Go.Proofs.Ythgbpfoadlemaaa
open Go.Fw
section
variable {p : Nat} {m m' : Led} {h : Heap} {F : List Res} {K : Kont} {N : Nat} {v : Value} {l : List DeedV} {id : ByteArray} {size list now budget : Int}
/-- What stands of a release. -/
structure RelFacts (m : Led) (id : ByteArray) (list budget : Int) (st : RelSt) : Prop where
  full : ∀ b ∈ st.fl, budget ≤ b.size ∧ b.list = list ∧ ∃ ids, b.ids = ids ++ [id]
  bk : ∀ l a b, st.m.bk l a = some b → m.bk l a = some b ∨ (0 < budget → b.size < budget)
theorem addTo_key {st : Led} {a : ByteArray} (hm : st.Ok N) : (addTo st id a size list now).list = list ∧ (addTo st id a size list now).addr = a := by
  unfold addTo
  cases hb : st.bk list a with
  | none => exact ⟨rfl, rfl⟩
  | some b => obtain ⟨h1, h2⟩ := hm.key _ _ _ hb; exact ⟨h1, h2⟩
theorem relStep_facts {st : RelSt} {x : Sub × Bool} {k : Nat} (hst : RelOk st N k) (hf : RelFacts m id list budget st) : RelFacts m id list budget (relStep id size list now budget st x) := by
  unfold relStep
  split
  · split
    · exact ⟨hf.full, hf.bk⟩
    · have h4 := hst.ok.owe x.1.addr id
      obtain ⟨k1, k2⟩ := addTo_key (id := id) (size := size) (list := list) (now := now) (a := x.1.addr) h4
      have hids : ∃ ids, (addTo (st.m.owe x.1.addr id) id x.1.addr size list now).ids = ids ++ [id] := ⟨_, rfl⟩
      generalize addTo (st.m.owe x.1.addr id) id x.1.addr size list now = b at k1 k2 hids
      unfold bump
      split
      · rename_i hb
        refine ⟨fun c hc => ?_, fun l a c hc => hf.bk l a c (del_some hc)⟩
        rcases List.mem_append.1 hc with hc | hc
        · exact hf.full c hc
        · rw [List.mem_singleton] at hc; subst hc; exact ⟨hb.2, k1, hids⟩
      · rename_i hb
        refine ⟨hf.full, fun l a c hc => ?_⟩
        simp only [Led.put] at hc
        split at hc
        · injection hc with hc
          subst hc
          exact .inr fun h0 => Classical.byContradiction fun hh => hb ⟨h0, by omega⟩
        · exact hf.bk l a c hc
  · exact hf
theorem rel_facts : ∀ (x : List (Sub × Bool)) (st : RelSt) (k : Nat), RelOk st N k → RelFacts m id list budget st → RelFacts m id list budget (x.foldl (relStep id size list now budget) st)
  | [], _, _, _, h => h
  | y :: x, _, k, h1, h2 => rel_facts x _ (k + 1) (relStep_ok (id := id) (size := size) (list := list) (now := now) (budget := budget) (x := y) h1) (relStep_facts (size := size) (now := now) h1 h2)
theorem rel_all (hm : m.Ok N) (x : List (Sub × Bool)) : RelFacts m id list budget (rel id size list now budget m x) :=
  rel_facts (N := N) x _ 0 ⟨hm, Nat.le_refl _, Nat.le_refl _⟩ ⟨(by intro b hb; cases hb), fun _ _ _ h => .inl h⟩
theorem relStep_ids {st : RelSt} {x : Sub × Bool} {k : Nat} (hst : RelOk st N k) (hf : ∀ b ∈ st.fl, b.ids.length ≤ N + 2 * k) : ∀ b ∈ (relStep id size list now budget st x).fl, b.ids.length ≤ N + 2 * (k + 1) := by
  have hf' : ∀ b ∈ st.fl, b.ids.length ≤ N + 2 * (k + 1) := fun b hb => by have := hf b hb; omega
  unfold relStep
  split
  · split
    · exact hf'
    · have h4 := hst.ok.owe x.1.addr id
      have h5 := (addTo_ok (id := id) (a := x.1.addr) (size := size) (list := list) (now := now) h4).1
      unfold bump
      split
      · intro b hb
        rcases List.mem_append.1 hb with hb | hb
        · exact hf' b hb
        · rw [List.mem_singleton] at hb; subst hb; omega
      · exact hf'
  · exact hf'
theorem rel_ids : ∀ (x : List (Sub × Bool)) (st : RelSt) (k : Nat), RelOk st N k → (∀ b ∈ st.fl, b.ids.length ≤ N + 2 * k) → ∀ b ∈ (x.foldl (relStep id size list now budget) st).fl, b.ids.length ≤ N + 2 * (k + x.length)
  | [], _, _, _, h => h
  | y :: x, _, k, h1, h2 => by
    have := rel_ids x _ (k + 1) (relStep_ok (id := id) (size := size) (list := list) (now := now) (budget := budget) (x := y) h1) (relStep_ids h1 h2)
    intro b hb
    have := this b hb
    simp only [List.length_cons]
    omega
theorem rel_ids_all (hm : m.Ok N) (x : List (Sub × Bool)) : ∀ b ∈ (rel id size list now budget m x).fl, b.ids.length ≤ N + 2 * x.length := by
  have := rel_ids (N := N) (id := id) (size := size) (list := list) (now := now) (budget := budget) x ⟨m, [], []⟩ 0 ⟨hm, Nat.le_refl _, Nat.le_refl _⟩ (by intro b hb; cases hb)
  intro b hb
  have := this b hb
  omega
theorem cnt_pos {bs : List Bkt} {b : Bkt} {i : ByteArray} (hb : b ∈ bs) (hi : i ∈ b.ids) : 0 < cnt bs b.addr i := by
  induction bs with
  | nil => cases hb
  | cons c r ih =>
    simp only [cnt, List.map_cons, List.sum_cons]
    rcases List.mem_cons.1 hb with rfl | hb
    · have : 0 < cnt1 b.addr i b := by
        simp only [cnt1, if_true, cntIds]
        exact List.length_pos_of_mem (List.mem_filter.2 ⟨hi, by simp⟩)
      omega
    · have := ih hb
      simp only [cnt] at this
      omega
end
end Go.Proofs.Ythgbpfoadlemaaa

/- DueBuckets: the walk. -/
namespace Go.Proofs.Ythgbpfoadlemaaa
open Go.Fw
section
variable {p : Nat} {m m' : Led} {h : Heap} {F : List Res} {K : Kont} {N : Nat} {q : LPost} {L : List (Bkt × Value)} {v0 v1 v2 v4 v6 v7 v8 v9 v10 v11 v14 v15 v17 v18 vb : Value}
def rowB (x : Bkt × Value) : List Value := bktRow x.1 x.2
/-- Buckets that lie in the frame. -/
structure InF (F : List Res) (v : Value) (L : List (Bkt × Value)) : Prop where
  rows : ∀ h', Sep h' F → RowsR (fun _ => True) h' v 5 (L.map rowB)
  ids : ∀ h', Sep h' F → ∀ x ∈ L, RowsR (fun _ => True) h' x.2 1 (x.1.ids.map strRow)
theorem InF.one (hi : InF F v0 L) (hs : Sep h F) {x : Bkt × Value} (hx : x ∈ L) : (⟨rowB x⟩ : Array Value).toList.all oneC = true := by
  obtain ⟨a, c, e⟩ := (hi.ids h hs x hx).val
  simp only [rowB, bktRow, e]
  rfl
theorem InF.mono {G : List Res} (hi : InF F v0 L) (hg : ∀ h, Sep h G → Sep h F) : InF G v0 L := ⟨fun h' hs => hi.rows h' (hg h' hs), fun h' hs => hi.ids h' (hg h' hs)⟩
theorem inF_mk {bs : List Bkt} {G : List Res} (hLs : ∀ h', (elemsR bktE bs (L.map fun x => bktRow x.1 x.2)).has h' → ∀ x ∈ L, RowsR (fun _ => True) h' x.2 1 (x.1.ids.map strRow)) :
    InF (vecR vb 36 5 (L.map fun x => bktRow x.1 x.2) :: elemsR bktE bs (L.map fun x => bktRow x.1 x.2) :: G) vb L := ⟨fun _ hs => (hs.at 0).rows, fun h' hs => hLs h' (hs.at 1)⟩
set_option maxRecDepth 16000 in
theorem before_round {k : Nat} (hi : InF F vb L) (hne : ∀ x ∈ L, x.1.ids ≠ []) (hso : (L.map (·.1)).Pairwise keyLt) (hl : L.length ≤ 4294967296) (hs : Sep h F) (hlt : k < L.length)
    (hq : ∀ h', Sep h' F → q .normal [v0, v1, v2, v4, v6, v7, v8, v9, vb, .int .i64 ((k : Int) + 1), v14, v15, v17, v18] h') : f4_T17 q [v0, v1, v2, v4, v6, v7, v8, v9, vb, .int .i64 k, v14, v15, v17, v18] h := by
  have hlv : ∀ K, oLen (some (.slice 36)) vb K h = K (.int .i64 L.length) h := fun K => by rw [len_val (hi.rows h hs), List.length_map]
  have hd : decide ((k : Int) < (L.length : Int)) = true := by simp; omega
  obtain ⟨b, o, hidx, hcell, hload⟩ := elem_at (r := rowB L[k]) (hi.rows h hs) (by simpa using hlt) (by simp) (by omega)
  have hmem : L[k] ∈ L := List.getElem_mem hlt
  have hnek := hne _ hmem
  have hone := hi.one hs hmem
  have hprev : k ≠ 0 → ∃ y ∈ L, keyLt y.1 L[k].1 ∧ ∀ (h' : Heap), Sep h' F → ∃ b o, (∀ K, oIndexAddr (.slice 5) vb (.int .i64 ((k : Int) - 1)) K h' = K (.pointer (some ⟨b, o, none⟩)) h') ∧ cellAt h' b (o + 0) = some (.int .i64 y.1.list) ∧ cellAt h' b (o + 1) = some (.string y.1.addr) := by
    intro hk0
    have hk1 : (k : Int) - 1 = ((k - 1 : Nat) : Int) := by omega
    refine ⟨L[k - 1]'(by omega), List.getElem_mem _, ?_, fun h' hs' => ?_⟩
    · have := List.pairwise_iff_getElem.1 hso (k - 1) k (by simp; omega) (by simpa using hlt) (by omega)
      simpa using this
    · obtain ⟨b', o', hidx', hcell', _⟩ := elem_at (r := rowB (L[k - 1]'(by omega))) (k := k - 1) (hi.rows h' hs') (by simp; omega) (by simp) (by omega)
      rw [hk1]
      exact ⟨b', o', hidx', hcell' 0 (by omega), hcell' 1 (by omega)⟩
  generalize L[k] = x at hmem hnek hone hprev hload
  obtain ⟨bx, sl⟩ := x
  simp -implicitDefEqProofs only [f4_T17, go_sem, hlv, hd, hidx, hload]
  refine s_alloc hs fun h3 y hs => ?_
  refine s_store hs rfl rfl hone fun h4 hs => ?_
  have hsF := hs.tail
  have c0 : cellAt h4 y 0 = some (.int .i64 bx.list) := (hs.at 0).cell 0
  have c1 : cellAt h4 y 1 = some (.string bx.addr) := (hs.at 0).cell 1
  have c2 : cellAt h4 y 2 = some sl := (hs.at 0).cell 2
  have hll : ∀ K, oLen (some (.slice 9)) sl K h4 = K (.int .i64 bx.ids.length) h4 := fun K => by rw [len_val (hi.ids h4 hsF _ hmem), List.length_map]
  have hz : decide ((bx.ids.length : Int) = 0) = false := by
    have : bx.ids.length ≠ 0 := fun e => hnek (List.eq_nil_of_length_eq_zero e)
    simpa using this
  have hq := hq h4 hsF
  simp only at hprev
  clear hs hidx hload hlv hi hone hmem hcell
  by_cases hk0 : k = 0
  · have hg : decide ((0 : Int) < (k : Int)) = false := by simp [hk0]
    simp -implicitDefEqProofs (disch := omega) only [go_sem, Nat.zero_add, c2, hll, hz, hg, bin_add_in]
    exact hq
  · have hg : decide ((0 : Int) < (k : Int)) = true := by simp; omega
    obtain ⟨z, _, hlt', hpz⟩ := hprev hk0
    obtain ⟨b', o', hidx', d0, d1⟩ := hpz h4 hsF
    have e1 : decide (bx.list < z.1.list) = false := by
      rcases hlt' with h | ⟨h, _⟩ <;> simp <;> omega
    cases e2 : decide (z.1.list = bx.list) with
    | false =>
      simp -implicitDefEqProofs (disch := omega) only [go_sem, Nat.zero_add, c2, hll, hz, hg, bin_sub_in, hidx', d0, c0, e1, e2, bin_add_in]
      exact hq
    | true =>
      have e3 : lessB z.1.addr bx.addr = true := by
        rcases hlt' with h | ⟨_, h⟩
        · simp at e2; omega
        · exact lessB_iff.2 h
      simp -implicitDefEqProofs (disch := omega) only [go_sem, Nat.zero_add, c2, hll, hz, hg, bin_sub_in, hidx', d0, c0, e1, e2, d1, c1, e3, Bool.not_true, bin_add_in]
      exact hq
set_option maxRecDepth 16000 in
theorem before_loop (hi : InF F vb L) (hne : ∀ x ∈ L, x.1.ids ≠ []) (hso : (L.map (·.1)).Pairwise keyLt) (hl : L.length ≤ 4294967296) (hs : Sep h F)
    (hq : ∀ h' v11, Sep h' F → f4_T4 q [v0, v1, v2, v4, v6, v7, v8, v9, vb, v11, v14, v15, v17, v18] h') : f4_T16 q [v0, v1, v2, v4, v6, v7, v8, v9, vb, .int .i64 0, v14, v15, v17, v18] h := by
  refine LoopS.st (σ := Nat) (fun k => [v0, v1, v2, v4, v6, v7, v8, v9, vb, .int .i64 k, v14, v15, v17, v18]) (fun k h' => Sep h' F ∧ k ≤ L.length) (fun k => L.length - k) 0 rfl ⟨hs, Nat.zero_le _⟩ ?_
  rintro k h2 ⟨hs, hkl⟩
  by_cases hlt : k < L.length
  · refine before_round hi hne hso hl hs hlt fun h' hs => ?_
    rw [thenL_normal]
    exact NextSt.mk (k + 1) rfl ⟨hs, hlt⟩ (by omega)
  · have hlv : ∀ K, oLen (some (.slice 36)) vb K h2 = K (.int .i64 L.length) h2 := fun K => by rw [len_val (hi.rows h2 hs), List.length_map]
    have hd : decide ((k : Int) < (L.length : Int)) = false := by simp; omega
    simp only [f4_T17, go_sem, hlv, hd]
    exact hq h2 _ hs
end
end Go.Proofs.Ythgbpfoadlemaaa

/- DueBuckets: the walk, continued. -/
namespace Go.Proofs.Ythgbpfoadlemaaa
open Go.Fw
section
variable {p : Nat} {m m' : Led} {h : Heap} {F : List Res} {K : Kont} {N : Nat} {q : LPost} {L : List (Bkt × Value)} {v v0 v1 v2 v4 v6 v7 v8 v9 v10 v11 v14 v15 v17 v18 vb : Value}
/-- The last of the ids. -/
theorem last_at {ids : List ByteArray} {id : ByteArray} {sl : Value} (hr : RowsR (fun _ => True) h sl 1 ((ids ++ [id]).map strRow)) : ∃ b o, (∀ K, oIndexAddr (.slice 1) sl (.int .i64 (((ids ++ [id]).length : Int) - 1)) K h = K (.pointer (some ⟨b, o, none⟩)) h) ∧ cellAt h b o = some (.string id) := by
  obtain ⟨b, o, hidx, hcell, _⟩ := elem_at (k := ids.length) (r := strRow id) hr (by simp) (by simp [strRow]) (by omega)
  refine ⟨b, o, fun K => ?_, ?_⟩
  · have : (((ids ++ [id]).length : Int) - 1) = (ids.length : Int) := by simp
    rw [this]; exact hidx K
  · have := hcell 0 (by omega)
    simpa [strRow] using this
/-- A deed's box in the frame. -/
def BoxIn (F : List Res) (b : Nat) (x : DeedV) : Prop := ∀ h', Sep h' F → (cellR b ⟨dRow x⟩ 34).has h'
set_option maxRecDepth 16000 in
theorem full_round {k bd : Nat} {x : DeedV} {budget : Int} (hi : InF F vb L) (hbox : BoxIn F bd x) (hfull : ∀ y ∈ L, budget ≤ y.1.size ∧ y.1.list = x.1.list ∧ ∃ ids, y.1.ids = ids ++ [x.1.id]) (hl : L.length ≤ 4294967296) (hids : ∀ y ∈ L, y.1.ids.length ≤ 4294967296)
    (hs : Sep h F) (hlt : k < L.length)
    (hq : ∀ h', Sep h' F → q .normal [v0, v1, .int .i64 budget, ptr bd, v6, v7, v8, v9, v10, v11, vb, .int .i64 ((k : Int) + 1), v17, v18] h') : f4_T14 q [v0, v1, .int .i64 budget, ptr bd, v6, v7, v8, v9, v10, v11, vb, .int .i64 k, v17, v18] h := by
  have hlv : ∀ K, oLen (some (.slice 36)) vb K h = K (.int .i64 L.length) h := fun K => by rw [len_val (hi.rows h hs), List.length_map]
  have hd : decide ((k : Int) < (L.length : Int)) = true := by simp; omega
  obtain ⟨b, o, hidx, hcell, hload⟩ := elem_at (r := rowB L[k]) (hi.rows h hs) (by simpa using hlt) (by simp) (by omega)
  have hmem : L[k] ∈ L := List.getElem_mem hlt
  have hone := hi.one hs hmem
  generalize L[k] = y at hmem hone hload
  obtain ⟨bx, sl⟩ := y
  obtain ⟨f1, f2, ids, f3⟩ := hfull _ hmem
  have hil := hids _ hmem
  simp only at f1 f2 f3 hil
  unfold ptr at hq ⊢
  simp -implicitDefEqProofs only [f4_T14, go_sem, hlv, hd, hidx, hload]
  refine s_alloc hs fun h3 y hs => ?_
  refine s_store hs rfl rfl hone fun h4 hs => ?_
  have hsF := hs.tail
  have c0 : cellAt h4 y 0 = some (.int .i64 bx.list) := (hs.at 0).cell 0
  have c2 : cellAt h4 y 2 = some sl := (hs.at 0).cell 2
  have c3 : cellAt h4 y 3 = some (.int .i64 bx.size) := (hs.at 0).cell 3
  have g1 : cellAt h4 bd 1 = some (.int .i64 x.1.list) := (hbox h4 hsF).cell 1
  have g4 : cellAt h4 bd 4 = some (.string x.1.id) := (hbox h4 hsF).cell 4
  have hll : ∀ K, oLen (some (.slice 9)) sl K h4 = K (.int .i64 bx.ids.length) h4 := fun K => by rw [len_val (hi.ids h4 hsF _ hmem), List.length_map]
  have hrl := hi.ids h4 hsF _ hmem
  simp only [f3] at hrl
  obtain ⟨b2, o2, hix, cl⟩ := last_at hrl
  rw [← f3] at hix
  have e1 : decide (bx.size < budget) = false := by simp; omega
  have e2 : decide (bx.list = x.1.list) = true := by simp [f2]
  have e3 : decide ((bx.ids.length : Int) = 0) = false := by rw [f3]; simp; omega
  have hq := hq h4 hsF
  clear hs hidx hload hlv hi hone hmem hcell hbox
  simp -implicitDefEqProofs (disch := omega) only [go_sem, Nat.zero_add, c3, e1, c0, g1, e2, Bool.not_true, c2, hll, e3, bin_sub_in, hix, cl, g4, bin_add_in]
  exact hq
set_option maxRecDepth 16000 in
theorem full_loop {bd : Nat} {x : DeedV} {budget : Int} (hi : InF F vb L) (hbox : BoxIn F bd x) (hfull : ∀ y ∈ L, budget ≤ y.1.size ∧ y.1.list = x.1.list ∧ ∃ ids, y.1.ids = ids ++ [x.1.id]) (hl : L.length ≤ 4294967296) (hids : ∀ y ∈ L, y.1.ids.length ≤ 4294967296)
    (hs : Sep h F) (hq : ∀ h' v15, Sep h' F → f4_T6 q [v0, v1, .int .i64 budget, ptr bd, v6, v7, v8, v9, v10, v11, vb, v15, v17, v18] h') : f4_T13 q [v0, v1, .int .i64 budget, ptr bd, v6, v7, v8, v9, v10, v11, vb, .int .i64 0, v17, v18] h := by
  refine LoopS.st (σ := Nat) (fun k => [v0, v1, .int .i64 budget, ptr bd, v6, v7, v8, v9, v10, v11, vb, .int .i64 k, v17, v18]) (fun k h' => Sep h' F ∧ k ≤ L.length) (fun k => L.length - k) 0 rfl ⟨hs, Nat.zero_le _⟩ ?_
  rintro k h2 ⟨hs, hkl⟩
  by_cases hlt : k < L.length
  · refine full_round hi hbox hfull hl hids hs hlt fun h' hs => ?_
    rw [thenL_normal]
    exact NextSt.mk (k + 1) rfl ⟨hs, hlt⟩ (by omega)
  · have hlv : ∀ K, oLen (some (.slice 36)) vb K h2 = K (.int .i64 L.length) h2 := fun K => by rw [len_val (hi.rows h2 hs), List.length_map]
    have hd : decide ((k : Int) < (L.length : Int)) = false := by simp; omega
    simp only [f4_T14, go_sem, hlv, hd]
    exact hq h2 _ hs
set_option maxRecDepth 16000 in
theorem after_round {k bd : Nat} {x : DeedV} {budget : Int} {B : List (Bkt × Value)} (hi : InF F vb L) (hb : InF F v10 B) (hbox : BoxIn F bd x) (hne : ∀ y ∈ L, y.1.ids ≠ [])
    (hafter : ∀ y ∈ L, y.1.list = x.1.list → ∀ ids, y.1.ids = ids ++ [x.1.id] → cnt (B.map (·.1)) y.1.addr x.1.id = 0 → ¬ budget ≤ y.1.size) (hl : L.length ≤ 4294967296) (hids : ∀ y ∈ L, y.1.ids.length ≤ 4294967296)
    (ht : total (B.map (·.1)) < 4611686018427387904) (hbl : B.length < 4611686018427387904)
    (hs : Sep h F) (hlt : k < L.length)
    (hq : ∀ h', Sep h' F → q .normal [v0, v1, .int .i64 budget, ptr bd, v6, v7, v8, v9, v10, v11, v14, v15, vb, .int .i64 ((k : Int) + 1)] h') : f4_T11 q [v0, v1, .int .i64 budget, ptr bd, v6, v7, v8, v9, v10, v11, v14, v15, vb, .int .i64 k] h := by
  have hlv : ∀ K, oLen (some (.slice 36)) vb K h = K (.int .i64 L.length) h := fun K => by rw [len_val (hi.rows h hs), List.length_map]
  have hd : decide ((k : Int) < (L.length : Int)) = true := by simp; omega
  obtain ⟨b, o, hidx, hcell, hload⟩ := elem_at (r := rowB L[k]) (hi.rows h hs) (by simpa using hlt) (by simp) (by omega)
  have hmem : L[k] ∈ L := List.getElem_mem hlt
  have hone := hi.one hs hmem
  generalize L[k] = y at hmem hone hload
  obtain ⟨bx, sl⟩ := y
  have hil := hids _ hmem
  have haf := hafter _ hmem
  have hnn := hne _ hmem
  simp only at hil haf hnn
  obtain ⟨ids, z, f3⟩ : ∃ ids z, bx.ids = ids ++ [z] := ⟨_, _, (List.dropLast_concat_getLast hnn).symm⟩
  unfold ptr at hq ⊢
  simp -implicitDefEqProofs only [f4_T11, go_sem, hlv, hd, hidx, hload]
  refine s_alloc hs fun h3 y hs => ?_
  refine s_store hs rfl rfl hone fun h4 hs => ?_
  have hsF := hs.tail
  have c0 : cellAt h4 y 0 = some (.int .i64 bx.list) := (hs.at 0).cell 0
  have c1 : cellAt h4 y 1 = some (.string bx.addr) := (hs.at 0).cell 1
  have c2 : cellAt h4 y 2 = some sl := (hs.at 0).cell 2
  have c3 : cellAt h4 y 3 = some (.int .i64 bx.size) := (hs.at 0).cell 3
  have g1 : cellAt h4 bd 1 = some (.int .i64 x.1.list) := (hbox h4 hsF).cell 1
  have g4 : cellAt h4 bd 4 = some (.string x.1.id) := (hbox h4 hsF).cell 4
  have hll : ∀ K, oLen (some (.slice 9)) sl K h4 = K (.int .i64 bx.ids.length) h4 := fun K => by rw [len_val (hi.ids h4 hsF _ hmem), List.length_map]
  have hrl := hi.ids h4 hsF _ hmem
  simp only [f3] at hrl
  obtain ⟨b2, o2, hix, cl⟩ := last_at hrl
  rw [← f3] at hix
  have e3 : decide ((0 : Int) < bx.ids.length) = true := by rw [f3]; simp
  have hq := hq h4 hsF
  have hB : Bkts (fun _ => True) h4 v10 B := ⟨hb.rows h4 hsF, hb.ids h4 hsF⟩
  clear hs hidx hload hlv hi hone hmem hcell hbox hb
  cases e0 : decide (bx.list = x.1.list) with
  | false =>
    simp -implicitDefEqProofs (disch := omega) only [go_sem, Nat.zero_add, c0, g1, e0, bin_add_in]
    exact hq
  | true =>
    cases e1 : decide (z = x.1.id) with
    | false =>
      simp -implicitDefEqProofs (disch := omega) only [go_sem, Nat.zero_add, c0, g1, e0, c2, hll, e3, bin_sub_in, hix, cl, g4, e1, bin_add_in]
      exact hq
    | true =>
      simp -implicitDefEqProofs (disch := omega) only [go_sem, Nat.zero_add, c0, g1, e0, c2, hll, e3, bin_sub_in, hix, cl, g4, e1, c1]
      refine l_count hB ht hbl ?_
      cases e2 : decide (((cnt (B.map (·.1)) bx.addr x.1.id : Nat) : Int) = 0) with
      | false =>
        simp -implicitDefEqProofs (disch := omega) only [go_sem, e2, bin_add_in]
        exact hq
      | true =>
        have hz : z = x.1.id := of_decide_eq_true e1
        have hlt' : decide (budget ≤ bx.size) = false := by
          rw [decide_eq_false_iff_not]
          refine haf (of_decide_eq_true e0) ids (by rw [f3, hz]) ?_
          have := of_decide_eq_true e2
          omega
        simp -implicitDefEqProofs (disch := omega) only [go_sem, Nat.zero_add, e2, c3, hlt', bin_add_in]
        exact hq
set_option maxRecDepth 16000 in
theorem after_loop {bd : Nat} {x : DeedV} {budget : Int} {B : List (Bkt × Value)} (hi : InF F vb L) (hb : InF F v10 B) (hbox : BoxIn F bd x) (hne : ∀ y ∈ L, y.1.ids ≠ [])
    (hafter : ∀ y ∈ L, y.1.list = x.1.list → ∀ ids, y.1.ids = ids ++ [x.1.id] → cnt (B.map (·.1)) y.1.addr x.1.id = 0 → ¬ budget ≤ y.1.size) (hl : L.length ≤ 4294967296) (hids : ∀ y ∈ L, y.1.ids.length ≤ 4294967296)
    (ht : total (B.map (·.1)) < 4611686018427387904) (hbl : B.length < 4611686018427387904)
    (hs : Sep h F) (hq : ∀ h' v18, Sep h' F → f4_T8 q [v0, v1, .int .i64 budget, ptr bd, v6, v7, v8, v9, v10, v11, v14, v15, vb, v18] h') : f4_T10 q [v0, v1, .int .i64 budget, ptr bd, v6, v7, v8, v9, v10, v11, v14, v15, vb, .int .i64 0] h := by
  refine LoopS.st (σ := Nat) (fun k => [v0, v1, .int .i64 budget, ptr bd, v6, v7, v8, v9, v10, v11, v14, v15, vb, .int .i64 k]) (fun k h' => Sep h' F ∧ k ≤ L.length) (fun k => L.length - k) 0 rfl ⟨hs, Nat.zero_le _⟩ ?_
  rintro k h2 ⟨hs, hkl⟩
  by_cases hlt : k < L.length
  · refine after_round hi hb hbox hne hafter hl hids ht hbl hs hlt fun h' hs => ?_
    rw [thenL_normal]
    exact NextSt.mk (k + 1) rfl ⟨hs, hlt⟩ (by omega)
  · have hlv : ∀ K, oLen (some (.slice 36)) vb K h2 = K (.int .i64 L.length) h2 := fun K => by rw [len_val (hi.rows h2 hs), List.length_map]
    have hd : decide ((k : Int) < (L.length : Int)) = false := by simp; omega
    simp only [f4_T11, go_sem, hlv, hd]
    exact hq h2 _ hs
end
end Go.Proofs.Ythgbpfoadlemaaa

/- DueBuckets: the law. -/
namespace Go.Proofs.Ythgbpfoadlemaaa
open Go.Fw
section
variable {p : Nat} {m m' : Led} {h : Heap} {F : List Res} {K : Kont} {N : Nat} {q : LPost} {v : Value} {l : List DeedV} {x : DeedV} {budget : Int}
theorem total_bound {bs : List Bkt} {M : Nat} (hb : ∀ b ∈ bs, b.ids.length ≤ M) : total bs ≤ bs.length * M := by
  induction bs with
  | nil => simp [total]
  | cons b r ih =>
    have h1 := ih (fun c hc => hb c (List.mem_cons_of_mem _ hc))
    have h2 := hb b (List.mem_cons_self ..)
    simp only [total, List.map_cons, List.sum_cons, List.length_cons, Nat.add_mul] at *
    omega
theorem total_ok (hm : m.Ok N) (hN : N ≤ 1073741824) {bs : List Bkt} (hb : AllB m bs) : total bs < 4611686018427387904 := by
  have h1 := total_bound (bs := bs) (M := N) (fun b hb' => hm.ids _ _ _ ((hb.mem b).1 hb'))
  have h2 := all_len hm hb.sorted (fun b hb' => (hb.mem b).1 hb')
  have h3 : bs.length * N ≤ N * N := Nat.mul_le_mul_right _ h2
  have h4 : N * N ≤ 1073741824 * 1073741824 := Nat.mul_le_mul hN hN
  omega
set_option maxRecDepth 16000 in
theorem buckets_law (hs : Sep h F) (hv : ∀ h', Sep h' F → Deeds (fun _ => True) h' v l) (hx : ∀ h', Sep h' F → DeedIn (fun _ => True) h' x) (hl : l.length ≤ 9223372036854775807) (hk : ∀ h', Sep h' F → K (.bool true) h') :
    FnH Try.prog 4 #[v, .agg ⟨dRow x⟩, .int .i64 budget] h K := by
  refine f4_fn ?_
  simp only [f4_T0, go_sem]
  refine s_box hs fun h1 bd hs => ?_
  refine small_fn hs fun h2 hs => ?_
  refine few_fn (hv h2 hs.tail) hl ?_
  cases hf : few (l.map (·.1)) with
  | false =>
    simp only [go_sem, Bool.not_false]
    rw [f4_ret]
    exact hk h2 hs.tail
  | true =>
    have hload : ∀ K, oLoad (.agg 8) (.pointer (some ⟨bd, 0, none⟩)) K h2 = K (.agg ⟨dRow x⟩) h2 := fun K => load_cellR (t := 34) (hs.at 0) rfl
    simp only [go_sem, Bool.not_true, hload]
    rw [build_slice_of (cs := ⟨dRow x⟩) (by omega) (fill_one rfl)]
    have hone : ∀ y ∈ dRow x, oneC y = true := by
      obtain ⟨a, c, e⟩ := (hx h2 hs.tail).1.val
      obtain ⟨a', c', e'⟩ := (hx h2 hs.tail).2.val
      simp only [dRow, deedRow, e, e']
      simp [go_sem]
    have hs1 := hs.newVec (rows := [dRow x]) (e := 34) (sz := 8) (n := 1) rfl (by simp [dRow, deedRow]) (by simpa using hone)
    have e : (⟨[dRow x].flatten⟩ : Array Value) = ⟨dRow x⟩ := by simp
    rw [e] at hs1
    generalize h2.push (.cells ⟨dRow x⟩ 34) = h3, h2.size = bs0 at hs1
    refine few_fn (l := [x]) ⟨(hs1.at 0).rows, fun y hy => by rw [List.mem_singleton] at hy; subst hy; exact hx h3 hs1.tail.tail⟩ (by simp) ?_
    have hs := hs1.tail
    cases hf2 : few ([x].map (·.1)) with
    | false =>
      simp only [go_sem, Bool.not_false]
      rw [f4_ret]
      exact hk h3 hs.tail
    | true =>
      cases hb : decide (budget < 1) with
      | true =>
        simp only [go_sem, Bool.not_true, hb]
        rw [f4_ret]
        exact hk h3 hs.tail
      | false =>
        have hbud : 1 ≤ budget := by have := of_decide_eq_false hb; omega
        have hfx : fewD x.1 = true := by have := (few_len hf2).2; simpa using this
        have hl20 : l.length ≤ 20 := by simpa using (few_len hf).1
        have hN := bnd20
        simp only [go_sem, Bool.not_true, hb]
        refine new_fn hs fun h4 p hs => ?_
        have hend : ∀ h' v9 v10 v11 v14 v15 v17 v18 rs m, Runs Led.nil (l.map (·.1)) m rs → Sep h' (ledR p m none :: cellR bd ⟨dRow x⟩ 34 :: F) →
            f4_T2 (retL Try.prog f4_L Try.f4.results.toList K) [v, .agg ⟨dRow x⟩, .int .i64 budget, ptr bd, .bool false, .bool true, ptr p, v9, v10, v11, v14, v15, v17, v18] h' := by
          intro h' v9 v10 v11 v14 v15 v17 v18 rs m hr hs
          have hm : m.Ok (bnd 20) := runs_take (k := l.length) hf (by rw [List.take_length]; exact hr)
          simp only [f4_T2, go_sem]
          refine (buckets_new (hs.at 0) hm (by omega)).use hs fun h5 vb Rs hRs _ hs => ?_
          obtain ⟨bs, hbs, rfl⟩ := hRs
          obtain ⟨B, hB, hs, hBs⟩ := bkts_apart (l := bs) (F := ledR p m none :: cellR bd ⟨dRow x⟩ 34 :: F) hs
          have hBl : B.length = bs.length := by rw [← hB, List.length_map]
          have hbl : bs.length ≤ bnd 20 := all_len hm hbs.sorted (fun b hb => (hbs.mem b).1 hb)
          have hBm : ∀ y ∈ B, m.bk y.1.list y.1.addr = some y.1 := fun y hy => (hbs.mem y.1).1 (by rw [← hB]; exact List.mem_map.2 ⟨y, hy, rfl⟩)
          have hiB : ∀ (G : List Res), InF (vecR vb 36 5 (B.map fun x => bktRow x.1 x.2) :: elemsR bktE bs (B.map fun x => bktRow x.1 x.2) :: G) vb B := fun G => ⟨fun h' hs => (hs.at 0).rows, fun h' hs => hBs h' (hs.at 1)⟩
          refine before_loop (hiB _) (fun y hy => hm.ne _ _ _ (hBm y hy)) (by rw [hB]; exact hbs.sorted) (by omega) hs fun h6 v11' hs => ?_
          have hc : (cellR bd ⟨dRow x⟩ 34).has h6 := hs.at 3
          obtain ⟨d, vs, va⟩ := x
          have c1 : cellAt h6 bd 1 = some (.int .i64 d.list) := hc.cell 1
          have c2 : cellAt h6 bd 2 = some (.int .i64 d.at_) := hc.cell 2
          have c3 : cellAt h6 bd 3 = some (.int .i64 d.n) := hc.cell 3
          have c4 : cellAt h6 bd 4 = some (.string d.id) := hc.cell 4
          have c6 : cellAt h6 bd 6 = some vs := hc.cell 6
          have c7 : cellAt h6 bd 7 = some va := hc.cell 7
          simp only at hfx hx
          have hsl : d.subs.length ≤ 8 := by simp only [fewD, Bool.and_eq_true, decide_eq_true_eq] at hfx; exact hfx.1.1
          unfold ptr
          simp only [f4_T4, go_sem, Nat.zero_add, c1, c2, c3, c4, c6, c7]
          refine rel_fn (p := p) (subs := d.subs) (adm := d.adm) (hs.pick 2) hm (by omega) (by omega) (fun h' hs => (hx h' hs.tail.tail.tail).1) (fun h' hs => (hx h' hs.tail.tail.tail).2) fun h7 v16 v17' st hst hok hs => ?_
          have hfacts : RelFacts m d.id d.list budget st := by rw [hst]; exact rel_all hm _
          have hok' := hok.ok
          simp only [go_sem]
          obtain ⟨C, hC, hs, hCs⟩ := bkts_apart (hs.pick 1)
          have hCl : C.length = st.fl.length := by rw [← hC, List.length_map]
          have hCm : ∀ y ∈ C, y.1 ∈ st.fl := fun y hy => by rw [← hC]; exact List.mem_map.2 ⟨y, hy, rfl⟩
          have hCi : ∀ y ∈ C, y.1.ids.length ≤ 4294967296 := fun y hy => by
            have h1 := rel_ids_all (id := d.id) (size := d.n) (list := d.list) (now := d.at_) (budget := budget) hm (d.subs.zip d.adm) y.1 (by rw [← hst]; exact hCm y hy)
            have : (d.subs.zip d.adm).length ≤ 8 := by rw [List.length_zip]; omega
            omega
          have hbox : BoxIn (vecR v17' 36 5 (C.map fun x => bktRow x.1 x.2) :: elemsR bktE st.fl (C.map fun x => bktRow x.1 x.2) :: ledR p st.m none :: strsR v16 st.sg :: vecR vb 36 5 (B.map fun x => bktRow x.1 x.2) :: elemsR bktE bs (B.map fun x => bktRow x.1 x.2) :: cellR bd ⟨dRow (d, vs, va)⟩ 34 :: F) bd (d, vs, va) := fun h' hs => hs.at 6
          have hfl := hok.fl
          refine full_loop (x := (d, vs, va)) (bd := bd) (L := C) (inF_mk hCs) hbox (fun y hy => hfacts.full _ (hCm y hy)) (by omega) hCi hs fun h8 v15' hs => ?_
          simp only [f4_T6, go_sem]
          unfold ptr
          refine (buckets_new (p := p) (hs.at 2) hok' (by omega)).use hs fun h9 va' Rs hRs _ hs => ?_
          obtain ⟨zs, hzs, rfl⟩ := hRs
          obtain ⟨A, hA, hs, hAs⟩ := bkts_apart (l := zs) hs
          have hAl : A.length = zs.length := by rw [← hA, List.length_map]
          have hal : zs.length ≤ bnd 20 + 2 * 100 := all_len hok' hzs.sorted (fun b hb => (hzs.mem b).1 hb)
          have hAm : ∀ y ∈ A, st.m.bk y.1.list y.1.addr = some y.1 := fun y hy => (hzs.mem y.1).1 (by rw [← hA]; exact List.mem_map.2 ⟨y, hy, rfl⟩)
          refine after_loop (x := (d, vs, va)) (bd := bd) (L := A) (B := B) (inF_mk hAs) ((inF_mk hBs).mono (fun _ hs => hs.tail.tail.tail.tail.tail.tail)) ?_ (fun y hy => hok'.ne _ _ _ (hAm y hy)) (fun y hy hyl ids hyi hcnt hge => ?_) (by omega) (fun y hy => by
            have := hok'.ids _ _ _ (hAm y hy); omega) (by rw [hB]; exact total_ok hm (by omega) hbs) (by omega) hs fun h10 v18' hs => ?_
          · exact fun h' hs => hs.at 8
          · rcases hfacts.bk _ _ _ (hAm y hy) with h | h
            · have hmem : y.1 ∈ bs := (hbs.mem _).2 h
              have := cnt_pos (i := d.id) hmem (by rw [hyi]; simp)
              rw [hB] at hcnt
              simp only at hcnt
              omega
            · have := h (by omega)
              omega
          · simp only [f4_T8]
            rw [f4_ret]
            exact hk h10 hs.tail.tail.tail.tail.tail.tail.tail.tail.tail
        unfold ptr at hend ⊢
        refine LoopS.st (σ := Nat) (fun k => [v, .agg ⟨dRow x⟩, .int .i64 budget, .pointer (some ⟨bd, 0, none⟩), .bool false, .bool true, .pointer (some ⟨p, 0, none⟩), .int .i64 k, undef, undef, undef, undef, undef, undef])
          (fun k h' => k ≤ l.length ∧ ∃ m rs, Runs Led.nil ((l.take k).map (·.1)) m rs ∧ Sep h' (ledR p m none :: cellR bd ⟨dRow x⟩ 34 :: F)) (fun k => l.length - k) 0 rfl ⟨Nat.zero_le _, Led.nil, [], .nil _, hs⟩ ?_
        rintro k h5 ⟨hkl, m, rs, hr, hs⟩
        refine Eq.mpr (by simp only [f4_T20]; rfl) ?_
        refine s_len (hv h5 hs.tail.tail).1 ?_
        simp only [List.length_map]
        by_cases hlt : k < l.length
        · have hi : ((k : Int) < (l.length : Int)) = True := by simp; omega
          simp only [go_sem, hi, decide_true]
          refine s_idxN (hv h5 hs.tail.tail).1 (by simpa using hlt) (by omega) ?_
          rw [List.getElem_map]
          refine do_fn (x := l[k]) hs (runs_take hf hr) (by omega) (few_at hf hlt) (fun h' hs => (hv h' hs.tail).2 _ (List.getElem_mem hlt)) fun h6 v16 v17 m' sg cut hd hs => ?_
          simp (disch := omega) only [go_sem, bin_add_in]
          refine NextSt.mk (k + 1) rfl ⟨hlt, m', rs ++ [(sg, cut)], ?_, hs.del 1 |>.del 1⟩ (by omega)
          rw [List.take_succ_eq_append_getElem hlt, List.map_append]
          exact hr.snoc hd
        · have hi : ((k : Int) < (l.length : Int)) = False := by simp; omega
          simp only [go_sem, hi, decide_false]
          rw [List.take_of_length_le (by omega)] at hr
          exact hend h5 _ _ _ _ _ _ _ rs m hr hs
end
end Go.Proofs.Ythgbpfoadlemaaa

/- DueBuckets: the statement. -/
namespace Go.Proofs.Ythgbpfoadlemaaa.dueBuckets
open Go.ChangeShapes Go.WideShapes Go.ChangeAt Go.RowKit Go.Fw Go.Proofs.Ythgbpfoadlemaaa
set_option linter.unusedVariables false
theorem own : ownKnob Try.prog.godebug = none := by kernel_rfl
theorem laidOut : laidOutB Try.prog = true := by kernel_rfl
theorem struct34 : ∃ fs, Try.prog.underlying 34 = some (.struct fs) := by
  have h := fu34_0
  unfold fieldAt at h
  split at h
  · rename_i fs hu; exact ⟨fs, hu⟩
  · cases h
theorem walk (v : Value) (x : DeedV) (a2 : Int) (l : List DeedV) (W : World) (hv : Deeds (fun b => b < W.heap.size) W.heap v l) (hx : DeedIn (fun b => b < W.heap.size) W.heap x) (hl : l.length ≤ maxLen) :
    Calls Try.prog 4 #[v, .agg ⟨dRow x⟩, .int .i64 a2] W fun e W' => e = .returned (.bool true) ∧ Below W.heap.size W W' :=
  fn_below fun hs => buckets_law hs (fun h' hs => frozen_deeds (hs.at 0) hv) (fun h' hs => ⟨frozen_rows (hs.at 0) hx.1, frozen_rows (hs.at 0) hx.2⟩) (by unfold maxLen at hl; omega) fun h' hs => ⟨rfl, hs⟩
set_option maxRecDepth 100000 in
theorem lifted (os : Os) (started : os.Started) (H : Type) (enc : TypeId × Value → H) :
    ReturnsInHanded {} Try.checked os 4 .any (Rows.dueBucketsSpec.pre6 enc Try.prog Try.f4 Rows.dueBucketsRow.domain false) (Rows.dueBucketsSpec.post enc Try.prog Try.f4 false true false false) := by
  refine returnsInHanded_of_change (C := Try.checked) own started (by kernel_rfl) Try.func4
    (ChangeSpec.witness6 (enc := enc) (C := Try.checked) false ⟨#[], #[.slice none 0 0, .agg #[.int .i64 0, .int .i64 0, .int .i64 0, .int .i64 0, .string ByteArray.empty, .string ByteArray.empty, .slice none 0 0, .slice none 0 0], .int .i64 0], []⟩ 8 (by kernel_rfl) (by kernel_rfl) (by kernel_rfl) (by kernel_rfl)) ?_
  intro W base args ds gs before hval0 hW hcnd _
  have hval : ∀ (j : Nat) t v, Try.f4.params[j]? = some t → args[j]? = some v → Value.okWide Try.prog W .any base t v := hval0
  have hW' := hW
  obtain ⟨p, q, hA0, hV, rfl, hfz, hnd⟩ := hW
  have hA : DataW.TrodAll enc Try.prog W 0 (fun _ => true) true Try.f4.params.toList args.toList ds p := hA0
  rw [Try.params4] at hA hval
  obtain ⟨v0, vs0, d0, ds0, p0, q0, hargs, rfl, rfl, h0, r0⟩ := trodAll_cons hA
  obtain ⟨v1, vs1, d1, ds1, p1, q1, rfl, rfl, rfl, h1, r1⟩ := trodAll_cons r0
  obtain ⟨v2, vs2, d2, ds2, p2, q2, rfl, rfl, rfl, h2, r2⟩ := trodAll_cons r1
  obtain ⟨rfl, rfl, rfl⟩ := trodAll_nil r2
  obtain rfl : args = #[v0, v1, v2] := by cases args; simp_all
  obtain ⟨rfl, rfl⟩ := trodVars_none hV
  obtain ⟨a0, len0, cap0, rfl⟩ := okWide_slice ru22 (hval 0 22 v0 rfl rfl)
  have k0 := h0
  have lt0 : ∀ x ∈ p0, x.block < W.heap.size := by obtain ⟨m, hm⟩ := k0; exact DataW.trod_lt m _ _ _ hm
  obtain ⟨fuel0, g0⟩ := h0
  obtain ⟨l0, v0', e0, hd0, hl0⟩ := rd_deeds _ _ _ _ _ _ g0
  simp only [Value.cells, List.cons.injEq, and_true] at e0
  subst e0
  obtain ⟨fs, hfs⟩ := struct34
  obtain ⟨cs1, rfl, hcs1⟩ := okWide_struct hfs (hval 1 34 v1 rfl rfl)
  have k1 := h1
  have lt1 : ∀ x ∈ p1, x.block < W.heap.size := by obtain ⟨m, hm⟩ := k1; exact DataW.trod_lt m _ _ _ hm
  obtain ⟨fuel1, g1⟩ := h1
  obtain ⟨x1, e1, hx1⟩ := rd_deed _ _ _ _ _ _ g1
  have e1' : cs1 = ⟨dRow x1⟩ := by rw [← e1]; rfl
  subst e1'
  obtain ⟨a2, rfl, rfl, rfl, w2⟩ := open_int ru3 (hval 2 3 v2 rfl rfl) h2
  clear hA0 hval0
  refine (walk _ x1 a2 l0 W hd0 hx1 hl0).mono fun e W' ⟨he, bel⟩ => ?_
  subst he
  exact ⟨_, rfl, _, _, _, [], _, [], hW', trodAll_mk1 (shut_bool ru4 _), trodAll_cons_mk (Below.trod laidOut (by kernel_rfl) (of_decide_eq_true (by kernel_rfl)) k0 bel lt0) (trodAll_cons_mk (Below.trod laidOut (by kernel_rfl) (of_decide_eq_true (by kernel_rfl)) k1 bel lt1) (trodAll_cons_mk (shut_int ru3 w2) trodAll_mk0)), rfl, bel.frame _, fun h => by cases h⟩
theorem over : Rows.dueBucketsRow.holds Try.pinned (OpenSpec.ofChange Rows.dueBucketsSpec) :=
  OpenClaim.holds_of_wide 4 Try.f4 rfl rfl rfl rfl rfl rfl rfl ⟨rfl, rfl, rfl, rfl, rfl⟩ rfl rfl rfl rfl rfl (by kernel_rfl) Try.func4 (by kernel_rfl)
    (of_decide_eq_true (by kernel_rfl)) (by unfold Func.isWrapper; first | (rw [if_pos (by decide +kernel)]; kernel_rfl) | (rw [if_neg (by decide +kernel)]; exact ⟨rfl, rfl⟩))
    (fun os started H enc _ => lifted os started H enc)
theorem proved : Rows.DueBucketsSaid := over
end Go.Proofs.Ythgbpfoadlemaaa.dueBuckets
namespace Go.Proofs.Ythgbpfoadlemaaa
/-- The statement DueBuckets. -/
theorem dueBuckets_holds : Rows.DueBucketsSaid := dueBuckets.proved
#print axioms dueBuckets_holds
end Go.Proofs.Ythgbpfoadlemaaa
