/- Proves the statement DueOnce: whatever the input, the law returns true and the input reads as it did; no conditions. -/
import Derived.Test.YthgbpfoadlemaaaD
import Derived.Test.YthgbpfoadlemaaaRows
import Derived.WalkKit
import Derived.ProofKit
import Derived.OpenShut
import Derived.ChangeOld
import Derived.Below
import Derived.SizedLaws
import Derived.Carry
/- DueBuckets: what a release does. -/
namespace Go.Proofs.Ythgbpfoadlemaaa
open Go.Fw
section
variable {p : Nat} {m m' : Led} {h : Heap} {F : List Res} {K : Kont} {N : Nat} {v : Value} {l : List DeedV} {id : ByteArray} {size list now budget : Int}
/-- What stands of a release. -/
structure RelFacts (m : Led) (id : ByteArray) (list budget : Int) (st : RelSt) : Prop where
  full : ∀ b ∈ st.fl, budget ≤ b.size ∧ b.list = list ∧ ∃ ids, b.ids = ids ++ [id]
  bk : ∀ l a b, st.m.bk l a = some b → m.bk l a = some b ∨ (0 < budget → b.size < budget)
theorem addTo_key {st : Led} {a : ByteArray} (hm : st.Ok N) : (addTo st id a size list now).list = list ∧ (addTo st id a size list now).addr = a := by
  unfold addTo
  cases hb : st.bk list a with
  | none => exact ⟨rfl, rfl⟩
  | some b => obtain ⟨h1, h2⟩ := hm.key _ _ _ hb; exact ⟨h1, h2⟩
theorem relStep_facts {st : RelSt} {x : Sub × Bool} {k : Nat} (hst : RelOk st N k) (hf : RelFacts m id list budget st) : RelFacts m id list budget (relStep id size list now budget st x) := by
  unfold relStep
  split
  · split
    · exact ⟨hf.full, hf.bk⟩
    · have h4 := hst.ok.owe x.1.addr id
      obtain ⟨k1, k2⟩ := addTo_key (id := id) (size := size) (list := list) (now := now) (a := x.1.addr) h4
      have hids : ∃ ids, (addTo (st.m.owe x.1.addr id) id x.1.addr size list now).ids = ids ++ [id] := ⟨_, rfl⟩
      generalize addTo (st.m.owe x.1.addr id) id x.1.addr size list now = b at k1 k2 hids
      unfold bump
      split
      · rename_i hb
        refine ⟨fun c hc => ?_, fun l a c hc => hf.bk l a c (del_some hc)⟩
        rcases List.mem_append.1 hc with hc | hc
        · exact hf.full c hc
        · rw [List.mem_singleton] at hc; subst hc; exact ⟨hb.2, k1, hids⟩
      · rename_i hb
        refine ⟨hf.full, fun l a c hc => ?_⟩
        simp only [Led.put] at hc
        split at hc
        · injection hc with hc
          subst hc
          exact .inr fun h0 => Classical.byContradiction fun hh => hb ⟨h0, by omega⟩
        · exact hf.bk l a c hc
  · exact hf
theorem rel_facts : ∀ (x : List (Sub × Bool)) (st : RelSt) (k : Nat), RelOk st N k → RelFacts m id list budget st → RelFacts m id list budget (x.foldl (relStep id size list now budget) st)
  | [], _, _, _, h => h
  | y :: x, _, k, h1, h2 => rel_facts x _ (k + 1) (relStep_ok (id := id) (size := size) (list := list) (now := now) (budget := budget) (x := y) h1) (relStep_facts (size := size) (now := now) h1 h2)
theorem rel_all (hm : m.Ok N) (x : List (Sub × Bool)) : RelFacts m id list budget (rel id size list now budget m x) :=
  rel_facts (N := N) x _ 0 ⟨hm, Nat.le_refl _, Nat.le_refl _⟩ ⟨(by intro b hb; cases hb), fun _ _ _ h => .inl h⟩
theorem relStep_ids {st : RelSt} {x : Sub × Bool} {k : Nat} (hst : RelOk st N k) (hf : ∀ b ∈ st.fl, b.ids.length ≤ N + 2 * k) : ∀ b ∈ (relStep id size list now budget st x).fl, b.ids.length ≤ N + 2 * (k + 1) := by
  have hf' : ∀ b ∈ st.fl, b.ids.length ≤ N + 2 * (k + 1) := fun b hb => by have := hf b hb; omega
  unfold relStep
  split
  · split
    · exact hf'
    · have h4 := hst.ok.owe x.1.addr id
      have h5 := (addTo_ok (id := id) (a := x.1.addr) (size := size) (list := list) (now := now) h4).1
      unfold bump
      split
      · intro b hb
        rcases List.mem_append.1 hb with hb | hb
        · exact hf' b hb
        · rw [List.mem_singleton] at hb; subst hb; omega
      · exact hf'
  · exact hf'
theorem rel_ids : ∀ (x : List (Sub × Bool)) (st : RelSt) (k : Nat), RelOk st N k → (∀ b ∈ st.fl, b.ids.length ≤ N + 2 * k) → ∀ b ∈ (x.foldl (relStep id size list now budget) st).fl, b.ids.length ≤ N + 2 * (k + x.length)
  | [], _, _, _, h => h
  | y :: x, _, k, h1, h2 => by
    have := rel_ids x _ (k + 1) (relStep_ok (id := id) (size := size) (list := list) (now := now) (budget := budget) (x := y) h1) (relStep_ids h1 h2)
    intro b hb
    have := this b hb
    simp only [List.length_cons]
    omega
theorem rel_ids_all (hm : m.Ok N) (x : List (Sub × Bool)) : ∀ b ∈ (rel id size list now budget m x).fl, b.ids.length ≤ N + 2 * x.length := by
  have := rel_ids (N := N) (id := id) (size := size) (list := list) (now := now) (budget := budget) x ⟨m, [], []⟩ 0 ⟨hm, Nat.le_refl _, Nat.le_refl _⟩ (by intro b hb; cases hb)
  intro b hb
  have := this b hb
  omega
theorem cnt_pos {bs : List Bkt} {b : Bkt} {i : ByteArray} (hb : b ∈ bs) (hi : i ∈ b.ids) : 0 < cnt bs b.addr i := by
  induction bs with
  | nil => cases hb
  | cons c r ih =>
    simp only [cnt, List.map_cons, List.sum_cons]
    rcases List.mem_cons.1 hb with rfl | hb
    · have : 0 < cnt1 b.addr i b := by
        simp only [cnt1, if_true, cntIds]
        exact List.length_pos_of_mem (List.mem_filter.2 ⟨hi, by simp⟩)
      omega
    · have := ih hb
      simp only [cnt] at this
      omega
end
end Go.Proofs.Ythgbpfoadlemaaa

/- DueBuckets: the walk. -/
namespace Go.Proofs.Ythgbpfoadlemaaa
open Go.Fw
section
variable {p : Nat} {m m' : Led} {h : Heap} {F : List Res} {K : Kont} {N : Nat} {q : LPost} {L : List (Bkt × Value)} {v0 v1 v2 v4 v6 v7 v8 v9 v10 v11 v14 v15 v17 v18 vb : Value}
def rowB (x : Bkt × Value) : List Value := bktRow x.1 x.2
/-- Buckets that lie in the frame. -/
structure InF (F : List Res) (v : Value) (L : List (Bkt × Value)) : Prop where
  rows : ∀ h', Sep h' F → RowsR (fun _ => True) h' v 5 (L.map rowB)
  ids : ∀ h', Sep h' F → ∀ x ∈ L, RowsR (fun _ => True) h' x.2 1 (x.1.ids.map strRow)
theorem InF.one (hi : InF F v0 L) (hs : Sep h F) {x : Bkt × Value} (hx : x ∈ L) : (⟨rowB x⟩ : Array Value).toList.all oneC = true := by
  obtain ⟨a, c, e⟩ := (hi.ids h hs x hx).val
  simp only [rowB, bktRow, e]
  rfl
theorem InF.mono {G : List Res} (hi : InF F v0 L) (hg : ∀ h, Sep h G → Sep h F) : InF G v0 L := ⟨fun h' hs => hi.rows h' (hg h' hs), fun h' hs => hi.ids h' (hg h' hs)⟩
theorem inF_mk {bs : List Bkt} {G : List Res} (hLs : ∀ h', (elemsR bktE bs (L.map fun x => bktRow x.1 x.2)).has h' → ∀ x ∈ L, RowsR (fun _ => True) h' x.2 1 (x.1.ids.map strRow)) :
    InF (vecR vb 36 5 (L.map fun x => bktRow x.1 x.2) :: elemsR bktE bs (L.map fun x => bktRow x.1 x.2) :: G) vb L := ⟨fun _ hs => (hs.at 0).rows, fun h' hs => hLs h' (hs.at 1)⟩
set_option maxRecDepth 16000 in
theorem before_round {k : Nat} (hi : InF F vb L) (hne : ∀ x ∈ L, x.1.ids ≠ []) (hso : (L.map (·.1)).Pairwise keyLt) (hl : L.length ≤ 4294967296) (hs : Sep h F) (hlt : k < L.length)
    (hq : ∀ h', Sep h' F → q .normal [v0, v1, v2, v4, v6, v7, v8, v9, vb, .int .i64 ((k : Int) + 1), v14, v15, v17, v18] h') : f4_T17 q [v0, v1, v2, v4, v6, v7, v8, v9, vb, .int .i64 k, v14, v15, v17, v18] h := by
  have hlv : ∀ K, oLen (some (.slice 36)) vb K h = K (.int .i64 L.length) h := fun K => by rw [len_val (hi.rows h hs), List.length_map]
  have hd : decide ((k : Int) < (L.length : Int)) = true := by simp; omega
  obtain ⟨b, o, hidx, hcell, hload⟩ := elem_at (r := rowB L[k]) (hi.rows h hs) (by simpa using hlt) (by simp) (by omega)
  have hmem : L[k] ∈ L := List.getElem_mem hlt
  have hnek := hne _ hmem
  have hone := hi.one hs hmem
  have hprev : k ≠ 0 → ∃ y ∈ L, keyLt y.1 L[k].1 ∧ ∀ (h' : Heap), Sep h' F → ∃ b o, (∀ K, oIndexAddr (.slice 5) vb (.int .i64 ((k : Int) - 1)) K h' = K (.pointer (some ⟨b, o, none⟩)) h') ∧ cellAt h' b (o + 0) = some (.int .i64 y.1.list) ∧ cellAt h' b (o + 1) = some (.string y.1.addr) := by
    intro hk0
    have hk1 : (k : Int) - 1 = ((k - 1 : Nat) : Int) := by omega
    refine ⟨L[k - 1]'(by omega), List.getElem_mem _, ?_, fun h' hs' => ?_⟩
    · have := List.pairwise_iff_getElem.1 hso (k - 1) k (by simp; omega) (by simpa using hlt) (by omega)
      simpa using this
    · obtain ⟨b', o', hidx', hcell', _⟩ := elem_at (r := rowB (L[k - 1]'(by omega))) (k := k - 1) (hi.rows h' hs') (by simp; omega) (by simp) (by omega)
      rw [hk1]
      exact ⟨b', o', hidx', hcell' 0 (by omega), hcell' 1 (by omega)⟩
  generalize L[k] = x at hmem hnek hone hprev hload
  obtain ⟨bx, sl⟩ := x
  simp -implicitDefEqProofs only [f4_T17, go_sem, hlv, hd, hidx, hload]
  refine s_alloc hs fun h3 y hs => ?_
  refine s_store hs rfl rfl hone fun h4 hs => ?_
  have hsF := hs.tail
  have c0 : cellAt h4 y 0 = some (.int .i64 bx.list) := (hs.at 0).cell 0
  have c1 : cellAt h4 y 1 = some (.string bx.addr) := (hs.at 0).cell 1
  have c2 : cellAt h4 y 2 = some sl := (hs.at 0).cell 2
  have hll : ∀ K, oLen (some (.slice 9)) sl K h4 = K (.int .i64 bx.ids.length) h4 := fun K => by rw [len_val (hi.ids h4 hsF _ hmem), List.length_map]
  have hz : decide ((bx.ids.length : Int) = 0) = false := by
    have : bx.ids.length ≠ 0 := fun e => hnek (List.eq_nil_of_length_eq_zero e)
    simpa using this
  have hq := hq h4 hsF
  simp only at hprev
  clear hs hidx hload hlv hi hone hmem hcell
  by_cases hk0 : k = 0
  · have hg : decide ((0 : Int) < (k : Int)) = false := by simp [hk0]
    simp -implicitDefEqProofs (disch := omega) only [go_sem, Nat.zero_add, c2, hll, hz, hg, bin_add_in]
    exact hq
  · have hg : decide ((0 : Int) < (k : Int)) = true := by simp; omega
    obtain ⟨z, _, hlt', hpz⟩ := hprev hk0
    obtain ⟨b', o', hidx', d0, d1⟩ := hpz h4 hsF
    have e1 : decide (bx.list < z.1.list) = false := by
      rcases hlt' with h | ⟨h, _⟩ <;> simp <;> omega
    cases e2 : decide (z.1.list = bx.list) with
    | false =>
      simp -implicitDefEqProofs (disch := omega) only [go_sem, Nat.zero_add, c2, hll, hz, hg, bin_sub_in, hidx', d0, c0, e1, e2, bin_add_in]
      exact hq
    | true =>
      have e3 : lessB z.1.addr bx.addr = true := by
        rcases hlt' with h | ⟨_, h⟩
        · simp at e2; omega
        · exact lessB_iff.2 h
      simp -implicitDefEqProofs (disch := omega) only [go_sem, Nat.zero_add, c2, hll, hz, hg, bin_sub_in, hidx', d0, c0, e1, e2, d1, c1, e3, Bool.not_true, bin_add_in]
      exact hq
set_option maxRecDepth 16000 in
theorem before_loop (hi : InF F vb L) (hne : ∀ x ∈ L, x.1.ids ≠ []) (hso : (L.map (·.1)).Pairwise keyLt) (hl : L.length ≤ 4294967296) (hs : Sep h F)
    (hq : ∀ h' v11, Sep h' F → f4_T4 q [v0, v1, v2, v4, v6, v7, v8, v9, vb, v11, v14, v15, v17, v18] h') : f4_T16 q [v0, v1, v2, v4, v6, v7, v8, v9, vb, .int .i64 0, v14, v15, v17, v18] h := by
  refine LoopS.st (σ := Nat) (fun k => [v0, v1, v2, v4, v6, v7, v8, v9, vb, .int .i64 k, v14, v15, v17, v18]) (fun k h' => Sep h' F ∧ k ≤ L.length) (fun k => L.length - k) 0 rfl ⟨hs, Nat.zero_le _⟩ ?_
  rintro k h2 ⟨hs, hkl⟩
  by_cases hlt : k < L.length
  · refine before_round hi hne hso hl hs hlt fun h' hs => ?_
    rw [thenL_normal]
    exact NextSt.mk (k + 1) rfl ⟨hs, hlt⟩ (by omega)
  · have hlv : ∀ K, oLen (some (.slice 36)) vb K h2 = K (.int .i64 L.length) h2 := fun K => by rw [len_val (hi.rows h2 hs), List.length_map]
    have hd : decide ((k : Int) < (L.length : Int)) = false := by simp; omega
    simp only [f4_T17, go_sem, hlv, hd]
    exact hq h2 _ hs
end
end Go.Proofs.Ythgbpfoadlemaaa

/- DueBuckets: the walk, continued. -/
namespace Go.Proofs.Ythgbpfoadlemaaa
open Go.Fw
section
variable {p : Nat} {m m' : Led} {h : Heap} {F : List Res} {K : Kont} {N : Nat} {q : LPost} {L : List (Bkt × Value)} {v v0 v1 v2 v4 v6 v7 v8 v9 v10 v11 v14 v15 v17 v18 vb : Value}
/-- The last of the ids. -/
theorem last_at {ids : List ByteArray} {id : ByteArray} {sl : Value} (hr : RowsR (fun _ => True) h sl 1 ((ids ++ [id]).map strRow)) : ∃ b o, (∀ K, oIndexAddr (.slice 1) sl (.int .i64 (((ids ++ [id]).length : Int) - 1)) K h = K (.pointer (some ⟨b, o, none⟩)) h) ∧ cellAt h b o = some (.string id) := by
  obtain ⟨b, o, hidx, hcell, _⟩ := elem_at (k := ids.length) (r := strRow id) hr (by simp) (by simp [strRow]) (by omega)
  refine ⟨b, o, fun K => ?_, ?_⟩
  · have : (((ids ++ [id]).length : Int) - 1) = (ids.length : Int) := by simp
    rw [this]; exact hidx K
  · have := hcell 0 (by omega)
    simpa [strRow] using this
/-- A deed's box in the frame. -/
def BoxIn (F : List Res) (b : Nat) (x : DeedV) : Prop := ∀ h', Sep h' F → (cellR b ⟨dRow x⟩ 34).has h'
set_option maxRecDepth 16000 in
theorem full_round {k bd : Nat} {x : DeedV} {budget : Int} (hi : InF F vb L) (hbox : BoxIn F bd x) (hfull : ∀ y ∈ L, budget ≤ y.1.size ∧ y.1.list = x.1.list ∧ ∃ ids, y.1.ids = ids ++ [x.1.id]) (hl : L.length ≤ 4294967296) (hids : ∀ y ∈ L, y.1.ids.length ≤ 4294967296)
    (hs : Sep h F) (hlt : k < L.length)
    (hq : ∀ h', Sep h' F → q .normal [v0, v1, .int .i64 budget, ptr bd, v6, v7, v8, v9, v10, v11, vb, .int .i64 ((k : Int) + 1), v17, v18] h') : f4_T14 q [v0, v1, .int .i64 budget, ptr bd, v6, v7, v8, v9, v10, v11, vb, .int .i64 k, v17, v18] h := by
  have hlv : ∀ K, oLen (some (.slice 36)) vb K h = K (.int .i64 L.length) h := fun K => by rw [len_val (hi.rows h hs), List.length_map]
  have hd : decide ((k : Int) < (L.length : Int)) = true := by simp; omega
  obtain ⟨b, o, hidx, hcell, hload⟩ := elem_at (r := rowB L[k]) (hi.rows h hs) (by simpa using hlt) (by simp) (by omega)
  have hmem : L[k] ∈ L := List.getElem_mem hlt
  have hone := hi.one hs hmem
  generalize L[k] = y at hmem hone hload
  obtain ⟨bx, sl⟩ := y
  obtain ⟨f1, f2, ids, f3⟩ := hfull _ hmem
  have hil := hids _ hmem
  simp only at f1 f2 f3 hil
  unfold ptr at hq ⊢
  simp -implicitDefEqProofs only [f4_T14, go_sem, hlv, hd, hidx, hload]
  refine s_alloc hs fun h3 y hs => ?_
  refine s_store hs rfl rfl hone fun h4 hs => ?_
  have hsF := hs.tail
  have c0 : cellAt h4 y 0 = some (.int .i64 bx.list) := (hs.at 0).cell 0
  have c2 : cellAt h4 y 2 = some sl := (hs.at 0).cell 2
  have c3 : cellAt h4 y 3 = some (.int .i64 bx.size) := (hs.at 0).cell 3
  have g1 : cellAt h4 bd 1 = some (.int .i64 x.1.list) := (hbox h4 hsF).cell 1
  have g4 : cellAt h4 bd 4 = some (.string x.1.id) := (hbox h4 hsF).cell 4
  have hll : ∀ K, oLen (some (.slice 9)) sl K h4 = K (.int .i64 bx.ids.length) h4 := fun K => by rw [len_val (hi.ids h4 hsF _ hmem), List.length_map]
  have hrl := hi.ids h4 hsF _ hmem
  simp only [f3] at hrl
  obtain ⟨b2, o2, hix, cl⟩ := last_at hrl
  rw [← f3] at hix
  have e1 : decide (bx.size < budget) = false := by simp; omega
  have e2 : decide (bx.list = x.1.list) = true := by simp [f2]
  have e3 : decide ((bx.ids.length : Int) = 0) = false := by rw [f3]; simp; omega
  have hq := hq h4 hsF
  clear hs hidx hload hlv hi hone hmem hcell hbox
  simp -implicitDefEqProofs (disch := omega) only [go_sem, Nat.zero_add, c3, e1, c0, g1, e2, Bool.not_true, c2, hll, e3, bin_sub_in, hix, cl, g4, bin_add_in]
  exact hq
set_option maxRecDepth 16000 in
theorem full_loop {bd : Nat} {x : DeedV} {budget : Int} (hi : InF F vb L) (hbox : BoxIn F bd x) (hfull : ∀ y ∈ L, budget ≤ y.1.size ∧ y.1.list = x.1.list ∧ ∃ ids, y.1.ids = ids ++ [x.1.id]) (hl : L.length ≤ 4294967296) (hids : ∀ y ∈ L, y.1.ids.length ≤ 4294967296)
    (hs : Sep h F) (hq : ∀ h' v15, Sep h' F → f4_T6 q [v0, v1, .int .i64 budget, ptr bd, v6, v7, v8, v9, v10, v11, vb, v15, v17, v18] h') : f4_T13 q [v0, v1, .int .i64 budget, ptr bd, v6, v7, v8, v9, v10, v11, vb, .int .i64 0, v17, v18] h := by
  refine LoopS.st (σ := Nat) (fun k => [v0, v1, .int .i64 budget, ptr bd, v6, v7, v8, v9, v10, v11, vb, .int .i64 k, v17, v18]) (fun k h' => Sep h' F ∧ k ≤ L.length) (fun k => L.length - k) 0 rfl ⟨hs, Nat.zero_le _⟩ ?_
  rintro k h2 ⟨hs, hkl⟩
  by_cases hlt : k < L.length
  · refine full_round hi hbox hfull hl hids hs hlt fun h' hs => ?_
    rw [thenL_normal]
    exact NextSt.mk (k + 1) rfl ⟨hs, hlt⟩ (by omega)
  · have hlv : ∀ K, oLen (some (.slice 36)) vb K h2 = K (.int .i64 L.length) h2 := fun K => by rw [len_val (hi.rows h2 hs), List.length_map]
    have hd : decide ((k : Int) < (L.length : Int)) = false := by simp; omega
    simp only [f4_T14, go_sem, hlv, hd]
    exact hq h2 _ hs
set_option maxRecDepth 16000 in
theorem after_round {k bd : Nat} {x : DeedV} {budget : Int} {B : List (Bkt × Value)} (hi : InF F vb L) (hb : InF F v10 B) (hbox : BoxIn F bd x) (hne : ∀ y ∈ L, y.1.ids ≠ [])
    (hafter : ∀ y ∈ L, y.1.list = x.1.list → ∀ ids, y.1.ids = ids ++ [x.1.id] → cnt (B.map (·.1)) y.1.addr x.1.id = 0 → ¬ budget ≤ y.1.size) (hl : L.length ≤ 4294967296) (hids : ∀ y ∈ L, y.1.ids.length ≤ 4294967296)
    (ht : total (B.map (·.1)) < 4611686018427387904) (hbl : B.length < 4611686018427387904)
    (hs : Sep h F) (hlt : k < L.length)
    (hq : ∀ h', Sep h' F → q .normal [v0, v1, .int .i64 budget, ptr bd, v6, v7, v8, v9, v10, v11, v14, v15, vb, .int .i64 ((k : Int) + 1)] h') : f4_T11 q [v0, v1, .int .i64 budget, ptr bd, v6, v7, v8, v9, v10, v11, v14, v15, vb, .int .i64 k] h := by
  have hlv : ∀ K, oLen (some (.slice 36)) vb K h = K (.int .i64 L.length) h := fun K => by rw [len_val (hi.rows h hs), List.length_map]
  have hd : decide ((k : Int) < (L.length : Int)) = true := by simp; omega
  obtain ⟨b, o, hidx, hcell, hload⟩ := elem_at (r := rowB L[k]) (hi.rows h hs) (by simpa using hlt) (by simp) (by omega)
  have hmem : L[k] ∈ L := List.getElem_mem hlt
  have hone := hi.one hs hmem
  generalize L[k] = y at hmem hone hload
  obtain ⟨bx, sl⟩ := y
  have hil := hids _ hmem
  have haf := hafter _ hmem
  have hnn := hne _ hmem
  simp only at hil haf hnn
  obtain ⟨ids, z, f3⟩ : ∃ ids z, bx.ids = ids ++ [z] := ⟨_, _, (List.dropLast_concat_getLast hnn).symm⟩
  unfold ptr at hq ⊢
  simp -implicitDefEqProofs only [f4_T11, go_sem, hlv, hd, hidx, hload]
  refine s_alloc hs fun h3 y hs => ?_
  refine s_store hs rfl rfl hone fun h4 hs => ?_
  have hsF := hs.tail
  have c0 : cellAt h4 y 0 = some (.int .i64 bx.list) := (hs.at 0).cell 0
  have c1 : cellAt h4 y 1 = some (.string bx.addr) := (hs.at 0).cell 1
  have c2 : cellAt h4 y 2 = some sl := (hs.at 0).cell 2
  have c3 : cellAt h4 y 3 = some (.int .i64 bx.size) := (hs.at 0).cell 3
  have g1 : cellAt h4 bd 1 = some (.int .i64 x.1.list) := (hbox h4 hsF).cell 1
  have g4 : cellAt h4 bd 4 = some (.string x.1.id) := (hbox h4 hsF).cell 4
  have hll : ∀ K, oLen (some (.slice 9)) sl K h4 = K (.int .i64 bx.ids.length) h4 := fun K => by rw [len_val (hi.ids h4 hsF _ hmem), List.length_map]
  have hrl := hi.ids h4 hsF _ hmem
  simp only [f3] at hrl
  obtain ⟨b2, o2, hix, cl⟩ := last_at hrl
  rw [← f3] at hix
  have e3 : decide ((0 : Int) < bx.ids.length) = true := by rw [f3]; simp
  have hq := hq h4 hsF
  have hB : Bkts (fun _ => True) h4 v10 B := ⟨hb.rows h4 hsF, hb.ids h4 hsF⟩
  clear hs hidx hload hlv hi hone hmem hcell hbox hb
  cases e0 : decide (bx.list = x.1.list) with
  | false =>
    simp -implicitDefEqProofs (disch := omega) only [go_sem, Nat.zero_add, c0, g1, e0, bin_add_in]
    exact hq
  | true =>
    cases e1 : decide (z = x.1.id) with
    | false =>
      simp -implicitDefEqProofs (disch := omega) only [go_sem, Nat.zero_add, c0, g1, e0, c2, hll, e3, bin_sub_in, hix, cl, g4, e1, bin_add_in]
      exact hq
    | true =>
      simp -implicitDefEqProofs (disch := omega) only [go_sem, Nat.zero_add, c0, g1, e0, c2, hll, e3, bin_sub_in, hix, cl, g4, e1, c1]
      refine l_count hB ht hbl ?_
      cases e2 : decide (((cnt (B.map (·.1)) bx.addr x.1.id : Nat) : Int) = 0) with
      | false =>
        simp -implicitDefEqProofs (disch := omega) only [go_sem, e2, bin_add_in]
        exact hq
      | true =>
        have hz : z = x.1.id := of_decide_eq_true e1
        have hlt' : decide (budget ≤ bx.size) = false := by
          rw [decide_eq_false_iff_not]
          refine haf (of_decide_eq_true e0) ids (by rw [f3, hz]) ?_
          have := of_decide_eq_true e2
          omega
        simp -implicitDefEqProofs (disch := omega) only [go_sem, Nat.zero_add, e2, c3, hlt', bin_add_in]
        exact hq
set_option maxRecDepth 16000 in
theorem after_loop {bd : Nat} {x : DeedV} {budget : Int} {B : List (Bkt × Value)} (hi : InF F vb L) (hb : InF F v10 B) (hbox : BoxIn F bd x) (hne : ∀ y ∈ L, y.1.ids ≠ [])
    (hafter : ∀ y ∈ L, y.1.list = x.1.list → ∀ ids, y.1.ids = ids ++ [x.1.id] → cnt (B.map (·.1)) y.1.addr x.1.id = 0 → ¬ budget ≤ y.1.size) (hl : L.length ≤ 4294967296) (hids : ∀ y ∈ L, y.1.ids.length ≤ 4294967296)
    (ht : total (B.map (·.1)) < 4611686018427387904) (hbl : B.length < 4611686018427387904)
    (hs : Sep h F) (hq : ∀ h' v18, Sep h' F → f4_T8 q [v0, v1, .int .i64 budget, ptr bd, v6, v7, v8, v9, v10, v11, v14, v15, vb, v18] h') : f4_T10 q [v0, v1, .int .i64 budget, ptr bd, v6, v7, v8, v9, v10, v11, v14, v15, vb, .int .i64 0] h := by
  refine LoopS.st (σ := Nat) (fun k => [v0, v1, .int .i64 budget, ptr bd, v6, v7, v8, v9, v10, v11, v14, v15, vb, .int .i64 k]) (fun k h' => Sep h' F ∧ k ≤ L.length) (fun k => L.length - k) 0 rfl ⟨hs, Nat.zero_le _⟩ ?_
  rintro k h2 ⟨hs, hkl⟩
  by_cases hlt : k < L.length
  · refine after_round hi hb hbox hne hafter hl hids ht hbl hs hlt fun h' hs => ?_
    rw [thenL_normal]
    exact NextSt.mk (k + 1) rfl ⟨hs, hlt⟩ (by omega)
  · have hlv : ∀ K, oLen (some (.slice 36)) vb K h2 = K (.int .i64 L.length) h2 := fun K => by rw [len_val (hi.rows h2 hs), List.length_map]
    have hd : decide ((k : Int) < (L.length : Int)) = false := by simp; omega
    simp only [f4_T11, go_sem, hlv, hd]
    exact hq h2 _ hs
end
end Go.Proofs.Ythgbpfoadlemaaa

/- DueBuckets: the law. -/
namespace Go.Proofs.Ythgbpfoadlemaaa
open Go.Fw
section
variable {p : Nat} {m m' : Led} {h : Heap} {F : List Res} {K : Kont} {N : Nat} {q : LPost} {v : Value} {l : List DeedV} {x : DeedV} {budget : Int}
theorem total_bound {bs : List Bkt} {M : Nat} (hb : ∀ b ∈ bs, b.ids.length ≤ M) : total bs ≤ bs.length * M := by
  induction bs with
  | nil => simp [total]
  | cons b r ih =>
    have h1 := ih (fun c hc => hb c (List.mem_cons_of_mem _ hc))
    have h2 := hb b (List.mem_cons_self ..)
    simp only [total, List.map_cons, List.sum_cons, List.length_cons, Nat.add_mul] at *
    omega
theorem total_ok (hm : m.Ok N) (hN : N ≤ 1073741824) {bs : List Bkt} (hb : AllB m bs) : total bs < 4611686018427387904 := by
  have h1 := total_bound (bs := bs) (M := N) (fun b hb' => hm.ids _ _ _ ((hb.mem b).1 hb'))
  have h2 := all_len hm hb.sorted (fun b hb' => (hb.mem b).1 hb')
  have h3 : bs.length * N ≤ N * N := Nat.mul_le_mul_right _ h2
  have h4 : N * N ≤ 1073741824 * 1073741824 := Nat.mul_le_mul hN hN
  omega
set_option maxRecDepth 16000 in
theorem buckets_law (hs : Sep h F) (hv : ∀ h', Sep h' F → Deeds (fun _ => True) h' v l) (hx : ∀ h', Sep h' F → DeedIn (fun _ => True) h' x) (hl : l.length ≤ 9223372036854775807) (hk : ∀ h', Sep h' F → K (.bool true) h') :
    FnH Try.prog 4 #[v, .agg ⟨dRow x⟩, .int .i64 budget] h K := by
  refine f4_fn ?_
  simp only [f4_T0, go_sem]
  refine s_box hs fun h1 bd hs => ?_
  refine small_fn hs fun h2 hs => ?_
  refine few_fn (hv h2 hs.tail) hl ?_
  cases hf : few (l.map (·.1)) with
  | false =>
    simp only [go_sem, Bool.not_false]
    rw [f4_ret]
    exact hk h2 hs.tail
  | true =>
    have hload : ∀ K, oLoad (.agg 8) (.pointer (some ⟨bd, 0, none⟩)) K h2 = K (.agg ⟨dRow x⟩) h2 := fun K => load_cellR (t := 34) (hs.at 0) rfl
    simp only [go_sem, Bool.not_true, hload]
    rw [build_slice_of (cs := ⟨dRow x⟩) (by omega) (fill_one rfl)]
    have hone : ∀ y ∈ dRow x, oneC y = true := by
      obtain ⟨a, c, e⟩ := (hx h2 hs.tail).1.val
      obtain ⟨a', c', e'⟩ := (hx h2 hs.tail).2.val
      simp only [dRow, deedRow, e, e']
      simp [go_sem]
    have hs1 := hs.newVec (rows := [dRow x]) (e := 34) (sz := 8) (n := 1) rfl (by simp [dRow, deedRow]) (by simpa using hone)
    have e : (⟨[dRow x].flatten⟩ : Array Value) = ⟨dRow x⟩ := by simp
    rw [e] at hs1
    generalize h2.push (.cells ⟨dRow x⟩ 34) = h3, h2.size = bs0 at hs1
    refine few_fn (l := [x]) ⟨(hs1.at 0).rows, fun y hy => by rw [List.mem_singleton] at hy; subst hy; exact hx h3 hs1.tail.tail⟩ (by simp) ?_
    have hs := hs1.tail
    cases hf2 : few ([x].map (·.1)) with
    | false =>
      simp only [go_sem, Bool.not_false]
      rw [f4_ret]
      exact hk h3 hs.tail
    | true =>
      cases hb : decide (budget < 1) with
      | true =>
        simp only [go_sem, Bool.not_true, hb]
        rw [f4_ret]
        exact hk h3 hs.tail
      | false =>
        have hbud : 1 ≤ budget := by have := of_decide_eq_false hb; omega
        have hfx : fewD x.1 = true := by have := (few_len hf2).2; simpa using this
        have hl20 : l.length ≤ 20 := by simpa using (few_len hf).1
        have hN := bnd20
        simp only [go_sem, Bool.not_true, hb]
        refine new_fn hs fun h4 p hs => ?_
        have hend : ∀ h' v9 v10 v11 v14 v15 v17 v18 rs m, Runs Led.nil (l.map (·.1)) m rs → Sep h' (ledR p m none :: cellR bd ⟨dRow x⟩ 34 :: F) →
            f4_T2 (retL Try.prog f4_L Try.f4.results.toList K) [v, .agg ⟨dRow x⟩, .int .i64 budget, ptr bd, .bool false, .bool true, ptr p, v9, v10, v11, v14, v15, v17, v18] h' := by
          intro h' v9 v10 v11 v14 v15 v17 v18 rs m hr hs
          have hm : m.Ok (bnd 20) := runs_take (k := l.length) hf (by rw [List.take_length]; exact hr)
          simp only [f4_T2, go_sem]
          refine (buckets_new (hs.at 0) hm (by omega)).use hs fun h5 vb Rs hRs _ hs => ?_
          obtain ⟨bs, hbs, rfl⟩ := hRs
          obtain ⟨B, hB, hs, hBs⟩ := bkts_apart (l := bs) (F := ledR p m none :: cellR bd ⟨dRow x⟩ 34 :: F) hs
          have hBl : B.length = bs.length := by rw [← hB, List.length_map]
          have hbl : bs.length ≤ bnd 20 := all_len hm hbs.sorted (fun b hb => (hbs.mem b).1 hb)
          have hBm : ∀ y ∈ B, m.bk y.1.list y.1.addr = some y.1 := fun y hy => (hbs.mem y.1).1 (by rw [← hB]; exact List.mem_map.2 ⟨y, hy, rfl⟩)
          have hiB : ∀ (G : List Res), InF (vecR vb 36 5 (B.map fun x => bktRow x.1 x.2) :: elemsR bktE bs (B.map fun x => bktRow x.1 x.2) :: G) vb B := fun G => ⟨fun h' hs => (hs.at 0).rows, fun h' hs => hBs h' (hs.at 1)⟩
          refine before_loop (hiB _) (fun y hy => hm.ne _ _ _ (hBm y hy)) (by rw [hB]; exact hbs.sorted) (by omega) hs fun h6 v11' hs => ?_
          have hc : (cellR bd ⟨dRow x⟩ 34).has h6 := hs.at 3
          obtain ⟨d, vs, va⟩ := x
          have c1 : cellAt h6 bd 1 = some (.int .i64 d.list) := hc.cell 1
          have c2 : cellAt h6 bd 2 = some (.int .i64 d.at_) := hc.cell 2
          have c3 : cellAt h6 bd 3 = some (.int .i64 d.n) := hc.cell 3
          have c4 : cellAt h6 bd 4 = some (.string d.id) := hc.cell 4
          have c6 : cellAt h6 bd 6 = some vs := hc.cell 6
          have c7 : cellAt h6 bd 7 = some va := hc.cell 7
          simp only at hfx hx
          have hsl : d.subs.length ≤ 8 := by simp only [fewD, Bool.and_eq_true, decide_eq_true_eq] at hfx; exact hfx.1.1
          unfold ptr
          simp only [f4_T4, go_sem, Nat.zero_add, c1, c2, c3, c4, c6, c7]
          refine rel_fn (p := p) (subs := d.subs) (adm := d.adm) (hs.pick 2) hm (by omega) (by omega) (fun h' hs => (hx h' hs.tail.tail.tail).1) (fun h' hs => (hx h' hs.tail.tail.tail).2) fun h7 v16 v17' st hst hok hs => ?_
          have hfacts : RelFacts m d.id d.list budget st := by rw [hst]; exact rel_all hm _
          have hok' := hok.ok
          simp only [go_sem]
          obtain ⟨C, hC, hs, hCs⟩ := bkts_apart (hs.pick 1)
          have hCl : C.length = st.fl.length := by rw [← hC, List.length_map]
          have hCm : ∀ y ∈ C, y.1 ∈ st.fl := fun y hy => by rw [← hC]; exact List.mem_map.2 ⟨y, hy, rfl⟩
          have hCi : ∀ y ∈ C, y.1.ids.length ≤ 4294967296 := fun y hy => by
            have h1 := rel_ids_all (id := d.id) (size := d.n) (list := d.list) (now := d.at_) (budget := budget) hm (d.subs.zip d.adm) y.1 (by rw [← hst]; exact hCm y hy)
            have : (d.subs.zip d.adm).length ≤ 8 := by rw [List.length_zip]; omega
            omega
          have hbox : BoxIn (vecR v17' 36 5 (C.map fun x => bktRow x.1 x.2) :: elemsR bktE st.fl (C.map fun x => bktRow x.1 x.2) :: ledR p st.m none :: strsR v16 st.sg :: vecR vb 36 5 (B.map fun x => bktRow x.1 x.2) :: elemsR bktE bs (B.map fun x => bktRow x.1 x.2) :: cellR bd ⟨dRow (d, vs, va)⟩ 34 :: F) bd (d, vs, va) := fun h' hs => hs.at 6
          have hfl := hok.fl
          refine full_loop (x := (d, vs, va)) (bd := bd) (L := C) (inF_mk hCs) hbox (fun y hy => hfacts.full _ (hCm y hy)) (by omega) hCi hs fun h8 v15' hs => ?_
          simp only [f4_T6, go_sem]
          unfold ptr
          refine (buckets_new (p := p) (hs.at 2) hok' (by omega)).use hs fun h9 va' Rs hRs _ hs => ?_
          obtain ⟨zs, hzs, rfl⟩ := hRs
          obtain ⟨A, hA, hs, hAs⟩ := bkts_apart (l := zs) hs
          have hAl : A.length = zs.length := by rw [← hA, List.length_map]
          have hal : zs.length ≤ bnd 20 + 2 * 100 := all_len hok' hzs.sorted (fun b hb => (hzs.mem b).1 hb)
          have hAm : ∀ y ∈ A, st.m.bk y.1.list y.1.addr = some y.1 := fun y hy => (hzs.mem y.1).1 (by rw [← hA]; exact List.mem_map.2 ⟨y, hy, rfl⟩)
          refine after_loop (x := (d, vs, va)) (bd := bd) (L := A) (B := B) (inF_mk hAs) ((inF_mk hBs).mono (fun _ hs => hs.tail.tail.tail.tail.tail.tail)) ?_ (fun y hy => hok'.ne _ _ _ (hAm y hy)) (fun y hy hyl ids hyi hcnt hge => ?_) (by omega) (fun y hy => by
            have := hok'.ids _ _ _ (hAm y hy); omega) (by rw [hB]; exact total_ok hm (by omega) hbs) (by omega) hs fun h10 v18' hs => ?_
          · exact fun h' hs => hs.at 8
          · rcases hfacts.bk _ _ _ (hAm y hy) with h | h
            · have hmem : y.1 ∈ bs := (hbs.mem _).2 h
              have := cnt_pos (i := d.id) hmem (by rw [hyi]; simp)
              rw [hB] at hcnt
              simp only at hcnt
              omega
            · have := h (by omega)
              omega
          · simp only [f4_T8]
            rw [f4_ret]
            exact hk h10 hs.tail.tail.tail.tail.tail.tail.tail.tail.tail
        unfold ptr at hend ⊢
        refine LoopS.st (σ := Nat) (fun k => [v, .agg ⟨dRow x⟩, .int .i64 budget, .pointer (some ⟨bd, 0, none⟩), .bool false, .bool true, .pointer (some ⟨p, 0, none⟩), .int .i64 k, undef, undef, undef, undef, undef, undef])
          (fun k h' => k ≤ l.length ∧ ∃ m rs, Runs Led.nil ((l.take k).map (·.1)) m rs ∧ Sep h' (ledR p m none :: cellR bd ⟨dRow x⟩ 34 :: F)) (fun k => l.length - k) 0 rfl ⟨Nat.zero_le _, Led.nil, [], .nil _, hs⟩ ?_
        rintro k h5 ⟨hkl, m, rs, hr, hs⟩
        refine Eq.mpr (by simp only [f4_T20]; rfl) ?_
        refine s_len (hv h5 hs.tail.tail).1 ?_
        simp only [List.length_map]
        by_cases hlt : k < l.length
        · have hi : ((k : Int) < (l.length : Int)) = True := by simp; omega
          simp only [go_sem, hi, decide_true]
          refine s_idxN (hv h5 hs.tail.tail).1 (by simpa using hlt) (by omega) ?_
          rw [List.getElem_map]
          refine do_fn (x := l[k]) hs (runs_take hf hr) (by omega) (few_at hf hlt) (fun h' hs => (hv h' hs.tail).2 _ (List.getElem_mem hlt)) fun h6 v16 v17 m' sg cut hd hs => ?_
          simp (disch := omega) only [go_sem, bin_add_in]
          refine NextSt.mk (k + 1) rfl ⟨hlt, m', rs ++ [(sg, cut)], ?_, hs.del 1 |>.del 1⟩ (by omega)
          rw [List.take_succ_eq_append_getElem hlt, List.map_append]
          exact hr.snoc hd
        · have hi : ((k : Int) < (l.length : Int)) = False := by simp; omega
          simp only [go_sem, hi, decide_false]
          rw [List.take_of_length_le (by omega)] at hr
          exact hend h5 _ _ _ _ _ _ _ rs m hr hs
end
end Go.Proofs.Ythgbpfoadlemaaa

/- DueMerges: what a merge does. -/
namespace Go.Proofs.Ythgbpfoadlemaaa
open Go.Fw
theorem perm_of_mem {α : Type} [DecidableEq α] {l l' : List α} (h1 : l.Nodup) (h2 : l'.Nodup) (h : ∀ a, a ∈ l ↔ a ∈ l') : l.Perm l' := (List.perm_ext_iff_of_nodup h1 h2).2 h
def sumF (f : Bkt → Int) (l : List Bkt) : Int := (l.map f).sum
theorem sumF_append (f : Bkt → Int) (a b : List Bkt) : sumF f (a ++ b) = sumF f a + sumF f b := by simp [sumF]
theorem sumF_perm {f : Bkt → Int} {a b : List Bkt} (h : a.Perm b) : sumF f a = sumF f b := by
  unfold sumF
  induction h with
  | nil => rfl
  | cons x _ ih => simp only [List.map_cons, List.sum_cons, ih]
  | swap x y l => simp only [List.map_cons, List.sum_cons]; omega
  | trans _ _ h1 h2 => exact h1.trans h2
/-- A list of all buckets, in any order. -/
structure AllN (m : Led) (l : List Bkt) : Prop where
  nodup : l.Nodup
  mem : ∀ b, b ∈ l ↔ m.bk b.list b.addr = some b
section
variable {m : Led} {N : Nat} {src into : Int} {to : List Sub} {al : List ByteArray} {bs zs : List Bkt} {f : Bkt → Int} {M : Int}
theorem nodup_of_sorted {l : List Bkt} (h : l.Pairwise keyLt) : l.Nodup := h.imp fun hab e => by subst e; exact keyLt_irrefl _ hab
theorem AllB.allN {l : List Bkt} (h : AllB m l) : AllN m l := ⟨nodup_of_sorted h.sorted, h.mem⟩
theorem fromL_sorted (hm : m.Ok N) (hal : al.Pairwise ltB) : (al.filterMap (m.bk src)).Pairwise keyLt := by
  rw [List.pairwise_filterMap]
  refine hal.imp ?_
  intro a a' haa b hbb b' hbb'
  obtain ⟨h1, h2⟩ := hm.key _ _ _ hbb
  obtain ⟨h3, h4⟩ := hm.key _ _ _ hbb'
  exact .inr ⟨h1.trans h3.symm, by rw [h2, h4]; exact haa⟩
theorem fromL_mem (hm : m.Ok N) (hmem : ∀ a, a ∈ al ↔ m.bk src a ≠ none) (b : Bkt) : b ∈ al.filterMap (m.bk src) ↔ b.list = src ∧ m.bk src b.addr = some b := by
  rw [List.mem_filterMap]
  constructor
  · rintro ⟨a, _, ha⟩
    obtain ⟨h1, h2⟩ := hm.key _ _ _ ha
    exact ⟨h1, by rw [h2]; exact ha⟩
  · rintro ⟨h1, h2⟩
    exact ⟨b.addr, (hmem _).2 (by rw [h2]; simp), h2⟩
/-- Merging keeps sums, up to multiples of M. -/
theorem sum_merge (hM : ∀ b g : Bkt, m.bk src b.addr = some b → m.bk into b.addr = some g → M ∣ f (mrg m into b) - (f g + f b)) (hM0 : ∀ b : Bkt, m.bk src b.addr = some b → m.bk into b.addr = none → f (mrg m into b) = f b) :
    ∀ (A : List Bkt), (∀ b ∈ A, m.bk src b.addr = some b) → M ∣ sumF f (A.map (mrg m into)) - (sumF f A + sumF f (A.filterMap fun b => m.bk into b.addr))
  | [], _ => by simp [sumF]
  | b :: A, hA => by
    have ih := sum_merge hM hM0 A (fun c hc => hA c (List.mem_cons_of_mem _ hc))
    have hb := hA b (List.mem_cons_self ..)
    simp only [sumF, List.map_cons, List.sum_cons] at ih ⊢
    cases hg : m.bk into b.addr with
    | none =>
      simp only [List.filterMap_cons, hg, hM0 b hb hg]
      obtain ⟨c, hc⟩ := ih
      exact ⟨c, by rw [← hc]; omega⟩
    | some g =>
      simp only [List.filterMap_cons, hg]
      obtain ⟨c, hc⟩ := ih
      obtain ⟨d, hd⟩ := hM b g hb hg
      refine ⟨c + d, ?_⟩
      rw [Int.mul_add, ← hc, ← hd]
      simp only [List.map_cons, List.sum_cons]
      omega
def merges (src : Int) (m : Led) (to : List Sub) (a : ByteArray) : Bool := (m.bk src a).isSome && digs to a
theorem merge_sum (hm : m.Ok N) (hne : src ≠ into) (hbs : AllN m bs) (hal : al.Pairwise ltB) (hmem : ∀ a, a ∈ al ↔ m.bk src a ≠ none) (has : AllN (mgLed m src into to al) zs)
    (hM : ∀ b g : Bkt, m.bk src b.addr = some b → m.bk into b.addr = some g → M ∣ f (mrg m into b) - (f g + f b)) (hM0 : ∀ b : Bkt, m.bk src b.addr = some b → m.bk into b.addr = none → f (mrg m into b) = f b) :
    M ∣ sumF f bs - sumF f (mgCut m src to al ++ zs) := by
  let A := al.filterMap (m.bk src)
  have hA : ∀ b, b ∈ A ↔ b.list = src ∧ m.bk src b.addr = some b := fromL_mem hm hmem
  have hAn : A.Nodup := nodup_of_sorted (fromL_sorted hm hal)
  have hbn : bs.Nodup := hbs.nodup
  let D := A.filter fun b => digs to b.addr
  have hD : ∀ b, b ∈ D ↔ (b.list = src ∧ m.bk src b.addr = some b) ∧ digs to b.addr = true := fun b => by rw [List.mem_filter, hA]
  have hDn : D.Nodup := hAn.filter _
  let R1 := bs.filter fun b => !decide (b.list = src) && !(decide (b.list = into) && merges src m to b.addr)
  let R2 := bs.filter fun b => decide (b.list = into) && merges src m to b.addr
  have hdi : ∀ a, digs to a = true → ∀ b, m.bk src a = some b → merges src m to a = true := fun a h1 b h2 => by simp [merges, h1, h2]
  -- the buckets before
  have p1 : bs.Perm (A ++ (R1 ++ R2)) := by
    refine perm_of_mem hbn ?_ (fun b => ?_)
    · rw [List.nodup_append]
      refine ⟨hAn, ?_, fun a ha b hb e => ?_⟩
      · rw [List.nodup_append]
        refine ⟨hbn.filter _, hbn.filter _, fun a ha b hb e => ?_⟩
        subst e
        have h1 := (List.mem_filter.1 ha).2
        have h2 := (List.mem_filter.1 hb).2
        rw [h2] at h1
        simp at h1
      · subst e
        have h1 := ((hA a).1 ha).1
        rcases List.mem_append.1 hb with hb | hb
        · have h2 := (List.mem_filter.1 hb).2
          simp [h1] at h2
        · have h2 := (List.mem_filter.1 hb).2
          simp only [Bool.and_eq_true, decide_eq_true_eq] at h2
          exact hne (h1.symm.trans h2.1)
    · rw [List.mem_append, List.mem_append, hA, List.mem_filter, List.mem_filter, hbs.mem]
      constructor
      · intro hb
        by_cases h1 : b.list = src
        · exact .inl ⟨h1, by rw [← h1]; exact hb⟩
        · by_cases h2 : (decide (b.list = into) && merges src m to b.addr) = true
          · exact .inr (.inr ⟨hb, h2⟩)
          · exact .inr (.inl ⟨hb, by simp [h1, h2]⟩)
      · rintro (⟨h1, h2⟩ | ⟨h, _⟩ | ⟨h, _⟩)
        · rw [h1]; exact h2
        · exact h
        · exact h
  have hkey : ∀ b ∈ D, (mrg m into b).list = into ∧ (mrg m into b).addr = b.addr := fun b hb => by
    have h := mrg_key (into := into) hm ((hD b).1 hb).1.2
    exact ⟨h.1, h.2.1⟩
  -- the buckets afterwards
  have p2 : zs.Perm (R1 ++ D.map (mrg m into)) := by
    refine perm_of_mem (has.nodup) ?_ (fun b => ?_)
    · rw [List.nodup_append]
      refine ⟨hbn.filter _, ?_, fun a ha b hb e => ?_⟩
      · have : (D.map (mrg m into)).Pairwise (· ≠ ·) := by
          rw [List.pairwise_map]
          have hs : D.Pairwise fun a b => a.addr ≠ b.addr := by
            have h1 : A.Pairwise keyLt := fromL_sorted hm hal
            have h2 : D.Pairwise keyLt := h1.filter _
            refine List.Pairwise.imp_of_mem ?_ h2
            rintro a b ha hb hab e
            have e1 := ((hD a).1 ha).1.1
            have e2 := ((hD b).1 hb).1.1
            rcases hab with h | ⟨_, h⟩
            · omega
            · rw [e] at h; exact ltB_irrefl _ h
          refine List.Pairwise.imp_of_mem ?_ hs
          intro a b ha hb hab e
          have h1 := (hkey a ha).2
          have h2 := (hkey b hb).2
          rw [e] at h1
          exact hab (h1.symm.trans h2)
        exact this
      · subst e
        obtain ⟨c, hc, rfl⟩ := List.mem_map.1 hb
        have h1 := (List.mem_filter.1 ha).2
        obtain ⟨k1, k2⟩ := hkey c hc
        obtain ⟨⟨_, h3⟩, h4⟩ := (hD c).1 hc
        have h5 := hdi _ h4 _ h3
        rw [k1, k2, h5] at h1
        simp at h1
    · rw [List.mem_append, List.mem_filter, List.mem_map, has.mem, hbs.mem]
      constructor
      · intro hb
        simp only [mgLed] at hb
        split at hb
        · cases hb
        · rename_i hns
          split at hb
          · rename_i hc
            right
            cases hsb : m.bk src b.addr with
            | none => rw [hsb] at hb; cases hb
            | some c =>
              rw [hsb] at hb
              simp only [Option.map_some, Option.some.injEq] at hb
              obtain ⟨k1, k2⟩ := hm.key _ _ _ hsb
              exact ⟨c, (hD c).2 ⟨⟨k1, by rw [k2]; exact hsb⟩, by rw [k2]; exact hc.2.2⟩, hb⟩
          · rename_i hc
            refine .inl ⟨hb, ?_⟩
            simp only [Bool.and_eq_true, Bool.not_eq_true', decide_eq_false_iff_not, Bool.and_eq_false_iff]
            refine ⟨hns, ?_⟩
            by_cases h1 : b.list = into
            · right
              cases hmg : merges src m to b.addr with
              | false => rfl
              | true =>
                exfalso
                simp only [merges, Bool.and_eq_true, Option.isSome_iff_exists] at hmg
                obtain ⟨⟨c, hc'⟩, hd⟩ := hmg
                exact hc ⟨h1, memB_iff.2 ((hmem _).2 (by rw [hc']; simp)), hd⟩
            · exact .inl h1
      · rintro (⟨hb, hc⟩ | ⟨c, hc, rfl⟩)
        · simp only [Bool.and_eq_true, Bool.not_eq_true', decide_eq_false_iff_not, Bool.and_eq_false_iff] at hc
          simp only [mgLed]
          rw [if_neg hc.1, if_neg]
          · exact hb
          · rintro ⟨h1, h2, h3⟩
            rcases hc.2 with h | h
            · exact h h1
            · obtain ⟨c, hc'⟩ := Option.ne_none_iff_exists'.1 ((hmem _).1 (memB_iff.1 h2))
              rw [hdi _ h3 _ hc'] at h; cases h
        · obtain ⟨k1, k2⟩ := hkey c hc
          obtain ⟨⟨_, h3⟩, h4⟩ := (hD c).1 hc
          simp only [mgLed, k1, k2]
          rw [if_neg hne.symm, if_pos ⟨trivial, memB_iff.2 ((hmem _).2 (by rw [h3]; simp)), h4⟩, h3]
          rfl
  -- what was merged into
  have p3 : R2.Perm (D.filterMap fun b => m.bk into b.addr) := by
    refine perm_of_mem (hbn.filter _) ?_ (fun b => ?_)
    · have h1 : A.Pairwise keyLt := fromL_sorted hm hal
      have h2 : D.Pairwise keyLt := h1.filter _
      have h3 : (D.filterMap fun b => m.bk into b.addr).Pairwise (· ≠ ·) := by
        rw [List.pairwise_filterMap]
        refine List.Pairwise.imp_of_mem ?_ h2
        rintro a b ha hb hab c hc d hd e
        subst e
        have e1 := ((hD a).1 ha).1.1
        have e2 := ((hD b).1 hb).1.1
        have e3 := (hm.key _ _ _ hc).2
        have e4 := (hm.key _ _ _ hd).2
        rcases hab with h | ⟨_, h⟩
        · omega
        · rw [← e3, ← e4] at h; exact ltB_irrefl _ h
      exact h3
    · rw [List.mem_filter, List.mem_filterMap, hbs.mem]
      simp only [Bool.and_eq_true, decide_eq_true_eq, merges, Option.isSome_iff_exists]
      constructor
      · rintro ⟨hb, h1, ⟨c, hc⟩, hd⟩
        obtain ⟨k1, k2⟩ := hm.key _ _ _ hc
        exact ⟨c, (hD c).2 ⟨⟨k1, by rw [k2]; exact hc⟩, by rw [k2]; exact hd⟩, by rw [k2, ← h1]; exact hb⟩
      · rintro ⟨c, hc, hb⟩
        obtain ⟨⟨_, h3⟩, h4⟩ := (hD c).1 hc
        obtain ⟨k1, k2⟩ := hm.key _ _ _ hb
        exact ⟨by rw [k1, k2]; exact hb, k1, ⟨c, by rw [k2]; exact h3⟩, by rw [k2]; exact h4⟩
  have hcutD : A.Perm (mgCut m src to al ++ D) := by
    have : ∀ (p : Bkt → Bool) (l : List Bkt), l.Perm (l.filter (fun b => !p b) ++ l.filter p) := by
      intro p l
      induction l with
      | nil => exact List.Perm.refl _
      | cons x r ih =>
        by_cases hp : p x = true
        · simp only [List.filter_cons, hp, Bool.not_true, Bool.false_eq_true, if_false, if_true]
          exact (List.Perm.cons x ih).trans List.perm_middle.symm
        · simp only [List.filter_cons, hp, Bool.not_false, Bool.false_eq_true, if_false, if_true]
          simpa [hp] using List.Perm.cons x ih
    exact this (fun b => digs to b.addr) A
  have hmain := sum_merge (f := f) (M := M) hM hM0 D (fun b hb => ((hD b).1 hb).1.2)
  have e1 : sumF f bs = sumF f (mgCut m src to al) + sumF f D + (sumF f R1 + sumF f R2) := by
    rw [sumF_perm p1, sumF_append, sumF_append, sumF_perm hcutD, sumF_append]
  have e2 : sumF f (mgCut m src to al ++ zs) = sumF f (mgCut m src to al) + (sumF f R1 + sumF f (D.map (mrg m into))) := by
    rw [sumF_append, sumF_perm p2, sumF_append]
  have e3 : sumF f R2 = sumF f (D.filterMap fun b => m.bk into b.addr) := sumF_perm p3
  obtain ⟨c, hc⟩ := hmain
  refine ⟨-c, ?_⟩
  rw [Int.mul_neg, ← hc, e1, e2, e3]
  omega
end
end Go.Proofs.Ythgbpfoadlemaaa

/- DueMerges: the walk. -/
namespace Go.Proofs.Ythgbpfoadlemaaa
open Go.Fw
section
variable {p : Nat} {m m' : Led} {h : Heap} {F : List Res} {K : Kont} {N : Nat} {q : LPost} {L B A D : List (Bkt × Value)} {src into : Int}
  {v v0 v1 v2 v3 v8 v9 v10 v11 v12 v14 v15 v16 v17 v18 v19 v20 v21 v22 v23 v24 : Value}
theorem InF.lenV (hi : InF F v L) (hs : Sep h F) (K : Kont) : oLen (some (.slice 36)) v K h = K (.int .i64 L.length) h := by rw [len_val (hi.rows h hs), List.length_map]
theorem InF.bkts (hi : InF F v L) (hs : Sep h F) : Bkts (fun _ => True) h v L := ⟨hi.rows h hs, hi.ids h hs⟩
set_option maxRecDepth 16000 in
/-- Each id is counted before and afterwards. -/
theorem ids_loop {y : Nat} {x : Bkt × Value} (hb : InF F v12 B) (hd : InF F v16 D) (hy : ∀ h', Sep h' F → (cellR y ⟨rowB x⟩ 36).has h') (hx : ∀ h', Sep h' F → RowsR (fun _ => True) h' x.2 1 (x.1.ids.map strRow)) (hxl : x.1.ids.length ≤ 4294967296)
    (hcnt : ∀ a i, cnt (B.map (·.1)) a i = cnt (D.map (·.1)) a i) (ht : total (B.map (·.1)) < 4611686018427387904) (hbl : B.length < 4611686018427387904) (ht' : total (D.map (·.1)) < 4611686018427387904) (hbl' : D.length < 4611686018427387904)
    (hs : Sep h F) (hq : ∀ h' v21, Sep h' F → f6_T18 q [v0, v1, v2, v3, v8, v9, v10, v11, v12, v14, v15, v16, v17, v18, v19, .pointer (some ⟨y, 0, none⟩), v21, v22, v23, v24] h') :
    f6_T25 q [v0, v1, v2, v3, v8, v9, v10, v11, v12, v14, v15, v16, v17, v18, v19, .pointer (some ⟨y, 0, none⟩), .int .i64 0, v22, v23, v24] h := by
  refine LoopS.st (σ := Nat) (fun k => [v0, v1, v2, v3, v8, v9, v10, v11, v12, v14, v15, v16, v17, v18, v19, .pointer (some ⟨y, 0, none⟩), .int .i64 k, v22, v23, v24]) (fun k h' => Sep h' F ∧ k ≤ x.1.ids.length) (fun k => x.1.ids.length - k) 0 rfl ⟨hs, Nat.zero_le _⟩ ?_
  rintro k h2 ⟨hs, hkl⟩
  obtain ⟨bx, sl⟩ := x
  simp only at hx hxl hkl hy ⊢
  have c1 : cellAt h2 y 1 = some (.string bx.addr) := (hy h2 hs).cell 1
  have c2 : cellAt h2 y 2 = some sl := (hy h2 hs).cell 2
  have hlv : ∀ K, oLen (some (.slice 9)) sl K h2 = K (.int .i64 bx.ids.length) h2 := fun K => by rw [len_val (hx h2 hs), List.length_map]
  by_cases hlt : k < bx.ids.length
  · have hdk : decide ((k : Int) < (bx.ids.length : Int)) = true := by simp; omega
    obtain ⟨b, o, hidx, hcell, _⟩ := elem_at (r := strRow bx.ids[k]) (hx h2 hs) (by simpa using hlt) (by simp) (by omega)
    have c0 : cellAt h2 b o = some (.string bx.ids[k]) := hcell 0 (by omega)
    simp only [f6_T26, go_sem, Nat.zero_add, c1, c2, hlv, hdk, hidx, c0]
    refine l_count (hb.bkts hs) ht hbl ?_
    simp only [go_sem, c1, c2, hidx, c0]
    refine l_count (hd.bkts hs) ht' hbl' ?_
    rw [hcnt]
    simp (disch := omega) only [go_sem, decide_true, Bool.not_true, bin_add_in]
    refine NextSt.mk (k + 1) rfl ⟨hs, hlt⟩ (by omega)
  · have hdk : decide ((k : Int) < (bx.ids.length : Int)) = false := by simp; omega
    simp only [f6_T26, go_sem, Nat.zero_add, c2, hlv, hdk]
    exact hq h2 _ hs
set_option maxRecDepth 16000 in
/-- Is the bucket there afterwards? -/
theorem same_round {i k : Nat} {t : Bool} (hb : InF F v12 B) (ha : InF F v15 A) (hi : i < B.length) (hk : k < A.length) (hl : A.length ≤ 4294967296) (hl' : B.length ≤ 4294967296) (hai : ∀ y ∈ A, y.1.ids.length ≤ 4294967296)
    (hs : Sep h F) (hq : ∀ h', Sep h' F → q .normal [v0, v1, v2, v3, v8, v9, v10, v11, v12, v14, v15, v16, v17, v18, .int .i64 i, v20, v21, .bool (t || decide (A[k].1 = B[i].1)), .int .i64 ((k + 1 : Nat) : Int), v24] h') :
    f6_T23 q [v0, v1, v2, v3, v8, v9, v10, v11, v12, v14, v15, v16, v17, v18, .int .i64 i, v20, v21, .bool t, .int .i64 k, v24] h := by
  have hdk : decide ((k : Int) < (A.length : Int)) = true := by simp; omega
  have hk1 : (k : Int) + 1 = ((k + 1 : Nat) : Int) := rfl
  have hi1 : (i : Int) + 1 = ((i + 1 : Nat) : Int) := rfl
  have hlv := ha.lenV hs
  cases t with
  | true =>
    simp -implicitDefEqProofs (disch := omega) only [f6_T23, go_sem, hlv, hdk, bin_add_in, hk1]
    simpa using hq h hs
  | false =>
    simp -implicitDefEqProofs (disch := omega) only [f6_T23, go_sem, hlv, hdk, bin_add_in, hk1]
    refine s_slice (ha.rows h hs) (by omega) (by simp; omega) fun va hva => ?_
    simp -implicitDefEqProofs (disch := omega) only [go_sem, hi1]
    refine s_slice (hb.rows h hs) (by omega) (by simp; omega) fun vb hvb => ?_
    have e1 : ((A.map rowB).drop k).take (k + 1 - k) = [A[k]].map rowB := by
      rw [← List.map_drop, ← List.map_take, List.drop_eq_getElem_cons hk, show k + 1 - k = 0 + 1 from by omega, List.take_succ_cons, List.take_zero]
    have e2 : ((B.map rowB).drop i).take (i + 1 - i) = [B[i]].map rowB := by
      rw [← List.map_drop, ← List.map_take, List.drop_eq_getElem_cons hi, show i + 1 - i = 0 + 1 from by omega, List.take_succ_cons, List.take_zero]
    rw [e1] at hva
    rw [e2] at hvb
    refine same_fn (l := [A[k]]) (l' := [B[i]]) ⟨hva, fun y hy => by rw [List.mem_singleton] at hy; subst hy; exact ha.ids h hs _ (List.getElem_mem hk)⟩ ⟨hvb, fun y hy => by rw [List.mem_singleton] at hy; subst hy; exact hb.ids h hs _ (List.getElem_mem hi)⟩ (by simp)
      (fun y hy => by rw [List.mem_singleton] at hy; subst hy; have := hai _ (List.getElem_mem hk); omega) ?_
    have e3 : decide ([A[k]].map (·.1) = [B[i]].map (·.1)) = decide (A[k].1 = B[i].1) := by simp
    rw [e3]
    simpa using hq h hs
set_option maxRecDepth 16000 in
theorem same_loop {i : Nat} (hb : InF F v12 B) (ha : InF F v15 A) (hi : i < B.length) (hl : A.length ≤ 4294967296) (hl' : B.length ≤ 4294967296) (hai : ∀ y ∈ A, y.1.ids.length ≤ 4294967296)
    (hs : Sep h F) (hq : ∀ h' v23, Sep h' F → f6_T20 q [v0, v1, v2, v3, v8, v9, v10, v11, v12, v14, v15, v16, v17, v18, .int .i64 i, v20, v21, .bool (A.any fun y => decide (y.1 = B[i].1)), v23, v24] h') :
    f6_T22 q [v0, v1, v2, v3, v8, v9, v10, v11, v12, v14, v15, v16, v17, v18, .int .i64 i, v20, v21, .bool false, .int .i64 0, v24] h := by
  refine LoopS.st (σ := Nat) (fun k => [v0, v1, v2, v3, v8, v9, v10, v11, v12, v14, v15, v16, v17, v18, .int .i64 i, v20, v21, .bool ((A.take k).any fun y => decide (y.1 = B[i].1)), .int .i64 k, v24]) (fun k h' => Sep h' F ∧ k ≤ A.length) (fun k => A.length - k) 0 rfl ⟨hs, Nat.zero_le _⟩ ?_
  rintro k h2 ⟨hs, hkl⟩
  by_cases hlt : k < A.length
  · refine same_round hb ha hi hlt hl hl' hai hs fun h' hs => ?_
    rw [thenL_normal]
    refine NextSt.mk (k + 1) ?_ ⟨hs, hlt⟩ (by omega)
    rw [List.take_succ_eq_append_getElem hlt, List.any_append]
    simp
  · have hdk : decide ((k : Int) < (A.length : Int)) = false := by simp; omega
    simp only [f6_T23, go_sem, ha.lenV hs, hdk]
    rw [List.take_of_length_le (by omega)]
    exact hq h2 _ hs
def wsum (l : List (Bkt × Value)) : Int := l.foldl (fun n x => IntKind.i64.wrap (n + x.1.size)) 0
theorem wsum_snoc (l : List (Bkt × Value)) (x : Bkt × Value) : wsum (l ++ [x]) = IntKind.i64.wrap (wsum l + x.1.size) := by simp [wsum, List.foldl_append]
end
end Go.Proofs.Ythgbpfoadlemaaa

/- DueMerges: the walk, continued, and the law. -/
namespace Go.Proofs.Ythgbpfoadlemaaa
open Go.Fw
section
variable {p : Nat} {m m' : Led} {h : Heap} {F : List Res} {K : Kont} {N : Nat} {q : LPost} {L B A C D : List (Bkt × Value)} {src into : Int}
  {v v0 v1 v2 v3 v8 v9 v10 v11 v12 v14 v15 v16 v17 v18 v19 v20 v21 v22 v23 v24 : Value}
structure MI where
  k : Nat
  v20 : Value
  v21 : Value
  v22 : Value
  v23 : Value
set_option maxRecDepth 16000 in
theorem mBefore_loop (hb : InF F v12 B) (ha : InF F v15 A) (hd : InF F v16 D) (hl : A.length ≤ 4294967296) (hl' : B.length ≤ 4294967296) (hai : ∀ y ∈ A, y.1.ids.length ≤ 4294967296) (hbi : ∀ y ∈ B, y.1.ids.length ≤ 4294967296)
    (hcnt : ∀ a i, cnt (B.map (·.1)) a i = cnt (D.map (·.1)) a i) (ht : total (B.map (·.1)) < 4611686018427387904) (ht' : total (D.map (·.1)) < 4611686018427387904) (hbl' : D.length < 4611686018427387904)
    (hsame : ∀ x ∈ B, x.1.list ≠ src → x.1.list ≠ into → (A.any fun y => decide (y.1 = x.1)) = true)
    (hs : Sep h F) (hq : ∀ h' v19 v20 v21 v22 v23, Sep h' F → f6_T4 q [v0, .int .i64 src, .int .i64 into, v3, v8, v9, v10, v11, v12, v14, v15, v16, .int .i64 (wsum B), v18, v19, v20, v21, v22, v23, v24] h') :
    f6_T11 q [v0, .int .i64 src, .int .i64 into, v3, v8, v9, v10, v11, v12, v14, v15, v16, .int .i64 0, v18, .int .i64 0, v20, v21, v22, v23, v24] h := by
  refine LoopS.st (σ := MI) (fun s => [v0, .int .i64 src, .int .i64 into, v3, v8, v9, v10, v11, v12, v14, v15, v16, .int .i64 (wsum (B.take s.k)), v18, .int .i64 s.k, s.v20, s.v21, s.v22, s.v23, v24]) (fun s h' => Sep h' F ∧ s.k ≤ B.length) (fun s => B.length - s.k) ⟨0, v20, v21, v22, v23⟩ rfl ⟨hs, Nat.zero_le _⟩ ?_
  rintro ⟨k, v20, v21, v22, v23⟩ h2 ⟨hs, hkl⟩
  simp only at hkl ⊢
  by_cases hlt : k < B.length
  · have hdk : decide ((k : Int) < (B.length : Int)) = true := by simp; omega
    have hmem : B[k] ∈ B := List.getElem_mem hlt
    obtain ⟨b, o, hidx, hcell, hload⟩ := elem_at (r := rowB B[k]) (hb.rows h2 hs) (by simpa using hlt) (by simp) (by omega)
    have hone := hb.one hs hmem
    have hsm := hsame _ hmem
    have htk : wsum (B.take (k + 1)) = IntKind.i64.wrap (wsum (B.take k) + B[k].1.size) := by rw [List.take_succ_eq_append_getElem hlt, wsum_snoc]
    simp only [f6_T12, f6_T16, go_sem, hb.lenV hs, hdk, hidx, hload]
    refine s_alloc hs fun h3 y hs => ?_
    refine s_store hs rfl rfl hone fun h4 hs => ?_
    have c3 : cellAt h4 y 3 = some (.int .i64 B[k].1.size) := (hs.at 0).cell 3
    simp only [go_sem, Nat.zero_add, c3, bin_add]
    have hG : ∀ h, Sep h (cellR y ⟨rowB B[k]⟩ 36 :: F) → Sep h F := fun _ hs => hs.tail
    refine ids_loop (x := B[k]) (hb.mono hG) (hd.mono hG) (fun h' hs => hs.at 0) (fun h' hs => hb.ids h' hs.tail _ hmem) (hbi _ hmem) hcnt ht (by omega) ht' hbl' hs fun h5 v21' hs => ?_
    simp only [f6_T18]
    refine same_loop (i := k) (hb.mono hG) (ha.mono hG) hlt hl hl' hai hs fun h6 v23' hs => ?_
    have c0 : cellAt h6 y 0 = some (.int .i64 B[k].1.list) := (hs.at 0).cell 0
    have hsF := hs.tail
    have hk1 : (k : Int) + 1 = ((k + 1 : Nat) : Int) := rfl
    have hfin : ∀ (t : Bool), (thenL (NextSt (fun s : MI => [v0, .int .i64 src, .int .i64 into, v3, v8, v9, v10, v11, v12, v14, v15, v16, .int .i64 (wsum (B.take s.k)), v18, .int .i64 s.k, s.v20, s.v21, s.v22, s.v23, v24]) (fun s h' => Sep h' F ∧ s.k ≤ B.length) (fun s => B.length - s.k) ⟨k, v20, v21, v22, v23⟩) (inBL 2 (thenL (f6_T4 q) q))) .normal
        [v0, .int .i64 src, .int .i64 into, v3, v8, v9, v10, v11, v12, v14, v15, v16, .int .i64 (IntKind.i64.wrap (wsum (B.take k) + B[k].1.size)), v18, .int .i64 ((k + 1 : Nat) : Int), .pointer (some ⟨y, 0, none⟩), v21', .bool t, v23', v24] h6 := by
      intro t
      rw [thenL_normal]
      refine NextSt.mk ⟨k + 1, .pointer (some ⟨y, 0, none⟩), v21', .bool t, v23'⟩ ?_ ⟨hsF, hlt⟩ (by simp only; omega)
      simp only
      rw [htk]
    generalize (A.any fun y => decide (y.1 = B[k].1)) = t at hsm
    cases e0 : decide (B[k].1.list = src) with
    | true =>
      simp -implicitDefEqProofs (disch := omega) only [f6_T20, f6_T14, go_sem, Nat.zero_add, c0, e0, Bool.not_true, bin_add_in, hk1]
      exact hfin t
    | false =>
      cases e1 : decide (B[k].1.list = into) with
      | true =>
        simp -implicitDefEqProofs (disch := omega) only [f6_T20, f6_T14, go_sem, Nat.zero_add, c0, e0, e1, Bool.not_true, Bool.not_false, bin_add_in, hk1]
        exact hfin t
      | false =>
        have ht1 : t = true := hsm (of_decide_eq_false e0) (of_decide_eq_false e1)
        subst ht1
        simp -implicitDefEqProofs (disch := omega) only [f6_T20, f6_T14, go_sem, Nat.zero_add, c0, e0, e1, Bool.not_true, Bool.not_false, bin_add_in, hk1]
        exact hfin true
  · have hdk : decide ((k : Int) < (B.length : Int)) = false := by simp; omega
    simp only [f6_T12, go_sem, hb.lenV hs, hdk]
    rw [List.take_of_length_le (by omega)]
    exact hq h2 _ _ _ _ _ hs
set_option maxRecDepth 16000 in
theorem both_round {k : Nat} (hc : InF F v14 C) (hd : InF F v16 (C ++ A)) (hcl : ∀ x ∈ C, x.1.list = src) (hal : ∀ x ∈ A, x.1.list ≠ src) (hl : (C ++ A).length ≤ 4294967296) (hlt : k < (C ++ A).length) {n : Int}
    (hs : Sep h F) (hq : ∀ h', Sep h' F → q .normal [v0, .int .i64 src, v2, v3, v8, v9, v10, v11, v12, v14, v15, v16, v17, .int .i64 (IntKind.i64.wrap (n + (C ++ A)[k].1.size)), v19, v20, v21, v22, v23, .int .i64 ((k + 1 : Nat) : Int)] h') :
    f6_T9 q [v0, .int .i64 src, v2, v3, v8, v9, v10, v11, v12, v14, v15, v16, v17, .int .i64 n, v19, v20, v21, v22, v23, .int .i64 k] h := by
  have hdk : decide ((k : Int) < ((C ++ A).length : Int)) = true := by simp only [decide_eq_true_eq]; omega
  obtain ⟨b, o, hidx, hcell, _⟩ := elem_at (r := rowB (C ++ A)[k]) (hd.rows h hs) (by simpa using hlt) (by rw [List.getElem_map]) (by omega)
  have c0 : cellAt h b (o + 0) = some (.int .i64 (C ++ A)[k].1.list) := hcell 0 (by omega)
  have c3 : cellAt h b (o + 3) = some (.int .i64 (C ++ A)[k].1.size) := hcell 3 (by omega)
  have hw : IntKind.i64.wrap ((k : Int) + 1) = ((k + 1 : Nat) : Int) := IntWalk.i64_in _ ⟨by omega, by omega⟩
  have hq := hq h hs
  have hlv := hd.lenV hs
  have hlc := hc.lenV hs
  have hwhere : (k < C.length ∧ (C ++ A)[k].1.list = src) ∨ (C.length ≤ k ∧ (C ++ A)[k].1.list ≠ src) := by
    by_cases hh : k < C.length
    · refine .inl ⟨hh, ?_⟩
      rw [List.getElem_append_left hh]
      exact hcl _ (List.getElem_mem hh)
    · refine .inr ⟨by omega, ?_⟩
      rw [List.getElem_append_right (by omega)]
      exact hal _ (List.getElem_mem _)
  generalize (C ++ A)[k] = x at *
  clear hs hcell hc hd
  rcases hwhere with ⟨h1, h2⟩ | ⟨h1, h2⟩
  · have d1 : decide ((C.length : Int) ≤ (k : Int)) = false := by simp; omega
    have d2 : decide ((k : Int) < (C.length : Int)) = true := by simp; omega
    have d3 : decide (x.1.list = src) = true := by simp [h2]
    simp -implicitDefEqProofs (disch := omega) only [f6_T9, go_sem, hlv, hdk, hidx, c3, bin_add, hlc, d1, d2, c0, d3, Bool.not_true, hw]
    exact hq
  · have d1 : decide ((C.length : Int) ≤ (k : Int)) = true := by simp; omega
    have d2 : decide ((k : Int) < (C.length : Int)) = false := by simp; omega
    have d3 : decide (x.1.list = src) = false := by simp [h2]
    simp -implicitDefEqProofs (disch := omega) only [f6_T9, go_sem, hlv, hdk, hidx, c3, bin_add, hlc, d1, d2, c0, d3, hw]
    exact hq
set_option maxRecDepth 16000 in
theorem both_loop (hc : InF F v14 C) (hd : InF F v16 (C ++ A)) (hcl : ∀ x ∈ C, x.1.list = src) (hal : ∀ x ∈ A, x.1.list ≠ src) (hl : (C ++ A).length ≤ 4294967296)
    (hs : Sep h F) (hq : ∀ h' v24, Sep h' F → f6_T6 q [v0, .int .i64 src, v2, v3, v8, v9, v10, v11, v12, v14, v15, v16, v17, .int .i64 (wsum (C ++ A)), v19, v20, v21, v22, v23, v24] h') :
    f6_T8 q [v0, .int .i64 src, v2, v3, v8, v9, v10, v11, v12, v14, v15, v16, v17, .int .i64 0, v19, v20, v21, v22, v23, .int .i64 0] h := by
  refine LoopS.st (σ := Nat) (fun k => [v0, .int .i64 src, v2, v3, v8, v9, v10, v11, v12, v14, v15, v16, v17, .int .i64 (wsum ((C ++ A).take k)), v19, v20, v21, v22, v23, .int .i64 k]) (fun k h' => Sep h' F ∧ k ≤ (C ++ A).length) (fun k => (C ++ A).length - k) 0 rfl ⟨hs, Nat.zero_le _⟩ ?_
  rintro k h2 ⟨hs, hkl⟩
  by_cases hlt : k < (C ++ A).length
  · refine both_round hc hd hcl hal hl hlt hs fun h' hs => ?_
    rw [thenL_normal]
    refine NextSt.mk (k + 1) ?_ ⟨hs, hlt⟩ (by omega)
    rw [List.take_succ_eq_append_getElem hlt, wsum_snoc]
  · have hdk : decide ((k : Int) < ((C ++ A).length : Int)) = false := by simp only [decide_eq_false_iff_not]; omega
    simp only [f6_T9, go_sem, hd.lenV hs, hdk]
    rw [List.take_of_length_le (by omega)]
    exact hq h2 _ hs
theorem cnt_sum (l : List Bkt) (a i : ByteArray) : ((cnt l a i : Nat) : Int) = sumF (fun b => ((cnt1 a i b : Nat) : Int)) l := by
  induction l with
  | nil => rfl
  | cons b r ih =>
    simp only [cnt, sumF, List.map_cons, List.sum_cons] at ih ⊢
    rw [Int.natCast_add, ih]
theorem cntIds_append (a b : List ByteArray) (i : ByteArray) : cntIds (a ++ b) i = cntIds a i + cntIds b i := by simp [cntIds, List.filter_append]
theorem merge_cnt {bs zs : List Bkt} {to : List Sub} {al : List ByteArray} (hm : m.Ok N) (hne : src ≠ into) (hbs : AllN m bs) (hal : al.Pairwise ltB) (hmem : ∀ a, a ∈ al ↔ m.bk src a ≠ none) (hz : AllN (mgLed m src into to al) zs) (a i : ByteArray) :
    cnt bs a i = cnt (mgCut m src to al ++ zs) a i := by
  have h := merge_sum (f := fun b => ((cnt1 a i b : Nat) : Int)) (M := 0) hm hne hbs hal hmem hz (fun b g hb hg => ?_) (fun b hb hg => ?_)
  · rw [Int.zero_dvd, ← cnt_sum, ← cnt_sum] at h
    omega
  · have hk := (hm.key _ _ _ hg).2
    have e : mrg m into b = { g with ids := g.ids ++ b.ids, size := IntKind.i64.wrap (g.size + b.size), at_ := if b.at_ < g.at_ then b.at_ else g.at_ } := by simp [mrg, hg]
    rw [Int.zero_dvd, e]
    simp only [cnt1, hk]
    split
    · rw [cntIds_append]; omega
    · simp
  · have e : mrg m into b = { b with list := into } := by simp [mrg, hg]
    rw [e]
    rfl
theorem wrap_mod (n : Int) : ∃ c, IntKind.i64.wrap n = n + 18446744073709551616 * c ∧ -9223372036854775808 ≤ IntKind.i64.wrap n ∧ IntKind.i64.wrap n ≤ 9223372036854775807 := by
  refine ⟨-((n + 9223372036854775808) / 18446744073709551616), ?_⟩
  rw [IntKind.wrap_i64]
  omega
theorem wsum_mod (l : List (Bkt × Value)) : ∃ c, wsum l = sumF (·.size) (l.map (·.1)) + 18446744073709551616 * c ∧ -9223372036854775808 ≤ wsum l ∧ wsum l ≤ 9223372036854775807 := by
  have gen : ∀ (l : List (Bkt × Value)) (n : Int), -9223372036854775808 ≤ n → n ≤ 9223372036854775807 → ∃ c, l.foldl (fun n x => IntKind.i64.wrap (n + x.1.size)) n = n + sumF (·.size) (l.map (·.1)) + 18446744073709551616 * c ∧
      -9223372036854775808 ≤ l.foldl (fun n x => IntKind.i64.wrap (n + x.1.size)) n ∧ l.foldl (fun n x => IntKind.i64.wrap (n + x.1.size)) n ≤ 9223372036854775807 := by
    intro l
    induction l with
    | nil => intro n h1 h2; exact ⟨0, by simp [sumF], h1, h2⟩
    | cons x r ih =>
      intro n h1 h2
      obtain ⟨c, hc, h3, h4⟩ := wrap_mod (n + x.1.size)
      obtain ⟨d, hd, h5, h6⟩ := ih _ h3 h4
      refine ⟨c + d, ?_, h5, h6⟩
      rw [List.foldl_cons, hd, hc]
      simp only [sumF, List.map_cons, List.sum_cons]
      omega
  obtain ⟨c, h1, h2, h3⟩ := gen l 0 (by omega) (by omega)
  exact ⟨c, by unfold wsum; rw [h1]; omega, h2, h3⟩
theorem merge_wsum {bs zs : List Bkt} {to : List Sub} {al : List ByteArray} (hm : m.Ok N) (hne : src ≠ into) (hbs : AllB m bs) (hal : al.Pairwise ltB) (hmem : ∀ a, a ∈ al ↔ m.bk src a ≠ none) (hz : AllB (mgLed m src into to al) zs)
    (hB : B.map (·.1) = bs) (hD : D.map (·.1) = mgCut m src to al ++ zs) : wsum B = wsum D := by
  have h := merge_sum (f := (·.size)) (M := 18446744073709551616) hm hne hbs.allN hal hmem hz.allN (fun b g hb hg => ?_) (fun b hb hg => ?_)
  · obtain ⟨c, h1, h2, h3⟩ := wsum_mod B
    obtain ⟨d, h4, h5, h6⟩ := wsum_mod D
    obtain ⟨e, he⟩ := h
    rw [hB] at h1
    rw [hD] at h4
    omega
  · have e : mrg m into b = { g with ids := g.ids ++ b.ids, size := IntKind.i64.wrap (g.size + b.size), at_ := if b.at_ < g.at_ then b.at_ else g.at_ } := by simp [mrg, hg]
    obtain ⟨c, hc, _⟩ := wrap_mod (g.size + b.size)
    exact ⟨c, by rw [e]; simp only; omega⟩
  · have e : mrg m into b = { b with list := into } := by simp [mrg, hg]
    rw [e]
theorem mgCut_list {to : List Sub} {al : List ByteArray} (hm : m.Ok N) : ∀ b ∈ mgCut m src to al, b.list = src ∧ m.bk src b.addr = some b := by
  intro b hb
  obtain ⟨a, _, ha⟩ := List.mem_filterMap.1 (List.mem_filter.1 hb).1
  obtain ⟨h1, h2⟩ := hm.key _ _ _ ha
  exact ⟨h1, by rw [h2]; exact ha⟩
set_option maxRecDepth 16000 in
theorem merges_law {l : List DeedV} {to : List Sub} {vt : Value} (hs : Sep h F) (hv : ∀ h', Sep h' F → Deeds (fun _ => True) h' v l) (ht : ∀ h', Sep h' F → RowsR (fun _ => True) h' vt 5 (to.map subRow)) (hl : l.length ≤ 9223372036854775807) (hk : ∀ h', Sep h' F → K (.bool true) h') :
    FnH Try.prog 6 #[v, .int .i64 src, .int .i64 into, vt] h K := by
  refine f6_fn ?_
  simp only [f6_T0, go_sem]
  refine small_fn hs fun h1 hs => ?_
  refine few_fn (hv h1 hs) hl ?_
  cases hf : few (l.map (·.1)) with
  | false =>
    simp only [go_sem, Bool.not_false]
    rw [f6_ret]
    exact hk h1 hs
  | true =>
    have hlt : ∀ K, oLen (some (.slice 40)) vt K h1 = K (.int .i64 to.length) h1 := fun K => by rw [len_val (ht h1 hs), List.length_map]
    cases d0 : decide ((8 : Int) < to.length) with
    | true =>
      simp only [go_sem, Bool.not_true, hlt, d0]
      rw [f6_ret]
      exact hk h1 hs
    | false =>
      have hto : to.length ≤ 8 := by have := of_decide_eq_false d0; omega
      cases d1 : decide (src = into) with
      | true =>
        simp only [go_sem, Bool.not_true, hlt, d0, d1]
        rw [f6_ret]
        exact hk h1 hs
      | false =>
        have hne : src ≠ into := of_decide_eq_false d1
        have hl20 : l.length ≤ 20 := by simpa using (few_len hf).1
        have hN := bnd20
        simp only [go_sem, Bool.not_true, hlt, d0, d1]
        refine new_fn hs fun h2 p hs => ?_
        have hend : ∀ h' v11 v12 v14 v15 v16 v17 v18 v19 v20 v21 v22 v23 v24 rs m, Runs Led.nil (l.map (·.1)) m rs → Sep h' (ledR p m none :: F) →
            f6_T2 (retL Try.prog f6_L Try.f6.results.toList K) [v, .int .i64 src, .int .i64 into, vt, .bool false, .bool true, .pointer (some ⟨p, 0, none⟩), v11, v12, v14, v15, v16, v17, v18, v19, v20, v21, v22, v23, v24] h' := by
          intro h' v11 v12 v14 v15 v16 v17 v18 v19 v20 v21 v22 v23 v24 rs m hr hs
          have hm : m.Ok (bnd 20) := runs_take (k := l.length) hf (by rw [List.take_length]; exact hr)
          simp only [f6_T2, go_sem]
          refine (buckets_new (p := p) (hs.at 0) hm (by omega)).use hs fun h3 vb Rs hRs _ hs => ?_
          obtain ⟨bs, hbs, rfl⟩ := hRs
          refine (copy_new (p := p) (hs.at 1) hm (by omega)).use hs fun h4 vc Rs hRs _ hs => ?_
          obtain ⟨c, rfl, rfl⟩ := hRs
          unfold ptr
          simp only [go_sem, Option.isNone]
          refine merge_fn (p := p) (to := to) (hs.pick 2) hm (by omega) (by omega) (fun h' hs => ht h' hs.tail.tail) (fun e => absurd e hne) (fun _ h5 vcut al hal hmem hs => ?_)
          have hmg := (mg_ok (src := src) (into := into) (to := to) (al := al) hm)
          refine (buckets_new (p := p) (hs.at 0) hmg (by omega)).use hs fun h6 va Rs hRs _ hs => ?_
          obtain ⟨zs, hzs, rfl⟩ := hRs
          refine (buckets_new (p := c) (hs.at 3) hm (by omega)).use hs fun h7 vcb Rs hRs _ hs => ?_
          obtain ⟨cs, hcs, rfl⟩ := hRs
          have hcb : cs = bs := bkts_unique hcs.sorted hbs.sorted (fun x => (hcs.mem x).trans (hbs.mem x).symm)
          subst hcb
          have hbl : cs.length ≤ bnd 20 := all_len hm hbs.sorted (fun b hb => (hbs.mem b).1 hb)
          obtain ⟨Lc, hLc, hBc⟩ := bkts_read (hs.at 0)
          obtain ⟨Lb, hLb, hBb⟩ := bkts_read (hs.at 5)
          refine same_fn hBc hBb (by rw [← List.length_map (f := (·.1)), hLc]; omega) (fun y hy => ?_) ?_
          · have h1 : y.1 ∈ cs := by rw [← hLc]; exact List.mem_map.2 ⟨y, hy, rfl⟩
            have := hm.ids _ _ _ ((hbs.mem y.1).1 h1)
            omega
          rw [hLc, hLb]
          simp only [go_sem, decide_true, Bool.not_true]
          obtain ⟨B, hB, hs, hBs⟩ := bkts_apart (hs.pick 5)
          obtain ⟨C, hC, hs, hCs⟩ := bkts_apart (hs.pick 5)
          obtain ⟨A, hA, hs, hAs⟩ := bkts_apart (hs.pick 5)
          have hBl : B.length = cs.length := by rw [← hB, List.length_map]
          have hcutb : ∀ b ∈ mgCut m src to al, b.list = src ∧ m.bk src b.addr = some b := mgCut_list hm
          have hCl : C.length ≤ bnd 20 := by
            have h1 : (mgCut m src to al).length ≤ al.length := Nat.le_trans (List.length_filter_le _ _) (List.length_filterMap_le _ _)
            have h2 := addrs_len hm hal hmem
            rw [← List.length_map (f := (·.1)), hC]; omega
          have hAl : A.length ≤ 2 * bnd 20 := by
            have := all_len hmg hzs.sorted (fun b hb => (hzs.mem b).1 hb)
            rw [← List.length_map (f := (·.1)), hA]; exact this
          have hAm : ∀ y ∈ A, (mgLed m src into to al).bk y.1.list y.1.addr = some y.1 := fun y hy => (hzs.mem y.1).1 (by rw [← hA]; exact List.mem_map.2 ⟨y, hy, rfl⟩)
          have hBm : ∀ y ∈ B, m.bk y.1.list y.1.addr = some y.1 := fun y hy => (hbs.mem y.1).1 (by rw [← hB]; exact List.mem_map.2 ⟨y, hy, rfl⟩)
          have hCm : ∀ y ∈ C, y.1.list = src ∧ m.bk src y.1.addr = some y.1 := fun y hy => hcutb y.1 (by rw [← hC]; exact List.mem_map.2 ⟨y, hy, rfl⟩)
          have hCin := inF_mk (bs := mgCut m src to al) (vb := vcut) (L := C) (G := []) hCs
          have hAin := inF_mk (bs := zs) (vb := va) (L := A) (G := []) hAs
          have honeC : ∀ r ∈ C.map (fun x => bktRow x.1 x.2), ∀ y ∈ r, oneC y = true := by
            intro r hr
            obtain ⟨x, hx, rfl⟩ := List.mem_map.1 hr
            obtain ⟨a, c, e⟩ := (hCs h7 (hs.at 3) x hx).val
            rw [e]; simp [bktRow, go_sem]
          have honeA : ∀ r ∈ A.map (fun x => bktRow x.1 x.2), ∀ y ∈ r, oneC y = true := by
            intro r hr
            obtain ⟨x, hx, rfl⟩ := List.mem_map.1 hr
            obtain ⟨a, c, e⟩ := (hAs h7 (hs.at 1) x hx).val
            rw [e]; simp [bktRow, go_sem]
          rw [build_slice_0]
          have hs := hs.newVec (rows := []) (e := 36) (sz := 5) (n := 0) rfl (by simp) (by simp)
          refine s_append (S := fun _ => True) hs (news := C.map fun x => bktRow x.1 x.2) rfl (by omega) (by omega) (hs.at 3).rows honeC (by simp only [List.length_nil, List.length_map]; omega) fun v1 h8 hs => ?_
          refine s_append (S := fun _ => True) hs (news := A.map fun x => bktRow x.1 x.2) rfl (by omega) (by omega) (hs.at 1).rows honeA (by simp only [List.nil_append, List.length_map]; omega) fun vd h9 hs => ?_
          rw [List.nil_append, ← List.map_append] at hs
          have hDm : (C ++ A).map (·.1) = mgCut m src to al ++ zs := by rw [List.map_append, hC, hA]
          have hBi : ∀ y ∈ B, y.1.ids.length ≤ bnd 20 := fun y hy => hm.ids _ _ _ (hBm y hy)
          have hAi : ∀ y ∈ A, y.1.ids.length ≤ 2 * bnd 20 := fun y hy => hmg.ids _ _ _ (hAm y hy)
          have hCi : ∀ y ∈ C, y.1.ids.length ≤ 2 * bnd 20 := fun y hy => by have := hm.ids _ _ _ (hCm y hy).2; omega
          have htB : total (B.map (·.1)) < 4611686018427387904 := by rw [hB]; exact total_ok hm (by omega) hbs
          have htD : total ((C ++ A).map (·.1)) < 4611686018427387904 := by
            have h1 := total_bound (bs := (C ++ A).map (·.1)) (M := 2 * bnd 20) (fun b hb => by
              obtain ⟨y, hy, rfl⟩ := List.mem_map.1 hb
              rcases List.mem_append.1 hy with hy | hy
              · exact hCi y hy
              · exact hAi y hy)
            have h2 : ((C ++ A).map (·.1)).length ≤ 3 * bnd 20 := by rw [List.length_map, List.length_append]; omega
            have h3 : ((C ++ A).map (·.1)).length * (2 * bnd 20) ≤ (3 * bnd 20) * (2 * bnd 20) := Nat.mul_le_mul_right _ h2
            have h4 : (3 * bnd 20) * (2 * bnd 20) ≤ (3 * 500000000) * (2 * 500000000) := Nat.mul_le_mul (by omega) (by omega)
            omega
          have hDl : (C ++ A).length ≤ 4294967296 := by rw [List.length_append]; omega
          refine mBefore_loop (B := B) (A := A) (D := C ++ A) ((inF_mk hBs).mono (fun _ hs => hs.tail.tail.tail.tail.tail)) ((inF_mk hAs).mono (fun _ hs => hs.tail)) ?_ (by omega) (by omega) (fun y hy => by have := hAi y hy; omega) (fun y hy => by have := hBi y hy; omega)
            (fun a i => by rw [hB, hDm]; exact merge_cnt hm hne hbs.allN hal hmem hzs.allN a i) htB htD (by omega) (fun x hx h1 h2 => ?_) hs fun h10 v19 v20 v21 v22 v23 hs => ?_
          · refine ⟨fun h' hs => (hs.at 0).rows, fun h' hs x hx => ?_⟩
            rcases List.mem_append.1 hx with hx | hx
            · exact hCs h' (hs.at 4) x hx
            · exact hAs h' (hs.at 2) x hx
          · have h3 := hBm x hx
            have h4 : x.1 ∈ zs := by
              rw [hzs.mem]
              simp only [mgLed]
              rw [if_neg h1, if_neg (fun e => h2 e.1)]
              exact h3
            rw [← hA] at h4
            obtain ⟨y, hy, e⟩ := List.mem_map.1 h4
            exact List.any_eq_true.2 ⟨y, hy, by simp [e]⟩
          · simp only [f6_T4]
            refine both_loop (C := C) (A := A) ((inF_mk hCs).mono (fun _ hs => hs.tail.tail.tail)) ?_ (fun y hy => (hCm y hy).1) (fun y hy => (mg_cases (hAm y hy)).1) hDl hs fun h11 v24 hs => ?_
            · refine ⟨fun h' hs => (hs.at 0).rows, fun h' hs x hx => ?_⟩
              rcases List.mem_append.1 hx with hx | hx
              · exact hCs h' (hs.at 4) x hx
              · exact hAs h' (hs.at 2) x hx
            · rw [merge_wsum hm hne hbs hal hmem hzs hB hDm]
              simp only [f6_T6, go_sem, decide_true]
              rw [f6_ret]
              exact hk h11 hs.tail.tail.tail.tail.tail.tail.tail.tail.tail.tail
        unfold ptr
        refine LoopS.st (σ := Nat) (fun k => [v, .int .i64 src, .int .i64 into, vt, .bool false, .bool true, .pointer (some ⟨p, 0, none⟩), .int .i64 k, undef, undef, undef, undef, undef, undef, undef, undef, undef, undef, undef, undef])
          (fun k h' => k ≤ l.length ∧ ∃ m rs, Runs Led.nil ((l.take k).map (·.1)) m rs ∧ Sep h' (ledR p m none :: F)) (fun k => l.length - k) 0 rfl ⟨Nat.zero_le _, Led.nil, [], .nil _, hs⟩ ?_
        rintro k h5 ⟨hkl, m, rs, hr, hs⟩
        refine Eq.mpr (by simp only [f6_T29]; rfl) ?_
        refine s_len (hv h5 hs.tail).1 ?_
        simp only [List.length_map]
        by_cases hlt : k < l.length
        · have hi : ((k : Int) < (l.length : Int)) = True := by simp; omega
          simp only [go_sem, hi, decide_true]
          refine s_idxN (hv h5 hs.tail).1 (by simpa using hlt) (by omega) ?_
          rw [List.getElem_map]
          refine do_fn (x := l[k]) hs (runs_take hf hr) (by omega) (few_at hf hlt) (fun h' hs => (hv h' hs).2 _ (List.getElem_mem hlt)) fun h6 v16 v17 m' sg cut hd hs => ?_
          simp (disch := omega) only [go_sem, bin_add_in]
          refine NextSt.mk (k + 1) rfl ⟨hlt, m', rs ++ [(sg, cut)], ?_, hs.del 1 |>.del 1⟩ (by omega)
          rw [List.take_succ_eq_append_getElem hlt, List.map_append]
          exact hr.snoc hd
        · have hi : ((k : Int) < (l.length : Int)) = False := by simp; omega
          simp only [go_sem, hi, decide_false]
          rw [List.take_of_length_le (by omega)] at hr
          exact hend h5 _ _ _ _ _ _ _ _ _ _ _ _ _ rs m hr hs
end
end Go.Proofs.Ythgbpfoadlemaaa

/- DueOnce: each id is owed once, in plain Lean. -/
namespace Go.Proofs.Ythgbpfoadlemaaa
open Go.Fw
section
variable {m m' : Led} {N : Nat} {bs ys zs : List Bkt} {l list : Int} {a : ByteArray} {b : Bkt}
theorem allN_ex (hm : m.Ok N) : ∃ bs, AllN m bs := by
  obtain ⟨L, _, hc⟩ := hm.cov
  have gen : ∀ L : List (Int × ByteArray), ∃ bs : List Bkt, bs.Nodup ∧ ∀ b, b ∈ bs ↔ (b.list, b.addr) ∈ L ∧ m.bk b.list b.addr = some b := by
    intro L
    induction L with
    | nil => exact ⟨[], List.nodup_nil, by simp⟩
    | cons x L ih =>
      obtain ⟨bs, h1, h2⟩ := ih
      by_cases hx : x ∈ L
      · refine ⟨bs, h1, fun b => ?_⟩
        rw [h2, List.mem_cons]
        constructor
        · rintro ⟨h3, h4⟩; exact ⟨.inr h3, h4⟩
        · rintro ⟨h3 | h3, h4⟩
          · exact ⟨h3 ▸ hx, h4⟩
          · exact ⟨h3, h4⟩
      · cases hb : m.bk x.1 x.2 with
        | none =>
          refine ⟨bs, h1, fun b => ?_⟩
          rw [h2, List.mem_cons]
          constructor
          · rintro ⟨h3, h4⟩; exact ⟨.inr h3, h4⟩
          · rintro ⟨h3 | h3, h4⟩
            · subst h3
              simp only at hb
              rw [hb] at h4; cases h4
            · exact ⟨h3, h4⟩
        | some b0 =>
          obtain ⟨k1, k2⟩ := hm.key _ _ _ hb
          refine ⟨b0 :: bs, List.nodup_cons.2 ⟨fun hin => hx ?_, h1⟩, fun b => ?_⟩
          · have := ((h2 b0).1 hin).1
            rw [k1, k2] at this
            exact this
          · rw [List.mem_cons, h2, List.mem_cons]
            constructor
            · rintro (rfl | ⟨h3, h4⟩)
              · exact ⟨.inl (by rw [k1, k2]), by rw [k1, k2]; exact hb⟩
              · exact ⟨.inr h3, h4⟩
            · rintro ⟨h3 | h3, h4⟩
              · subst h3
                simp only at hb
                rw [hb] at h4
                injection h4 with h4
                exact .inl h4.symm
              · exact .inr ⟨h3, h4⟩
  obtain ⟨bs, h1, h2⟩ := gen L
  refine ⟨bs, h1, fun b => ⟨fun hb => ((h2 b).1 hb).2, fun hb => (h2 b).2 ⟨hc _ _ (by rw [hb]; simp), hb⟩⟩⟩
theorem del_perm (hm : m.Ok N) (hbs : AllN m bs) (hz : AllN (m.del l a) zs) : bs.Perm ((m.bk l a).toList ++ zs) := by
  have hmem : ∀ b, b ∈ zs ↔ ¬ (b.list = l ∧ b.addr = a) ∧ m.bk b.list b.addr = some b := fun b => by
    rw [hz.mem]
    simp only [Led.del]
    by_cases h : b.list = l ∧ b.addr = a
    · simp [h]
    · simp [h]
  cases hb : m.bk l a with
  | none =>
    refine perm_of_mem hbs.nodup hz.nodup fun b => ?_
    simp only [Option.toList, List.nil_append]
    rw [hbs.mem, hmem]
    refine ⟨fun h => ⟨fun ⟨h1, h2⟩ => ?_, h⟩, fun h => h.2⟩
    rw [h1, h2, hb] at h; cases h
  | some b0 =>
    obtain ⟨k1, k2⟩ := hm.key _ _ _ hb
    simp only [Option.toList, List.singleton_append]
    refine perm_of_mem hbs.nodup (List.nodup_cons.2 ⟨fun h => ((hmem b0).1 h).1 ⟨k1, k2⟩, hz.nodup⟩) fun b => ?_
    rw [hbs.mem, List.mem_cons, hmem]
    constructor
    · intro h
      by_cases hk : b.list = l ∧ b.addr = a
      · rw [hk.1, hk.2, hb] at h
        injection h with h
        exact .inl h.symm
      · exact .inr ⟨hk, h⟩
    · rintro (rfl | h)
      · rw [k1, k2]; exact hb
      · exact h.2
theorem put_perm (hy : AllN (m.del b.list b.addr) ys) (hz : AllN (m.put b) zs) : zs.Perm (b :: ys) := by
  refine perm_of_mem hz.nodup (List.nodup_cons.2 ⟨fun h => ?_, hy.nodup⟩) fun c => ?_
  · rw [hy.mem] at h
    simp [Led.del] at h
  · rw [hz.mem, List.mem_cons, hy.mem]
    simp only [Led.put, Led.del]
    by_cases hk : c.list = b.list ∧ c.addr = b.addr
    · simp only [hk, and_self, if_true, Option.some.injEq]
      constructor
      · intro h; exact .inl h.symm
      · rintro (h | h)
        · exact h.symm
        · cases h
    · simp only [if_neg hk]
      constructor
      · intro h; exact .inr h
      · rintro (rfl | h)
        · exact absurd ⟨rfl, rfl⟩ hk
        · exact h
theorem delAll_perm {P : Bkt → Bool} {al : List ByteArray} (hm : m.Ok N) (hal : al.Pairwise ltB) (hmem : ∀ a, a ∈ al ↔ m.bk l a ≠ none) (hbs : AllN m bs) (hz : AllN (m.delAll l (gone m l P al)) zs) : bs.Perm (cuts m l P al ++ zs) := by
  have hc : ∀ b, b ∈ cuts m l P al ↔ (b.list = l ∧ m.bk l b.addr = some b) ∧ P b = true := fun b => by
    unfold cuts
    rw [List.mem_filter, fromL_mem hm hmem]
  have hg : ∀ a, memB a (gone m l P al) = true ↔ a ∈ al ∧ (m.bk l a).any P = true := fun a => by
    rw [memB_iff]
    unfold gone
    rw [List.mem_filter]
  have hzm : ∀ b, b ∈ zs ↔ ¬ (b.list = l ∧ memB b.addr (gone m l P al) = true) ∧ m.bk b.list b.addr = some b := fun b => by
    rw [hz.mem]
    simp only [Led.delAll]
    by_cases h : b.list = l ∧ memB b.addr (gone m l P al) = true
    · simp [h]
    · simp [h]
  refine perm_of_mem hbs.nodup ?_ fun b => ?_
  · rw [List.nodup_append]
    refine ⟨(nodup_of_sorted (fromL_sorted hm hal)).filter _, hz.nodup, fun x hx y hy e => ?_⟩
    subst e
    obtain ⟨⟨h1, h2⟩, h3⟩ := (hc x).1 hx
    refine ((hzm x).1 hy).1 ⟨h1, (hg _).2 ⟨(hmem _).2 (by rw [h2]; simp), by rw [h2]; exact h3⟩⟩
  · rw [hbs.mem, List.mem_append, hc, hzm]
    constructor
    · intro h
      by_cases hk : b.list = l ∧ memB b.addr (gone m l P al) = true
      · obtain ⟨k1, k2⟩ := hk
        rw [k1] at h
        have := ((hg _).1 k2).2
        rw [h] at this
        exact .inl ⟨⟨k1, h⟩, this⟩
      · exact .inr ⟨hk, h⟩
    · rintro (⟨⟨h1, h2⟩, _⟩ | h)
      · rw [h1]; exact h2
      · exact h.2
theorem cnt_cons (x : Bkt) (y : List Bkt) (a i : ByteArray) : cnt (x :: y) a i = cnt1 a i x + cnt y a i := by simp [cnt]
theorem cnt_nil (a i : ByteArray) : cnt [] a i = 0 := rfl
theorem cnt_perm {x y : List Bkt} (h : x.Perm y) (a i : ByteArray) : cnt x a i = cnt y a i := by
  have := sumF_perm (f := fun b => ((cnt1 a i b : Nat) : Int)) h
  rw [← cnt_sum, ← cnt_sum] at this
  omega
def sg1 (id a : ByteArray) : Bkt := ⟨0, a, [id], 0, 0⟩
def sgB (id : ByteArray) (sg : List ByteArray) : List Bkt := sg.map (sg1 id)
def hit (ad id a i : ByteArray) : Nat := if a = ad ∧ i = id then 1 else 0
theorem cntIds_one (id i : ByteArray) : cntIds [id] i = if i = id then 1 else 0 := by
  by_cases h : i = id
  · simp [cntIds, h]
  · have : ¬ id = i := fun e => h e.symm
    simp [cntIds, h, this]
theorem cnt_sg1 (id ad a i : ByteArray) : cnt1 a i (sg1 id ad) = hit ad id a i := by
  unfold cnt1 sg1 hit
  simp only [cntIds_one]
  by_cases h : ad = a
  · subst h; simp
  · have : ¬ a = ad := fun e => h e.symm
    simp [h, this]
theorem addTo_cnt {id ad a i : ByteArray} {size now : Int} (hm : m.Ok N) : cnt1 a i (addTo m id ad size list now) = hit ad id a i + cnt (m.bk list ad).toList a i := by
  unfold addTo
  cases hb : m.bk list ad with
  | none =>
    simp only [Option.getD_none, Option.toList, List.nil_append, cnt_nil, Nat.add_zero]
    exact cnt_sg1 id ad a i
  | some b0 =>
    obtain ⟨k1, k2⟩ := hm.key _ _ _ hb
    simp only [Option.getD_some, Option.toList, cnt_cons, cnt_nil, Nat.add_zero]
    simp only [cnt1, k2, hit]
    by_cases h : ad = a
    · subst h
      simp only [if_true, cntIds_append, cntIds_one, true_and]
      omega
    · have : ¬ a = ad := fun e => h e.symm
      simp [h, this]
def one (t : Bool) : Nat := if t = true then 1 else 0
theorem one_owe {ad id a i : ByteArray} (how : m.ow ad id = false) : one ((m.owe ad id).ow a i) = one (m.ow a i) + hit ad id a i := by
  unfold one hit
  simp only [Led.owe, owSet]
  by_cases h : a = ad ∧ i = id
  · obtain ⟨rfl, rfl⟩ := h
    simp [how]
  · simp [h]
end
end Go.Proofs.Ythgbpfoadlemaaa

/- DueOnce: what a sequence of deeds keeps. -/
namespace Go.Proofs.Ythgbpfoadlemaaa
open Go.Fw
section
variable {m m' : Led} {N k : Nat} {bs zs : List Bkt} {id : ByteArray} {size list now budget : Int} {c : ByteArray → ByteArray → Nat} {d : Deed} {sg : List ByteArray} {cut C S : List Bkt} {ds : List Deed}
/-- All that was given and is kept: each id once. -/
def OnceR (id : ByteArray) (c : ByteArray → ByteArray → Nat) (st : RelSt) : Prop := ∀ a i bs, AllN st.m bs → c a i + cnt st.fl a i + cnt (sgB id st.sg) a i + cnt bs a i = one (st.m.ow a i)
theorem relStep_once {st : RelSt} {x : Sub × Bool} (hst : RelOk st N k) (h : OnceR id c st) : OnceR id c (relStep id size list now budget st x) := by
  unfold relStep
  split
  · rename_i hc
    simp only [Bool.and_eq_true, Bool.not_eq_true'] at hc
    have how := hc.2
    split
    · intro a i bs hb
      have h1 := h a i bs ⟨hb.nodup, hb.mem⟩
      simp only [sgB, List.map_append, List.map_cons, List.map_nil, cnt_append, cnt_cons, cnt_nil, cnt_sg1] at h1 ⊢
      rw [one_owe how]
      omega
    · have h4 := hst.ok.owe x.1.addr id
      obtain ⟨k1, k2⟩ := addTo_key (id := id) (size := size) (list := list) (now := now) (a := x.1.addr) h4
      have hcnt : ∀ a i, _ = _ := fun a i => addTo_cnt (id := id) (size := size) (list := list) (now := now) (ad := x.1.addr) (a := a) (i := i) h4
      generalize addTo (st.m.owe x.1.addr id) id x.1.addr size list now = b at k1 k2 hcnt
      unfold bump
      split
      · intro a i zs hz
        obtain ⟨bs, hbs⟩ := allN_ex hst.ok
        have h1 := h a i bs hbs
        have hbs' : AllN (st.m.owe x.1.addr id) bs := ⟨hbs.nodup, hbs.mem⟩
        have hp := cnt_perm (del_perm h4 hbs' hz) a i
        have h2 := hcnt a i
        rw [k1, k2] at hp
        simp only [cnt_append, cnt_cons, cnt_nil] at hp h1 h2 ⊢
        show _ = one ((st.m.owe x.1.addr id).ow a i)
        rw [one_owe how]
        omega
      · intro a i zs hz
        obtain ⟨bs, hbs⟩ := allN_ex hst.ok
        obtain ⟨ys, hys⟩ := allN_ex (h4.del b.list b.addr)
        have h1 := h a i bs hbs
        have hbs' : AllN (st.m.owe x.1.addr id) bs := ⟨hbs.nodup, hbs.mem⟩
        have hp := cnt_perm (del_perm h4 hbs' hys) a i
        have hq := cnt_perm (put_perm hys hz) a i
        have h2 := hcnt a i
        rw [k1, k2] at hp
        simp only [cnt_append, cnt_cons] at hp hq h1 h2 ⊢
        show _ = one ((st.m.owe x.1.addr id).ow a i)
        rw [one_owe how]
        omega
  · exact h
theorem rel_once : ∀ (l : List (Sub × Bool)) (st : RelSt) (k : Nat), RelOk st N k → OnceR id c st → OnceR id c (l.foldl (relStep id size list now budget) st)
  | [], _, _, _, h => h
  | y :: l, _, k, h1, h2 => rel_once l _ (k + 1) (relStep_ok (id := id) (size := size) (list := list) (now := now) (budget := budget) (x := y) h1) (relStep_once h1 h2)
def gets (a : ByteArray) (x : Sub × Bool) : Bool := x.2 && takes x.1 && decide (x.1.addr = a)
theorem relStep_ow (st : RelSt) (x : Sub × Bool) (a i : ByteArray) : (relStep id size list now budget st x).m.ow a i = (st.m.ow a i || decide (i = id) && gets a x) := by
  have key : (x.2 && takes x.1) = true → (st.m.owe x.1.addr id).ow a i = (st.m.ow a i || decide (i = id) && gets a x) := by
    intro hc
    simp only [Led.owe, owSet, gets, hc, Bool.true_and]
    by_cases h1 : a = x.1.addr
    · subst h1
      by_cases h2 : i = id <;> simp [h2]
    · have h3 : ¬ x.1.addr = a := fun e => h1 e.symm
      simp [h1, h3]
  unfold relStep
  split
  · rename_i hc
    simp only [Bool.and_eq_true, Bool.not_eq_true'] at hc
    have hc' : (x.2 && takes x.1) = true := by simp [hc.1.1, hc.1.2]
    split
    · exact key hc'
    · rw [← key hc']
      unfold bump
      split <;> rfl
  · rename_i hc
    simp only [Bool.and_eq_true, Bool.not_eq_true', not_and, Bool.not_eq_false] at hc
    cases hg : decide (i = id) && gets a x with
    | false => simp
    | true =>
      simp only [gets, Bool.and_eq_true, decide_eq_true_eq] at hg
      obtain ⟨rfl, ⟨h1, h2⟩, rfl⟩ := hg
      simp [hc ⟨h1, h2⟩]
theorem rel_ow (a i : ByteArray) : ∀ (l : List (Sub × Bool)) (st : RelSt), (l.foldl (relStep id size list now budget) st).m.ow a i = (st.m.ow a i || decide (i = id) && l.any (gets a))
  | [], st => by simp
  | y :: l, st => by
    rw [List.foldl_cons, rel_ow a i l, relStep_ow, List.any_cons]
    cases st.m.ow a i <;> cases decide (i = id) <;> cases gets a y <;> rfl
/-- Whom a deed releases to. -/
def rels (d : Deed) : List ByteArray := if pickI d.do_ 7 < 3 then ((d.subs.zip d.adm).filter fun x => x.2 && takes x.1).map (·.1.addr) else []
theorem any_gets {a : ByteArray} {l : List (Sub × Bool)} : l.any (gets a) = true ↔ a ∈ (l.filter fun x => x.2 && takes x.1).map (·.1.addr) := by
  rw [List.any_eq_true, List.mem_map]
  constructor
  · rintro ⟨x, hx, hg⟩
    simp only [gets, Bool.and_eq_true, decide_eq_true_eq] at hg
    exact ⟨x, List.mem_filter.2 ⟨hx, by simp [hg.1.1, hg.1.2]⟩, hg.2⟩
  · rintro ⟨x, hx, rfl⟩
    obtain ⟨h1, h2⟩ := List.mem_filter.1 hx
    exact ⟨x, h1, by simp only [gets, h2, decide_true, Bool.and_self]⟩
theorem do_ow (hd : DoSpec m d m' sg cut) (a i : ByteArray) : m'.ow a i = true ↔ m.ow a i = true ∨ (i = d.id ∧ a ∈ rels d) := by
  have hno : ¬ pickI d.do_ 7 < 3 → m'.ow = m.ow → (m'.ow a i = true ↔ m.ow a i = true ∨ (i = d.id ∧ a ∈ rels d)) := fun h1 h2 => by simp [rels, h1, h2]
  cases hd with
  | cutNone h1 => exact hno (by omega) rfl
  | cutSome b h1 => exact hno (by omega) rfl
  | due al h1 => exact hno (by omega) rfl
  | drain al h1 => exact hno (by omega) rfl
  | mergeSame h1 => exact hno (by omega) rfl
  | merge al h1 => exact hno (by omega) rfl
  | release h1 =>
    unfold rel
    rw [rel_ow, Bool.or_eq_true, Bool.and_eq_true, decide_eq_true_eq, any_gets]
    simp [rels, h1]
theorem do_once (hd : DoSpec m d m' sg cut) (hm : m.Ok N) (h : ∀ a i bs, AllN m bs → c a i + cnt bs a i = one (m.ow a i)) : ∀ a i bs, AllN m' bs → c a i + (cnt cut a i + cnt (sgB d.id sg) a i) + cnt bs a i = one (m'.ow a i) := by
  obtain ⟨bs, hbs⟩ := allN_ex hm
  intro a i zs hz
  have h1 := h a i bs hbs
  cases hd with
  | cutNone => simpa [sgB, cnt_nil] using h a i zs hz
  | mergeSame => simpa [sgB, cnt_nil] using h a i zs hz
  | cutSome b _ hb =>
    have hp := cnt_perm (del_perm hm hbs hz) a i
    rw [hb] at hp
    simp only [Option.toList, cnt_append] at hp
    show _ = one (m.ow a i)
    simp only [sgB, List.map_nil, cnt_nil]
    omega
  | due al _ hal hmem =>
    have hp := cnt_perm (delAll_perm hm hal hmem hbs hz) a i
    simp only [cnt_append] at hp
    show _ = one (m.ow a i)
    simp only [sgB, List.map_nil, cnt_nil]
    omega
  | drain al _ hal hmem =>
    have hp := cnt_perm (delAll_perm hm hal hmem hbs hz) a i
    simp only [cnt_append] at hp
    show _ = one (m.ow a i)
    simp only [sgB, List.map_nil, cnt_nil]
    omega
  | merge al _ hne hal hmem =>
    have hp := merge_cnt hm hne hbs hal hmem hz a i
    simp only [cnt_append] at hp
    show _ = one (m.ow a i)
    simp only [sgB, List.map_nil, cnt_nil]
    omega
  | release =>
    have hr := rel_once (c := c) (id := d.id) (size := d.n) (list := d.list) (now := d.at_) (budget := pickI d.n 97) (N := N) (d.subs.zip d.adm) ⟨m, [], []⟩ 0 ⟨hm, Nat.le_refl _, Nat.le_refl _⟩ (fun a i bs hb => by simpa [sgB, cnt_nil] using h a i bs hb) a i zs hz
    unfold rel
    omega
theorem do_len (hd : DoSpec m d m' sg cut) (hf : fewD d = true) (hm : m.Ok N) : sg.length ≤ 8 ∧ cut.length ≤ N + 8 := by
  cases hd with
  | cutNone => exact ⟨Nat.zero_le _, Nat.zero_le _⟩
  | mergeSame => exact ⟨Nat.zero_le _, Nat.zero_le _⟩
  | cutSome b => exact ⟨Nat.zero_le _, by simp⟩
  | due al _ hal hmem => exact ⟨Nat.zero_le _, by have := addrs_len hm hal hmem; have := cuts_len (m := m) (l := d.list) (P := oldB d.at_ d.n) (al := al); omega⟩
  | drain al _ hal hmem => exact ⟨Nat.zero_le _, by have := addrs_len hm hal hmem; have := cuts_len (m := m) (l := d.list) (P := fun _ => true) (al := al); omega⟩
  | merge al _ hne hal hmem =>
    refine ⟨Nat.zero_le _, ?_⟩
    have h1 : (mgCut m d.list d.subs al).length ≤ al.length := Nat.le_trans (List.length_filter_le _ _) (List.length_filterMap_le _ _)
    have := addrs_len hm hal hmem
    omega
  | release =>
    have h1 := rel_ok (id := d.id) (size := d.n) (list := d.list) (now := d.at_) (budget := pickI d.n 97) (N := N) (d.subs.zip d.adm) ⟨m, [], []⟩ 0 ⟨hm, Nat.le_refl _, Nat.le_refl _⟩
    simp only [fewD, Bool.and_eq_true, decide_eq_true_eq] at hf
    have h2 : (d.subs.zip d.adm).length ≤ 8 := by rw [List.length_zip]; omega
    have h3 := h1.fl
    have h4 := h1.sg
    unfold rel
    omega
/-- A sequence of deeds, what it cut and what it gave as singles. -/
inductive Once : List Deed → Led → List Bkt → List Bkt → Prop
  | nil : Once [] Led.nil [] []
  | snoc {ds : List Deed} {d : Deed} {m m' : Led} {sg : List ByteArray} {cut C S : List Bkt} : Once ds m C S → DoSpec m d m' sg cut → Once (ds ++ [d]) m' (C ++ cut) (S ++ sgB d.id sg)
theorem Once.runs (h : Once ds m C S) : ∃ rs, Runs Led.nil ds m rs := by
  induction h with
  | nil => exact ⟨[], .nil _⟩
  | snoc _ hd ih => obtain ⟨rs, hr⟩ := ih; exact ⟨_, hr.snoc hd⟩
theorem Once.ok (h : Once ds m C S) (hf : ds.all fewD = true) : m.Ok (bnd ds.length) := by
  obtain ⟨rs, hr⟩ := h.runs
  exact runs_ok hr hf
theorem Once.once (h : Once ds m C S) (hf : ds.all fewD = true) : ∀ a i bs, AllN m bs → cnt C a i + cnt S a i + cnt bs a i = one (m.ow a i) := by
  induction h with
  | nil =>
    intro a i bs hb
    have : bs = [] := List.eq_nil_iff_forall_not_mem.2 fun b hb' => by have := (hb.mem b).1 hb'; cases this
    subst this
    rfl
  | snoc h hd ih =>
    rw [List.all_append, Bool.and_eq_true] at hf
    intro a i bs hb
    have := do_once hd (h.ok hf.1) (ih hf.1) a i bs hb
    rw [cnt_append, cnt_append, ← this]
    omega
theorem Once.ow (h : Once ds m C S) (a i : ByteArray) : m.ow a i = true ↔ ∃ d ∈ ds, i = d.id ∧ a ∈ rels d := by
  induction h with
  | nil => simp [Led.nil]
  | snoc h hd ih =>
    rw [do_ow hd, ih]
    constructor
    · rintro (⟨d, h1, h2⟩ | h)
      · exact ⟨d, List.mem_append.2 (.inl h1), h2⟩
      · exact ⟨_, List.mem_append.2 (.inr (List.mem_singleton.2 rfl)), h⟩
    · rintro ⟨d, h1, h2⟩
      rcases List.mem_append.1 h1 with h1 | h1
      · exact .inl ⟨d, h1, h2⟩
      · rw [List.mem_singleton] at h1
        subst h1
        exact .inr h2
theorem Once.len (h : Once ds m C S) (hf : ds.all fewD = true) : C.length ≤ ds.length * (bnd ds.length + 8) ∧ S.length ≤ ds.length * 8 := by
  induction h with
  | nil => exact ⟨Nat.zero_le _, Nat.zero_le _⟩
  | @snoc ds d m m' sg cut C S h hd ih =>
    rw [List.all_append, Bool.and_eq_true] at hf
    obtain ⟨h1, h2⟩ := ih hf.1
    obtain ⟨h3, h4⟩ := do_len hd (by simpa using hf.2) (h.ok hf.1)
    simp only [List.length_append, List.length_singleton, sgB, List.length_map, Nat.add_mul, Nat.one_mul]
    have h5 : bnd ds.length ≤ bnd (ds.length + 1) := by rw [← bnd_succ]; omega
    have h6 : ds.length * (bnd ds.length + 8) ≤ ds.length * (bnd (ds.length + 1) + 8) := Nat.mul_le_mul_left _ (by omega)
    constructor <;> omega
instance pairBEq : BEq (ByteArray × ByteArray) := instBEqOfDecidableEq
/-- Pairs of address and id. -/
def prs (bs : List Bkt) : List (ByteArray × ByteArray) := bs.flatMap fun b => b.ids.map fun i => (b.addr, i)
theorem prs_len : ∀ bs : List Bkt, (prs bs).length = total bs
  | [] => rfl
  | b :: r => by
    have := prs_len r
    simp only [prs, total, List.flatMap_cons, List.length_append, List.length_map, List.map_cons, List.sum_cons] at this ⊢
    omega
theorem prs_cnt (a i : ByteArray) : ∀ bs : List Bkt, (prs bs).count (a, i) = cnt bs a i
  | [] => rfl
  | b :: r => by
    have ih := prs_cnt a i r
    have h1 : (b.ids.map fun i => (b.addr, i)).count (a, i) = cnt1 a i b := by
      unfold cnt1 cntIds
      generalize b.ids = l
      split
      · rename_i he
        rw [he]
        induction l with
        | nil => rfl
        | cons x l ih =>
          simp only [List.map_cons, List.count_cons, List.filter_cons]
          by_cases hx : x = i
          · simp [hx, ih]
          · simp [hx, ih]
      · rename_i he
        rw [List.count_eq_zero]
        intro hm
        obtain ⟨x, _, hx⟩ := List.mem_map.1 hm
        injection hx with h1 h2
        exact he h1
    simp only [prs, List.flatMap_cons, List.count_append] at ih ⊢
    rw [ih, h1, cnt_cons]
theorem prs_once {f : ByteArray → ByteArray → Bool} (h : ∀ a i, cnt bs a i = one (f a i)) : (prs bs).Nodup ∧ ∀ x, x ∈ prs bs ↔ f x.1 x.2 = true := by
  refine ⟨List.nodup_iff_count.2 fun x => ?_, fun x => ?_⟩
  · rw [show x = (x.1, x.2) from rfl, prs_cnt, h]
    unfold one
    split <;> omega
  · rw [← List.count_pos_iff, show x = (x.1, x.2) from rfl, prs_cnt, h]
    unfold one
    split <;> simp_all
/-- All released pairs. -/
def relPrs (ds : List Deed) : List (ByteArray × ByteArray) := ds.flatMap fun d => (rels d).map fun a => (a, d.id)
theorem relPrs_len : ∀ {ds : List Deed}, ds.all fewD = true → (relPrs ds).length ≤ ds.length * 8
  | [], _ => Nat.zero_le _
  | d :: r, hf => by
    rw [List.all_cons, Bool.and_eq_true] at hf
    have ih := relPrs_len hf.2
    have h1 := hf.1
    simp only [fewD, Bool.and_eq_true, decide_eq_true_eq] at h1
    have h2 : (rels d).length ≤ 8 := by
      unfold rels
      split
      · rw [List.length_map]
        refine Nat.le_trans (List.length_filter_le _ _) ?_
        rw [List.length_zip]; omega
      · exact Nat.zero_le _
    simp only [relPrs, List.flatMap_cons, List.length_append, List.length_map, List.length_cons] at ih ⊢
    omega
theorem Once.total_le (h : Once ds m C S) (hf : ds.all fewD = true) (hb : AllN m bs) : total (C ++ S ++ bs) ≤ ds.length * 8 := by
  obtain ⟨h1, h2⟩ := prs_once (bs := C ++ S ++ bs) (f := m.ow) fun a i => by rw [cnt_append, cnt_append]; exact h.once hf a i bs hb
  rw [← prs_len]
  refine Nat.le_trans (nodup_len h1 (L := relPrs ds) fun x hx => ?_) (relPrs_len hf)
  obtain ⟨d, hd, h3, h4⟩ := (h.ow x.1 x.2).1 ((h2 x).1 hx)
  exact List.mem_flatMap.2 ⟨d, hd, List.mem_map.2 ⟨x.1, h4, by rw [← h3]⟩⟩
/-- What the addresses are owed, all together. -/
theorem Once.sum (h : Once ds m C S) (hf : ds.all fewD = true) (hb : AllN m bs) {O : ByteArray → List ByteArray} (hO : ∀ a, (O a).Nodup ∧ ∀ i, i ∈ O a ↔ m.ow a i = true) {nm : List ByteArray} (hn : nm.Nodup)
    (hall : ∀ d ∈ ds, ∀ a ∈ rels d, a ∈ nm) : (nm.map fun a => (O a).length).sum = total (C ++ S ++ bs) := by
  obtain ⟨h1, h2⟩ := prs_once (bs := C ++ S ++ bs) (f := m.ow) fun a i => by rw [cnt_append, cnt_append]; exact h.once hf a i bs hb
  rw [← prs_len]
  have hp : (nm.flatMap fun a => (O a).map fun i => (a, i)).Perm (prs (C ++ S ++ bs)) := by
    refine perm_of_mem ?_ h1 fun x => ?_
    · unfold List.Nodup
      rw [List.pairwise_flatMap]
      refine ⟨fun a _ => ?_, hn.imp fun hab x hx y hy e => ?_⟩
      · rw [List.pairwise_map]
        exact (hO a).1.imp fun hij e => by injection e with _ e; exact hij e
      · subst e
        obtain ⟨i, _, rfl⟩ := List.mem_map.1 hx
        obtain ⟨j, _, e⟩ := List.mem_map.1 hy
        injection e with e
        exact hab e.symm
    · rw [h2, List.mem_flatMap]
      constructor
      · rintro ⟨a, ha, hx⟩
        obtain ⟨i, hi, rfl⟩ := List.mem_map.1 hx
        exact ((hO a).2 i).1 hi
      · intro hx
        obtain ⟨d, hd, h3, h4⟩ := (h.ow x.1 x.2).1 hx
        exact ⟨x.1, hall d hd _ h4, List.mem_map.2 ⟨x.2, ((hO x.1).2 x.2).2 hx, rfl⟩⟩
  have := hp.length_eq
  rw [← this]
  clear hp this hn hall
  induction nm with
  | nil => rfl
  | cons a r ih => simp only [List.map_cons, List.sum_cons, List.flatMap_cons, List.length_append, List.length_map, ih]
theorem owed_ex (hm : m.Ok N) : ∃ O : ByteArray → List ByteArray, ∀ a, (O a).Nodup ∧ (∀ i, i ∈ O a ↔ m.ow a i = true) ∧ (O a).length ≤ N := by
  have gen : ∀ (a : ByteArray) (L : List ByteArray), ∃ l : List ByteArray, l.Nodup ∧ (∀ i, i ∈ l ↔ i ∈ L ∧ m.ow a i = true) ∧ l.length ≤ L.length := by
    intro a L
    induction L with
    | nil => exact ⟨[], List.nodup_nil, by simp, Nat.le_refl _⟩
    | cons x L ih =>
      obtain ⟨l, h1, h2, h3⟩ := ih
      by_cases hx : x ∈ L ∨ m.ow a x = false
      · refine ⟨l, h1, fun i => ?_, by simp only [List.length_cons]; omega⟩
        rw [h2, List.mem_cons]
        constructor
        · rintro ⟨h, h'⟩; exact ⟨.inr h, h'⟩
        · rintro ⟨h | h, h'⟩
          · subst h
            rcases hx with hx | hx
            · exact ⟨hx, h'⟩
            · rw [hx] at h'; cases h'
          · exact ⟨h, h'⟩
      · obtain ⟨hx1, hx2⟩ := not_or.1 hx
        refine ⟨x :: l, List.nodup_cons.2 ⟨fun h => hx1 ((h2 x).1 h).1, h1⟩, fun i => ?_, by simp only [List.length_cons]; omega⟩
        rw [List.mem_cons, List.mem_cons, h2]
        constructor
        · rintro (rfl | ⟨h, h'⟩)
          · exact ⟨.inl rfl, by simpa using hx2⟩
          · exact ⟨.inr h, h'⟩
        · rintro ⟨h | h, h'⟩
          · exact .inl h
          · exact .inr ⟨h, h'⟩
  have all : ∀ a, ∃ l : List ByteArray, l.Nodup ∧ (∀ i, i ∈ l ↔ m.ow a i = true) ∧ l.length ≤ N := fun a => by
    obtain ⟨L, hL, hc⟩ := hm.ocov a
    obtain ⟨l, h1, h2, h3⟩ := gen a L
    exact ⟨l, h1, fun i => ⟨fun h => ((h2 i).1 h).2, fun h => (h2 i).2 ⟨hc i h, h⟩⟩, by omega⟩
  exact ⟨fun a => (all a).choose, fun a => (all a).choose_spec⟩
end
end Go.Proofs.Ythgbpfoadlemaaa

/- DueOnce: buckets that are read, and the walk through the singles and the total. -/
namespace Go.Proofs.Ythgbpfoadlemaaa
open Go.Fw
section
variable {p : Nat} {m m' : Led} {h : Heap} {F : List Res} {K : Kont} {N : Nat} {q : LPost} {A B C S : List Bkt} {sl : Value} {b : Bkt} {z : Value} {bytes : Nat}
  {v w v0 v1 v2 v3 v4 v5 v6 v7 v8 v10 v11 v12 v13 v14 v15 v16 v17 : Value}
def LotOk (L : List (Bkt × Value)) (X : Res) : Prop := ∀ h', X.has h' → ∀ x ∈ L, RowsR (fun _ => True) h' x.2 1 (x.1.ids.map strRow)
/-- A slice of buckets, the ids of which lie anywhere apart. -/
def lotR (v : Value) (bs : List Bkt) : Res := exR fun y : List (Bkt × Value) × Res => (pureR (y.1.map (·.1) = bs ∧ LotOk y.1 y.2)).star ((vecR v 36 5 (y.1.map rowB)).star y.2)
theorem lot_open {bs : List Bkt} (hs : Sep h (lotR v bs :: F)) : ∃ L X, L.map (·.1) = bs ∧ LotOk L X ∧ Sep h (vecR v 36 5 (L.map rowB) :: X :: F) := by
  obtain ⟨⟨L, X⟩, hs⟩ := hs.ex
  obtain ⟨⟨h1, h2⟩, hs2⟩ := hs.star.pure
  exact ⟨L, X, h1, h2, hs2.star⟩
theorem lot_close {L : List (Bkt × Value)} {X : Res} (h2 : LotOk L X) (hs : Sep h (vecR v 36 5 (L.map rowB) :: X :: F)) : Sep h (lotR v (L.map (·.1)) :: F) :=
  Sep.unex (L, X) ((hs.unstar.add ⟨rfl, h2⟩).unstar)
theorem lot_nil (hs : Sep h F) : Sep h (lotR (.slice none 0 0) [] :: F) :=
  lot_close (L := []) (X := emp) (fun _ _ x hx => by cases hx) hs.addEmp.nilVec
theorem lot_new (hs : Sep h F) : Sep (h.push (.cells #[] 36)) (lotR (.slice (some ⟨h.size, 0, none⟩) 0 0) [] :: F) :=
  lot_close (L := []) (X := emp) (fun _ _ x hx => by cases hx) (hs.addEmp.newVec (rows := []) (e := 36) (sz := 5) (n := 0) rfl (by simp) (by simp))
theorem lot_of {l : List Bkt} (hs : Sep h (bktsR v l :: F)) : Sep h (lotR v l :: F) := by
  obtain ⟨L, rfl, hs, hL⟩ := bkts_apart hs
  exact lot_close hL hs
theorem lot_one {L : List (Bkt × Value)} {X : Res} (h2 : LotOk L X) (hx : X.has h) : ∀ r ∈ L.map rowB, ∀ y ∈ r, oneC y = true := by
  intro r hr
  obtain ⟨x, hxm, rfl⟩ := List.mem_map.1 hr
  obtain ⟨a, c, e⟩ := (h2 h hx x hxm).val
  simp only [rowB]
  rw [e]
  simp [bktRow, go_sem]
theorem lot_append (hs : Sep h (lotR v A :: lotR w B :: F)) (hz : z.cells.size = 5) (hby : 0 < bytes) (hb : (2 * (A.length + B.length) + 200) * bytes ≤ 281474976710656)
    (hk : ∀ v' h', Sep h' (lotR v' (A ++ B) :: F) → K v' h') : oAppend (some (36, 5, bytes, z)) v w K h := by
  obtain ⟨LA, XA, rfl, hA, hs⟩ := lot_open hs
  obtain ⟨LB, XB, rfl, hB, hs⟩ := lot_open (hs.pick 2)
  have hs := hs.sel [2, 2, 0, 0]
  refine s_append (S := fun _ => True) hs hz (by omega) hby (hs.at 2).rows (lot_one hB (hs.at 3)) (by simpa using hb) fun v' h' hs => hk v' h' ?_
  rw [← List.map_append] at hs ⊢
  refine lot_close (X := XA.star XB) (fun h' hx x hm => ?_) (((hs.sel [1, 2, 0, 0]).unstar).swap.del 2)
  obtain ⟨T, T1, T2, h1, h3, _⟩ := hx
  rcases List.mem_append.1 hm with hm | hm
  · exact hA h' ⟨T1, h1⟩ x hm
  · exact hB h' ⟨T2, h3⟩ x hm
theorem lot_push (hs : Sep h (lotR v A :: idsR b sl :: F)) (hz : z.cells.size = 5) (hby : 0 < bytes) (hb : (2 * (A.length + 1) + 200) * bytes ≤ 281474976710656)
    (hk : ∀ v' h', Sep h' (lotR v' (A ++ [b]) :: F) → K v' h') : oBuildSlice (some (36, 5, bytes, z)) 1 [(0, .agg ⟨bktRow b sl⟩)] (fun y h' => oAppend (some (36, 5, bytes, z)) v y K h') h := by
  obtain ⟨LA, XA, rfl, hA, hs⟩ := lot_open hs
  refine s_append_one hs hz (by omega) (by omega) hby rfl rfl (bktRow_one (hs.at 2)) (by simpa using hb) fun v' h' hs => hk v' h' ?_
  have e : LA.map rowB ++ [bktRow b sl] = (LA ++ [(b, sl)]).map rowB := by simp [rowB]
  rw [e] at hs
  have e2 : LA.map (·.1) ++ [b] = (LA ++ [(b, sl)]).map (·.1) := by simp
  rw [e2]
  refine lot_close (X := XA.star (idsR b sl)) (fun h' hx x hm => ?_) (((hs.sel [1, 1, 0]).unstar).swap)
  obtain ⟨T, T1, T2, h1, h3, _⟩ := hx
  rcases List.mem_append.1 hm with hm | hm
  · exact hA h' ⟨T1, h1⟩ x hm
  · rw [List.mem_singleton] at hm
    subst hm
    exact Res.has.rows ⟨T2, h3⟩
/-- An element of a slice, in all heaps in which it lies so. -/
theorem elem_all {sz k : Nat} {rows : List (List Value)} {r : List Value} (hr : ∀ h', Sep h' F → RowsR (fun _ => True) h' v sz rows) (hs : Sep h F) (hk : k < rows.length) (hrk : rows[k] = r) (hsz : 0 < sz) : ∃ b o : Nat, ∀ h', Sep h' F →
    (∀ K, oIndexAddr (.slice sz) v (.int .i64 (k : Int)) K h' = K (.pointer (some ⟨b, o, none⟩)) h') ∧ (∀ j, j < sz → cellAt h' b (o + j) = r[j]?) ∧ (∀ K, oLoad (.agg sz) (.pointer (some ⟨b, o, none⟩)) K h' = K (.agg ⟨r⟩) h') := by
  obtain ⟨b, o, cap, rfl, _, _⟩ := (hr h hs).at_ hk
  refine ⟨b, o + k * sz, fun h' hs' => ?_⟩
  obtain ⟨b1, o1, h1, h2, h3⟩ := elem_at (hr h' hs') hk hrk hsz
  have h4 := h1 fun x _ => x = .pointer (some ⟨b1, o1, none⟩)
  rw [index_slice (by omega) (by omega)] at h4
  have h5 : Value.pointer (some ⟨b, o + (k : Int).toNat * sz, none⟩) = .pointer (some ⟨b1, o1, none⟩) := h4.mpr rfl
  injection h5 with h5
  injection h5 with h5
  injection h5 with h6 h7
  rw [Int.toNat_natCast] at h7
  subst h6
  subst h7
  exact ⟨h1, h2, h3⟩
structure SgI where
  k : Nat
  v6 : Value
set_option maxRecDepth 16000 in
/-- The singles of a deed. -/
theorem single_loop {l : List DeedV} {i : Nat} {sg : List ByteArray} (hi : i < l.length) (hv : ∀ h', Sep h' F → RowsR (fun _ => True) h' v0 8 (l.map dRow)) (hb : S.length + sg.length ≤ 4294967296)
    (hs : Sep h (lotR v6 S :: strsR v8 sg :: F)) (hq : ∀ h' v6' v10, Sep h' (lotR v6' (S ++ sgB l[i].1.id sg) :: strsR v8 sg :: F) → f3_T26 q [v0, v2, v3, v4, v5, v6', .int .i64 i, v8, v10, v11, v12, v13, v14, v15, v16, v17] h') :
    f3_T31 q [v0, v2, v3, v4, v5, v6, .int .i64 i, v8, .int .i64 0, v11, v12, v13, v14, v15, v16, v17] h := by
  refine LoopS.st (σ := SgI) (fun s => [v0, v2, v3, v4, v5, s.v6, .int .i64 i, v8, .int .i64 s.k, v11, v12, v13, v14, v15, v16, v17]) (fun s h' => s.k ≤ sg.length ∧ Sep h' (lotR s.v6 (S ++ sgB l[i].1.id (sg.take s.k)) :: strsR v8 sg :: F)) (fun s => sg.length - s.k) ⟨0, v6⟩ rfl ⟨Nat.zero_le _, by simpa [sgB] using hs⟩ ?_
  rintro ⟨k, v6⟩ h2 ⟨hkl, hs⟩
  simp only at hkl hs ⊢
  have hlv : ∀ K, oLen (some (.slice 9)) v8 K h2 = K (.int .i64 sg.length) h2 := fun K => by rw [len_val (hs.at 1).rows, List.length_map]
  by_cases hlt : k < sg.length
  · have hdk : decide ((k : Int) < (sg.length : Int)) = true := by simp; omega
    obtain ⟨b, o, hidx, hcell, _⟩ := elem_at (r := strRow sg[k]) (hs.at 1).rows (by simpa using hlt) (by simp) (by omega)
    have c0 : cellAt h2 b o = some (.string sg[k]) := hcell 0 (by omega)
    obtain ⟨b1, o1, hidx1, hcell1, _⟩ := elem_at (r := dRow l[i]) (hv h2 hs.tail.tail) (by simpa using hi) (by simp) (by omega)
    have c4 : cellAt h2 b1 (o1 + 4) = some (.string l[i].1.id) := hcell1 4 (by omega)
    simp only [f3_T32, go_sem, hlv, hdk, hidx, c0, hidx1, c4]
    rw [build_slice_of (cs := ⟨([l[i].1.id].map strRow).flatten⟩) (by omega) (fill_one rfl)]
    have hs := hs.newVec (rows := [l[i].1.id].map strRow) (e := 9) (sz := 1) (n := 1) rfl (by simp [strRow]) (by simp [strRow, go_sem])
    generalize h2.push (.cells ⟨([l[i].1.id].map strRow).flatten⟩ 9) = h3, h2.size = b6 at hs ⊢
    rw [build_of (cs := ⟨bktRow (sg1 l[i].1.id sg[k]) (.slice (some ⟨b6, 0, none⟩) 1 1)⟩) rfl]
    refine lot_push (b := sg1 l[i].1.id sg[k]) (hs.swap) rfl (by omega) (by simp [sgB]; omega) fun v6' h4 hs => ?_
    simp (disch := omega) only [go_sem, bin_add_in]
    refine NextSt.mk ⟨k + 1, v6'⟩ rfl ⟨hlt, ?_⟩ (by simp only; omega)
    simp only
    rw [List.take_succ_eq_append_getElem hlt, sgB, List.map_append, ← List.append_assoc]
    exact hs
  · have hdk : decide ((k : Int) < (sg.length : Int)) = false := by simp; omega
    rw [List.take_of_length_le (by omega)] at hs
    simp only [f3_T32, go_sem, hlv, hdk]
    exact hq h2 v6 _ hs
set_option maxRecDepth 16000 in
/-- The ids are counted. -/
theorem total_loop {L : List (Bkt × Value)} (hi : InF F v11 L) (hl : L.length ≤ 17179869184) (ht : total (L.map (·.1)) ≤ 1000) (hs : Sep h F)
    (hq : ∀ h' v13, Sep h' F → f3_T4 q [v0, v2, v3, v4, v5, v6, v7, v8, v10, v11, .int .i64 (total (L.map (·.1))), v13, v14, v15, v16, v17] h') :
    f3_T20 q [v0, v2, v3, v4, v5, v6, v7, v8, v10, v11, .int .i64 0, .int .i64 0, v14, v15, v16, v17] h := by
  refine LoopS.st (σ := Nat) (fun k => [v0, v2, v3, v4, v5, v6, v7, v8, v10, v11, .int .i64 (total ((L.take k).map (·.1))), .int .i64 k, v14, v15, v16, v17]) (fun k h' => Sep h' F ∧ k ≤ L.length) (fun k => L.length - k) 0 rfl ⟨hs, Nat.zero_le _⟩ ?_
  rintro k h2 ⟨hs, hkl⟩
  by_cases hlt : k < L.length
  · have hdk : decide ((k : Int) < (L.length : Int)) = true := by simp; omega
    obtain ⟨b, o, hidx, hcell, _⟩ := elem_at (r := rowB L[k]) (hi.rows h2 hs) (by simpa using hlt) (by simp) (by omega)
    have c2 : cellAt h2 b (o + 2) = some L[k].2 := hcell 2 (by omega)
    have hlv : ∀ K, oLen (some (.slice 9)) L[k].2 K h2 = K (.int .i64 L[k].1.ids.length) h2 := fun K => by rw [len_val (hi.ids h2 hs _ (List.getElem_mem hlt)), List.length_map]
    have e : total ((L.take (k + 1)).map (·.1)) = total ((L.take k).map (·.1)) + L[k].1.ids.length := by
      rw [List.take_succ_eq_append_getElem hlt, List.map_append, total_append]
      simp [total]
    have e2 : total ((L.take (k + 1)).map (·.1)) ≤ total (L.map (·.1)) := by
      have : L.map (·.1) = (L.take (k + 1)).map (·.1) ++ (L.drop (k + 1)).map (·.1) := by rw [← List.map_append, List.take_append_drop]
      rw [this, total_append]
      omega
    simp (disch := omega) only [f3_T21, go_sem, hi.lenV hs, hdk, hidx, c2, hlv, bin_add_in]
    refine NextSt.mk (k + 1) ?_ ⟨hs, hlt⟩ (by omega)
    rw [e]
    rfl
  · have hdk : decide ((k : Int) < (L.length : Int)) = false := by simp; omega
    simp only [f3_T21, go_sem, hi.lenV hs, hdk]
    rw [List.take_of_length_le (by omega)]
    exact hq h2 _ hs
end
end Go.Proofs.Ythgbpfoadlemaaa

/- DueOnce: the walk through what was released. -/
namespace Go.Proofs.Ythgbpfoadlemaaa
open Go.Fw
def sumO (O : ByteArray → List ByteArray) (nm : List ByteArray) : Nat := (nm.map fun a => (O a).length).sum
theorem sumO_snoc (O : ByteArray → List ByteArray) (nm : List ByteArray) (a : ByteArray) : sumO O (nm ++ [a]) = sumO O nm + (O a).length := by simp [sumO]
theorem sumO_le {O : ByteArray → List ByteArray} {N : Nat} (h : ∀ a, (O a).length ≤ N) : ∀ nm, sumO O nm ≤ nm.length * N
  | [] => Nat.zero_le _
  | a :: r => by
    have := sumO_le h r
    have := h a
    simp only [sumO, List.map_cons, List.sum_cons, List.length_cons, Nat.add_mul, Nat.one_mul] at *
    omega
/-- What stands while the names are gathered. -/
structure Ctx (F : List Res) (l : List DeedV) (v0 v11 : Value) (L : List (Bkt × Value)) (m : Led) (p N : Nat) (O : ByteArray → List ByteArray) : Prop where
  deeds : ∀ h', Sep h' F → Deeds (fun _ => True) h' v0 l
  all : InF F v11 L
  led : ∀ h', Sep h' F → (ledR p m none).has h'
  ok : m.Ok N
  hN : N ≤ 1073741824
  tot : total (L.map (·.1)) ≤ 1000
  len : L.length ≤ 17179869184
  cnt : ∀ x ∈ l, ∀ a ∈ rels x.1, cnt (L.map (·.1)) a x.1.id = 1 ∧ m.ow a x.1.id = true
  own : ∀ a, (O a).Nodup ∧ (∀ i, i ∈ O a ↔ m.ow a i = true) ∧ (O a).length ≤ N
section
variable {p : Nat} {m m' : Led} {h : Heap} {F : List Res} {K : Kont} {N : Nat} {q : LPost} {L : List (Bkt × Value)} {O : ByteArray → List ByteArray} {l : List DeedV} {nm : List ByteArray}
  {v w v0 v1 v2 v3 v4 v5 v6 v7 v8 v10 v11 v12 v13 v14 v15 v16 v17 : Value}
theorem Ctx.al (c : Ctx F l v0 v11 L m p N O) {a : ByteArray} {al : List ByteArray} (h1 : al.Pairwise ltB) (h2 : ∀ i, i ∈ al ↔ m.ow a i = true) : al.length = (O a).length :=
  (perm_of_mem (h1.imp fun hab e => by subst e; exact ltB_irrefl _ hab) (c.own a).1 fun i => (h2 i).trans ((c.own a).2.1 i).symm).length_eq
theorem mem_rels {d : Deed} {k : Nat} (hrel : pickI d.do_ 7 < 3) (hk : k < d.subs.length) (hk2 : k < d.adm.length) (ha : d.adm[k] = true) (ht : takes d.subs[k] = true) : d.subs[k].addr ∈ rels d := by
  simp only [rels, if_pos hrel]
  refine List.mem_map.2 ⟨(d.subs[k], d.adm[k]), List.mem_filter.2 ⟨?_, by simp [ha, ht]⟩, rfl⟩
  rw [← List.getElem_zip (h := by rw [List.length_zip]; omega)]
  exact List.getElem_mem _
set_option maxRecDepth 16000 in
theorem once_round {x : DeedV} {i k : Nat} (c : Ctx F l v0 v11 L m p N O) (hi : i < l.length) (hx : l[i] = x) (hf : fewD x.1 = true) (hrel : pickI x.1.do_ 7 < 3) (hk : k < x.1.subs.length) (hn : nm.Nodup) (hnl : nm.length ≤ 1000) (hs : Sep h (strsR v15 nm :: F))
    (hq : ∀ h' v15' nm', nm'.Nodup → (∀ a ∈ nm, a ∈ nm') → nm'.length ≤ nm.length + 1 → (∀ hk2 : k < x.1.adm.length, x.1.adm[k] = true → takes x.1.subs[k] = true → x.1.subs[k].addr ∈ nm') → Sep h' (strsR v15' nm' :: F) →
      f3_T18 q [v0, v2, v3, ptr p, v5, v6, v7, v8, v10, v11, v12, v13, .int .i64 (sumO O nm'), v15', .int .i64 i, .int .i64 k] h') :
    f3_T17 q [v0, v2, v3, ptr p, v5, v6, v7, v8, v10, v11, v12, v13, .int .i64 (sumO O nm), v15, .int .i64 i, .int .i64 k] h := by
  obtain ⟨b0, o0, hat⟩ := elem_all (r := dRow x) (fun h' hs => (c.deeds h' hs).1) hs.tail (k := i) (by simpa using hi) (by simp [hx]) (by omega)
  have hxm : x ∈ l := hx ▸ List.getElem_mem hi
  obtain ⟨hidx, hcell, _⟩ := hat h hs.tail
  have hin := (c.deeds h hs.tail).2 x hxm
  obtain ⟨d, vs, va⟩ := x
  simp only at hf hrel hk hq hin
  simp only [fewD, Bool.and_eq_true, decide_eq_true_eq] at hf
  have c0 : cellAt h b0 (o0 + 0) = some (.int .i64 d.do_) := hcell 0 (by omega)
  have c6 : cellAt h b0 (o0 + 6) = some vs := hcell 6 (by omega)
  have hdk : decide ((k : Int) < (d.subs.length : Int)) = true := by simp; omega
  have hlv6 : ∀ K, oLen (some (.slice 40)) vs K h = K (.int .i64 d.subs.length) h := fun K => by rw [len_val hin.1, List.length_map]
  have hrl : decide (pickI d.do_ 7 < 3) = true := by simp [hrel]
  obtain ⟨b2, o2, hidx2, _, hload2⟩ := elem_at (r := subRow d.subs[k]) hin.1 (by simpa using hk) (by simp) (by omega)
  simp -implicitDefEqProofs only [f3_T17, go_sem, hidx, c6, hlv6, hdk, c0]
  refine l_pick (by omega) (by omega) ?_
  simp -implicitDefEqProofs only [go_sem, hidx, c6, hrl, hidx2, hload2]
  refine s_alloc hs fun h3 y hs => ?_
  refine s_store hs rfl rfl (by simp [subRow, go_sem]) fun h4 hs => ?_
  obtain ⟨hidx, hcell, _⟩ := hat h4 hs.tail.tail
  have hin := (c.deeds h4 hs.tail.tail).2 _ hxm
  have c4 : cellAt h4 b0 (o0 + 4) = some (.string d.id) := hcell 4 (by omega)
  have c7 : cellAt h4 b0 (o0 + 7) = some va := hcell 7 (by omega)
  have e1 : cellAt h4 y 1 = some (.string d.subs[k].addr) := (hs.at 0).cell 1
  have e2 : cellAt h4 y 2 = some (.int .i64 d.subs[k].mode) := (hs.at 0).cell 2
  have hlv7 : ∀ K, oLen (some (.slice 4)) va K h4 = K (.int .i64 d.adm.length) h4 := fun K => by rw [len_val hin.2, List.length_map]
  have hskip : (∀ hk2 : k < d.adm.length, d.adm[k] = true → takes d.subs[k] = true → d.subs[k].addr ∈ nm) → f3_T18 q [v0, v2, v3, ptr p, v5, v6, v7, v8, v10, v11, v12, v13, .int .i64 (sumO O nm), v15, .int .i64 i, .int .i64 k] h4 :=
    fun hh => hq h4 v15 nm hn (fun _ h => h) (by omega) hh hs.tail
  by_cases hk2 : k < d.adm.length
  · have d7 : decide ((d.adm.length : Int) ≤ (k : Int)) = false := by simp; omega
    obtain ⟨b3, o3, hidx3, hcell3, _⟩ := elem_at (r := boolRow d.adm[k]) hin.2 (by simpa using hk2) (by simp) (by omega)
    have c3 : cellAt h4 b3 o3 = some (.bool d.adm[k]) := hcell3 0 (by omega)
    cases ha : d.adm[k] with
    | false =>
      rw [ha] at c3
      simp -implicitDefEqProofs only [go_sem, hidx, c7, hlv7, d7, hidx3, c3, Bool.not_false]
      exact hskip fun _ h1 => by rw [ha] at h1; cases h1
    | true =>
      rw [ha] at c3
      have hmode : (decide (d.subs[k].mode = 0) = true) ∨ (decide (d.subs[k].mode = 0) = false ∧ decide (d.subs[k].mode = 2) = true) ∨ (decide (d.subs[k].mode = 0) = false ∧ decide (d.subs[k].mode = 2) = false ∧ decide (d.subs[k].mode = 1) = true) ∨
          (decide (d.subs[k].mode = 0) = false ∧ decide (d.subs[k].mode = 2) = false ∧ decide (d.subs[k].mode = 1) = false) := by
        cases decide (d.subs[k].mode = 0) <;> cases decide (d.subs[k].mode = 2) <;> cases decide (d.subs[k].mode = 1) <;> simp
      have htk : takes d.subs[k] = (decide (d.subs[k].mode = 0) || decide (d.subs[k].mode = 2) || decide (d.subs[k].mode = 1)) := rfl
      rcases hmode with m0 | ⟨m0, m2⟩ | ⟨m0, m2, m1⟩ | ⟨m0, m2, m1⟩
      · simp -implicitDefEqProofs only [go_sem, Nat.zero_add, hidx, c7, hlv7, d7, hidx3, c3, Bool.not_true, e2, m0, e1, c4]
        refine l_count (c.all.bkts hs.tail.tail) (by have := c.tot; omega) (by have := c.len; omega) ?_
        have htak : takes d.subs[k] = true := by rw [htk]; simp [m0]
        have hmr := mem_rels hrel hk hk2 ha htak
        obtain ⟨hc1, how⟩ := c.cnt _ hxm _ hmr
        simp only at hc1 how
        rw [hc1]
        simp -implicitDefEqProofs only [go_sem, Int.natCast_one, decide_true, Bool.not_true, Nat.zero_add, e1, hidx, c4]
        refine l_owed (c.led h4 hs.tail.tail) c.ok (by have := c.hN; omega) hs fun h5 va5 al hal hmem hs => ?_
        have hlal := c.al hal hmem
        have hOl := (c.own d.subs[k].addr).2.2
        have hN := c.hN
        refine has_fn (hs.at 0).rows (by omega) ?_
        have hm1 : memB d.id al = true := memB_iff.2 ((hmem _).2 how)
        have e1 : cellAt h5 y 1 = some (.string d.subs[k].addr) := (hs.at 1).cell 1
        simp -implicitDefEqProofs only [go_sem, hm1, Bool.not_true, e1]
        refine has_fn (hs.at 2).rows (by omega) ?_
        cases hmn : memB d.subs[k].addr nm with
        | true =>
          simp only [go_sem, Bool.not_true]
          exact hq h5 v15 nm hn (fun _ h => h) (by omega) (fun _ _ _ => memB_iff.1 hmn) hs.tail.tail
        | false =>
          have hnot : d.subs[k].addr ∉ nm := fun hh => by rw [memB_iff.2 hh] at hmn; cases hmn
          simp -implicitDefEqProofs only [go_sem, Bool.not_false, e1]
          refine s_append_one (hs.sel [2, 1]) (row := strRow d.subs[k].addr) rfl (by omega) (by omega) (by omega) rfl rfl (by simp [strRow, go_sem]) (by rw [List.length_map]; omega) fun v15' h6 hs => ?_
          have e1 : cellAt h6 y 1 = some (.string d.subs[k].addr) := (hs.at 1).cell 1
          simp -implicitDefEqProofs only [go_sem, e1]
          refine l_owed (c.led h6 hs.tail.tail.tail) c.ok (by omega) hs fun h7 va7 al7 hal7 hmem7 hs => ?_
          have hl7 := c.al hal7 hmem7
          have hlv8 : ∀ K, oLen (some (.slice 9)) va7 K h7 = K (.int .i64 al7.length) h7 := fun K => by rw [len_val (hs.at 0).rows, List.length_map]
          have hsl := sumO_le (O := O) (fun a => (c.own a).2.2) nm
          have hsl2 : nm.length * N ≤ 1000 * 1073741824 := Nat.mul_le_mul hnl hN
          simp -implicitDefEqProofs (disch := omega) only [go_sem, hlv8, bin_add_in]
          have e9 : (sumO O nm : Int) + (al7.length : Int) = ((sumO O (nm ++ [d.subs[k].addr]) : Nat) : Int) := by rw [sumO_snoc, hl7]; rfl
          rw [e9]
          have e10 : nm.map strRow ++ [strRow d.subs[k].addr] = (nm ++ [d.subs[k].addr]).map strRow := by simp
          rw [e10] at hs
          refine hq h7 v15' (nm ++ [d.subs[k].addr]) ?_ (fun _ h => List.mem_append.2 (.inl h)) (by simp) (fun _ _ _ => List.mem_append.2 (.inr (List.mem_singleton.2 rfl))) ((hs.tail.del 1).del 1)
          rw [List.nodup_append]
          exact ⟨hn, by simp, fun a ha b hb e => by rw [List.mem_singleton] at hb; subst hb; subst e; exact hnot ha⟩
      · simp -implicitDefEqProofs only [go_sem, Nat.zero_add, hidx, c7, hlv7, d7, hidx3, c3, Bool.not_true, Bool.not_false, e2, m0, m2, e1, c4]
        refine l_count (c.all.bkts hs.tail.tail) (by have := c.tot; omega) (by have := c.len; omega) ?_
        have htak : takes d.subs[k] = true := by rw [htk]; simp [m0, m2]
        have hmr := mem_rels hrel hk hk2 ha htak
        obtain ⟨hc1, how⟩ := c.cnt _ hxm _ hmr
        simp only at hc1 how
        rw [hc1]
        simp -implicitDefEqProofs only [go_sem, Int.natCast_one, decide_true, Bool.not_true, Nat.zero_add, e1, hidx, c4]
        refine l_owed (c.led h4 hs.tail.tail) c.ok (by have := c.hN; omega) hs fun h5 va5 al hal hmem hs => ?_
        have hlal := c.al hal hmem
        have hOl := (c.own d.subs[k].addr).2.2
        have hN := c.hN
        refine has_fn (hs.at 0).rows (by omega) ?_
        have hm1 : memB d.id al = true := memB_iff.2 ((hmem _).2 how)
        have e1 : cellAt h5 y 1 = some (.string d.subs[k].addr) := (hs.at 1).cell 1
        simp -implicitDefEqProofs only [go_sem, hm1, Bool.not_true, e1]
        refine has_fn (hs.at 2).rows (by omega) ?_
        cases hmn : memB d.subs[k].addr nm with
        | true =>
          simp only [go_sem, Bool.not_true]
          exact hq h5 v15 nm hn (fun _ h => h) (by omega) (fun _ _ _ => memB_iff.1 hmn) hs.tail.tail
        | false =>
          have hnot : d.subs[k].addr ∉ nm := fun hh => by rw [memB_iff.2 hh] at hmn; cases hmn
          simp -implicitDefEqProofs only [go_sem, Bool.not_false, e1]
          refine s_append_one (hs.sel [2, 1]) (row := strRow d.subs[k].addr) rfl (by omega) (by omega) (by omega) rfl rfl (by simp [strRow, go_sem]) (by rw [List.length_map]; omega) fun v15' h6 hs => ?_
          have e1 : cellAt h6 y 1 = some (.string d.subs[k].addr) := (hs.at 1).cell 1
          simp -implicitDefEqProofs only [go_sem, e1]
          refine l_owed (c.led h6 hs.tail.tail.tail) c.ok (by omega) hs fun h7 va7 al7 hal7 hmem7 hs => ?_
          have hl7 := c.al hal7 hmem7
          have hlv8 : ∀ K, oLen (some (.slice 9)) va7 K h7 = K (.int .i64 al7.length) h7 := fun K => by rw [len_val (hs.at 0).rows, List.length_map]
          have hsl := sumO_le (O := O) (fun a => (c.own a).2.2) nm
          have hsl2 : nm.length * N ≤ 1000 * 1073741824 := Nat.mul_le_mul hnl hN
          simp -implicitDefEqProofs (disch := omega) only [go_sem, hlv8, bin_add_in]
          have e9 : (sumO O nm : Int) + (al7.length : Int) = ((sumO O (nm ++ [d.subs[k].addr]) : Nat) : Int) := by rw [sumO_snoc, hl7]; rfl
          rw [e9]
          have e10 : nm.map strRow ++ [strRow d.subs[k].addr] = (nm ++ [d.subs[k].addr]).map strRow := by simp
          rw [e10] at hs
          refine hq h7 v15' (nm ++ [d.subs[k].addr]) ?_ (fun _ h => List.mem_append.2 (.inl h)) (by simp) (fun _ _ _ => List.mem_append.2 (.inr (List.mem_singleton.2 rfl))) ((hs.tail.del 1).del 1)
          rw [List.nodup_append]
          exact ⟨hn, by simp, fun a ha b hb e => by rw [List.mem_singleton] at hb; subst hb; subst e; exact hnot ha⟩
      · simp -implicitDefEqProofs only [go_sem, Nat.zero_add, hidx, c7, hlv7, d7, hidx3, c3, Bool.not_true, Bool.not_false, e2, m0, m2, m1, e1, c4]
        refine l_count (c.all.bkts hs.tail.tail) (by have := c.tot; omega) (by have := c.len; omega) ?_
        have htak : takes d.subs[k] = true := by rw [htk]; simp [m0, m2, m1]
        have hmr := mem_rels hrel hk hk2 ha htak
        obtain ⟨hc1, how⟩ := c.cnt _ hxm _ hmr
        simp only at hc1 how
        rw [hc1]
        simp -implicitDefEqProofs only [go_sem, Int.natCast_one, decide_true, Bool.not_true, Nat.zero_add, e1, hidx, c4]
        refine l_owed (c.led h4 hs.tail.tail) c.ok (by have := c.hN; omega) hs fun h5 va5 al hal hmem hs => ?_
        have hlal := c.al hal hmem
        have hOl := (c.own d.subs[k].addr).2.2
        have hN := c.hN
        refine has_fn (hs.at 0).rows (by omega) ?_
        have hm1 : memB d.id al = true := memB_iff.2 ((hmem _).2 how)
        have e1 : cellAt h5 y 1 = some (.string d.subs[k].addr) := (hs.at 1).cell 1
        simp -implicitDefEqProofs only [go_sem, hm1, Bool.not_true, e1]
        refine has_fn (hs.at 2).rows (by omega) ?_
        cases hmn : memB d.subs[k].addr nm with
        | true =>
          simp only [go_sem, Bool.not_true]
          exact hq h5 v15 nm hn (fun _ h => h) (by omega) (fun _ _ _ => memB_iff.1 hmn) hs.tail.tail
        | false =>
          have hnot : d.subs[k].addr ∉ nm := fun hh => by rw [memB_iff.2 hh] at hmn; cases hmn
          simp -implicitDefEqProofs only [go_sem, Bool.not_false, e1]
          refine s_append_one (hs.sel [2, 1]) (row := strRow d.subs[k].addr) rfl (by omega) (by omega) (by omega) rfl rfl (by simp [strRow, go_sem]) (by rw [List.length_map]; omega) fun v15' h6 hs => ?_
          have e1 : cellAt h6 y 1 = some (.string d.subs[k].addr) := (hs.at 1).cell 1
          simp -implicitDefEqProofs only [go_sem, e1]
          refine l_owed (c.led h6 hs.tail.tail.tail) c.ok (by omega) hs fun h7 va7 al7 hal7 hmem7 hs => ?_
          have hl7 := c.al hal7 hmem7
          have hlv8 : ∀ K, oLen (some (.slice 9)) va7 K h7 = K (.int .i64 al7.length) h7 := fun K => by rw [len_val (hs.at 0).rows, List.length_map]
          have hsl := sumO_le (O := O) (fun a => (c.own a).2.2) nm
          have hsl2 : nm.length * N ≤ 1000 * 1073741824 := Nat.mul_le_mul hnl hN
          simp -implicitDefEqProofs (disch := omega) only [go_sem, hlv8, bin_add_in]
          have e9 : (sumO O nm : Int) + (al7.length : Int) = ((sumO O (nm ++ [d.subs[k].addr]) : Nat) : Int) := by rw [sumO_snoc, hl7]; rfl
          rw [e9]
          have e10 : nm.map strRow ++ [strRow d.subs[k].addr] = (nm ++ [d.subs[k].addr]).map strRow := by simp
          rw [e10] at hs
          refine hq h7 v15' (nm ++ [d.subs[k].addr]) ?_ (fun _ h => List.mem_append.2 (.inl h)) (by simp) (fun _ _ _ => List.mem_append.2 (.inr (List.mem_singleton.2 rfl))) ((hs.tail.del 1).del 1)
          rw [List.nodup_append]
          exact ⟨hn, by simp, fun a ha b hb e => by rw [List.mem_singleton] at hb; subst hb; subst e; exact hnot ha⟩
      · simp -implicitDefEqProofs only [go_sem, Nat.zero_add, hidx, c7, hlv7, d7, hidx3, c3, Bool.not_true, Bool.not_false, e2, m0, m2, m1]
        exact hskip fun _ _ h2 => by rw [htk, m0, m2, m1] at h2; cases h2
  · have d7 : decide ((d.adm.length : Int) ≤ (k : Int)) = true := by simp; omega
    simp -implicitDefEqProofs only [go_sem, hidx, c7, hlv7, d7]
    exact hskip fun hk2' => absurd hk2' hk2
end
end Go.Proofs.Ythgbpfoadlemaaa

/- DueOnce: the loops and the law. -/
namespace Go.Proofs.Ythgbpfoadlemaaa
open Go.Fw
section
variable {p : Nat} {m m' : Led} {h : Heap} {F : List Res} {K : Kont} {N : Nat} {q : LPost} {L : List (Bkt × Value)} {O : ByteArray → List ByteArray} {l : List DeedV} {nm : List ByteArray}
  {v w v0 v1 v2 v3 v4 v5 v6 v7 v8 v10 v11 v12 v13 v14 v15 v16 v17 : Value}
set_option maxRecDepth 16000 in
theorem once_exit {x : DeedV} {i k : Nat} (c : Ctx F l v0 v11 L m p N O) (hi : i < l.length) (hx : l[i] = x) (hk : k < x.1.subs.length → ¬ pickI x.1.do_ 7 < 3) (hs : Sep h F)
    (hq : q (.exit 8) [v0, v2, v3, v4, v5, v6, v7, v8, v10, v11, v12, v13, v14, v15, .int .i64 i, .int .i64 k] h) :
    f3_T17 q [v0, v2, v3, v4, v5, v6, v7, v8, v10, v11, v12, v13, v14, v15, .int .i64 i, .int .i64 k] h := by
  obtain ⟨b0, o0, hidx, hcell, _⟩ := elem_at (r := dRow x) (c.deeds h hs).1 (k := i) (by simpa using hi) (by simp [hx]) (by omega)
  have hxm : x ∈ l := hx ▸ List.getElem_mem hi
  have hin := (c.deeds h hs).2 x hxm
  obtain ⟨d, vs, va⟩ := x
  simp only at hk hin
  have c0 : cellAt h b0 (o0 + 0) = some (.int .i64 d.do_) := hcell 0 (by omega)
  have c6 : cellAt h b0 (o0 + 6) = some vs := hcell 6 (by omega)
  have hlv6 : ∀ K, oLen (some (.slice 40)) vs K h = K (.int .i64 d.subs.length) h := fun K => by rw [len_val hin.1, List.length_map]
  by_cases hlt : k < d.subs.length
  · have hdk : decide ((k : Int) < (d.subs.length : Int)) = true := by simp; omega
    have hrl : decide (pickI d.do_ 7 < 3) = false := by simpa using hk hlt
    simp -implicitDefEqProofs only [f3_T17, go_sem, hidx, c6, hlv6, hdk, c0]
    refine l_pick (by omega) (by omega) ?_
    simp -implicitDefEqProofs only [go_sem, hrl]
    exact hq
  · have hdk : decide ((k : Int) < (d.subs.length : Int)) = false := by simp; omega
    simp -implicitDefEqProofs only [f3_T17, go_sem, hidx, c6, hlv6, hdk]
    exact hq
structure NmI where
  k : Nat
  nm : List ByteArray
  v15 : Value
structure NmOk (d : Deed) (nm0 : List ByteArray) (s : NmI) : Prop where
  le : s.k ≤ d.subs.length
  nodup : s.nm.Nodup
  sub : ∀ a ∈ nm0, a ∈ s.nm
  len : s.nm.length ≤ nm0.length + s.k
  done : ∀ j, j < s.k → ∀ (h1 : j < d.subs.length) (h2 : j < d.adm.length), d.adm[j] = true → takes d.subs[j] = true → d.subs[j].addr ∈ s.nm
theorem NmOk.all {d : Deed} {s : NmI} (h : NmOk d nm s) (hk : s.k < d.subs.length → ¬ pickI d.do_ 7 < 3) : ∀ a ∈ rels d, a ∈ s.nm := by
  intro a ha
  unfold rels at ha
  split at ha
  · rename_i hr
    obtain ⟨y, hy, rfl⟩ := List.mem_map.1 ha
    obtain ⟨h1, h2⟩ := List.mem_filter.1 hy
    obtain ⟨j, hj, rfl⟩ := List.mem_iff_getElem.1 h1
    rw [List.length_zip] at hj
    simp only [List.getElem_zip, Bool.and_eq_true] at h2 ⊢
    have hks : ¬ s.k < d.subs.length := fun e => hk e hr
    exact h.done j (by omega) (by omega) (by omega) h2.1 h2.2
  · cases ha
set_option maxRecDepth 16000 in
/-- The names of a deed. -/
theorem names_loop {i : Nat} (c : Ctx F l v0 v11 L m p N O) (hi : i < l.length) (hf : fewD l[i].1 = true) (hn : nm.Nodup) (hnl : nm.length ≤ 900) (hs : Sep h (strsR v15 nm :: F))
    (hq : ∀ h' v15' nm' v17, nm'.Nodup → (∀ a ∈ nm, a ∈ nm') → nm'.length ≤ nm.length + 8 → (∀ a ∈ rels l[i].1, a ∈ nm') → Sep h' (strsR v15' nm' :: F) → f3_T11 q [v0, v2, v3, ptr p, v5, v6, v7, v8, v10, v11, v12, v13, .int .i64 (sumO O nm'), v15', .int .i64 i, v17] h') :
    f3_T16 q [v0, v2, v3, ptr p, v5, v6, v7, v8, v10, v11, v12, v13, .int .i64 (sumO O nm), v15, .int .i64 i, .int .i64 0] h := by
  have hf' := hf
  simp only [fewD, Bool.and_eq_true, decide_eq_true_eq] at hf'
  refine LoopS.st (σ := NmI) (fun s => [v0, v2, v3, ptr p, v5, v6, v7, v8, v10, v11, v12, v13, .int .i64 (sumO O s.nm), s.v15, .int .i64 i, .int .i64 s.k]) (fun s h' => NmOk l[i].1 nm s ∧ Sep h' (strsR s.v15 s.nm :: F)) (fun s => l[i].1.subs.length - s.k) ⟨0, nm, v15⟩ rfl
    ⟨⟨Nat.zero_le _, hn, fun _ h => h, Nat.le_refl _, fun j hj => absurd hj (Nat.not_lt_zero _)⟩, hs⟩ ?_
  rintro ⟨k, nm1, v15⟩ h2 ⟨hok, hs⟩
  have hl1 := hok.le
  have hl2 := hok.len
  simp only at hs hl1 hl2 ⊢
  by_cases hg : k < l[i].1.subs.length ∧ pickI l[i].1.do_ 7 < 3
  · refine once_round c hi rfl hf hg.2 hg.1 hok.nodup (by omega) hs fun h' v15' nm' h1 h3 h4 h5 hs => ?_
    simp (disch := omega) only [f3_T18, go_sem, bin_add_in]
    refine NextSt.mk ⟨k + 1, nm', v15'⟩ rfl ⟨⟨hg.1, h1, fun a ha => h3 a (hok.sub a ha), by simp only; omega, fun j hj g1 g2 g3 g4 => ?_⟩, hs⟩ (by simp only; omega)
    simp only at hj ⊢
    by_cases hjk : j = k
    · subst hjk
      exact h5 g2 g3 g4
    · exact h3 _ (hok.done j (by simp only; omega) g1 g2 g3 g4)
  · have hk : k < l[i].1.subs.length → ¬ pickI l[i].1.do_ 7 < 3 := fun h1 h2 => hg ⟨h1, h2⟩
    refine once_exit c hi rfl hk hs.tail ?_
    simp only [go_sem]
    exact hq h2 v15 nm1 _ hok.nodup hok.sub (by omega) (hok.all hk) hs
structure OuI where
  i : Nat
  nm : List ByteArray
  v15 : Value
  v17 : Value
set_option maxRecDepth 16000 in
theorem outer_loop (c : Ctx F l v0 v11 L m p N O) (hf : ∀ i (hi : i < l.length), fewD l[i].1 = true) (hl : l.length ≤ 20) (hs : Sep h F)
    (hq : ∀ h' v15' nm v16 v17, nm.Nodup → (∀ x ∈ l, ∀ a ∈ rels x.1, a ∈ nm) → Sep h' F → f3_T6 q [v0, v2, v3, ptr p, v5, v6, v7, v8, v10, v11, v12, v13, .int .i64 (sumO O nm), v15', v16, v17] h') :
    f3_T4 q [v0, v2, v3, ptr p, v5, v6, v7, v8, v10, v11, v12, v13, v14, v15, v16, v17] h := by
  unfold f3_T4
  refine LoopS.st (σ := OuI) (fun s => [v0, v2, v3, ptr p, v5, v6, v7, v8, v10, v11, v12, v13, .int .i64 (sumO O s.nm), s.v15, .int .i64 s.i, s.v17])
    (fun s h' => s.i ≤ l.length ∧ s.nm.Nodup ∧ s.nm.length ≤ s.i * 8 ∧ (∀ j (_ : j < s.i) (hj : j < l.length), ∀ a ∈ rels l[j].1, a ∈ s.nm) ∧ Sep h' (strsR s.v15 s.nm :: F)) (fun s => l.length - s.i) ⟨0, [], .slice none 0 0, v17⟩ rfl
    ⟨Nat.zero_le _, List.nodup_nil, Nat.zero_le _, fun j hj => absurd hj (Nat.not_lt_zero _), hs.nilVec⟩ ?_
  rintro ⟨i, nm, v15, v17⟩ h2 ⟨hil, hn, hnl, hall, hs⟩
  simp only at hil hn hnl hall hs ⊢
  have hlv : ∀ K, oLen (some (.slice 34)) v0 K h2 = K (.int .i64 l.length) h2 := fun K => by rw [len_val (c.deeds h2 hs.tail).1, List.length_map]
  by_cases hlt : i < l.length
  · have hdk : decide ((i : Int) < (l.length : Int)) = true := by simp; omega
    simp only [f3_T9, go_sem, hlv, hdk, f3_T13]
    refine names_loop c hlt (hf i hlt) hn (by omega) hs fun h' v15' nm' v17 h1 h3 h4 h5 hs => ?_
    simp (disch := omega) only [f3_T11, go_sem, bin_add_in]
    refine NextSt.mk ⟨i + 1, nm', v15', v17⟩ rfl ⟨hlt, h1, by simp only; omega, fun j hj hj' a ha => ?_, hs⟩ (by simp only; omega)
    simp only at hj ⊢
    by_cases hji : j = i
    · subst hji
      exact h5 a ha
    · exact h3 _ (hall j (by omega) hj' a ha)
  · have hdk : decide ((i : Int) < (l.length : Int)) = false := by simp; omega
    simp only [f3_T9, go_sem, hlv, hdk]
    refine hq h2 v15 nm _ _ hn (fun x hx a ha => ?_) hs.tail
    obtain ⟨j, hj, rfl⟩ := List.mem_iff_getElem.1 hx
    exact hall j (by omega) hj a ha
end
end Go.Proofs.Ythgbpfoadlemaaa

/- DueOnce: the law. -/
namespace Go.Proofs.Ythgbpfoadlemaaa
open Go.Fw
theorem bnd_mono {a b : Nat} (h : a ≤ b) : bnd a ≤ bnd b := by
  unfold bnd
  have := Nat.pow_le_pow_right (show 0 < 2 by omega) h
  exact Nat.mul_le_mul_left _ (by omega)
section
variable {p : Nat} {m m' : Led} {h : Heap} {F : List Res} {K : Kont} {N : Nat} {l : List DeedV} {v : Value} {C S : List Bkt}
theorem few_take {k : Nat} (hf : few (l.map (·.1)) = true) : ((l.take k).map (·.1)).all fewD = true := by
  have h2 := (few_len hf).2
  rw [List.all_eq_true] at h2 ⊢
  intro x hx
  obtain ⟨y, hy, rfl⟩ := List.mem_map.1 hx
  exact h2 _ (List.mem_map.2 ⟨y, List.mem_of_mem_take hy, rfl⟩)
theorem once_bounds {k : Nat} (hf : few (l.map (·.1)) = true) (ho : Once ((l.take k).map (·.1)) m C S) : m.Ok (bnd 20) ∧ C.length ≤ 10000001000 ∧ S.length ≤ 160 := by
  have h1 := ho.ok (few_take hf)
  obtain ⟨h2, h3⟩ := ho.len (few_take hf)
  have h4 : ((l.take k).map (·.1)).length ≤ 20 := by
    have := (few_len hf).1
    rw [List.length_map] at this
    rw [List.length_map, List.length_take]
    omega
  have h5 := bnd_mono h4
  have h6 := bnd20
  have h7 : ((l.take k).map (·.1)).length * (bnd ((l.take k).map (·.1)).length + 8) ≤ 20 * (500000000 + 8) := Nat.mul_le_mul h4 (by omega)
  exact ⟨h1.mono h5, by omega, by omega⟩
structure RnI where
  k : Nat
  v5 : Value
  v6 : Value
  v8 : Value
  v10 : Value
set_option maxRecDepth 16000 in
theorem once_law (hs : Sep h F) (hv : ∀ h', Sep h' F → Deeds (fun _ => True) h' v l) (hl : l.length ≤ 9223372036854775807) (hk : ∀ h', Sep h' F → K (.bool true) h') :
    FnH Try.prog 3 #[v] h K := by
  refine f3_fn ?_
  simp only [f3_T0, go_sem]
  refine small_fn hs fun h1 hs => ?_
  refine few_fn (hv h1 hs) hl ?_
  cases hf : few (l.map (·.1)) with
  | false =>
    simp only [go_sem, Bool.not_false]
    rw [f3_ret]
    exact hk h1 hs
  | true =>
    have hl20 : l.length ≤ 20 := by simpa using (few_len hf).1
    have hN := bnd20
    simp only [go_sem, Bool.not_true]
    refine new_fn hs fun h2 p hs => ?_
    have hend : ∀ h' m C S v5 v6 v7 v8 v10 v11 v12 v13 v14 v15 v16 v17, Once (l.map (·.1)) m C S → Sep h' (ledR p m none :: lotR v5 C :: lotR v6 S :: F) →
        f3_T2 (retL Try.prog f3_L Try.f3.results.toList K) [v, .bool false, .bool true, ptr p, v5, v6, v7, v8, v10, v11, v12, v13, v14, v15, v16, v17] h' := by
      intro h' m C S v5 v6 v7 v8 v10 v11 v12 v13 v14 v15 v16 v17 ho hs
      obtain ⟨hm, hCl, hSl⟩ := once_bounds (k := l.length) hf (by rw [List.take_length]; exact ho)
      have hfl : (l.map (·.1)).all fewD = true := by have := few_take (k := l.length) hf; rwa [List.take_length] at this
      unfold ptr
      simp only [f3_T2, go_sem]
      rw [build_slice_0]
      have hs := lot_new hs
      refine lot_append (hs.sel [0, 1]) rfl (by omega) (by simp only [List.length_nil]; omega) fun va h3 hs => ?_
      refine lot_append (hs.sel [0, 1]) rfl (by omega) (by simp only [List.nil_append]; omega) fun vb h4 hs => ?_
      refine (buckets_new (p := p) (hs.at 1) hm (by omega)).use hs fun h5 vc Rs hRs _ hs => ?_
      obtain ⟨bs, hbs, rfl⟩ := hRs
      have hbl : bs.length ≤ bnd 20 := all_len hm hbs.sorted (fun b hb => (hbs.mem b).1 hb)
      have hs := lot_of hs
      refine lot_append (hs.sel [1, 0]) rfl (by omega) (by simp only [List.nil_append, List.length_append]; omega) fun vd h6 hs => ?_
      rw [List.nil_append] at hs
      obtain ⟨L, X, hL, hX, hs⟩ := lot_open hs
      have hLl : L.length = C.length + S.length + bs.length := by rw [← List.length_map (f := (·.1)), hL, List.length_append, List.length_append]
      have htot := ho.total_le hfl hbs.allN
      rw [List.length_map] at htot
      have hin : InF (vecR vd 36 5 (L.map rowB) :: X :: ledR p m none :: F) vd L := ⟨fun h' hs => (hs.at 0).rows, fun h' hs x hx => hX h' (hs.at 1) x hx⟩
      refine total_loop hin (by omega) (by rw [hL]; omega) hs fun h7 v13 hs => ?_
      obtain ⟨O, hO⟩ := owed_ex hm
      have hctx : Ctx (vecR vd 36 5 (L.map rowB) :: X :: ledR p m none :: F) l v vd L m p (bnd 20) O := by
        refine ⟨fun h' hs => hv h' hs.tail.tail.tail, hin, fun h' hs => hs.at 2, hm, by omega, by rw [hL]; omega, by omega, fun x hx a ha => ?_, hO⟩
        have how : m.ow a x.1.id = true := (ho.ow a x.1.id).2 ⟨x.1, List.mem_map.2 ⟨x, hx, rfl⟩, rfl, ha⟩
        have := ho.once hfl a x.1.id bs hbs.allN
        rw [hL, cnt_append, cnt_append, this, how]
        exact ⟨rfl, rfl⟩
      refine outer_loop (p := p) hctx (fun i hi => few_at hf hi) hl20 hs fun h8 v15 nm v16 v17 hn hall hs => ?_
      have hsum := ho.sum hfl hbs.allN (O := O) (fun a => ⟨(hO a).1, (hO a).2.1⟩) hn (fun d hd a ha => by
        obtain ⟨x, hx, rfl⟩ := List.mem_map.1 hd
        exact hall x hx a ha)
      have he : sumO O nm = total (L.map (·.1)) := by rw [hL]; exact hsum
      rw [he]
      simp only [f3_T6, go_sem, decide_true]
      rw [f3_ret]
      exact hk h8 hs.tail.tail.tail
    unfold ptr
    refine LoopS.st (σ := RnI) (fun s => [v, .bool false, .bool true, .pointer (some ⟨p, 0, none⟩), s.v5, s.v6, .int .i64 s.k, s.v8, s.v10, undef, undef, undef, undef, undef, undef, undef])
      (fun s h' => s.k ≤ l.length ∧ ∃ m C S, Once ((l.take s.k).map (·.1)) m C S ∧ Sep h' (ledR p m none :: lotR s.v5 C :: lotR s.v6 S :: F)) (fun s => l.length - s.k) ⟨0, .slice none 0 0, .slice none 0 0, undef, undef⟩ rfl ⟨Nat.zero_le _, Led.nil, [], [], .nil, (lot_nil (lot_nil hs)).sel [2, 0, 0]⟩ ?_
    rintro ⟨k, v5, v6, v8, v10⟩ h5 ⟨hkl, m, C, S, ho, hs⟩
    simp only at hkl ho hs ⊢
    obtain ⟨hm, hCl, hSl⟩ := once_bounds hf ho
    refine Eq.mpr (by simp only [f3_T24, f3_T28]; rfl) ?_
    refine s_len (hv h5 hs.tail.tail.tail).1 ?_
    simp only [List.length_map]
    by_cases hlt : k < l.length
    · have hi : ((k : Int) < (l.length : Int)) = True := by simp; omega
      simp only [go_sem, hi, decide_true]
      refine s_idxN (hv h5 hs.tail.tail.tail).1 (by simpa using hlt) (by omega) ?_
      rw [List.getElem_map]
      refine do_fn (x := l[k]) hs hm (by omega) (few_at hf hlt) (fun h' hs => (hv h' hs.tail.tail).2 _ (List.getElem_mem hlt)) fun h6 v16 v17 m' sg cut hd hs => ?_
      obtain ⟨hsg, hcut⟩ := do_len hd (few_at hf hlt) hm
      simp (disch := omega) only [go_sem]
      have hs := lot_of (hs.pick 1)
      refine lot_append (hs.sel [3, 0]) rfl (by omega) (by omega) fun v5' h7 hs => ?_
      refine single_loop (i := k) (sg := sg) hlt (fun h' hs => (hv h' hs.tail.tail).1) (by omega) (hs.sel [3, 2]) fun h8 v6' v10 hs => ?_
      simp (disch := omega) only [f3_T26, go_sem, bin_add_in]
      refine NextSt.mk ⟨k + 1, v5', v6', v16, v10⟩ rfl ⟨hlt, m', C ++ cut, S ++ sgB l[k].1.id sg, ?_, (hs.del 1).sel [2, 1, 0]⟩ (by simp only; omega)
      simp only
      rw [List.take_succ_eq_append_getElem hlt, List.map_append]
      exact ho.snoc hd
    · have hi : ((k : Int) < (l.length : Int)) = False := by simp; omega
      simp only [go_sem, hi, decide_false]
      rw [List.take_of_length_le (by omega)] at ho
      exact hend h5 m C S _ _ _ _ _ _ _ _ _ _ _ _ ho hs
end
end Go.Proofs.Ythgbpfoadlemaaa

/- DueOnce: the statement. -/
namespace Go.Proofs.Ythgbpfoadlemaaa.dueOnce
open Go.ChangeShapes Go.WideShapes Go.ChangeAt Go.RowKit Go.Fw Go.Proofs.Ythgbpfoadlemaaa
set_option linter.unusedVariables false
theorem own : ownKnob Try.prog.godebug = none := by kernel_rfl
theorem laidOut : laidOutB Try.prog = true := by kernel_rfl
theorem walk (v : Value) (l : List DeedV) (W : World) (hv : Deeds (fun b => b < W.heap.size) W.heap v l) (hl : l.length ≤ maxLen) :
    Calls Try.prog 3 #[v] W fun e W' => e = .returned (.bool true) ∧ Below W.heap.size W W' :=
  fn_below fun hs => once_law hs (fun h' hs => frozen_deeds (hs.at 0) hv) (by unfold maxLen at hl; omega) fun h' hs => ⟨rfl, hs⟩
set_option maxRecDepth 100000 in
theorem lifted (os : Os) (started : os.Started) (H : Type) (enc : TypeId × Value → H) :
    ReturnsInHanded {} Try.checked os 3 .any (Rows.dueOnceSpec.pre6 enc Try.prog Try.f3 Rows.dueOnceRow.domain false) (Rows.dueOnceSpec.post enc Try.prog Try.f3 false true false false) := by
  refine returnsInHanded_of_change (C := Try.checked) own started (by kernel_rfl) Try.func3
    (ChangeSpec.witness6 (enc := enc) (C := Try.checked) false ⟨#[], #[.slice none 0 0], []⟩ 8 (by kernel_rfl) (by kernel_rfl) (by kernel_rfl) (by kernel_rfl)) ?_
  intro W base args ds gs before hval0 hW hcnd _
  have hval : ∀ (j : Nat) t v, Try.f3.params[j]? = some t → args[j]? = some v → Value.okWide Try.prog W .any base t v := hval0
  have hW' := hW
  obtain ⟨p, q, hA0, hV, rfl, hfz, hnd⟩ := hW
  have hA : DataW.TrodAll enc Try.prog W 0 (fun _ => true) true Try.f3.params.toList args.toList ds p := hA0
  rw [Try.params3] at hA hval
  obtain ⟨v0, vs0, d0, ds0, p0, q0, hargs, rfl, rfl, h0, r0⟩ := trodAll_cons hA
  obtain ⟨rfl, rfl, rfl⟩ := trodAll_nil r0
  obtain rfl : args = #[v0] := by cases args; simp_all
  obtain ⟨rfl, rfl⟩ := trodVars_none hV
  obtain ⟨a0, len0, cap0, rfl⟩ := okWide_slice ru22 (hval 0 22 v0 rfl rfl)
  have k0 := h0
  have lt0 : ∀ x ∈ p0, x.block < W.heap.size := by obtain ⟨m, hm⟩ := k0; exact DataW.trod_lt m _ _ _ hm
  obtain ⟨fuel0, g0⟩ := h0
  obtain ⟨l0, v0', e0, hd0, hl0⟩ := rd_deeds _ _ _ _ _ _ g0
  simp only [Value.cells, List.cons.injEq, and_true] at e0
  subst e0
  clear hA0 hval0
  refine (walk _ l0 W hd0 hl0).mono fun e W' ⟨he, bel⟩ => ?_
  subst he
  exact ⟨_, rfl, _, _, _, [], _, [], hW', trodAll_mk1 (shut_bool ru4 _), trodAll_cons_mk (Below.trod laidOut (by kernel_rfl) (of_decide_eq_true (by kernel_rfl)) k0 bel lt0) trodAll_mk0, rfl, bel.frame _, fun h => by cases h⟩
theorem over : Rows.dueOnceRow.holds Try.pinned (OpenSpec.ofChange Rows.dueOnceSpec) :=
  OpenClaim.holds_of_wide 3 Try.f3 rfl rfl rfl rfl rfl rfl rfl ⟨rfl, rfl, rfl, rfl, rfl⟩ rfl rfl rfl rfl rfl (by kernel_rfl) Try.func3 (by kernel_rfl)
    (of_decide_eq_true (by kernel_rfl)) (by unfold Func.isWrapper; first | (rw [if_pos (by decide +kernel)]; kernel_rfl) | (rw [if_neg (by decide +kernel)]; exact ⟨rfl, rfl⟩))
    (fun os started H enc _ => lifted os started H enc)
theorem proved : Rows.DueOnceSaid := over
end Go.Proofs.Ythgbpfoadlemaaa.dueOnce
namespace Go.Proofs.Ythgbpfoadlemaaa
/-- The statement DueOnce. -/
theorem dueOnce_holds : Rows.DueOnceSaid := dueOnce.proved
#print axioms dueOnce_holds
end Go.Proofs.Ythgbpfoadlemaaa
