/- Texts that the claim rests on: part 3. No conditions. -/
import Derived.Test.YtfooakkfoemdkaaTellsB
import Derived.Shelf.Sort.Plain
import Derived.Shelf.Slices.In.SortNone
import Derived.Test.YtfooakkfoemdkaaProg
/- Where a list went: Now. -/
namespace Go.Proofs.Ytfooakkfoemdkaa
open Go.Fw
/-- From list k one comes to r, by n merges. -/
inductive Goes (L : List Lst) : Nat → Nat → Nat → Prop
  | root {k : Nat} {x : Lst} : L[k]? = some x → x.into = 0 → Goes L 0 k k
  | step {n k j r : Nat} {x : Lst} : L[k]? = some x → x.into = (j : Int) + 1 → Goes L n j r → Goes L (n + 1) k r
theorem Goes.lt {L : List Lst} {n k r : Nat} (h : Goes L n k r) : k < L.length := by
  cases h with
  | root h _ => exact (List.getElem?_eq_some_iff.1 h).1
  | step h _ _ => exact (List.getElem?_eq_some_iff.1 h).1
theorem Goes.end_ {L : List Lst} {n k r : Nat} (h : Goes L n k r) : ∃ x, L[r]? = some x ∧ x.into = 0 := by
  induction h with
  | root h1 h2 => exact ⟨_, h1, h2⟩
  | step _ _ _ ih => exact ih
theorem Goes.unique {L : List Lst} {n k r : Nat} (h : Goes L n k r) : ∀ {n' r' : Nat}, Goes L n' k r' → r' = r := by
  induction h with
  | root h1 h2 =>
    intro n' r' h'
    cases h' with
    | root => rfl
    | step h3 h4 _ => rw [h1] at h3; injection h3 with h3; subst h3; omega
  | step h1 h2 _ ih =>
    intro n' r' h'
    cases h' with
    | root h3 h4 => rw [h1] at h3; injection h3 with h3; subst h3; omega
    | @step _ _ j' _ _ h3 h4 h5 =>
      rw [h1] at h3; injection h3 with h3; subst h3
      rw [h2] at h4
      have e := Int.add_right_inj _ |>.mp ((Int.add_comm _ _).trans (h4.trans (Int.add_comm _ _)))
      rw [← Int.ofNat.inj e] at h5
      exact ih h5
section
variable {p : Nat} {M : Lin} {h : Heap} {F : List Res} {K : Kont} {n : Int}
structure NwI where
  k : Nat
  n : Nat
set_option maxRecDepth 8000 in
theorem now_fnV {k n r : Nat} (hr : LV p M h) (hg : Goes M.lists n k r) (hl : M.lists.length ≤ 4294967296) (hK : K (.int .i64 ((r : Int) + 1)) h) : FnH Try.prog 22 #[ptr p, .int .i64 ((k : Int) + 1)] h K := by
  refine f22_fn ?_
  have hr' := hr
  obtain ⟨vl, c0, hv⟩ := hr
  have hkn : known M ((k : Int) + 1) = true := by
    have := hg.lt
    simp only [known, Bool.and_eq_true, decide_eq_true_eq]
    omega
  simp only [f22_T0, go_sem]
  refine known_fnV hr' ?_
  simp only [hkn, go_sem, Bool.not_true]
  refine LoopS.st (σ := NwI) (fun s => [ptr p, .int .i64 ((s.k : Int) + 1), .int .i64 0]) (fun s h' => h' = h ∧ Goes M.lists s.n s.k r) (fun s => s.n) ⟨k, n⟩ rfl ⟨rfl, hg⟩ ?_
  rintro ⟨k, n⟩ h' ⟨rfl, hg⟩
  simp only at hg ⊢
  have hk := hg.lt
  have hb : k < 4294967296 := by omega
  obtain ⟨b, o, hidx, hcell, _⟩ := elem_at (r := lstRow M.lists[k]) hv (k := k) (by simpa using hk) (by simp) (by omega)
  have c1 : cellAt h' b (o + 1) = some (.int .i64 M.lists[k].into) := hcell 1 (by omega)
  have e : (k : Int) + 1 - 1 = k := by omega
  unfold ptr
  have hgx : M.lists[k]? = some M.lists[k] := List.getElem?_eq_getElem hk
  clear hcell
  generalize M.lists[k] = y at hgx c1
  cases hg with
  | root h1 h2 =>
    rw [hgx] at h1
    injection h1 with h1
    have d0 : decide (y.into = 0) = true := by rw [h1]; simp [h2]
    simp -implicitDefEqProofs (disch := omega) only [f22_T5, go_sem, bin_sub_in, e, hidx, c1, Nat.zero_add, c0, d0, Bool.not_true, f22_T2]
    rw [f22_ret]
    exact hK
  | @step n _ j _ x h1 h2 h3 =>
    rw [hgx] at h1
    injection h1 with h1
    rw [← h1] at h2
    have d0 : decide (y.into = 0) = false := by rw [h2]; simp; omega
    simp -implicitDefEqProofs (disch := omega) only [f22_T5, go_sem, bin_sub_in, e, hidx, c1, Nat.zero_add, c0, d0, Bool.not_false]
    refine NextSt.mk ⟨j, n⟩ ?_ ⟨rfl, h3⟩ (by simp only; omega)
    simp only [h2]
theorem now_fn {k n r : Nat} (hr : (linR p M).has h) (hg : Goes M.lists n k r) (hl : M.lists.length ≤ 4294967296) (hK : K (.int .i64 ((r : Int) + 1)) h) : FnH Try.prog 22 #[ptr p, .int .i64 ((k : Int) + 1)] h K := now_fnV (lv_of hr) hg hl hK
theorem now_fn0V (hr : LV p M h) (hn : known M n = false) (hK : K (.int .i64 0) h) : FnH Try.prog 22 #[ptr p, .int .i64 n] h K := by
  refine f22_fn ?_
  simp only [f22_T0, go_sem]
  refine known_fnV hr ?_
  simp only [hn, go_sem, Bool.not_false]
  rw [f22_ret]
  exact hK
end
end Go.Proofs.Ytfooakkfoemdkaa

/- Owner and Resolve. -/
namespace Go.Proofs.Ytfooakkfoemdkaa
open Go.Fw
section
variable {p : Nat} {M : Lin} {h : Heap} {F : List Res} {K : Kont} {a : ByteArray}
set_option maxRecDepth 8000 in
theorem owner_fn (hr : (linR p M).has h) (hl : M.lists.length ≤ 4294967296) (h0 : M.ow a = none → K (.tuple #[.int .i64 0, .bool false]) h)
    (h1 : ∀ i, M.ow a = some i → ∃ k n r : Nat, i = (k : Int) + 1 ∧ Goes M.lists n k r ∧ K (.tuple #[.int .i64 ((r : Int) + 1), .bool true]) h) : FnH Try.prog 10 #[ptr p, .string a] h K := by
  refine f10_fn ?_
  obtain ⟨vl, vs, bo, _, _, c2, _, _, hm⟩ := lin_view hr
  unfold ptr
  cases ho : M.ow a with
  | none =>
    have e : owF M.ow a = none := by simp [owF, ho]
    simp -implicitDefEqProofs only [f10_T0, go_sem, Nat.zero_add, c2, hm.look same_str, e, lk, cond_true, Option.getD_none, Option.isSome, Bool.not_false]
    rw [f10_ret]
    exact h0 ho
  | some i =>
    obtain ⟨k, n, r, rfl, hg, hK⟩ := h1 i ho
    have e : owF M.ow a = some (.int .i64 ((k : Int) + 1)) := by simp [owF, ho]
    simp -implicitDefEqProofs only [f10_T0, go_sem, Nat.zero_add, c2, hm.look same_str, e, lk, cond_true, Option.getD_some, Option.isSome, Bool.not_true]
    refine now_fn hr hg hl ?_
    rw [f10_ret]
    exact hK
set_option maxRecDepth 8000 in
theorem resolve_fn (hr : (linR p M).has h) (hl : M.lists.length ≤ 4294967296) (h0 : M.ow a = none → K (.tuple #[.int .i64 0, .string ⟨#[]⟩, .int .i64 4]) h)
    (h1 : ∀ i, M.ow a = some i → ∃ (k n r : Nat) (y : Lst), i = (k : Int) + 1 ∧ Goes M.lists n k r ∧ M.lists[r]? = some y ∧ K (.tuple #[.int .i64 (if y.remote = ⟨#[]⟩ then (r : Int) + 1 else 0), .string y.remote, .int .i64 0]) h) :
    FnH Try.prog 9 #[ptr p, .string a] h K := by
  refine f9_fn ?_
  simp only [f9_T0, go_sem]
  refine owner_fn hr hl (fun ho => ?_) (fun i ho => ?_)
  · simp only [go_sem, Bool.not_false]
    rw [f9_ret]
    exact h0 ho
  · obtain ⟨k, n, r, y, rfl, hg, hy, hK⟩ := h1 i ho
    refine ⟨k, n, r, rfl, hg, ?_⟩
    obtain ⟨hlt, hy⟩ := List.getElem?_eq_some_iff.1 hy
    obtain ⟨vl, vs, bo, c0, _, _, hv, _, _⟩ := lin_view hr
    obtain ⟨b, o, hidx, hcell, _⟩ := elem_at (r := lstRow M.lists[r]) hv (k := r) (by simpa using hlt) (by simp) (by omega)
    have c4 : cellAt h b (o + 4) = some (.string M.lists[r].remote) := hcell 4 (by omega)
    have e : (r : Int) + 1 - 1 = r := by omega
    rw [hy] at c4
    unfold ptr
    cases d0 : decide (y.remote = ⟨#[]⟩) with
    | true =>
      have d1 := of_decide_eq_true d0
      rw [if_pos d1, d1] at hK
      simp -implicitDefEqProofs (disch := omega) only [go_sem, Bool.not_true, Nat.zero_add, c0, bin_sub_in, e, hidx, c4, d0]
      rw [f9_ret]
      exact hK
    | false =>
      rw [if_neg (of_decide_eq_false d0)] at hK
      simp -implicitDefEqProofs (disch := omega) only [go_sem, Bool.not_true, Bool.not_false, Nat.zero_add, c0, bin_sub_in, e, hidx, c4, d0]
      rw [f9_ret]
      exact hK
end
end Go.Proofs.Ytfooakkfoemdkaa

/- 'pick'. -/
namespace Go.Proofs.Ytfooakkfoemdkaa
open Go.Fw
def pickI (n m : Int) : Int := if n.tmod m < 0 then n.tmod m + m else n.tmod m
theorem pick_fn (n m : Int) (hm : 0 < m) (hm' : m < 4294967296) (h : Heap) (K : Kont) (hk : K (.int .i64 (pickI n m)) h) : FnH Try.prog 33 #[.int .i64 n, .int .i64 m] h K := by
  have hb : m ≠ 0 := by omega
  have h1 := Int.tmod_lt_of_pos n hm
  have h2 : -m < n.tmod m := by
    have := Int.tmod_lt_of_pos (-n) hm
    rw [Int.neg_tmod] at this; omega
  refine f33_fn ?_
  unfold pickI at hk
  simp (disch := omega) only [f33_T0, go_sem]
  refine cond_cases (fun hc => ?_) (fun hc => ?_)
  · rw [if_pos (of_decide_eq_true hc)] at hk
    simp (disch := omega) only [bin_add_in, f33_T1, f33_ret]
    exact hk
  · rw [if_neg (of_decide_eq_false hc)] at hk
    simp (disch := omega) only [f33_T1, f33_ret]
    exact hk
theorem pickI_bounds (n m : Int) (hm : 0 < m) : 0 ≤ pickI n m ∧ pickI n m < m := by
  have h1 := Int.tmod_lt_of_pos n hm
  have h2 : -m < n.tmod m := by
    have := Int.tmod_lt_of_pos (-n) hm
    rw [Int.neg_tmod] at this; omega
  unfold pickI
  split <;> omega
end Go.Proofs.Ytfooakkfoemdkaa

/- Move: a list is changed in place. -/
namespace Go.Proofs.Ytfooakkfoemdkaa
open Go.Fw
section
variable {p : Nat} {M : Lin} {h : Heap} {F : List Res} {K : Kont} {n : Int} {s : ByteArray}
theorem ready_ex (h : ready M n = 0) : ∃ k : Nat, n = (k : Int) + 1 ∧ ∃ hk : k < M.lists.length, live M.lists[k] = true := by
  unfold ready at h
  split at h
  · rename_i hk
    obtain ⟨k, rfl, hlt⟩ := known_ex hk
    have e : ((k : Int) + 1 - 1).toNat = k := by omega
    simp only [e, List.getElem?_eq_getElem hlt, Option.any_some] at h
    refine ⟨k, rfl, hlt, ?_⟩
    split at h
    · assumption
    · omega
  · omega
def Lin.setL (M : Lin) (k : Nat) (f : Lst → Lst) : Lin := { M with lists := M.lists.modify k f }
set_option maxRecDepth 8000 in
theorem move_fn (hs : Sep h (linR p M :: F)) (hl : M.lists.length ≤ 4294967296) (h0 : ready M n ≠ 0 → K (.int .i64 (ready M n)) h) (h1 : ready M n = 0 → s = ⟨#[]⟩ → K (.int .i64 1) h)
    (hk : ∀ k : Nat, n = (k : Int) + 1 → k < M.lists.length → ready M n = 0 → s ≠ ⟨#[]⟩ → ∀ h', Sep h' (linR p (M.setL k fun x => { x with remote := s }) :: F) → K (.int .i64 0) h') :
    FnH Try.prog 32 #[ptr p, .int .i64 n, .string s] h K := by
  refine f32_fn ?_
  simp only [f32_T0, go_sem]
  refine ready_fn (hs.at 0) hl ?_
  cases dr : decide (ready M n = 0) with
  | false =>
    simp only [go_sem, dr, Bool.not_false]
    rw [f32_ret]
    exact h0 (of_decide_eq_false dr)
  | true =>
    have hr0 := of_decide_eq_true dr
    simp only [go_sem, dr, Bool.not_true]
    cases ds : decide (s = ⟨#[]⟩) with
    | true =>
      simp only [go_sem]
      rw [f32_ret]
      exact h1 hr0 (of_decide_eq_true ds)
    | false =>
      obtain ⟨k, rfl, hlt, _⟩ := ready_ex hr0
      obtain ⟨vl, vs, bo, t, hs⟩ := lin_open hs
      have c0 : cellAt h p 0 = some vl := (hs.at 0).cell 0
      have e : (k : Int) + 1 - 1 = k := by omega
      unfold ptr
      simp -implicitDefEqProofs (disch := omega) only [go_sem, Nat.zero_add, c0, bin_sub_in, e]
      refine s_cell (hs.pick 1) (k := k) (j := 4) (by simpa using hlt) (by omega) rfl fun h' hs => ?_
      rw [f32_ret]
      have er : (M.lists.map lstRow).set k (((M.lists.map lstRow)[k]'(by simpa using hlt)).set 4 (.string s)) = (M.setL k fun x => { x with remote := s }).lists.map lstRow := by
        simp only [Lin.setL]
        apply List.ext_getElem?
        intro i
        rw [List.getElem?_set, List.getElem?_map, List.getElem?_map, List.getElem?_modify]
        by_cases hi : k = i
        · subst hi
          simp [hlt, lstRow]
        · simp [hi]
      rw [er] at hs
      exact hk k rfl hlt hr0 (of_decide_eq_false ds) h' (lin_close (M := M.setL k fun x => { x with remote := s }) (hs.sel [1, 0]))
end
end Go.Proofs.Ytfooakkfoemdkaa

/- Lists: a copy. -/
namespace Go.Proofs.Ytfooakkfoemdkaa
open Go.Fw
abbrev lstsR (v : Value) (l : List Lst) : Res := vecR v 38 5 (l.map lstRow)
section
variable {p : Nat} {M : Lin} {h : Heap} {F : List Res} {K : Kont} {n : Int} {s : ByteArray}
theorem cloneL_new {v : Value} {al : List Lst} {S : Nat → Prop} (hr : RowsR S h v 5 (al.map lstRow)) (hl : al.length ≤ 4294967296) : FnNew Try.prog 34 #[v] h (fun v' Rs => Rs = [lstsR v' al]) := by
  refine FnNew.mk (f34_fn ?_)
  obtain ⟨sa, cap, rfl⟩ := hr.val
  simp only [f34_T0, go_sem]
  cases sa with
  | none =>
    simp only [Option.isNone, go_sem, f34_ret]
    have : al = [] := by
      obtain ⟨a', c', h1, h2, h3, h4⟩ := hr
      simp only [Value.slice.injEq] at h1
      obtain ⟨rfl, _, _⟩ := h1
      cases al with
      | nil => rfl
      | cons x r => obtain ⟨b, o, h5, _⟩ := h4 (by simp); cases h5
    subst this
    exact ⟨[lstsR (.slice none 0 0) []], rfl, (frozen_self h).nilVec⟩
  | some ad =>
    simp only [Option.isNone, go_sem]
    rw [build_slice_0]
    have hs := (frozen_self h).newVec (rows := []) (e := 38) (sz := 5) (n := 0) rfl (by simp) (by simp)
    refine s_append (S := S) hs (news := al.map lstRow) rfl (by omega) (by omega) ?_ (by simp [lstRow, go_sem]) (by simp only [List.length_nil, List.length_map]; omega) fun v' h' hs => ?_
    · exact hr.turn (by omega) (Turn.push ..)
    · rw [f34_ret]
      exact ⟨[lstsR v' al], rfl, hs⟩
set_option maxRecDepth 8000 in
theorem lists_new (hr : (linR p M).has h) (hl : M.lists.length ≤ 4294967296) : FnNew Try.prog 8 #[ptr p] h (fun v' Rs => Rs = [lstsR v' M.lists]) := by
  refine FnNew.mk (f8_fn ?_)
  obtain ⟨vl, vs, bo, c0, _, _, hv, _, _⟩ := lin_view hr
  unfold ptr
  simp only [f8_T0, go_sem, Nat.zero_add, c0]
  refine (cloneL_new hv hl).use (frozen_self h) fun h' v Rs hRs _ hs => ?_
  rw [f8_ret]
  exact ⟨Rs, hRs, hs⟩
end
end Go.Proofs.Ytfooakkfoemdkaa

/- A byte of a string. -/
namespace Go.Fw
theorem idx_str {s : ByteArray} {k : Nat} {kk : IntKind} {K : Kont} {h : Heap} (hk : k < s.size) : oIndexStr .string (.string s) (.int kk k) K h = K (.int .u8 ((s[k]'hk).toNat : Nat)) h := by
  have e : s[k]? = some (s[k]'hk) := getElem?_pos s k hk
  simp only [oIndexStr, Int.toNat_natCast, e]
  exact propext ⟨fun h => h.2, fun h => ⟨by omega, h⟩⟩
end Go.Fw

/- named: a function of the string. -/
namespace Go.Proofs.Ytfooakkfoemdkaa
open Go.Fw
def okc (c : Nat) : Bool := (decide (97 ≤ c) && decide (c ≤ 122)) || (decide (48 ≤ c) && decide (c ≤ 57)) || decide (c = 45) || decide (c = 46)
def byteAt (s : ByteArray) (k : Nat) : Nat := if hk : k < s.size then (s[k]'hk).toNat else 0
def namedB (s : ByteArray) : Bool := !decide (s = ⟨#[]⟩) && decide (s.size ≤ 64) && !decide (byteAt s 0 = 46) && !decide (byteAt s (s.size - 1) = 46) && (List.range s.size).all fun k => okc (byteAt s k)
theorem idx_byte {s : ByteArray} {k : Nat} {kk : IntKind} {K : Kont} {h : Heap} (hk : k < s.size) : oIndexStr .string (.string s) (.int kk k) K h = K (.int .u8 (byteAt s k)) h := by
  rw [idx_str hk]; simp [byteAt, hk]
section
variable {s : ByteArray} {k : Nat} {q : LPost} {h : Heap} {v2 : Value}
set_option maxRecDepth 8000 in
theorem named_round (hk : k < s.size) (hs : s.size ≤ 64) (hno : okc (byteAt s k) = false → q .ret [.string s, .bool false, .int .i64 s.size, .int .i64 k] h) (hyes : okc (byteAt s k) = true → q .normal [.string s, v2, .int .i64 s.size, .int .i64 ((k + 1 : Nat) : Int)] h) :
    f61_T5 q [.string s, v2, .int .i64 s.size, .int .i64 k] h := by
  have hdk : decide ((k : Int) < (s.size : Int)) = true := by simp; omega
  have hk1 : (k : Int) + 1 = ((k + 1 : Nat) : Int) := rfl
  simp -implicitDefEqProofs only [f61_T5, go_sem, hdk, idx_byte hk]
  generalize byteAt s k = c at *
  have hok : okc c = ((!decide ((c : Int) < 97) && !decide ((122 : Int) < c)) || (!decide ((c : Int) < 48) && !decide ((57 : Int) < c)) || decide ((c : Int) = 45) || decide ((c : Int) = 46)) := by
    unfold okc
    rw [Bool.eq_iff_iff]
    simp
    omega
  rw [hok] at hno hyes
  cases e1 : decide ((c : Int) < 97) <;> cases e2 : decide ((122 : Int) < c) <;> cases e3 : decide ((c : Int) < 48) <;> cases e4 : decide ((57 : Int) < c) <;> cases e5 : decide ((c : Int) = 45) <;> cases e6 : decide ((c : Int) = 46) <;>
    simp only [e1, e2, e3, e4, e5, e6, Bool.not_true, Bool.not_false, Bool.and_true, Bool.and_false, Bool.or_true, Bool.or_false, Bool.and_self, Bool.or_self, forall_const, false_implies, Bool.false_eq_true, Bool.true_eq_false] at hno hyes <;>
    simp -implicitDefEqProofs (disch := omega) only [go_sem, e2, e3, e4, e5, e6, Bool.not_true, Bool.not_false, bin_add_in, hk1] <;> assumption
set_option maxRecDepth 8000 in
theorem named_loop {K : Kont} (hs : s.size ≤ 64) (hk : K (.bool ((List.range s.size).all fun k => okc (byteAt s k))) h) :
    f61_T4 (retL Try.prog f61_L Try.f61.results.toList K) [.string s, .bool false, .int .i64 s.size, .int .i64 0] h := by
  refine LoopS.st (σ := Nat) (fun k => [.string s, .bool false, .int .i64 s.size, .int .i64 k]) (fun k h' => h' = h ∧ k ≤ s.size ∧ ∀ j, j < k → okc (byteAt s j) = true) (fun k => s.size - k) 0 rfl ⟨rfl, Nat.zero_le _, fun j hj => absurd hj (Nat.not_lt_zero _)⟩ ?_
  rintro k h' ⟨rfl, hkl, hall⟩
  by_cases hlt : k < s.size
  · refine named_round hlt hs (fun hb => ?_) (fun hb => ?_)
    · have e : ((List.range s.size).all fun k => okc (byteAt s k)) = false := by
        rw [List.all_eq_false]
        exact ⟨k, List.mem_range.2 hlt, by simp [hb]⟩
      rw [e] at hk
      show retL Try.prog f61_L Try.f61.results.toList K .ret _ h'
      rw [f61_ret]
      exact hk
    · simp only [go_sem]
      refine NextSt.mk (k + 1) rfl (show h' = h' ∧ k + 1 ≤ s.size ∧ ∀ j, j < k + 1 → okc (byteAt s j) = true from ⟨rfl, hlt, fun j hj => ?_⟩) (show s.size - (k + 1) < s.size - k by omega)
      by_cases hjk : j = k
      · rw [hjk]; exact hb
      · exact hall j (by omega)
  · have hdk : decide ((k : Int) < (s.size : Int)) = false := by simp; omega
    have e : ((List.range s.size).all fun k => okc (byteAt s k)) = true := by
      rw [List.all_eq_true]
      intro j hj
      exact hall j (by have := List.mem_range.1 hj; omega)
    rw [e] at hk
    simp only [f61_T5, go_sem, hdk, f61_T2]
    rw [f61_ret]
    exact hk
end
end Go.Proofs.Ytfooakkfoemdkaa

/- named and free. -/
namespace Go.Proofs.Ytfooakkfoemdkaa
open Go.Fw
section
variable {s : ByteArray} {k : Nat} {q : LPost} {h : Heap} {K : Kont} {p : Nat} {M : Lin}
set_option maxRecDepth 8000 in
theorem named_fn (hk : K (.bool (namedB s)) h) : FnH Try.prog 61 #[.string s] h K := by
  refine f61_fn ?_
  have h0 : s = ⟨#[]⟩ ∨ 0 < s.size := by
    rcases Nat.eq_zero_or_pos s.size with e | e
    · left
      obtain ⟨d⟩ := s
      have : d = #[] := Array.eq_empty_of_size_eq_zero e
      rw [this]
    · exact .inr e
  rcases h0 with rfl | h0
  · have e : namedB ⟨#[]⟩ = false := by simp [namedB]
    rw [e] at hk
    simp -implicitDefEqProofs only [f61_T0, go_sem, decide_true]
    rw [f61_ret]
    exact hk
  · have d0 : decide (s = ⟨#[]⟩) = false := by
      rw [decide_eq_false_iff_not]
      intro e; rw [e] at h0; exact absurd h0 (by decide)
    have hi0 : ∀ K, oIndexStr .string (.string s) (.int .i64 0) K h = K (.int .u8 (byteAt s 0)) h := fun K => idx_byte (k := 0) h0
    have hi1 : ∀ K, oIndexStr .string (.string s) (.int .i64 ((s.size : Int) - 1)) K h = K (.int .u8 (byteAt s (s.size - 1))) h := fun K => by
      rw [show ((s.size : Int) - 1) = ((s.size - 1 : Nat) : Int) from by omega]
      exact idx_byte (by omega)
    have e : namedB s = (decide (s.size ≤ 64) && !decide (byteAt s 0 = 46) && !decide (byteAt s (s.size - 1) = 46) && (List.range s.size).all fun k => okc (byteAt s k)) := by
      unfold namedB
      rw [d0]; simp
    rw [e] at hk
    cases d1 : decide ((64 : Int) < (s.size : Int)) with
    | true =>
      have e1 : decide (s.size ≤ 64) = false := by have := of_decide_eq_true d1; simp; omega
      simp only [e1, Bool.false_and] at hk
      simp -implicitDefEqProofs only [f61_T0, go_sem, d0, d1]
      rw [f61_ret]
      exact hk
    | false =>
      have hs64 : s.size ≤ 64 := by have := of_decide_eq_false d1; omega
      have e1 : decide (s.size ≤ 64) = true := by simp [hs64]
      cases d2 : decide ((byteAt s 0 : Int) = 46) with
      | true =>
        have e2 : decide (byteAt s 0 = 46) = true := by have := of_decide_eq_true d2; simp; omega
        simp only [e1, e2, Bool.not_true, Bool.and_false, Bool.false_and] at hk
        simp -implicitDefEqProofs only [f61_T0, go_sem, d0, d1, hi0, d2]
        rw [f61_ret]
        exact hk
      | false =>
        have e2 : decide (byteAt s 0 = 46) = false := by have := of_decide_eq_false d2; simp; omega
        cases d3 : decide ((byteAt s (s.size - 1) : Int) = 46) with
        | true =>
          have e3 : decide (byteAt s (s.size - 1) = 46) = true := by have := of_decide_eq_true d3; simp; omega
          simp only [e1, e2, e3, Bool.not_true, Bool.not_false, Bool.and_false, Bool.false_and] at hk
          simp -implicitDefEqProofs (disch := omega) only [f61_T0, go_sem, d0, d1, hi0, d2, bin_sub_in, hi1, d3]
          rw [f61_ret]
          exact hk
        | false =>
          have e3 : decide (byteAt s (s.size - 1) = 46) = false := by have := of_decide_eq_false d3; simp; omega
          simp only [e1, e2, e3, Bool.not_false, Bool.true_and] at hk
          simp -implicitDefEqProofs (disch := omega) only [f61_T0, go_sem, d0, d1, hi0, d2, bin_sub_in, hi1, d3]
          exact named_loop hs64 hk
end
end Go.Proofs.Ytfooakkfoemdkaa

/- The lineage's calls as functions of the model; free and add. -/
namespace Go.Proofs.Ytfooakkfoemdkaa
open Go.Fw
def nowF (L : List Lst) : Nat → Nat → Nat
  | 0, k => k
  | m + 1, k => match L[k]? with
    | some x => if x.into = 0 then k else nowF L m (x.into - 1).toNat
    | none => k
theorem Goes.nowF {L : List Lst} {n k r : Nat} (h : Goes L n k r) : ∀ m, n ≤ m → nowF L m k = r := by
  induction h with
  | root h1 h2 =>
    intro m _
    cases m with
    | zero => rfl
    | succ m => simp only [Ytfooakkfoemdkaa.nowF, h1, h2, if_true]
  | @step n k j r x h1 h2 _ ih =>
    intro m hm
    cases m with
    | zero => omega
    | succ m =>
      have e : ¬ x.into = 0 := by omega
      have e2 : (x.into - 1).toNat = j := by omega
      simp only [Ytfooakkfoemdkaa.nowF, h1, e, if_false, e2]
      exact ih m (by omega)
/-- Where list k went. -/
def now (L : List Lst) (k : Nat) : Nat := nowF L 1000 k
structure Ok (M : Lin) (D : Nat) : Prop where
  len : M.lists.length ≤ 50
  goes : ∀ k, k < M.lists.length → ∃ n r, n ≤ D ∧ Goes M.lists n k r
  own : ∀ a i, M.ow a = some i → ∃ k : Nat, i = (k : Int) + 1 ∧ k < M.lists.length
  dom : ∃ L : List ByteArray, L.length ≤ D ∧ ∀ a, M.ow a ≠ none → a ∈ L
  spl : M.splits.length ≤ D
theorem Ok.now {M : Lin} {D k : Nat} (hm : Ok M D) (hD : D ≤ 1000) (hk : k < M.lists.length) : ∃ n, n ≤ D ∧ Goes M.lists n k (now M.lists k) := by
  obtain ⟨n, r, hn, hg⟩ := hm.goes k hk
  have : Ytfooakkfoemdkaa.now M.lists k = r := hg.nowF 1000 (by omega)
  exact ⟨n, hn, this ▸ hg⟩
def freeI (M : Lin) (s : ByteArray) : Int := if namedB s = true then (if (M.ow s).isSome = true then 5 else 0) else 1
def addL (M : Lin) (s : ByteArray) (par : Int) : Lin := { M with lists := M.lists ++ [⟨(M.lists.length : Int) + 1, 0, par, s, ⟨#[]⟩⟩], ow := fun x => if x = s then some ((M.lists.length : Int) + 1) else M.ow x }
def addM (M : Lin) (s : ByteArray) (par : Int) : Lin × Int × Int :=
  if freeI M s ≠ 0 then (M, 0, freeI M s) else if 50 ≤ M.lists.length then (M, 0, 6) else (addL M s par, (M.lists.length : Int) + 1, 0)
def renameM (M : Lin) (n : Int) (s : ByteArray) : Lin × Int :=
  if ready M n ≠ 0 then (M, ready M n) else if freeI M s ≠ 0 then (M, freeI M s)
  else ({ M with lists := M.lists.modify (n - 1).toNat fun x => { x with name := s }, ow := fun x => if x = s then some n else M.ow x }, 0)
def splitM (M : Lin) (n : Int) (s pred : ByteArray) (inp : Int) : Lin × Int × Int :=
  if ready M n ≠ 0 then (M, 0, ready M n) else
  let r := addM M s n
  if r.2.2 ≠ 0 then (r.1, 0, r.2.2) else ({ r.1 with splits := r.1.splits ++ [⟨n, r.2.1, inp, pred⟩] }, r.2.1, 0)
def mergeM (M : Lin) (a b : Int) : Lin × Int :=
  if known M b = false then (M, 4) else if ready M a ≠ 0 then (M, ready M a) else
  let g := now M.lists (b - 1).toNat
  if (M.lists[g]?).any (fun x => !decide (x.remote = ⟨#[]⟩)) = true then (M, 7) else if (g : Int) + 1 = a then (M, 1) else (M.setL (a - 1).toNat fun x => { x with into := (g : Int) + 1 }, 0)
def moveM (M : Lin) (n : Int) (s : ByteArray) : Lin × Int :=
  if ready M n ≠ 0 then (M, ready M n) else if s = ⟨#[]⟩ then (M, 1) else (M.setL (n - 1).toNat fun x => { x with remote := s }, 0)
section
variable {p : Nat} {M : Lin} {h : Heap} {F : List Res} {K : Kont} {n : Int} {s : ByteArray}
set_option maxRecDepth 8000 in
theorem free_fn (hr : (linR p M).has h) (hk : K (.int .i64 (freeI M s)) h) : FnH Try.prog 50 #[ptr p, .string s] h K := by
  refine f50_fn ?_
  simp only [f50_T0, go_sem]
  refine named_fn ?_
  obtain ⟨vl, vs, bo, _, _, c2, _, _, hm⟩ := lin_view hr
  unfold freeI at hk
  cases d0 : namedB s with
  | false =>
    simp only [d0, Bool.false_eq_true, if_false] at hk
    simp only [go_sem, Bool.not_false]
    rw [f50_ret]
    exact hk
  | true =>
    simp only [d0, if_true] at hk
    have e : (owF M.ow s).isSome = (M.ow s).isSome := by simp [owF]
    unfold ptr
    cases ho : (M.ow s).isSome with
    | false =>
      rw [ho] at e
      simp only [ho, Bool.false_eq_true, if_false] at hk
      simp -implicitDefEqProofs only [go_sem, Bool.not_true, Nat.zero_add, c2, hm.look same_str, lk, cond_true, e]
      rw [f50_ret]
      exact hk
    | true =>
      rw [ho] at e
      simp only [ho, if_true] at hk
      simp -implicitDefEqProofs only [go_sem, Bool.not_true, Nat.zero_add, c2, hm.look same_str, lk, cond_true, e]
      rw [f50_ret]
      exact hk
set_option maxRecDepth 8000 in
set_option maxHeartbeats 1000000 in
theorem add_fn {par : Int} (hs : Sep h (linR p M :: F)) (hl : M.lists.length ≤ 4294967296) (hk : ∀ h', Sep h' (linR p (addM M s par).1 :: F) → K (.tuple #[.int .i64 (addM M s par).2.1, .int .i64 (addM M s par).2.2]) h') :
    FnH Try.prog 48 #[ptr p, .string s, .int .i64 par] h K := by
  refine f48_fn ?_
  simp only [f48_T0, go_sem]
  refine free_fn (hs.at 0) ?_
  unfold addM at hk
  cases d0 : decide (freeI M s = 0) with
  | false =>
    rw [if_pos (of_decide_eq_false d0)] at hk
    simp only [go_sem, d0, Bool.not_false]
    rw [f48_ret]
    exact hk h hs
  | true =>
    rw [if_neg (by simpa using d0)] at hk
    obtain ⟨vl, vs, bo, t, hs1⟩ := lin_open hs
    have c0 : cellAt h p 0 = some vl := (hs1.at 0).cell 0
    have hlv : ∀ K, oLen (some (.slice 38)) vl K h = K (.int .i64 M.lists.length) h := fun K => by rw [len_val (hs1.at 1).rows, List.length_map]
    unfold ptr
    cases d1 : decide ((50 : Int) ≤ (M.lists.length : Int)) with
    | true =>
      rw [if_pos (by have := of_decide_eq_true d1; omega)] at hk
      simp -implicitDefEqProofs only [go_sem, d0, Bool.not_true, Nat.zero_add, c0, hlv, d1]
      rw [f48_ret]
      exact hk h hs
    | false =>
      have hlt : M.lists.length < 50 := by have := of_decide_eq_false d1; omega
      rw [if_neg (by omega)] at hk
      simp -implicitDefEqProofs (disch := omega) only [go_sem, d0, Bool.not_true, Nat.zero_add, c0, hlv, d1, bin_add_in]
      rw [build_of (cs := ⟨lstRow ⟨(M.lists.length : Int) + 1, 0, par, s, ⟨#[]⟩⟩⟩) rfl]
      refine s_append_one (hs1.pick 1) (row := lstRow ⟨(M.lists.length : Int) + 1, 0, par, s, ⟨#[]⟩⟩) rfl (by omega) (by omega) (by omega) rfl rfl (by simp [lstRow, go_sem]) (by simp only [List.length_map]; omega) fun vl' h1 hs2 => ?_

      have hone : oneC vl' = true := by
        obtain ⟨sa, cp, e⟩ := (hs2.at 0).rows.val
        rw [e]; rfl
      refine s_fld (hs2.pick 1) (by simp) hone fun h2 hs3 => ?_
      have c2 : cellAt h2 p 2 = some (.map (some bo)) := (hs3.at 0).cell 2
      simp -implicitDefEqProofs only [go_sem, c2]
      refine s_put same_str (k := s) (hs3.pick 3) fun h3 hs4 => ?_
      rw [f48_ret]
      have er : M.lists.map lstRow ++ [lstRow ⟨(M.lists.length : Int) + 1, 0, par, s, ⟨#[]⟩⟩] = (addL M s par).lists.map lstRow := by simp [addL]
      have em : (fun x => if x = s then some (.int .i64 ((M.lists.length : Int) + 1)) else owF M.ow x) = owF (addL M s par).ow := by
        funext x; simp only [owF, addL]; split <;> rfl
      rw [er, em] at hs4
      exact hk h3 (lin_close (M := addL M s par) (vl := vl') (vs := vs) (bo := bo) (t := t) (hs4.sel [1, 1, 1, 0]))
end
end Go.Proofs.Ytfooakkfoemdkaa

/- Rename, Split, Merge, Move, Create. -/
namespace Go.Proofs.Ytfooakkfoemdkaa
open Go.Fw
theorem setRow {L : List Lst} {k j : Nat} {x : Value} {f : Lst → Lst} (hk : k < L.length) (hf : ∀ y, (lstRow y).set j x = lstRow (f y)) :
    (L.map lstRow).set k (((L.map lstRow)[k]'(by simpa using hk)).set j x) = (L.modify k f).map lstRow := by
  apply List.ext_getElem?
  intro i
  rw [List.getElem?_set, List.getElem?_map, List.getElem?_map, List.getElem?_modify]
  by_cases hi : k = i
  · subst hi
    simp [hk, hf]
  · simp [hi]
section
variable {p : Nat} {M : Lin} {h : Heap} {F : List Res} {K : Kont} {n : Int} {s : ByteArray}
set_option maxRecDepth 8000 in
set_option maxHeartbeats 1000000 in
theorem rename_fn (hs : Sep h (linR p M :: F)) (hl : M.lists.length ≤ 4294967296) (hk : ∀ h', Sep h' (linR p (renameM M n s).1 :: F) → K (.int .i64 (renameM M n s).2) h') :
    FnH Try.prog 29 #[ptr p, .int .i64 n, .string s] h K := by
  refine f29_fn ?_
  simp only [f29_T0, go_sem]
  refine ready_fn (hs.at 0) hl ?_
  unfold renameM at hk
  cases dr : decide (ready M n = 0) with
  | false =>
    rw [if_pos (of_decide_eq_false dr)] at hk
    simp only [go_sem, dr, Bool.not_false]
    rw [f29_ret]
    exact hk h hs
  | true =>
    have hr0 := of_decide_eq_true dr
    rw [if_neg (by simpa using dr)] at hk
    simp only [go_sem, dr, Bool.not_true]
    refine free_fn (hs.at 0) ?_
    cases df : decide (freeI M s = 0) with
    | false =>
      rw [if_pos (of_decide_eq_false df)] at hk
      simp only [go_sem, df, Bool.not_false]
      rw [f29_ret]
      exact hk h hs
    | true =>
      rw [if_neg (by simpa using df)] at hk
      obtain ⟨k, rfl, hlt, _⟩ := ready_ex hr0
      obtain ⟨vl, vs, bo, t, hs⟩ := lin_open hs
      have c2 : cellAt h p 2 = some (.map (some bo)) := (hs.at 0).cell 2
      have e : (k : Int) + 1 - 1 = k := by omega
      unfold ptr
      simp -implicitDefEqProofs (disch := omega) only [go_sem, df, Bool.not_true, Nat.zero_add, c2]
      refine s_put same_str (k := s) (hs.pick 3) fun h2 hs2 => ?_
      have c0 : cellAt h2 p 0 = some vl := (hs2.at 1).cell 0
      simp -implicitDefEqProofs (disch := omega) only [go_sem, Nat.zero_add, c0, bin_sub_in, e]
      refine s_cell (hs2.pick 2) (k := k) (j := 3) (by simpa using hlt) (by omega) rfl fun h3 hs3 => ?_
      rw [f29_ret]
      have e2 : ((k : Int) + 1 - 1).toNat = k := by omega
      rw [e2] at hk
      have em : (fun x => if x = s then some (.int .i64 ((k : Int) + 1)) else owF M.ow x) = owF (fun x => if x = s then some ((k : Int) + 1) else M.ow x) := by
        funext x; simp only [owF]; split <;> rfl
      rw [setRow (f := fun x => { x with name := s }) hlt (fun y => rfl), em] at hs3
      refine hk h3 ?_
      exact lin_close (vl := vl) (vs := vs) (bo := bo) (t := t) (hs3.sel [2, 0, 1, 0])
set_option maxRecDepth 8000 in
set_option maxHeartbeats 1000000 in
theorem split_fn {pred : ByteArray} {inp : Int} (hs : Sep h (linR p M :: F)) (hl : M.lists.length ≤ 4294967296) (hl2 : M.splits.length ≤ 4294967296) (hk : ∀ h', Sep h' (linR p (splitM M n s pred inp).1 :: F) → K (.tuple #[.int .i64 (splitM M n s pred inp).2.1, .int .i64 (splitM M n s pred inp).2.2]) h') :
    FnH Try.prog 30 #[ptr p, .int .i64 n, .string s, .string pred, .int .i64 inp] h K := by
  refine f30_fn ?_
  simp only [f30_T0, go_sem]
  refine ready_fn (hs.at 0) hl ?_
  unfold splitM at hk
  cases dr : decide (ready M n = 0) with
  | false =>
    rw [if_pos (of_decide_eq_false dr)] at hk
    simp only [go_sem, dr, Bool.not_false]
    rw [f30_ret]
    exact hk h hs
  | true =>
    rw [if_neg (by simpa using dr)] at hk
    simp only [go_sem, dr, Bool.not_true]
    refine add_fn hs hl fun h1 hs1 => ?_
    have hsp : (addM M s n).1.splits = M.splits := by
      unfold addM; split
      · rfl
      · split <;> rfl
    generalize addM M s n = r at *
    obtain ⟨M', i, e⟩ := r
    simp only at hk hs1 hsp ⊢
    cases de : decide (e = 0) with
    | false =>
      rw [if_pos (of_decide_eq_false de)] at hk
      simp only [go_sem, de, Bool.not_false]
      rw [f30_ret]
      exact hk h1 hs1
    | true =>
      rw [if_neg (by simpa using de)] at hk
      obtain ⟨vl, vs, bo, t, hs2⟩ := lin_open hs1
      have c1 : cellAt h1 p 1 = some vs := (hs2.at 0).cell 1
      unfold ptr
      simp -implicitDefEqProofs only [go_sem, de, Bool.not_true, Nat.zero_add, c1]
      rw [build_of (cs := ⟨splRow ⟨n, i, inp, pred⟩⟩) rfl]
      refine s_append_one (hs2.pick 2) (row := splRow ⟨n, i, inp, pred⟩) rfl (by omega) (by omega) (by omega) rfl rfl (by simp [splRow, go_sem]) (by simp only [List.length_map, hsp]; omega) fun vs' h3 hs3 => ?_
      have hone : oneC vs' = true := by
        obtain ⟨sa, cp, e⟩ := (hs3.at 0).rows.val
        rw [e]; rfl
      refine s_fld (hs3.pick 1) (by simp) hone fun h4 hs4 => ?_
      rw [f30_ret]
      have er : M'.splits.map splRow ++ [splRow ⟨n, i, inp, pred⟩] = (M'.splits ++ [(⟨n, i, inp, pred⟩ : Spl)]).map splRow := by simp
      rw [er] at hs4
      exact hk h4 (lin_close (M := { M' with splits := M'.splits ++ [⟨n, i, inp, pred⟩] }) (vl := vl) (vs := vs') (bo := bo) (t := t) (hs4.sel [0, 1, 0, 0]))
set_option maxRecDepth 8000 in
set_option maxHeartbeats 1000000 in
theorem merge_fn {a b : Int} {D : Nat} (hs : Sep h (linR p M :: F)) (hm : Ok M D) (hD : D ≤ 1000) (hk : ∀ h', Sep h' (linR p (mergeM M a b).1 :: F) → K (.int .i64 (mergeM M a b).2) h') :
    FnH Try.prog 31 #[ptr p, .int .i64 a, .int .i64 b] h K := by
  have hl : M.lists.length ≤ 4294967296 := by have := hm.len; omega
  refine f31_fn ?_
  simp only [f31_T0, go_sem]
  refine known_fn (hs.at 0) ?_
  unfold mergeM at hk
  cases dk : known M b with
  | false =>
    rw [if_pos dk] at hk
    simp only [go_sem, Bool.not_false]
    rw [f31_ret]
    exact hk h hs
  | true =>
    rw [if_neg (by simp [dk])] at hk
    simp only [go_sem, Bool.not_true]
    refine ready_fn (hs.at 0) hl ?_
    cases dr : decide (ready M a = 0) with
    | false =>
      rw [if_pos (of_decide_eq_false dr)] at hk
      simp only [go_sem, dr, Bool.not_false]
      rw [f31_ret]
      exact hk h hs
    | true =>
      rw [if_neg (by simpa using dr)] at hk
      simp only [go_sem, dr, Bool.not_true]
      obtain ⟨j, rfl, hj⟩ := known_ex dk
      obtain ⟨nn, hnn, hg⟩ := hm.now hD hj
      have e2 : ((j : Int) + 1 - 1).toNat = j := by omega
      simp only [e2] at hk
      refine now_fn (hs.at 0) hg hl ?_
      obtain ⟨k, rfl, hlt, _⟩ := ready_ex (of_decide_eq_true dr)
      generalize now M.lists j = g at *
      obtain ⟨y, hy, hy0⟩ := hg.end_
      obtain ⟨hgl, hy⟩ := List.getElem?_eq_some_iff.1 hy
      obtain ⟨vl, vs, bo, t, hs1⟩ := lin_open hs
      have c0 : cellAt h p 0 = some vl := (hs1.at 0).cell 0
      have e : (g : Int) + 1 - 1 = g := by omega
      have e3 : (k : Int) + 1 - 1 = k := by omega
      obtain ⟨b, o, hidx, hcell, _⟩ := elem_at (r := lstRow M.lists[g]) (hs1.at 1).rows (k := g) (by simpa using hgl) (by simp) (by omega)
      have c4 : cellAt h b (o + 4) = some (.string M.lists[g].remote) := hcell 4 (by omega)
      rw [hy] at c4
      rw [List.getElem?_eq_getElem hgl, hy, Option.any_some] at hk
      unfold ptr
      cases dm : decide (y.remote = ⟨#[]⟩) with
      | false =>
        rw [dm, if_pos (by simp)] at hk
        simp -implicitDefEqProofs (disch := omega) only [go_sem, Nat.zero_add, c0, bin_sub_in, e, hidx, c4, dm, Bool.not_false]
        rw [f31_ret]
        exact hk h hs
      | true =>
        rw [dm, if_neg (by simp)] at hk
        cases dq : decide ((g : Int) + 1 = (k : Int) + 1) with
        | true =>
          rw [if_pos (of_decide_eq_true dq)] at hk
          simp -implicitDefEqProofs (disch := omega) only [go_sem, Nat.zero_add, c0, bin_sub_in, e, hidx, c4, dm, Bool.not_true, dq]
          rw [f31_ret]
          exact hk h hs
        | false =>
          rw [if_neg (of_decide_eq_false dq)] at hk
          simp -implicitDefEqProofs (disch := omega) only [go_sem, Nat.zero_add, c0, bin_sub_in, e, hidx, c4, dm, Bool.not_true, dq, e3]
          refine s_cell (hs1.pick 1) (k := k) (j := 1) (by simpa using hlt) (by omega) rfl fun h3 hs3 => ?_
          rw [f31_ret]
          have e4 : ((k : Int) + 1 - 1).toNat = k := by omega
          rw [e4] at hk
          rw [setRow (f := fun x => { x with into := (g : Int) + 1 }) hlt (fun y => rfl)] at hs3
          exact hk h3 (lin_close (M := M.setL k fun x => { x with into := (g : Int) + 1 }) (vl := vl) (vs := vs) (bo := bo) (t := t) (hs3.sel [1, 0, 0, 0]))
theorem move_fn' (hs : Sep h (linR p M :: F)) (hl : M.lists.length ≤ 4294967296) (hk : ∀ h', Sep h' (linR p (moveM M n s).1 :: F) → K (.int .i64 (moveM M n s).2) h') :
    FnH Try.prog 32 #[ptr p, .int .i64 n, .string s] h K := by
  unfold moveM at hk
  refine move_fn hs hl (fun h0 => ?_) (fun h0 h1 => ?_) (fun k hn hlt h0 h1 h' hs' => ?_)
  · rw [if_pos h0] at hk; exact hk h hs
  · rw [if_neg (by simpa using h0), if_pos h1] at hk; exact hk h hs
  · rw [if_neg (by simpa using h0), if_neg h1] at hk
    have e : (n - 1).toNat = k := by omega
    rw [e] at hk
    exact hk h' hs'
theorem create_fn (hs : Sep h (linR p M :: F)) (hl : M.lists.length ≤ 4294967296) (hk : ∀ h', Sep h' (linR p (addM M s 0).1 :: F) → K (.tuple #[.int .i64 (addM M s 0).2.1, .int .i64 (addM M s 0).2.2]) h') :
    FnH Try.prog 28 #[ptr p, .string s] h K := by
  refine f28_fn ?_
  simp only [f28_T0, go_sem]
  refine add_fn hs hl fun h1 hs1 => ?_
  simp only [go_sem]
  rw [f28_ret]
  exact hk h1 hs1
def newL : Lin := ⟨[], [], fun _ => none⟩
theorem new_fn (hs : Sep h F) (hk : ∀ h' p, Sep h' (linR p newL :: F) → K (ptr p) h') : FnH Try.prog 13 #[] h K := by
  refine f13_fn ?_
  simp only [f13_T0, go_sem]
  have h1 : Sep (h.push (.map #[] 0)) (mapR .string h.size (owF newL.ow) :: F) := hs.newMap
  rw [build_of (cs := #[.slice none 0 0, .slice none 0 0, .map (some h.size)]) rfl]
  refine s_box h1 fun h2 b hs2 => ?_
  rw [f13_ret]
  exact hk h2 b (lin_close (vl := .slice none 0 0) (vs := .slice none 0 0) (bo := h.size) (t := 70) ((hs2.nilVec (e := 38) (sz := 5)).nilVec (e := 73) (sz := 4) |>.sel [2, 1, 0, 0]))
structure Deed where
  do_ : Int
  a : Int
  b : Int
  name : ByteArray
  deriving DecidableEq
def deedRow (d : Deed) : List Value := [.int .i64 d.do_, .int .i64 d.a, .int .i64 d.b, .string d.name]
def doM (M : Lin) (d : Deed) : Lin × Int × Int :=
  if pickI d.do_ 6 = 2 then ((renameM M d.a d.name).1, 0, (renameM M d.a d.name).2)
  else if pickI d.do_ 6 = 3 then splitM M d.a d.name ⟨#[112]⟩ d.b
  else if pickI d.do_ 6 = 4 then ((mergeM M d.a d.b).1, 0, (mergeM M d.a d.b).2)
  else if pickI d.do_ 6 = 5 then ((moveM M d.a d.name).1, 0, (moveM M d.a d.name).2)
  else addM M d.name 0
set_option maxRecDepth 8000 in
set_option maxHeartbeats 1000000 in
theorem do_fn {d : Deed} {D : Nat} (hs : Sep h (linR p M :: F)) (hm : Ok M D) (hD : D ≤ 1000) (hk : ∀ h', Sep h' (linR p (doM M d).1 :: F) → K (.tuple #[.int .i64 (doM M d).2.1, .int .i64 (doM M d).2.2]) h') :
    FnH Try.prog 15 #[ptr p, .agg ⟨deedRow d⟩] h K := by
  have hl : M.lists.length ≤ 4294967296 := by have := hm.len; omega
  have hl2 : M.splits.length ≤ 4294967296 := by have := hm.spl; omega
  refine f15_fn ?_
  simp only [f15_T0]
  refine s_box hs fun h1 b hs1 => ?_
  have hs1' : Sep h1 (linR p M :: F) := hs1.tail
  have d0 : cellAt h1 b 0 = some (.int .i64 d.do_) := (hs1.at 0).cell 0
  have d1 : cellAt h1 b 1 = some (.int .i64 d.a) := (hs1.at 0).cell 1
  have d2 : cellAt h1 b 2 = some (.int .i64 d.b) := (hs1.at 0).cell 2
  have d3 : cellAt h1 b 3 = some (.string d.name) := (hs1.at 0).cell 3
  clear hs1
  simp -implicitDefEqProofs only [go_sem, Nat.zero_add, d0]
  refine pick_fn _ 6 (by omega) (by omega) _ _ ?_
  unfold doM at hk
  cases e2 : decide (pickI d.do_ 6 = 2) with
  | true =>
    rw [if_pos (of_decide_eq_true e2)] at hk
    simp -implicitDefEqProofs only [go_sem, Nat.zero_add, e2, d1, d3]
    refine rename_fn hs1' hl fun h2 hs2 => ?_
    rw [f15_ret]
    exact hk h2 hs2
  | false =>
    rw [if_neg (of_decide_eq_false e2)] at hk
    cases e3 : decide (pickI d.do_ 6 = 3) with
    | true =>
      rw [if_pos (of_decide_eq_true e3)] at hk
      simp -implicitDefEqProofs only [go_sem, Nat.zero_add, e2, e3, d1, d2, d3]
      refine split_fn hs1' hl hl2 fun h2 hs2 => ?_
      simp only [go_sem]
      rw [f15_ret]
      exact hk h2 hs2
    | false =>
      rw [if_neg (of_decide_eq_false e3)] at hk
      cases e4 : decide (pickI d.do_ 6 = 4) with
      | true =>
        rw [if_pos (of_decide_eq_true e4)] at hk
        simp -implicitDefEqProofs only [go_sem, Nat.zero_add, e2, e3, e4, d1, d2]
        refine merge_fn hs1' hm hD fun h2 hs2 => ?_
        rw [f15_ret]
        exact hk h2 hs2
      | false =>
        rw [if_neg (of_decide_eq_false e4)] at hk
        cases e5 : decide (pickI d.do_ 6 = 5) with
        | true =>
          rw [if_pos (of_decide_eq_true e5)] at hk
          simp -implicitDefEqProofs only [go_sem, Nat.zero_add, e2, e3, e4, e5, d1, d3]
          refine move_fn' hs1' hl fun h2 hs2 => ?_
          rw [f15_ret]
          exact hk h2 hs2
        | false =>
          rw [if_neg (of_decide_eq_false e5)] at hk
          simp -implicitDefEqProofs only [go_sem, Nat.zero_add, e2, e3, e4, e5, d3]
          refine create_fn hs1' hl fun h2 hs2 => ?_
          simp only [go_sem]
          rw [f15_ret]
          exact hk h2 hs2
end
end Go.Proofs.Ytfooakkfoemdkaa

/-
  DERIVED: THE SHELF's CONTRACTS AT THIS DUMP, IN PLAIN WORDS (tools/lay-plain.mjs out of 'TryShelf.lean', which tools/lay-shelf.mjs wrote): THE SAME DECLARATIONS UNDER THE SAME NAMES: 'import', 'namespace', 'open', 'def', 'theorem' AND NOTHING ELSE: no command of the shelf's: FOR A HAND-IN. Each laying: the table of numbers ('.._ren') and one theorem, a field a fact of the dump's own or the kernel's comparison; each contract: ONE APPLICATION.
-/
namespace Go.Proofs
open Go.Shelf
def Try.lays190_ren : Go.Shelf.Ren := ⟨fun | 190 => 35 | 125 => 52 | 258 => 51 | 128 => 71 | 129 => 72 | 302 => 62 | 303 => 63 | 304 => 64 | 305 => 65 | 306 => 66 | 307 => 67 | 308 => 68 | 309 => 69 | 310 => 70 | 333 => 74 | 329 => 75 | 330 => 76 | 334 => 77 | 335 => 78 | 336 => 79 | 344 => 80 | n => n, fun | 31 => 26 | 9 => 9 | 3 => 3 | 46 => 90 | 0 => 0 | 51 => 103 | 53 => 105 | 4 => 4 | 183 => 96 | 182 => 95 | 131 => 34 | 5 => 5 | 218 => 106 | 222 => 110 | 228 => 112 | 229 => 113 | n => n, fun | n => n⟩
theorem Try.lays190 : Go.Proofs.Lays.n190 Try.prog Try.lays190_ren := {
  mixed := by kernel_rfl
  f125 := Try.func52.trans (congrArg some (by kernel_rfl))
  f128 := Try.func71.trans (congrArg some (by kernel_rfl))
  f129 := Try.func72.trans (congrArg some (by kernel_rfl))
  f190 := Try.func35.trans (congrArg some (by kernel_rfl))
  f258 := Try.func51.trans (congrArg some (by kernel_rfl))
  f302 := Try.func62.trans (congrArg some (by kernel_rfl))
  f303 := Try.func63.trans (congrArg some (by kernel_rfl))
  f304 := Try.func64.trans (congrArg some (by kernel_rfl))
  f305 := Try.func65.trans (congrArg some (by kernel_rfl))
  f306 := Try.func66.trans (congrArg some (by kernel_rfl))
  f307 := Try.func67.trans (congrArg some (by kernel_rfl))
  f308 := Try.func68.trans (congrArg some (by kernel_rfl))
  f309 := Try.func69.trans (congrArg some (by kernel_rfl))
  f310 := Try.func70.trans (congrArg some (by kernel_rfl))
  f329 := Try.func75.trans (congrArg some (by kernel_rfl))
  f330 := Try.func76.trans (congrArg some (by kernel_rfl))
  f333 := Try.func74.trans (congrArg some (by kernel_rfl))
  f334 := Try.func77.trans (congrArg some (by kernel_rfl))
  f335 := Try.func78.trans (congrArg some (by kernel_rfl))
  f336 := Try.func79.trans (congrArg some (by kernel_rfl))
  f344 := Try.func80.trans (congrArg some (by kernel_rfl))
  t0 := Try.underlying0
  a0 := Try.isAgg0
  z0 := Try.sizeOf0
  v0 := Try.zeroValue0
  t3 := Try.underlying3
  a3 := Try.isAgg3
  z3 := Try.sizeOf3
  v3 := Try.zeroValue3
  t4 := Try.underlying4
  a4 := Try.isAgg4
  z4 := Try.sizeOf4
  v4 := Try.zeroValue4
  t5 := Try.underlying5
  a5 := Try.isAgg5
  z5 := Try.sizeOf5
  v5 := Try.zeroValue5
  t9 := Try.underlying9
  a9 := Try.isAgg9
  z9 := Try.sizeOf9
  v9 := Try.zeroValue9
  t31 := Try.underlying26
  a31 := Try.isAgg26
  z31 := Try.sizeOf26
  v31 := Try.zeroValue26
  t46 := Try.underlying90
  a46 := Try.isAgg90
  z46 := Try.sizeOf90
  v46 := Try.zeroValue90
  t51 := Try.underlying103
  a51 := Try.isAgg103
  z51 := Try.sizeOf103
  v51 := Try.zeroValue103
  t53 := Try.underlying105
  a53 := Try.isAgg105
  z53 := Try.sizeOf105
  v53 := Try.zeroValue105
  t131 := Try.underlying34
  a131 := Try.isAgg34
  z131 := Try.sizeOf34
  v131 := Try.zeroValue34
  t182 := Try.underlying95
  a182 := Try.isAgg95
  z182 := Try.sizeOf95
  v182 := Try.zeroValue95
  t183 := Try.underlying96
  a183 := Try.isAgg96
  z183 := Try.sizeOf96
  v183 := Try.zeroValue96
  t218 := Try.underlying106
  a218 := Try.isAgg106
  z218 := Try.sizeOf106
  v218 := Try.zeroValue106
  t222 := Try.underlying110
  a222 := Try.isAgg110
  z222 := Try.sizeOf110
  v222 := Try.zeroValue110
  t228 := Try.underlying112
  a228 := Try.isAgg112
  z228 := Try.sizeOf112
  v228 := Try.zeroValue112
  t229 := Try.underlying113
  a229 := Try.isAgg113
  z229 := Try.sizeOf113
  v229 := Try.zeroValue113 }
open Go.Sort Go.RowKit in
theorem Try.slices_Sort_string (blk off cap : Nat) (ss : List (List UInt8)) (w : World) (hH : Holds encStr w blk off ss.toArray) (hblk : blk < w.heap.size) (hsz : ss.length < 4611686018427387904) :
    Calls Try.prog 35 #[.slice (some ⟨blk, off, none⟩) ss.length cap] w fun e w' =>
      e = .returned (.tuple #[]) ∧ ∃ n os, w' = grow (putRow encStr (Sort.ahead w n) blk off (ss.mergeSort fun x y => decide (x ≤ y)).toArray) os := Any.slices_Sort_string Try.lays190 blk off cap ss w hH hblk hsz
open Go.RowKit Go.Sort in
/-- .. and plain. (LAID: no walk: one application.) -/
theorem Try.slices_Sort_string_none (p : Option Addr) (cap : Nat) (w : World) :
    Calls Try.prog 35 #[.slice p 0 cap] w fun e w' => e = .returned (.tuple #[]) ∧ w' = w := Any.slices_Sort_string_none Try.lays190 p cap w
end Go.Proofs

/- Names: the names of a list, sorted. -/
namespace Go.Proofs.Ytfooakkfoemdkaa
open Go.Fw
theorem str_inj (a b : ByteArray) (h : Value.string a = .string b) : a = b := by injection h
section
variable {p : Nat} {M : Lin} {h : Heap} {F : List Res} {K : Kont} {n : Int} {s : ByteArray}
/-- Does the name a stand for list n now? -/
def stands (M : Lin) (n : Int) (a : ByteArray) : Prop := ∃ k : Nat, M.ow a = some ((k : Int) + 1) ∧ ((now M.lists k : Nat) : Int) + 1 = n
set_option maxRecDepth 8000 in
set_option maxHeartbeats 1000000 in
theorem names_new {D : Nat} (hr : (linR p M).has h) (hm : Ok M D) (hD : D ≤ 1000) :
    FnNew Try.prog 12 #[ptr p, .int .i64 n] h (fun v Rs => ∃ al : List ByteArray, Rs = [vecR v 9 1 (al.map strRow)] ∧ al.Pairwise ltB ∧ (∀ a, a ∈ al ↔ stands M n a) ∧ al.length ≤ D) := by
  have hl : M.lists.length ≤ 4294967296 := by have := hm.len; omega
  refine FnNew.mk (f12_fn ?_)
  obtain ⟨vl, vs, bo, c0, _, c2, hv, _, hmap⟩ := lin_view hr
  unfold ptr
  simp only [f12_T0, go_sem, Nat.zero_add, c2]
  have hlv : ∀ h', (frozenR h).has h' → LV p M h' := fun h' hz => lv_of (frozen_has hz hr)
  refine s_rangeF (f := owF M.ow) (r := some bo) (frozen_self h) (frozen_self h).head hmap.has fun h1 it es hn hes hs2 => ?_
  have hlen : es.length ≤ D := by
    obtain ⟨L, hL, hc⟩ := hm.dom
    have := nodup_len hn (L := L) (fun x hx => by
      obtain ⟨⟨a, v⟩, hm, rfl⟩ := List.mem_map.1 hx
      refine hc a (fun e => ?_)
      have h2 := (hes a v).1 hm
      simp [owF, e] at h2)
    simp only [List.length_map] at this
    omega
  have hval : ∀ a v, (a, v) ∈ es → ∃ k : Nat, M.ow a = some ((k : Int) + 1) ∧ v = .int .i64 ((k : Int) + 1) ∧ k < M.lists.length := by
    intro a v hav
    have h2 := (hes a v).1 hav
    cases ho : M.ow a with
    | none => simp [owF, ho] at h2
    | some i =>
      obtain ⟨k, rfl, hk⟩ := hm.own a i ho
      refine ⟨k, rfl, ?_, hk⟩
      simpa [owF, ho] using h2.symm
  have hst : ∀ a k, M.ow a = some ((k : Nat) + 1 : Int) → (stands M n a ↔ ((now M.lists k : Nat) : Int) + 1 = n) := by
    intro a k ho
    constructor
    · rintro ⟨k', h1, h2⟩
      rw [ho] at h1
      injection h1 with h1
      have : k = k' := by omega
      rw [this]; exact h2
    · intro h2; exact ⟨k, ho, h2⟩
  refine LoopS.st (σ := List (ByteArray × Value) × List ByteArray × Value) (fun s => [.pointer (some ⟨p, 0, none⟩), .int .i64 n, .slice none 0 0, s.2.2, .pointer (some ⟨it, 0, none⟩)])
    (fun s h' => Sep h' (vecR s.2.2 9 1 (s.2.1.map strRow) :: iterR .string it (some bo) h es s.1 :: [frozenR h]) ∧ s.1.length ≤ es.length ∧ s.2.1.length ≤ s.1.length ∧ s.2.1.Sublist (s.1.map (·.1)) ∧ ∀ a, a ∈ s.2.1 ↔ (a ∈ s.1.map (·.1) ∧ stands M n a))
    (fun s => es.length - s.1.length) ([], [], .slice none 0 0) rfl ⟨hs2.nilVec, by simp, by simp, by simp, by simp⟩ ?_
  rintro ⟨done, al, v⟩ h2 ⟨hs4, hd, hal, hsub, hmem⟩
  simp only at hs4 hd hal hmem hsub ⊢
  simp only [f12_T5]
  refine s_nextF str_inj hs4.swap (hs4.at 2) (fun hp => ?_) (fun x w h3 hx hs5 hleft => ?_)
  · simp only [go_sem, f12_T2]
    have hp' := hp.map (·.1)
    refine s_sort_strs Try.slices_Sort_string Try.slices_Sort_string_none ?_ hs4 fun h4 s hs6 hps hso => ?_
    · have := hm.len; omega
    · rw [f12_ret]
      have hnd : al.Nodup := hsub.nodup (hp'.symm.nodup hn)
      refine ⟨[vecR v 9 1 (s.map strRow)], ⟨s, rfl, sorted_lt hso (hps.symm.nodup hnd), fun a => ?_, by rw [hps.length_eq]; omega⟩, hs6.del 1⟩
      rw [hps.mem_iff, hmem, hp'.mem_iff]
      constructor
      · exact fun h => h.2
      · intro hst'
        refine ⟨?_, hst'⟩
        obtain ⟨k, h1, _⟩ := hst'
        exact List.mem_map.2 ⟨(a, .int .i64 ((k : Int) + 1)), (hes _ _).2 (by simp [owF, h1]), rfl⟩
  · obtain ⟨left, hleft⟩ := hleft
    have hdl : done.length + 1 ≤ es.length := by
      have := hleft.length_eq
      simp only [List.length_append, List.length_cons] at this
      omega
    obtain ⟨k, ho, rfl, hkl⟩ := hval x w hx
    obtain ⟨nn, hnn, hg⟩ := hm.now hD hkl
    simp only [go_sem, s_entryF (e := Value.string) (it := it) (r := some bo) (l := es) (done := done) (x := x) (v := .int .i64 ((k : Int) + 1)) (hs5.at 0) (hs5.at 2)]
    refine now_fnV (hlv _ (hs5.at 2)) hg hl ?_
    cases dn : decide (((now M.lists k : Nat) : Int) + 1 = n) with
    | false =>
      simp only [go_sem, dn]
      refine NextSt.mk (done ++ [(x, Value.int .i64 ((k : Int) + 1))], al, v) rfl ⟨hs5.sel [1, 0, 0, 0, 0], by simpa using hdl, by simp; omega, ?_, fun a => ?_⟩ (by simp only [List.length_append, List.length_singleton]; omega)
      · simp only [List.map_append]; exact hsub.trans (List.sublist_append_left _ _)
      · simp only [List.map_append, List.map_cons, List.map_nil, List.mem_append, List.mem_singleton]
        rw [hmem]
        constructor
        · rintro ⟨h1, h2⟩; exact ⟨.inl h1, h2⟩
        · rintro ⟨h1 | h1, h2⟩
          · exact ⟨h1, h2⟩
          · subst h1
            exact absurd ((hst _ k ho).1 h2) (of_decide_eq_false dn)
    | true =>
      simp only [go_sem, dn]
      refine s_append_one hs5.swap (row := [.string x]) rfl (by omega) (by omega) (by omega) rfl rfl (by simp [go_sem]) ?_ fun v' h' hs6 => ?_
      · simp only [List.length_map]; omega
      · refine NextSt.mk (done ++ [(x, Value.int .i64 ((k : Int) + 1))], al ++ [x], v') rfl ⟨?_, by simpa using hdl, by simp; omega, ?_, fun a => ?_⟩ (by simp only [List.length_append, List.length_singleton]; omega)
        · simpa [strRow] using hs6
        · simp only [List.map_append]; exact hsub.append (List.Sublist.refl _)
        · simp only [List.map_append, List.map_cons, List.map_nil, List.mem_append, List.mem_singleton]
          rw [hmem]
          constructor
          · rintro (⟨h1, h2⟩ | h1)
            · exact ⟨.inl h1, h2⟩
            · subst h1; exact ⟨.inr rfl, (hst _ k ho).2 (of_decide_eq_true dn)⟩
          · rintro ⟨h1 | h1, h2⟩
            · exact .inl ⟨h1, h2⟩
            · exact .inr h1
end
end Go.Proofs.Ytfooakkfoemdkaa

/- An owned slice cut short; sets as maps to true. -/
namespace Go.Fw
section
variable {h h' : Heap} {K : Kont} {v x : Value} {rows : List (List Value)} {sz k : Nat} {e : TypeId} {F : List Res} {o : Option Nat} {kk : IntKind}
theorem Vec.take (hv : Vec h v e sz rows o) (hk : k ≤ rows.length) : ∃ a cap, v = .slice a rows.length cap ∧ rows.length ≤ cap ∧ Vec h (.slice a k cap) e sz (rows.take k) o := by
  obtain ⟨g1, g2, g3⟩ := hv
  have t1 : ∀ r ∈ rows.take k, r.length = sz := fun r hr => g1 r (List.mem_of_mem_take hr)
  have t2 : ∀ r ∈ rows.take k, ∀ y ∈ r, oneC y = true := fun r hr => g2 r (List.mem_of_mem_take hr)
  rcases g3 with ⟨rfl, rfl, rfl⟩ | ⟨b, cap, c, rest, ho, rfl, hc, hg, hs, hl⟩
  · have : k = 0 := by simpa using hk
    subst this
    exact ⟨none, 0, rfl, Nat.le_refl _, t1, t2, .inl ⟨rfl, rfl, rfl⟩⟩
  · have hlen : (rows.take k).length = k := by rw [List.length_take]; omega
    refine ⟨some ⟨b, 0, none⟩, cap, rfl, hc, t1, t2, .inr ⟨b, cap, c, (rows.drop k).flatten ++ rest, ho, by rw [hlen], by rw [hlen]; omega, hg, hs, ?_⟩⟩
    rw [hl, ← List.append_assoc, ← List.flatten_append, List.take_append_drop]
/-- An owned slice is cut: it owns the block as before. -/
theorem s_cut {t : TypeId} (hs : Sep h (vecR v e sz rows :: F)) (hk : k ≤ rows.length) (hK : ∀ v', Sep h (vecR v' e sz (rows.take k) :: F) → K v' h) :
    oSlice (some (.slice t)) (some sz) v none (some (.int kk k)) K h := by
  obtain ⟨o, hv, hstep⟩ := hs.vec
  obtain ⟨a, cap, rfl, hc, hv'⟩ := hv.take hk
  simp only [oSlice, bndV, Int.toNat_natCast]
  refine ⟨by omega, by omega, by omega, hc, ?_⟩
  have e1 : (if cap = 0 then a else a.map (·.add (0 * sz))) = a := by
    split
    · rfl
    · cases a with
      | none => rfl
      | some ad => simp [Addr.add]
  rw [e1]
  have := hK _ (hstep _ _ _ _ _ _ hv' (Turn.refl ..) (fun _ hb => .inl hb))
  simpa using this
end
section
variable {h h' : Heap} {K : Kont}
/-- A set of integers as a map to true. -/
def setF (V : List Int) : Int → Option Value := fun x => if x ∈ V then some (.bool true) else none
theorem setF_nil : setF [] = fun _ => none := by funext x; simp [setF]
theorem setF_put (V : List Int) (n : Int) : (fun x => if x = n then some (.bool true) else setF V x) = setF (n :: V) := by
  funext x
  by_cases e : x = n <;> simp [setF, e]
theorem setF_snoc (V : List Int) (n : Int) : (fun x => if x = n then some (.bool true) else setF V x) = setF (V ++ [n]) := by
  funext x
  by_cases e : x = n <;> simp [setF, e]
theorem MapF.lookSet {b : Nat} {V : List Int} {n : Int} (hm : MapF (.int .i64) h b (setF V)) : oLookup (some (.int .i64, .bool false)) false (.map (some b)) (.int .i64 n) K h = K (.bool (decide (n ∈ V))) h := by
  rw [hm.look same_int]
  by_cases e : n ∈ V <;> simp [setF, e, lk]
end
def intRow (n : Int) : List Value := [.int .i64 n]
def boolRow (b : Bool) : List Value := [.bool b]
end Go.Fw

/- Links of a long 'and' of comparisons, one at a time (a simp over the whole chain does not end). -/
namespace Go.Fw
section
variable {d : Option TypeDesc} {h : Heap} {K : Kont} {t : Bool}
theorem link_int {k : IntKind} {a b : Int} (ht : t = true) (hab : a = b) (hk : K (.bool true) h) :
    gop (.bool t) true (fun K h => K (.int k a) h) (fun x h => gop (.bool t) true (oBin d .eql x (.int k b)) (fun y h => oPick (.bool t) y (.bool false) K h) h) h := by
  subst ht; subst hab
  rw [gop_tt]
  show gop (.bool true) true (oBin d .eql (.int k a) (.int k a)) _ h
  rw [gop_tt, bin_eql, decide_eq_true rfl]
  exact hk
theorem link_str {a b : ByteArray} (ht : t = true) (hab : a = b) (hk : K (.bool true) h) :
    gop (.bool t) true (fun K h => K (.string a) h) (fun x h => gop (.bool t) true (oBin d .eql x (.string b)) (fun y h => oPick (.bool t) y (.bool false) K h) h) h := by
  subst ht; subst hab
  rw [gop_tt]
  show gop (.bool true) true (oBin d .eql (.string a) (.string a)) _ h
  rw [gop_tt, sbin_eql, decide_eq_true rfl]
  exact hk
end
theorem Ext.turn {h h' : Heap} (he : Ext h h') : Turn h h' (fun _ => False) := by
  refine ⟨?_, fun b hb _ => ?_⟩
  · rcases Nat.eq_zero_or_pos h.size with e | e
    · omega
    · have h1 : h[h.size - 1]? = some h[h.size - 1] := Array.getElem?_eq_getElem (by omega)
      have := lt_of_get (he _ _ h1)
      omega
  · have h1 : h[b]? = some h[b] := Array.getElem?_eq_getElem hb
    rw [he _ _ h1, h1]
theorem turn_ext {h h' : Heap} (ht : Turn h h' (fun _ => False)) : Ext h h' := fun b o hb => by rw [ht.keep b (lt_of_get hb) (fun h => h)]; exact hb
end Go.Fw

/- Routes: what a step and a route come to (plain), and the walk of 'reaches'. -/
namespace Go.Proofs.Ytfooakkfoemdkaa
open Go.Fw
/-- What became of the part of a split. -/
def partI (M : Lin) (s : Spl) : Int := ((now M.lists (s.new - 1).toNat : Nat) : Int) + 1
inductive Reach (M : Lin) (V : List Int) : Int → Int → Prop
  | refl {c : Int} : Reach M V c c
  | tail {a c : Int} {s : Spl} : Reach M V a c → s ∈ M.splits → s.list = c → partI M s ∉ V → Reach M V a (partI M s)
def Meets (M : Lin) (V P : List Int) (a : Int) : Prop := ∃ x, Reach M V a x ∧ x ∈ P
/-- All numbers of splits' parts are numbers of lists. -/
def SpOk (M : Lin) : Prop := ∀ s ∈ M.splits, ∃ k : Nat, s.new = (k : Int) + 1 ∧ k < M.lists.length
/-- What 'reaches' has found: all that is in F leads on to F, but what still waits. -/
structure Found (M : Lin) (V P : List Int) (a : Int) (Fd W : List Int) : Prop where
  mem : a ∈ Fd
  sub : ∀ x ∈ W, x ∈ Fd
  reach : ∀ x ∈ Fd, Reach M V a x
  nodup : Fd.Nodup
  known : ∀ x ∈ Fd, known M x = true
  done : ∀ x ∈ Fd, x ∈ W ∨ (x ∉ P ∧ ∀ s ∈ M.splits, s.list = x → partI M s ∉ V → partI M s ∈ Fd)
/-- In the midst of a round for c, with the first i splits looked at. -/
structure FoundI (M : Lin) (V P : List Int) (a c : Int) (i : Nat) (Fd W : List Int) : Prop where
  mem : a ∈ Fd
  cmem : c ∈ Fd
  sub : ∀ x ∈ W, x ∈ Fd
  reach : ∀ x ∈ Fd, Reach M V a x
  nodup : Fd.Nodup
  known : ∀ x ∈ Fd, Ytfooakkfoemdkaa.known M x = true
  done : ∀ x ∈ Fd, x ≠ c → x ∈ W ∨ (x ∉ P ∧ ∀ s ∈ M.splits, s.list = x → partI M s ∉ V → partI M s ∈ Fd)
  cdone : ∀ s ∈ M.splits.take i, s.list = c → partI M s ∉ V → partI M s ∈ Fd
theorem known_range {L : List Int} {n : Nat} (hn : L.Nodup) (hk : ∀ x ∈ L, 1 ≤ x ∧ x ≤ (n : Int)) : L.length ≤ n := by
  have := nodup_len hn (L := (List.range n).map fun i : Nat => (i : Int) + 1) (fun x hx => by
    obtain ⟨h1, h2⟩ := hk x hx
    exact List.mem_map.2 ⟨(x - 1).toNat, List.mem_range.2 (by omega), by omega⟩)
  simpa using this
theorem known_iff {M : Lin} {x : Int} : known M x = true ↔ 1 ≤ x ∧ x ≤ (M.lists.length : Int) := by simp [known]
theorem Found.len {M : Lin} {V P : List Int} {a : Int} {Fd W : List Int} (h : Found M V P a Fd W) : Fd.length ≤ M.lists.length := known_range h.nodup fun x hx => known_iff.1 (h.known x hx)
theorem FoundI.len {M : Lin} {V P : List Int} {a c : Int} {i : Nat} {Fd W : List Int} (h : FoundI M V P a c i Fd W) : Fd.length ≤ M.lists.length := known_range h.nodup fun x hx => known_iff.1 (h.known x hx)
theorem Found.start {M : Lin} {V P : List Int} {a : Int} (ha : Ytfooakkfoemdkaa.known M a = true) : Found M V P a [a] [a] :=
  ⟨by simp, by simp, by simpa using Reach.refl, by simp, by simpa using ha, by simp⟩
theorem Found.end_ {M : Lin} {V P : List Int} {a : Int} {Fd : List Int} (h : Found M V P a Fd []) : ¬ Meets M V P a := by
  rintro ⟨x, hr, hx⟩
  have : x ∈ Fd := by
    clear hx
    induction hr with
    | refl => exact h.mem
    | tail _ hs hl hn ih =>
      rcases h.done _ ih with h1 | ⟨_, h1⟩
      · cases h1
      · exact h1 _ hs hl hn
  rcases h.done x this with h1 | ⟨h1, _⟩
  · cases h1
  · exact h1 hx
theorem Found.pop {M : Lin} {V P : List Int} {a c : Int} {Fd W : List Int} (h : Found M V P a Fd (W ++ [c])) : FoundI M V P a c 0 Fd W := by
  refine ⟨h.mem, h.sub c (by simp), fun x hx => h.sub x (by simp [hx]), h.reach, h.nodup, h.known, fun x hx hne => ?_, by simp⟩
  rcases h.done x hx with h1 | h1
  · rw [List.mem_append, List.mem_singleton] at h1
    exact .inl (h1.resolve_right hne)
  · exact .inr h1
theorem FoundI.all {M : Lin} {V P : List Int} {a c : Int} {Fd W : List Int} (h : FoundI M V P a c M.splits.length Fd W) (hc : c ∉ P) : Found M V P a Fd W := by
  refine ⟨h.mem, h.sub, h.reach, h.nodup, h.known, fun x hx => ?_⟩
  by_cases e : x = c
  · subst e
    exact .inr ⟨hc, fun s hs => h.cdone s (by rw [List.take_length]; exact hs)⟩
  · exact h.done x hx e
theorem FoundI.skip {M : Lin} {V P : List Int} {a c : Int} {i : Nat} {Fd W : List Int} (h : FoundI M V P a c i Fd W) (hi : i < M.splits.length)
    (hno : ¬ (M.splits[i].list = c ∧ partI M M.splits[i] ∉ V ∧ partI M M.splits[i] ∉ Fd)) : FoundI M V P a c (i + 1) Fd W := by
  refine { h with cdone := fun s hs hl hn => ?_ }
  rw [List.take_succ_eq_append_getElem hi, List.mem_append, List.mem_singleton] at hs
  rcases hs with hs | rfl
  · exact h.cdone s hs hl hn
  · exact Classical.byContradiction fun hh => hno ⟨hl, hn, hh⟩
theorem now_known {M : Lin} {D : Nat} (hm : Ok M D) (hD : D ≤ 1000) {k : Nat} (hk : k < M.lists.length) : known M (((now M.lists k : Nat) : Int) + 1) = true := by
  obtain ⟨n, _, hg⟩ := hm.now hD hk
  obtain ⟨x, hx, _⟩ := hg.end_
  have := (List.getElem?_eq_some_iff.1 hx).1
  rw [known_iff]
  omega
theorem part_known {M : Lin} {D : Nat} (hm : Ok M D) (hD : D ≤ 1000) (hsp : SpOk M) {s : Spl} (hs : s ∈ M.splits) : known M (partI M s) = true := by
  obtain ⟨k, hk, hlt⟩ := hsp s hs
  have e : (s.new - 1).toNat = k := by omega
  unfold partI
  rw [e]
  exact now_known hm hD hlt
theorem FoundI.push {M : Lin} {V P : List Int} {a c : Int} {i D : Nat} {Fd W : List Int} (h : FoundI M V P a c i Fd W) (hm : Ok M D) (hD : D ≤ 1000) (hsp : SpOk M) (hi : i < M.splits.length)
    (hl : M.splits[i].list = c) (hn : partI M M.splits[i] ∉ V) (hf : partI M M.splits[i] ∉ Fd) : FoundI M V P a c (i + 1) (partI M M.splits[i] :: Fd) (W ++ [partI M M.splits[i]]) := by
  have hmem : M.splits[i] ∈ M.splits := List.getElem_mem hi
  generalize hd : partI M M.splits[i] = d at *
  refine ⟨.tail _ h.mem, .tail _ h.cmem, fun x hx => ?_, fun x hx => ?_, List.nodup_cons.2 ⟨hf, h.nodup⟩, fun x hx => ?_, fun x hx hne => ?_, fun s hs hsl hsn => ?_⟩
  · rcases List.mem_append.1 hx with hx | hx
    · exact .tail _ (h.sub x hx)
    · rw [List.mem_singleton] at hx; rw [hx]; exact .head _
  · rcases List.mem_cons.1 hx with rfl | hx
    · rw [← hd]
      exact Reach.tail (h.reach c h.cmem) hmem hl (by rw [hd]; exact hn)
    · exact h.reach x hx
  · rcases List.mem_cons.1 hx with rfl | hx
    · rw [← hd]; exact part_known hm hD hsp hmem
    · exact h.known x hx
  · rcases List.mem_cons.1 hx with rfl | hx
    · exact .inl (by simp)
    · rcases h.done x hx hne with h1 | ⟨h1, h2⟩
      · exact .inl (List.mem_append_left _ h1)
      · exact .inr ⟨h1, fun s hs hl hn => .tail _ (h2 s hs hl hn)⟩
  · rw [List.take_succ_eq_append_getElem hi, List.mem_append, List.mem_singleton] at hs
    rcases hs with hs | rfl
    · exact .tail _ (h.cdone s hs hsl hsn)
    · rw [hd]; exact .head _
/-- What a route reads, in all heaps in which F lies. -/
structure RtV (F : List Res) (r p : Nat) (M : Lin) (P V : List Int) (H : List Bool) (bp bv : Nat) (hv vs : Value) : Prop where
  c0 : ∀ h, Sep h F → cellAt h r 0 = some (ptr p)
  c1 : ∀ h, Sep h F → cellAt h r 1 = some (.map (some bp))
  c2 : ∀ h, Sep h F → cellAt h r 2 = some hv
  c3 : ∀ h, Sep h F → cellAt h r 3 = some (.map (some bv))
  mp : ∀ h, Sep h F → MapF (.int .i64) h bp (setF P)
  mv : ∀ h, Sep h F → MapF (.int .i64) h bv (setF V)
  hr : ∀ h, Sep h F → RowsR (fun _ => True) h hv 1 (H.map boolRow)
  lv : ∀ h, Sep h F → LV p M h
  d1 : ∀ h, Sep h F → cellAt h p 1 = some vs
  sr : ∀ h, Sep h F → RowsR (fun _ => True) h vs 4 (M.splits.map splRow)
section
variable {F : List Res} {r p : Nat} {M : Lin} {P V : List Int} {H : List Bool} {bp bv : Nat} {hv vs : Value} {h : Heap} {K : Kont} {q : LPost} {D : Nat}
set_option maxRecDepth 8000 in
set_option maxHeartbeats 1000000 in
theorem reach_round {i : Nat} {c : Int} {Fd W : List Int} {bf : Nat} {wv v1 v4 : Value} (rt : RtV F r p M P V H bp bv hv vs) (hm : Ok M D) (hD : D ≤ 1000) (hsp : SpOk M) (hi : i < M.splits.length)
    (hW : W.length ≤ 200) (hs : Sep h (vecR wv 3 1 (W.map intRow) :: mapR (.int .i64) bf (setF Fd) :: F))
    (hno : ∀ h', Sep h' (vecR wv 3 1 (W.map intRow) :: mapR (.int .i64) bf (setF Fd) :: F) → ¬ (M.splits[i].list = c ∧ partI M M.splits[i] ∉ V ∧ partI M M.splits[i] ∉ Fd) → q .normal [ptr r, v1, v4, .map (some bf), wv, .int .i64 c, vs, .int .i64 M.splits.length, .int .i64 ((i + 1 : Nat) : Int)] h')
    (hyes : ∀ h' wv', Sep h' (vecR wv' 3 1 ((W ++ [partI M M.splits[i]]).map intRow) :: mapR (.int .i64) bf (setF (partI M M.splits[i] :: Fd)) :: F) → M.splits[i].list = c → partI M M.splits[i] ∉ V → partI M M.splits[i] ∉ Fd →
      q .normal [ptr r, v1, v4, .map (some bf), wv', .int .i64 c, vs, .int .i64 M.splits.length, .int .i64 ((i + 1 : Nat) : Int)] h') :
    f58_T12 q [ptr r, v1, v4, .map (some bf), wv, .int .i64 c, vs, .int .i64 M.splits.length, .int .i64 (i : Int)] h := by
  have hl : M.lists.length ≤ 4294967296 := by have := hm.len; omega
  have hspl := hm.spl
  have hdk : decide ((i : Int) < (M.splits.length : Int)) = true := by simp; omega
  have hk1 : (i : Int) + 1 = ((i + 1 : Nat) : Int) := rfl
  obtain ⟨k, hk, hkl⟩ := hsp M.splits[i] (List.getElem_mem hi)
  obtain ⟨nn, hnn, hg⟩ := hm.now hD hkl
  have hpart : partI M M.splits[i] = ((now M.lists k : Nat) : Int) + 1 := by
    unfold partI
    have e : (M.splits[i].new - 1).toNat = k := by omega
    rw [e]
  rw [hpart] at hno hyes
  obtain ⟨b, o, hidx, hcell, hload⟩ := elem_at (r := splRow M.splits[i]) (rt.sr h (hs.del 0 |>.del 0)) (k := i) (by simpa using hi) (by simp) (by omega)
  have z73 : zeroOf Try.prog 73 = some (.agg #[.int .i64 0, .int .i64 0, .int .i64 0, .string (ByteArray.mk #[])]) := by kernel_rfl
  simp -implicitDefEqProofs only [f58_T12, go_sem, hdk, hidx, hload, z73]
  refine s_alloc hs fun h1 b1 hs1 => ?_
  refine s_store hs1 rfl rfl (by simp [splRow, go_sem]) fun h2 hs2 => ?_
  have hF : Sep h2 F := hs2.tail.tail.tail
  have hs3 : Sep h2 (vecR wv 3 1 (W.map intRow) :: mapR (.int .i64) bf (setF Fd) :: F) := hs2.tail
  have e0 : cellAt h2 b1 0 = some (.int .i64 M.splits[i].list) := (hs2.at 0).cell 0
  have e1 : cellAt h2 b1 1 = some (.int .i64 M.splits[i].new) := (hs2.at 0).cell 1
  have c0 := rt.c0 h2 hF
  have c3 := rt.c3 h2 hF
  rw [hk] at e1
  have hlookV : ∀ K, oLookup (some (.int .i64, .bool false)) false (.map (some bv)) (.int .i64 (((now M.lists k : Nat) : Int) + 1)) K h2 = K (.bool (decide ((((now M.lists k : Nat) : Int) + 1) ∈ V))) h2 := fun K => (rt.mv h2 hF).lookSet
  have hlookF : ∀ K, oLookup (some (.int .i64, .bool false)) false (.map (some bf)) (.int .i64 (((now M.lists k : Nat) : Int) + 1)) K h2 = K (.bool (decide ((((now M.lists k : Nat) : Int) + 1) ∈ Fd))) h2 := fun K => ((hs3.at 1).mapF).lookSet
  unfold ptr at *
  simp -implicitDefEqProofs only [go_sem, Nat.zero_add, c0, e1]
  refine now_fnV (rt.lv h2 hF) hg hl ?_
  generalize ((now M.lists k : Nat) : Int) + 1 = d at *
  cases dl : decide (M.splits[i].list = c) with
  | false =>
    simp -implicitDefEqProofs (disch := omega) only [go_sem, Nat.zero_add, e0, dl, f58_T13, bin_add_in, hk1]
    exact hno h2 hs3 (fun hh => of_decide_eq_false dl hh.1)
  | true =>
    cases dv : decide (d ∈ V) with
    | true =>
      simp -implicitDefEqProofs (disch := omega) only [go_sem, Nat.zero_add, e0, dl, c3, hlookV, dv, Bool.not_true, f58_T13, bin_add_in, hk1]
      exact hno h2 hs3 (fun hh => hh.2.1 (of_decide_eq_true dv))
    | false =>
      cases df : decide (d ∈ Fd) with
      | true =>
        simp -implicitDefEqProofs (disch := omega) only [go_sem, Nat.zero_add, e0, dl, c3, hlookV, dv, Bool.not_true, Bool.not_false, hlookF, df, f58_T13, bin_add_in, hk1]
        exact hno h2 hs3 (fun hh => hh.2.2 (of_decide_eq_true df))
      | false =>
        simp -implicitDefEqProofs (disch := omega) only [go_sem, Nat.zero_add, e0, dl, c3, hlookV, dv, Bool.not_true, Bool.not_false, hlookF, df]
        refine s_put same_int (k := d) (hs3.pick 1) fun h4 hs4 => ?_
        rw [setF_put] at hs4
        refine s_append_one (hs4.pick 1) (row := intRow d) rfl (by omega) (by omega) (by omega) rfl rfl (by simp [intRow, go_sem]) (by simp only [List.length_map]; omega) fun v' h5 hs5 => ?_
        simp -implicitDefEqProofs (disch := omega) only [f58_T13, go_sem, bin_add_in, hk1]
        refine hyes h5 v' ?_ (of_decide_eq_true dl) (of_decide_eq_false dv) (of_decide_eq_false df)
        rw [List.map_append, List.map_cons, List.map_nil]
        exact hs5
structure RcS where
  Fd : List Int
  W : List Int
  wv : Value
  v7 : Value
  v42 : Value
  v43 : Value
  v44 : Value
structure RcI where
  i : Nat
  Fd : List Int
  W : List Int
  wv : Value
set_option maxRecDepth 8000 in
set_option maxHeartbeats 1000000 in
/-- A round of 'reaches': one list is taken off, and its parts are looked at. -/
theorem reach_inner {a c : Int} {Fd W : List Int} {bf : Nat} {wv v1 v4 : Value} (rt : RtV F r p M P V H bp bv hv vs) (hm : Ok M D) (hD : D ≤ 1000) (hsp : SpOk M) (hf : FoundI M V P a c 0 Fd W) (hc : c ∉ P) (hb : 2 * (M.lists.length - Fd.length) + W.length ≤ 101)
    (hs : Sep h (vecR wv 3 1 (W.map intRow) :: mapR (.int .i64) bf (setF Fd) :: F))
    (hk : ∀ h' wv' Fd' W' v44, Sep h' (vecR wv' 3 1 (W'.map intRow) :: mapR (.int .i64) bf (setF Fd') :: F) → Found M V P a Fd' W' → 2 * (M.lists.length - Fd'.length) + W'.length ≤ 2 * (M.lists.length - Fd.length) + W.length →
      q .normal [ptr r, v1, v4, .map (some bf), wv', .int .i64 c, vs, .int .i64 M.splits.length, v44] h')  :
    f58_T11 q [ptr r, v1, v4, .map (some bf), wv, .int .i64 c, vs, .int .i64 M.splits.length, .int .i64 0] h := by
  have hml := hm.len
  have subl : ∀ {i : Nat} {Fd W : List Int}, FoundI M V P a c i Fd W → Fd.length ≤ 50 := fun h => Nat.le_trans h.len hml
  refine LoopS.st (σ := RcI) (fun s => [ptr r, v1, v4, .map (some bf), s.wv, .int .i64 c, vs, .int .i64 M.splits.length, .int .i64 s.i])
    (fun s h' => Sep h' (vecR s.wv 3 1 (s.W.map intRow) :: mapR (.int .i64) bf (setF s.Fd) :: F) ∧ FoundI M V P a c s.i s.Fd s.W ∧ s.i ≤ M.splits.length ∧ 2 * (M.lists.length - s.Fd.length) + s.W.length ≤ 2 * (M.lists.length - Fd.length) + W.length)
    (fun s => M.splits.length - s.i) ⟨0, Fd, W, wv⟩ rfl ⟨hs, hf, Nat.zero_le _, Nat.le_refl _⟩ ?_
  rintro ⟨i, Fd', W', wv'⟩ h' ⟨hs', hf', hi', hle⟩
  simp only at hs' hf' hi' hle ⊢
  by_cases hi : i < M.splits.length
  · refine reach_round rt hm hD hsp hi (by omega) hs' (fun h2 hs2 hno => ?_) (fun h2 wv2 hs2 hl hn hF => ?_)
    · rw [thenL_normal]
      exact NextSt.mk ⟨i + 1, Fd', W', wv'⟩ rfl ⟨hs2, hf'.skip hi hno, hi, hle⟩ (by simp only; omega)
    · rw [thenL_normal]
      have hp := hf'.push hm hD hsp hi hl hn hF
      have := hp.len
      refine NextSt.mk ⟨i + 1, partI M M.splits[i] :: Fd', W' ++ [partI M M.splits[i]], wv2⟩ rfl ⟨hs2, hp, hi, ?_⟩ (by simp only; omega)
      simp only [List.length_cons, List.length_append, List.length_nil] at this ⊢
      omega
  · have hd : decide ((i : Int) < (M.splits.length : Int)) = false := by simp; omega
    have : i = M.splits.length := by omega
    subst this
    simp only [f58_T12, go_sem, hd]
    exact hk h' wv' Fd' W' _ hs' (hf'.all hc) hle
set_option maxRecDepth 8000 in
set_option maxHeartbeats 1000000 in
/-- 'reaches'. -/
theorem reaches_fn {a : Int} (rt : RtV F r p M P V H bp bv hv vs) (hm : Ok M D) (hD : D ≤ 1000) (hsp : SpOk M) (ha : known M a = true) (hs : Sep h F) (hyes : Meets M V P a → ∀ h', Sep h' F → K (.bool true) h') (hno : ¬ Meets M V P a → ∀ h', Sep h' F → K (.bool false) h') :
    FnH Try.prog 58 #[ptr r, .int .i64 a] h K := by
  refine f58_fn ?_
  simp only [f58_T0, go_sem]
  have hs1 : Sep (h.push (.map #[] 0)) (mapR (.int .i64) h.size (setF []) :: F) := by
    rw [setF_nil]; exact hs.newMap
  refine s_put same_int (k := a) hs1 fun h2 hs2 => ?_
  rw [setF_put] at hs2
  have hb := fun K : Kont => build_slice_of (K := K) (h := h2) (e := 3) (size := 1) (bytes := 8) (z := .int .i64 0) (len := 1) (parts := [(0, .int .i64 a)]) (cs := #[.int .i64 a]) (by omega) (by kernel_rfl)
  rw [hb]
  have hs3 : Sep (h2.push (.cells #[.int .i64 a] 3)) (vecR (.slice (some ⟨h2.size, 0, none⟩) 1 1) 3 1 ([a].map intRow) :: mapR (.int .i64) h.size (setF [a]) :: F) :=
    hs2.newVec (rows := [a].map intRow) (e := 3) (sz := 1) (n := 1) rfl (by simp [intRow]) (by simp [intRow, go_sem])
  generalize Value.slice (some ⟨h2.size, 0, none⟩) 1 1 = wv at *
  generalize h2.push (.cells #[.int .i64 a] 3) = h3 at *
  generalize h.size = bf at *
  refine LoopS.st (σ := RcS) (fun s => [ptr r, .int .i64 a, .bool false, .map (some bf), s.wv, s.v7, s.v42, s.v43, s.v44])
    (fun s h' => Sep h' (vecR s.wv 3 1 (s.W.map intRow) :: mapR (.int .i64) bf (setF s.Fd) :: F) ∧ Found M V P a s.Fd s.W ∧ 2 * (M.lists.length - s.Fd.length) + s.W.length ≤ 101)
    (fun s => 2 * (M.lists.length - s.Fd.length) + s.W.length) ⟨[a], [a], wv, undef, undef, undef, undef⟩ rfl ⟨hs3, Found.start ha, by have := hm.len; simp; omega⟩ ?_
  rintro ⟨Fd, W, wv, v7, v42, v43, v44⟩ h' ⟨hs', hf, hb⟩
  simp only at hs' hf hb ⊢
  have hlen : ∀ K, oLen (some (.slice 3)) wv K h' = K (.int .i64 W.length) h' := fun K => by rw [len_val (hs'.at 0).rows, List.length_map]
  rcases List.eq_nil_or_concat W with rfl | ⟨W', c, rfl⟩
  · have hd : decide ((0 : Int) < (([] : List Int).length : Int)) = false := by simp
    simp only [f58_T5, go_sem, hlen, hd, f58_T2]
    rw [f58_ret]
    exact hno hf.end_ h' hs'.tail.tail
  · rw [List.concat_eq_append] at *
    have hWl : 2 * (M.lists.length - Fd.length) + W'.length + 1 ≤ 101 := by simpa [Nat.add_assoc] using hb
    have hd : decide ((0 : Int) < (((W' ++ [c]).length : Nat) : Int)) = true := by simp
    have e : (((W' ++ [c]).length : Nat) : Int) - 1 = (W'.length : Nat) := by simp
    obtain ⟨b, o, hidx, hcell, _⟩ := elem_at (r := intRow c) (hs'.at 0).rows (k := W'.length) (by simp) (by simp) (by omega)
    have ec : cellAt h' b o = some (.int .i64 c) := hcell 0 (by omega)
    simp -implicitDefEqProofs (disch := omega) only [f58_T5, go_sem, hlen, hd, f58_T8, bin_sub_in, e, hidx, ec]
    refine s_cut hs' (by simp) fun wv' hs4 => ?_
    have htake : ((W' ++ [c]).map intRow).take W'.length = W'.map intRow := by simp
    rw [htake] at hs4
    have hF : Sep h' F := hs4.tail.tail
    have hlookP : ∀ K, oLookup (some (.int .i64, .bool false)) false (.map (some bp)) (.int .i64 c) K h' = K (.bool (decide (c ∈ P))) h' := fun K => (rt.mp h' hF).lookSet
    have c1 := rt.c1 h' hF
    have c0 := rt.c0 h' hF
    have d1 := rt.d1 h' hF
    have hlv : ∀ K, oLen (some (.slice 73)) vs K h' = K (.int .i64 M.splits.length) h' := fun K => by rw [len_val (rt.sr h' hF), List.length_map]
    unfold ptr at *
    cases dp : decide (c ∈ P) with
    | true =>
      simp -implicitDefEqProofs (disch := omega) only [go_sem, Nat.zero_add, c1, hlookP, dp]
      rw [f58_ret]
      exact hyes ⟨c, hf.reach c (hf.sub c (by simp)), of_decide_eq_true dp⟩ h' hF
    | false =>
      simp -implicitDefEqProofs (disch := omega) only [go_sem, Nat.zero_add, c1, hlookP, dp, c0, d1, hlv]
      refine reach_inner rt hm hD hsp hf.pop (of_decide_eq_false dp) (by omega) hs4 fun h5 wv5 Fd5 W5 v44' hs5 hf5 hle => ?_
      simp only [go_sem]
      refine NextSt.mk ⟨Fd5, W5, wv5, .int .i64 c, vs, .int .i64 M.splits.length, v44'⟩ rfl ⟨hs5, hf5, by simp only; omega⟩ ?_
      simp only [List.length_append, List.length_singleton]
      omega
end
end Go.Proofs.Ytfooakkfoemdkaa

/- The calls keep the lineage right (plain). -/
namespace Go.Proofs.Ytfooakkfoemdkaa
open Go.Fw
theorem mod_eq {L : List Lst} {k : Nat} {x : Lst} {f : Lst → Lst} (h : L[k]? = some x) : (L.modify k f)[k]? = some (f x) := by
  rw [List.getElem?_modify, h]; simp
theorem mod_ne {L : List Lst} {j k : Nat} {x : Lst} {f : Lst → Lst} (h : L[k]? = some x) (e : k ≠ j) : (L.modify j f)[k]? = some x := by
  rw [List.getElem?_modify, h]; simp [e.symm]
theorem Goes.append {L : List Lst} {n k r : Nat} {y : Lst} (h : Goes L n k r) : Goes (L ++ [y]) n k r := by
  induction h with
  | root h1 h2 => exact .root (by rw [List.getElem?_append_left (List.getElem?_eq_some_iff.1 h1).1]; exact h1) h2
  | step h1 h2 _ ih => exact .step (by rw [List.getElem?_append_left (List.getElem?_eq_some_iff.1 h1).1]; exact h1) h2 ih
theorem Goes.modify {L : List Lst} {n k r j : Nat} {f : Lst → Lst} (hf : ∀ x, (f x).into = x.into) (h : Goes L n k r) : Goes (L.modify j f) n k r := by
  induction h with
  | @root k x h1 h2 =>
    by_cases e : k = j
    · subst e; exact .root (mod_eq h1) (by rw [hf]; exact h2)
    · exact .root (mod_ne h1 e) h2
  | @step n k j' r x h1 h2 _ ih =>
    by_cases e : k = j
    · subst e; exact .step (mod_eq h1) (by rw [hf]; exact h2) ih
    · exact .step (mod_ne h1 e) h2 ih
theorem Goes.merge {L : List Lst} {n k r k0 g : Nat} {x0 y : Lst} (h0 : L[k0]? = some x0) (h00 : x0.into = 0) (hg : L[g]? = some y) (hg0 : y.into = 0) (hne : g ≠ k0) (h : Goes L n k r) :
    (r ≠ k0 ∧ Goes (L.modify k0 fun x => { x with into := (g : Int) + 1 }) n k r) ∨ (r = k0 ∧ Goes (L.modify k0 fun x => { x with into := (g : Int) + 1 }) (n + 1) k g) := by
  have hroot : Goes (L.modify k0 fun x => { x with into := (g : Int) + 1 }) 0 g g :=
    .root (mod_ne hg hne) hg0
  induction h with
  | @root k x h1 h2 =>
    by_cases e : k = k0
    · subst e
      exact .inr ⟨rfl, .step (mod_eq h1) rfl hroot⟩
    · exact .inl ⟨e, .root (mod_ne h1 e) h2⟩
  | @step n k j r x h1 h2 _ ih =>
    have e : k ≠ k0 := by
      rintro rfl
      rw [h0] at h1
      injection h1 with h1
      subst h1
      omega
    have hk : (L.modify k0 fun x => { x with into := (g : Int) + 1 })[k]? = some x := mod_ne h1 e
    exact ih.imp (fun ⟨h3, h4⟩ => ⟨h3, .step hk h2 h4⟩) (fun ⟨h3, h4⟩ => ⟨h3, .step hk h2 h4⟩)
structure Inv (M : Lin) (D : Nat) (names : List ByteArray) : Prop where
  ok : Ok M D
  sp : SpOk M
  nd : names.Nodup
  dom : ∀ a, a ∈ names ↔ M.ow a ≠ none
  nl : names.length ≤ D
theorem Inv.new : Inv newL 0 [] :=
  ⟨⟨by simp [newL], by simp [newL], by simp [newL], ⟨[], by simp, by simp [newL]⟩, by simp [newL]⟩, by simp [SpOk, newL], by simp, by simp [newL], by simp⟩
theorem Inv.mono {M : Lin} {D D' : Nat} {names : List ByteArray} (h : Inv M D names) (hD : D ≤ D') : Inv M D' names :=
  ⟨⟨h.ok.len, fun k hk => by obtain ⟨n, r, h1, h2⟩ := h.ok.goes k hk; exact ⟨n, r, by omega, h2⟩, h.ok.own, by obtain ⟨L, h1, h2⟩ := h.ok.dom; exact ⟨L, by omega, h2⟩, by have := h.ok.spl; omega⟩, h.sp, h.nd, h.dom, by have := h.nl; omega⟩
section
variable {M : Lin} {D : Nat} {names : List ByteArray} {s : ByteArray}
theorem free_none (h : freeI M s = 0) : M.ow s = none := by
  unfold freeI at h
  split at h
  · split at h
    · omega
    · rename_i hh
      cases ho : M.ow s with
      | none => rfl
      | some i => rw [ho] at hh; exact absurd rfl hh
  · omega
/-- A name more. -/
theorem Inv.name (h : Inv M D names) (hf : freeI M s = 0) {k : Nat} {L' : List Lst} (hlen : L'.length ≤ 50) (hk : k < L'.length) (hle : M.lists.length ≤ L'.length) (hg : ∀ k, k < L'.length → ∃ n r, n ≤ D + 1 ∧ Goes L' n k r) {S' : List Spl} (hS : S'.length ≤ D + 1)
    (hS' : ∀ s ∈ S', ∃ k : Nat, s.new = (k : Int) + 1 ∧ k < L'.length) :
    Inv ⟨L', S', fun x => if x = s then some ((k : Int) + 1) else M.ow x⟩ (D + 1) (names ++ [s]) := by
  have hno := free_none hf
  refine ⟨⟨hlen, hg, fun a i ho => ?_, ?_, hS⟩, hS', ?_, fun a => ?_, by have := h.nl; simp; omega⟩
  · simp only at ho
    split at ho
    · injection ho with ho
      exact ⟨k, ho.symm, hk⟩
    · obtain ⟨j, h1, h2⟩ := h.ok.own a i ho
      exact ⟨j, h1, Nat.lt_of_lt_of_le h2 hle⟩
  · obtain ⟨L, h1, h2⟩ := h.ok.dom
    refine ⟨s :: L, by simpa using h1, fun a ha => ?_⟩
    simp only at ha
    split at ha
    · rename_i e; rw [e]; exact .head _
    · exact .tail _ (h2 a ha)
  · rw [List.nodup_append]
    refine ⟨h.nd, by simp, fun a ha b hb e => ?_⟩
    rw [List.mem_singleton] at hb
    subst hb
    subst e
    exact (h.dom _).1 ha hno
  · rw [List.mem_append, List.mem_singleton, h.dom]
    by_cases e : a = s
    · simp [e]
    · simp [e]
theorem Inv.add (h : Inv M D names) (par : Int) (he : (addM M s par).2.2 = 0) : Inv (addM M s par).1 (D + 1) (names ++ [s]) ∧ (addM M s par).2.1 = (M.lists.length : Int) + 1 ∧ (addM M s par).1.lists.length = M.lists.length + 1 ∧ (addM M s par).1.splits = M.splits := by
  unfold addM at he ⊢
  split at he
  · rename_i h1; exact absurd he h1
  · rename_i h1
    split at he
    · cases he
    · rename_i h2
      rw [if_neg h1, if_neg h2]
      refine ⟨?_, rfl, by simp [addL], rfl⟩
      refine h.name (by simpa using h1) (k := M.lists.length) (by simp; omega) (by simp) (by simp) (fun k hk => ?_) (by have := h.ok.spl; omega) (fun s hs => ?_)
      · by_cases e : k < M.lists.length
        · obtain ⟨n, r, h3, h4⟩ := h.ok.goes k e
          exact ⟨n, r, by omega, h4.append⟩
        · have : k = M.lists.length := by simp at hk; omega
          subst this
          exact ⟨0, _, by omega, .root (x := ⟨(M.lists.length : Int) + 1, 0, par, s, ⟨#[]⟩⟩) (by simp) rfl⟩
      · obtain ⟨k, h3, h4⟩ := h.sp s hs
        exact ⟨k, h3, by simp; omega⟩
theorem addM_err (par : Int) (he : (addM M s par).2.2 ≠ 0) : (addM M s par).1 = M := by
  unfold addM at he ⊢
  split at he
  · rename_i h; rw [if_pos h]
  · rename_i h
    split at he
    · rename_i h2; rw [if_neg h, if_pos h2]
    · exact absurd rfl he
theorem Inv.modify (h : Inv M D names) {k : Nat} {f : Lst → Lst} (hf : ∀ x, (f x).into = x.into) : Inv (M.setL k f) (D + 1) names := by
  have h' := h.mono (Nat.le_succ D)
  refine ⟨⟨by simpa [Lin.setL] using h.ok.len, fun j hj => ?_, fun a i ho => ?_, h'.ok.dom, h'.ok.spl⟩, fun s hs => ?_, h.nd, h.dom, h'.nl⟩
  · obtain ⟨n, r, h1, h2⟩ := h'.ok.goes j (by simpa [Lin.setL] using hj)
    exact ⟨n, r, h1, h2.modify hf⟩
  · obtain ⟨j, h1, h2⟩ := h.ok.own a i ho
    exact ⟨j, h1, by simpa [Lin.setL] using h2⟩
  · obtain ⟨j, h1, h2⟩ := h.sp s hs
    exact ⟨j, h1, by simpa [Lin.setL] using h2⟩
theorem live_into {x : Lst} (h : live x = true) : x.into = 0 := by
  unfold live at h
  simp only [Bool.and_eq_true, decide_eq_true_eq] at h
  exact h.1
theorem Inv.merge (h : Inv M D names) (hD : D ≤ 1000) (a b : Int) : Inv (mergeM M a b).1 (D + 1) names := by
  have h' := h.mono (Nat.le_succ D)
  unfold mergeM
  split
  · exact h'
  · rename_i hk
    split
    · exact h'
    · rename_i hr
      obtain ⟨k0, rfl, hk0, hlive⟩ := ready_ex (by simpa using hr)
      obtain ⟨j, rfl, hj⟩ := known_ex (by simpa using hk)
      have e2 : ((j : Int) + 1 - 1).toNat = j := by omega
      have e3 : ((k0 : Int) + 1 - 1).toNat = k0 := by omega
      simp only [e2, e3]
      obtain ⟨nn, _, hg⟩ := h.ok.now hD hj
      generalize now M.lists j = g at *
      obtain ⟨y, hy, hy0⟩ := hg.end_
      split
      · exact h'
      · split
        · exact h'
        · rename_i hne
          have hx : M.lists[k0]? = some M.lists[k0] := List.getElem?_eq_getElem hk0
          refine ⟨⟨by simpa [Lin.setL] using h.ok.len, fun i hi => ?_, fun a i ho => ?_, h'.ok.dom, h'.ok.spl⟩, fun s hs => ?_, h.nd, h.dom, h'.nl⟩
          · obtain ⟨n, r, h1, h2⟩ := h.ok.goes i (by simpa [Lin.setL] using hi)
            rcases h2.merge hx (live_into hlive) hy hy0 (by omega) with ⟨_, h3⟩ | ⟨_, h3⟩
            · exact ⟨n, r, by omega, h3⟩
            · exact ⟨n + 1, g, by omega, h3⟩
          · obtain ⟨j, h1, h2⟩ := h.ok.own a i ho
            exact ⟨j, h1, by simpa [Lin.setL] using h2⟩
          · obtain ⟨j, h1, h2⟩ := h.sp s hs
            exact ⟨j, h1, by simpa [Lin.setL] using h2⟩
theorem Inv.move (h : Inv M D names) (n : Int) (s : ByteArray) : Inv (moveM M n s).1 (D + 1) names := by
  unfold moveM
  split
  · exact h.mono (Nat.le_succ D)
  · split
    · exact h.mono (Nat.le_succ D)
    · exact h.modify fun _ => rfl
theorem Inv.rename (h : Inv M D names) (n : Int) (he : (renameM M n s).2 = 0) : Inv (renameM M n s).1 (D + 1) (names ++ [s]) := by
  unfold renameM at he ⊢
  split at he
  · rename_i h1; exact absurd he h1
  · rename_i h1
    split at he
    · rename_i h2; exact absurd he h2
    · rename_i h2
      rw [if_neg h1, if_neg h2]
      obtain ⟨k, rfl, hk, _⟩ := ready_ex (by simpa using h1)
      refine h.name (by simpa using h2) (k := k) (by simpa using h.ok.len) (by simpa using hk) (by simp) (fun j hj => ?_) (by have := h.ok.spl; omega) (fun s hs => ?_)
      · obtain ⟨n, r, h3, h4⟩ := h.ok.goes j (by simpa using hj)
        exact ⟨n, r, by omega, h4.modify fun _ => rfl⟩
      · obtain ⟨j, h3, h4⟩ := h.sp s hs
        exact ⟨j, h3, by simpa using h4⟩
theorem renameM_err (n : Int) (he : (renameM M n s).2 ≠ 0) : (renameM M n s).1 = M := by
  unfold renameM at he ⊢
  split at he
  · rename_i h; rw [if_pos h]
  · rename_i h
    split at he
    · rename_i h2; rw [if_neg h, if_pos h2]
    · exact absurd rfl he
theorem Inv.split (h : Inv M D names) (n : Int) (p : ByteArray) (i : Int) (he : (splitM M n s p i).2.2 = 0) : Inv (splitM M n s p i).1 (D + 1) (names ++ [s]) := by
  unfold splitM at he ⊢
  split at he
  · rename_i h1; exact absurd he h1
  · rename_i h1
    simp only at he
    split at he
    · rename_i h2; exact absurd he h2
    · rename_i h2
      simp only
      rw [if_neg h1, if_neg h2]
      obtain ⟨h3, h4, h5, h6⟩ := h.add n (Classical.not_not.1 h2)
      refine ⟨⟨h3.ok.len, h3.ok.goes, h3.ok.own, h3.ok.dom, ?_⟩, fun s hs => ?_, h3.nd, h3.dom, h3.nl⟩
      · have := h.ok.spl
        simp only [List.length_append, List.length_singleton, h6]
        omega
      · rcases List.mem_append.1 hs with hs | hs
        · exact h3.sp s hs
        · rw [List.mem_singleton] at hs
          subst hs
          exact ⟨M.lists.length, h4, by simp only [h5]; omega⟩
theorem splitM_err (n : Int) (p : ByteArray) (i : Int) (he : (splitM M n s p i).2.2 ≠ 0) : (splitM M n s p i).1 = M := by
  unfold splitM at he ⊢
  split at he
  · rename_i h; rw [if_pos h]
  · rename_i h
    simp only at he
    split at he
    · rename_i h2; simp only; rw [if_neg h, if_pos h2]; exact addM_err n h2
    · exact absurd rfl he
/-- The names after a deed. -/
def namesM (M : Lin) (d : Deed) (names : List ByteArray) : List ByteArray := if (doM M d).2.2 = 0 ∧ pickI d.do_ 6 < 4 then names ++ [d.name] else names
theorem Inv.step (h : Inv M D names) (hD : D ≤ 1000) (d : Deed) : Inv (doM M d).1 (D + 1) (namesM M d names) := by
  have h' := h.mono (Nat.le_succ D)
  have hb := pickI_bounds d.do_ 6 (by omega)
  unfold namesM doM
  split
  · rename_i e
    by_cases he : (renameM M d.a d.name).2 = 0
    · rw [if_pos ⟨he, by omega⟩]; exact h.rename d.a he
    · rw [if_neg (fun hh => he hh.1)]; simp only; rw [renameM_err d.a he]; exact h'
  · split
    · rename_i e
      by_cases he : (splitM M d.a d.name ⟨#[112]⟩ d.b).2.2 = 0
      · rw [if_pos ⟨he, by omega⟩]; exact h.split d.a _ d.b he
      · rw [if_neg (fun hh => he hh.1), splitM_err d.a _ d.b he]; exact h'
    · split
      · rename_i e
        rw [if_neg (fun hh => by omega)]; exact h.merge hD d.a d.b
      · split
        · rename_i e
          rw [if_neg (fun hh => by omega)]; exact h.move d.a d.name
        · by_cases he : (addM M d.name 0).2.2 = 0
          · rw [if_pos ⟨he, by omega⟩]; exact (h.add 0 he).1
          · rw [if_neg (fun hh => he hh.1), addM_err 0 he]; exact h'
end
end Go.Proofs.Ytfooakkfoemdkaa

/- A step and a route. -/
namespace Go.Proofs.Ytfooakkfoemdkaa
open Go.Fw
open Classical in
/-- What 'step' comes to, from the splits that are left, the number of the next one and what is held. -/
noncomputable def stepGo (M : Lin) (V P : List Int) (H : List Bool) (c : Int) : List Spl → Nat → Int → Int
  | [], _, held => if c ∈ P then 0 else held
  | s :: l, i, held =>
    if s.list = c ∧ partI M s ∉ V then
      (if Meets M V P (partI M s) then partI M s else stepGo M V P H c l (i + 1) (if held = 0 ∧ H[i]? = some true then partI M s else held))
    else stepGo M V P H c l (i + 1) held
noncomputable def stepI (M : Lin) (V P : List Int) (H : List Bool) (c : Int) : Int := stepGo M V P H c M.splits 0 0
inductive RouteTo (M : Lin) (P : List Int) (H : List Bool) : List Int → Int → Int → Prop
  | stop {V : List Int} {c : Int} : stepI M V P H c = 0 → RouteTo M P H V c c
  | go {V : List Int} {c n r : Int} : stepI M V P H c = n → n ≠ 0 → RouteTo M P H (V ++ [n]) n r → RouteTo M P H V c r
theorem RouteTo.unique {M : Lin} {P : List Int} {H : List Bool} {V : List Int} {c r : Int} (h : RouteTo M P H V c r) : ∀ {r'}, RouteTo M P H V c r' → r' = r := by
  induction h with
  | stop h1 =>
    intro r' h'
    cases h' with
    | stop => rfl
    | go h2 h3 _ => exact absurd (h2.symm.trans h1) h3
  | go h1 h2 _ ih =>
    intro r' h'
    cases h' with
    | stop h3 => exact absurd (h1.symm.trans h3) h2
    | go h3 h4 h5 => rw [← h3, h1] at h5; exact ih h5
theorem stepGo_mem {M : Lin} {V P : List Int} {H : List Bool} {c : Int} : ∀ (l : List Spl) (i : Nat) (held : Int), stepGo M V P H c l i held = 0 ∨ stepGo M V P H c l i held = held ∨ ∃ s ∈ l, stepGo M V P H c l i held = partI M s ∧ partI M s ∉ V
  | [], i, held => by
    unfold stepGo
    split
    · exact .inl rfl
    · exact .inr (.inl rfl)
  | s :: l, i, held => by
    have ih := fun i held => stepGo_mem (M := M) (V := V) (P := P) (H := H) (c := c) l i held
    unfold stepGo
    split
    · rename_i hc
      split
      · exact .inr (.inr ⟨s, .head _, rfl, hc.2⟩)
      · rcases ih (i + 1) (if held = 0 ∧ H[i]? = some true then partI M s else held) with h | h | ⟨s', h1, h2⟩
        · exact .inl h
        · rw [h]
          split
          · exact .inr (.inr ⟨s, .head _, rfl, hc.2⟩)
          · exact .inr (.inl rfl)
        · exact .inr (.inr ⟨s', .tail _ h1, h2⟩)
    · rcases ih (i + 1) held with h | h | ⟨s', h1, h2⟩
      · exact .inl h
      · exact .inr (.inl h)
      · exact .inr (.inr ⟨s', .tail _ h1, h2⟩)
theorem stepI_mem {M : Lin} {V P : List Int} {H : List Bool} {c : Int} (h : stepI M V P H c ≠ 0) : ∃ s ∈ M.splits, stepI M V P H c = partI M s ∧ partI M s ∉ V := by
  rcases stepGo_mem (M := M) (V := V) (P := P) (H := H) (c := c) M.splits 0 0 with h1 | h1 | h1
  · exact absurd h1 h
  · exact absurd h1 h
  · exact h1
theorem partI_pos (M : Lin) (s : Spl) : partI M s ≠ 0 := by unfold partI; omega
section
variable {F : List Res} {r p : Nat} {M : Lin} {P V : List Int} {H : List Bool} {bp bv : Nat} {hv vs : Value} {h : Heap} {K : Kont} {q : LPost} {D : Nat}
set_option maxRecDepth 8000 in
set_option maxHeartbeats 1000000 in
theorem step_round {i : Nat} {c held : Int} {v4 : Value} (rt : RtV F r p M P V H bp bv hv vs) (hm : Ok M D) (hD : D ≤ 1000) (hsp : SpOk M) (hi : i < M.splits.length) (hs : Sep h F)
    (hret : M.splits[i].list = c → partI M M.splits[i] ∉ V → Meets M V P (partI M M.splits[i]) → ∀ h', Sep h' F → q .ret [ptr r, .int .i64 c, .int .i64 (partI M M.splits[i]), .int .i64 held, vs, .int .i64 M.splits.length, .int .i64 (i : Int)] h')
    (hno : ¬ (M.splits[i].list = c ∧ partI M M.splits[i] ∉ V) → ∀ h', Sep h' F → q .normal [ptr r, .int .i64 c, v4, .int .i64 held, vs, .int .i64 M.splits.length, .int .i64 ((i + 1 : Nat) : Int)] h')
    (hyes : M.splits[i].list = c → partI M M.splits[i] ∉ V → ¬ Meets M V P (partI M M.splits[i]) → ∀ h', Sep h' F →
      q .normal [ptr r, .int .i64 c, v4, .int .i64 (if held = 0 ∧ H[i]? = some true then partI M M.splits[i] else held), vs, .int .i64 M.splits.length, .int .i64 ((i + 1 : Nat) : Int)] h') :
    f45_T5 q [ptr r, .int .i64 c, v4, .int .i64 held, vs, .int .i64 M.splits.length, .int .i64 (i : Int)] h := by
  have hl : M.lists.length ≤ 4294967296 := by have := hm.len; omega
  have hspl := hm.spl
  have hdk : decide ((i : Int) < (M.splits.length : Int)) = true := by simp; omega
  have hk1 : (i : Int) + 1 = ((i + 1 : Nat) : Int) := rfl
  obtain ⟨k, hk, hkl⟩ := hsp M.splits[i] (List.getElem_mem hi)
  obtain ⟨nn, hnn, hg⟩ := hm.now hD hkl
  have hknown : known M (partI M M.splits[i]) = true := part_known hm hD hsp (List.getElem_mem hi)
  have hpart : partI M M.splits[i] = ((now M.lists k : Nat) : Int) + 1 := by
    unfold partI
    have e : (M.splits[i].new - 1).toNat = k := by omega
    rw [e]
  rw [hpart] at hno hyes hret hknown
  obtain ⟨b, o, hidx, hcell, hload⟩ := elem_at (r := splRow M.splits[i]) (rt.sr h hs) (k := i) (by simpa using hi) (by simp) (by omega)
  have z73 : zeroOf Try.prog 73 = some (.agg #[.int .i64 0, .int .i64 0, .int .i64 0, .string (ByteArray.mk #[])]) := by kernel_rfl
  simp -implicitDefEqProofs only [f45_T5, go_sem, hdk, hidx, hload, z73]
  refine s_alloc hs fun h1 b1 hs1 => ?_
  refine s_store hs1 rfl rfl (by simp [splRow, go_sem]) fun h2 hs2 => ?_
  have hF : Sep h2 F := hs2.tail
  have e0 : cellAt h2 b1 0 = some (.int .i64 M.splits[i].list) := (hs2.at 0).cell 0
  have e1 : cellAt h2 b1 1 = some (.int .i64 M.splits[i].new) := (hs2.at 0).cell 1
  have c0 := rt.c0 h2 hF
  have c3 := rt.c3 h2 hF
  rw [hk] at e1
  cases dl : decide (M.splits[i].list = c) with
  | false =>
    simp -implicitDefEqProofs (disch := omega) only [go_sem, Nat.zero_add, e0, dl, Bool.not_false, f45_T6, bin_add_in, hk1]
    exact hno (fun hh => of_decide_eq_false dl hh.1) h2 hF
  | true =>
    unfold ptr at *
    simp -implicitDefEqProofs (disch := omega) only [go_sem, Nat.zero_add, e0, dl, Bool.not_true, c0, e1]
    refine now_fnV (rt.lv h2 hF) hg hl ?_
    have hlookV : ∀ K, oLookup (some (.int .i64, .bool false)) false (.map (some bv)) (.int .i64 (((now M.lists k : Nat) : Int) + 1)) K h2 = K (.bool (decide ((((now M.lists k : Nat) : Int) + 1) ∈ V))) h2 := fun K => (rt.mv h2 hF).lookSet
    have hd0 : ((now M.lists k : Nat) : Int) + 1 ≠ 0 := by omega
    generalize ((now M.lists k : Nat) : Int) + 1 = d at *
    cases dv : decide (d ∈ V) with
    | true =>
      simp -implicitDefEqProofs (disch := omega) only [go_sem, Nat.zero_add, c3, hlookV, dv, f45_T6, bin_add_in, hk1]
      exact hno (fun hh => hh.2 (of_decide_eq_true dv)) h2 hF
    | false =>
      have hl1 := of_decide_eq_true dl
      have hn1 := of_decide_eq_false dv
      simp -implicitDefEqProofs (disch := omega) only [go_sem, Nat.zero_add, c3, hlookV, dv]
      refine reaches_fn rt hm hD hsp hknown hF (fun hme h3 hs3 => ?_) (fun hme h3 hs3 => ?_)
      · simp -implicitDefEqProofs only [go_sem]
        exact hret hl1 hn1 hme h3 hs3
      · have hc2 := rt.c2 h3 hs3
        have hlh : ∀ K, oLen (some (.slice 4)) hv K h3 = K (.int .i64 H.length) h3 := fun K => by rw [len_val (rt.hr h3 hs3), List.length_map]
        have hres := hyes hl1 hn1 hme h3 hs3
        cases dh : decide (held = 0) with
        | false =>
          rw [if_neg (fun hh => of_decide_eq_false dh hh.1)] at hres
          simp -implicitDefEqProofs (disch := omega) only [go_sem, dh, f45_T6, bin_add_in, hk1]
          exact hres
        | true =>
          cases dk : decide ((i : Int) < (H.length : Int)) with
          | false =>
            have hnone : H[i]? = none := List.getElem?_eq_none (by have := of_decide_eq_false dk; omega)
            rw [if_neg (fun hh => by rw [hnone] at hh; cases hh.2)] at hres
            simp -implicitDefEqProofs (disch := omega) only [go_sem, Nat.zero_add, dh, hc2, hlh, dk, f45_T6, bin_add_in, hk1]
            exact hres
          | true =>
            have hlt : i < H.length := by have := of_decide_eq_true dk; omega
            obtain ⟨b, o, hidx, hcell, _⟩ := elem_at (r := boolRow H[i]) (rt.hr h3 hs3) (k := i) (by simpa using hlt) (by simp) (by omega)
            have eh : cellAt h3 b o = some (.bool H[i]) := hcell 0 (by omega)
            rw [List.getElem?_eq_getElem hlt] at hres
            cases db : H[i] with
            | false =>
              rw [db] at eh hres
              rw [if_neg (fun hh => by cases hh.2)] at hres
              simp -implicitDefEqProofs (disch := omega) only [go_sem, Nat.zero_add, dh, hc2, hlh, dk, hidx, eh, f45_T6, bin_add_in, hk1]
              exact hres
            | true =>
              rw [db] at eh hres
              rw [if_pos ⟨of_decide_eq_true dh, rfl⟩] at hres
              simp -implicitDefEqProofs (disch := omega) only [go_sem, Nat.zero_add, dh, hc2, hlh, dk, hidx, eh, f45_T6, bin_add_in, hk1]
              exact hres
set_option maxRecDepth 8000 in
set_option maxHeartbeats 1000000 in
theorem step_fn {c : Int} (rt : RtV F r p M P V H bp bv hv vs) (hm : Ok M D) (hD : D ≤ 1000) (hsp : SpOk M) (hs : Sep h F) (hk : ∀ h', Sep h' F → K (.int .i64 (stepI M V P H c)) h') :
    FnH Try.prog 45 #[ptr r, .int .i64 c] h K := by
  refine f45_fn ?_
  have c0 := rt.c0 h hs
  have d1 := rt.d1 h hs
  have hlv : ∀ K, oLen (some (.slice 73)) vs K h = K (.int .i64 M.splits.length) h := fun K => by rw [len_val (rt.sr h hs), List.length_map]
  unfold ptr at c0 ⊢
  simp -implicitDefEqProofs only [f45_T0, go_sem, Nat.zero_add, c0, d1, hlv]
  refine LoopS.st (σ := Nat × Int) (fun s => [ptr r, .int .i64 c, .int .i64 0, .int .i64 s.2, vs, .int .i64 M.splits.length, .int .i64 s.1])
    (fun s h' => Sep h' F ∧ s.1 ≤ M.splits.length ∧ stepI M V P H c = stepGo M V P H c (M.splits.drop s.1) s.1 s.2) (fun s => M.splits.length - s.1) (0, 0) rfl ⟨hs, Nat.zero_le _, rfl⟩ ?_
  rintro ⟨i, held⟩ h' ⟨hs', hi', he⟩
  simp only at hs' hi' he ⊢
  by_cases hi : i < M.splits.length
  · rw [List.drop_eq_getElem_cons hi] at he
    unfold stepGo at he
    refine step_round rt hm hD hsp hi hs' (fun h1 h2 h3 h4 hs4 => ?_) (fun h1 h4 hs4 => ?_) (fun h1 h2 h3 h4 hs4 => ?_)
    · rw [if_pos ⟨h1, h2⟩, if_pos h3] at he
      show retL Try.prog f45_L Try.f45.results.toList K .ret _ h4
      rw [f45_ret, ← he]
      exact hk h4 hs4
    · rw [if_neg h1] at he
      rw [thenL_normal]
      exact NextSt.mk (i + 1, held) rfl ⟨hs4, hi, he⟩ (by simp only; omega)
    · rw [if_pos ⟨h1, h2⟩, if_neg h3] at he
      rw [thenL_normal]
      exact NextSt.mk (i + 1, _) rfl ⟨hs4, hi, he⟩ (by simp only; omega)
  · have hd : decide ((i : Int) < (M.splits.length : Int)) = false := by simp; omega
    rw [List.drop_eq_nil_of_le (by omega)] at he
    unfold stepGo at he
    have c1 := rt.c1 h' hs'
    have hlookP : ∀ K, oLookup (some (.int .i64, .bool false)) false (.map (some bp)) (.int .i64 c) K h' = K (.bool (decide (c ∈ P))) h' := fun K => (rt.mp h' hs').lookSet
    unfold ptr
    cases dp : decide (c ∈ P) with
    | true =>
      rw [if_pos (of_decide_eq_true dp)] at he
      simp -implicitDefEqProofs only [f45_T5, go_sem, hd, f45_T2, Nat.zero_add, c1, hlookP, dp]
      rw [f45_ret, ← he]
      exact hk h' hs'
    | false =>
      rw [if_neg (of_decide_eq_false dp)] at he
      simp -implicitDefEqProofs only [f45_T5, go_sem, hd, f45_T2, Nat.zero_add, c1, hlookP, dp]
      rw [f45_ret, ← he]
      exact hk h' hs'
end
end Go.Proofs.Ytfooakkfoemdkaa

/- Route. -/
namespace Go.Proofs.Ytfooakkfoemdkaa
open Go.Fw
section
variable {F : List Res} {r p : Nat} {M : Lin} {P V : List Int} {H : List Bool} {bp bv bo : Nat} {hv vs vl pv : Value} {h : Heap} {K : Kont} {q : LPost} {D : Nat} {t t2 : TypeId}
theorem rtv_mk (hh : ∀ h', Sep h' F → RowsR (fun _ => True) h' hv 1 (H.map boolRow)) :
    RtV (cellR p #[vl, vs, .map (some bo)] t :: vecR vl 38 5 (M.lists.map lstRow) :: vecR vs 73 4 (M.splits.map splRow) :: mapR .string bo (owF M.ow) :: mapR (.int .i64) bv (setF V) :: cellR r #[ptr p, .map (some bp), hv, .map (some bv)] t2 :: mapR (.int .i64) bp (setF P) :: F) r p M P V H bp bv hv vs where
  c0 := fun h hs => (hs.at 5).cell 0
  c1 := fun h hs => (hs.at 5).cell 1
  c2 := fun h hs => (hs.at 5).cell 2
  c3 := fun h hs => (hs.at 5).cell 3
  mp := fun h hs => (hs.at 6).mapF
  mv := fun h hs => (hs.at 4).mapF
  hr := fun h hs => hh h hs.tail.tail.tail.tail.tail.tail.tail
  lv := fun h hs => ⟨vl, (hs.at 0).cell 0, (hs.at 1).rows⟩
  d1 := fun h hs => (hs.at 0).cell 1
  sr := fun h hs => (hs.at 2).rows
structure RoS where
  V : List Int
  c : Int
set_option maxRecDepth 8000 in
set_option maxHeartbeats 1000000 in
theorem route_fn {n : Int} (hs : Sep h (linR p M :: F)) (hm : Ok M D) (hD : D ≤ 1000) (hsp : SpOk M) (hp : ∀ h', Sep h' F → RowsR (fun _ => True) h' pv 1 (P.map intRow)) (hh : ∀ h', Sep h' F → RowsR (fun _ => True) h' hv 1 (H.map boolRow)) (hP : P.length ≤ 4294967296)
    (h0 : known M n = false → K (.int .i64 0) h) (h1 : known M n = true → ∀ r, RouteTo M P H [((now M.lists (n - 1).toNat : Nat) : Int) + 1] (((now M.lists (n - 1).toNat : Nat) : Int) + 1) r → ∀ h', Sep h' (linR p M :: F) → K (.int .i64 r) h') :
    FnH Try.prog 26 #[ptr p, .int .i64 n, pv, hv] h K := by
  have hl : M.lists.length ≤ 4294967296 := by have := hm.len; omega
  refine f26_fn ?_
  simp only [f26_T0, go_sem]
  cases hk : known M n with
  | false =>
    refine now_fn0V (lv_of (hs.at 0)) hk ?_
    simp only [go_sem, decide_true]
    rw [f26_ret]
    exact h0 hk
  | true =>
    obtain ⟨k, rfl, hlt⟩ := known_ex hk
    obtain ⟨nn, _, hg⟩ := hm.now hD hlt
    have hnk := now_known hm hD hlt
    refine now_fn (hs.at 0) hg hl ?_
    have h1 := h1 hk
    have e : ((k : Int) + 1 - 1).toNat = k := by omega
    rw [e] at h1
    have hd0 : decide (((now M.lists k : Nat) : Int) + 1 = 0) = false := by simp; omega
    generalize ((now M.lists k : Nat) : Int) + 1 = c0 at *
    simp only [go_sem, hd0]
    have hs1 : Sep (h.push (.map #[] 0)) (mapR (.int .i64) h.size (setF []) :: linR p M :: F) := by
      rw [setF_nil]; exact hs.newMap
    have hs2 : Sep ((h.push (.map #[] 0)).push (.map #[] 0)) (mapR (.int .i64) (h.size + 1) (setF []) :: mapR (.int .i64) h.size (setF []) :: linR p M :: F) := by
      have := hs1.newMap (e := Value.int .i64)
      rw [← setF_nil, Array.size_push] at this
      exact this
    generalize h.size + 1 = bv at *
    generalize h.size = bp at *
    refine s_put same_int (k := c0) hs2 fun h3 hs3 => ?_
    rw [setF_put] at hs3
    obtain ⟨ha, hcap, hve⟩ := (hh h hs.tail).val
    rw [build_of (cs := #[ptr p, .map (some bp), hv, .map (some bv)]) (by rw [hve]; rfl)]
    refine s_box hs3 fun h4 r hs4 => ?_
    have hF4 : Sep h4 F := hs4.tail.tail.tail.tail
    have hlen : ∀ K h', Sep h' F → oLen (some (.slice 3)) pv K h' = K (.int .i64 P.length) h' := fun K h' hs' => by rw [len_val (hp h' hs'), List.length_map]
    simp only [hlen _ _ hF4]
    refine LoopS.st (σ := Nat) (fun j => [ptr p, .int .i64 ((k : Int) + 1), pv, hv, .int .i64 0, .int .i64 c0, ptr r, pv, .int .i64 P.length, .int .i64 j])
      (fun j h' => Sep h' (mapR (.int .i64) bp (setF (P.take j)) :: cellR r #[ptr p, .map (some bp), hv, .map (some bv)] 82 :: mapR (.int .i64) bv (setF [c0]) :: linR p M :: F) ∧ j ≤ P.length) (fun j => P.length - j) 0 rfl ⟨hs4.sel [2, 0, 0, 0], Nat.zero_le _⟩ ?_
    rintro j h5 ⟨hs5, hj⟩
    by_cases hjl : j < P.length
    · have hd : decide ((j : Int) < (P.length : Int)) = true := by simp; omega
      have hF5 : Sep h5 F := hs5.tail.tail.tail.tail
      obtain ⟨b, o, hidx, hcell, _⟩ := elem_at (r := intRow P[j]) (hp h5 hF5) (k := j) (by simpa using hjl) (by simp) (by omega)
      have ec : cellAt h5 b o = some (.int .i64 P[j]) := hcell 0 (by omega)
      have c1 : cellAt h5 r 1 = some (.map (some bp)) := (hs5.at 1).cell 1
      have hj1 : (j : Int) + 1 = ((j + 1 : Nat) : Int) := rfl
      unfold ptr at *
      simp -implicitDefEqProofs (disch := omega) only [f26_T8, go_sem, hd, hidx, Nat.zero_add, ec, c1]
      refine s_put same_int (k := P[j]) hs5 fun h6 hs6 => ?_
      rw [setF_snoc] at hs6
      simp -implicitDefEqProofs (disch := omega) only [go_sem, bin_add_in, hj1]
      refine NextSt.mk (j + 1) rfl ⟨?_, hjl⟩ (by omega)
      rw [List.take_succ_eq_append_getElem hjl]
      exact hs6
    · have hd : decide ((j : Int) < (P.length : Int)) = false := by simp; omega
      simp only [f26_T8, go_sem, hd]
      rw [List.take_of_length_le (by omega)] at hs5
      refine LoopS.st (σ := RoS) (fun s => [ptr p, .int .i64 ((k : Int) + 1), pv, hv, .int .i64 0, .int .i64 s.c, ptr r, pv, .int .i64 P.length, .int .i64 j])
        (fun s h' => Sep h' (mapR (.int .i64) bv (setF s.V) :: cellR r #[ptr p, .map (some bp), hv, .map (some bv)] 82 :: mapR (.int .i64) bp (setF P) :: linR p M :: F) ∧ s.V.Nodup ∧ (∀ x ∈ s.V, known M x = true) ∧ ∀ x, RouteTo M P H s.V s.c x → RouteTo M P H [c0] c0 x)
        (fun s => M.lists.length - s.V.length) ⟨[c0], c0⟩ rfl ⟨hs5.sel [2, 1, 0, 0], by simp, by simpa using hnk, fun x hx => hx⟩ ?_
      rintro ⟨V, c⟩ h6 ⟨hs6, hnd, hkn, hR⟩
      simp only at hs6 hnd hkn hR ⊢
      obtain ⟨vl, vs, bo, t, hs7⟩ := lin_open (hs6.pick 3)
      simp only [f26_T5, go_sem]
      refine step_fn (rtv_mk hh) hm hD hsp hs7 fun h8 hs8 => ?_
      have hs9 : Sep h8 (linR p M :: mapR (.int .i64) bv (setF V) :: cellR r #[ptr p, .map (some bp), hv, .map (some bv)] 82 :: mapR (.int .i64) bp (setF P) :: F) := lin_close hs8
      cases d0 : decide (stepI M V P H c = 0) with
      | true =>
        simp only [go_sem, d0]
        show retL Try.prog f26_L Try.f26.results.toList K .ret _ h8
        rw [f26_ret]
        exact h1 c (hR c (.stop (of_decide_eq_true d0))) h8 (hs9.del 1 |>.del 1 |>.del 1)
      | false =>
        have hne := of_decide_eq_false d0
        obtain ⟨s, hs, hps, hpv⟩ := stepI_mem hne
        have c3 : cellAt h8 r 3 = some (.map (some bv)) := (hs9.at 2).cell 3
        unfold ptr at *
        simp -implicitDefEqProofs (disch := omega) only [go_sem, d0, Nat.zero_add, c3]
        refine s_put same_int (k := stepI M V P H c) (hs9.pick 1) fun h10 hs10 => ?_
        rw [setF_snoc] at hs10
        have hnd' : (V ++ [stepI M V P H c]).Nodup := by
          rw [List.nodup_append]
          refine ⟨hnd, by simp, fun a ha b hb e => ?_⟩
          rw [List.mem_singleton] at hb
          rw [e, hb, hps] at ha
          exact hpv ha
        have hkn' : ∀ x ∈ V ++ [stepI M V P H c], known M x = true := fun x hx => by
          rcases List.mem_append.1 hx with hx | hx
          · exact hkn x hx
          · rw [List.mem_singleton] at hx
            rw [hx, hps]
            exact part_known hm hD hsp hs
        have hle := known_range (n := M.lists.length) hnd' fun x hx => known_iff.1 (hkn' x hx)
        refine NextSt.mk ⟨V ++ [stepI M V P H c], stepI M V P H c⟩ rfl ⟨hs10.sel [0, 1, 1, 0], hnd', hkn', fun x hx => hR x (.go rfl hne hx)⟩ ?_
        simp only [List.length_append, List.length_singleton] at hle ⊢
        omega
end
end Go.Proofs.Ytfooakkfoemdkaa

/- Pieces of functions, printed by a program of ours (Gen), held by the kernel. -/
namespace Go.Proofs.Ytfooakkfoemdkaa
open Go.Fw
@[go_sem] theorem slice42 : sliceOf Try.prog 42 = some (4, 1, 1, (.bool false)) := by kernel_rfl
@[go_sem] theorem und25 : Try.prog.underlying 25 = some (.pointer 70) := by kernel_rfl
/-! ### 5: missive/missivelaw28.small -/
noncomputable def f5_c : Code := Try.f5.body.getD .skip
def f5_L : List Nat := [0]
noncomputable def f5_l : List Code := flat f5_c
noncomputable def f5_l0 : List Code := f5_l.drop 18
def f5_T0 (q : LPost) : List Value → Heap → Prop := fun vs h => match vs with
 | [_] =>
 oCallF Try.prog 13 [] (fun x0 h1 =>
 oBin (Try.prog.underlying 25) .eql x0 (.pointer none) (fun x2 h3 =>
 oCond x2 (q .ret [(.bool false)] h3) (oCallF Try.prog 28 [x0, (.string (ByteArray.mk #[97]))] (fun x4 h5 =>
 oExtract x4 0 (fun x6 h7 =>
 oExtract x4 1 (fun x8 h9 =>
 oCallF Try.prog 29 [x0, (.int .i64 1), (.string (ByteArray.mk #[98]))] (fun x10 h11 =>
 oCallF Try.prog 9 [x0, (.string (ByteArray.mk #[97]))] (fun x12 h13 =>
 oExtract x12 0 (fun x14 h15 =>
 oExtract x12 1 (fun _ h17 =>
 oExtract x12 2 (fun x18 h19 =>
 oCallF Try.prog 30 [x0, (.int .i64 1), (.string (ByteArray.mk #[99])), (.string (ByteArray.mk #[112])), (.int .i64 7)] (fun x20 h21 =>
 oExtract x20 0 (fun x22 h23 =>
 oExtract x20 1 (fun x24 h25 =>
 oBuildSlice (sliceOf Try.prog 42) 1 [(0, (.bool true))] (fun x26 h27 =>
 oCallF Try.prog 26 [x0, (.int .i64 1), (.slice none 0 0), x26] (fun x28 h29 =>
 oBuildSlice (sliceOf Try.prog 41) 1 [(0, (.int .i64 1))] (fun x30 h31 =>
 oBuildSlice (sliceOf Try.prog 42) 1 [(0, (.bool true))] (fun x32 h33 =>
 oCallF Try.prog 26 [x0, (.int .i64 1), x30, x32] (fun x34 h35 =>
 oCallF Try.prog 31 [x0, (.int .i64 2), (.int .i64 1)] (fun x36 h37 =>
 oCallF Try.prog 9 [x0, (.string (ByteArray.mk #[99]))] (fun x38 h39 =>
 oExtract x38 0 (fun x40 h41 =>
 oExtract x38 1 (fun _ h43 =>
 oExtract x38 2 (fun x44 h45 =>
 oCallF Try.prog 31 [x0, (.int .i64 1), (.int .i64 2)] (fun x46 h47 =>
 oCallF Try.prog 32 [x0, (.int .i64 1), (.string (ByteArray.mk #[120, 64, 121]))] (fun x48 h49 =>
 oCallF Try.prog 9 [x0, (.string (ByteArray.mk #[98]))] (fun x50 h51 =>
 oExtract x50 0 (fun _ h53 =>
 oExtract x50 1 (fun x54 h55 =>
 oExtract x50 2 (fun x56 h57 =>
 oBin (Try.prog.underlying 31) .eql x8 (.int .i64 0) (fun x58 h59 =>
 gop x58 true (fun K h => K x10 h) (fun x60 h61 =>
 gop x58 true (oBin (Try.prog.underlying 31) .eql x60 (.int .i64 0)) (fun x62 h63 =>
 oPick x58 x62 (.bool false) (fun x64 h65 =>
 gop x64 true (fun K h => K x18 h) (fun x66 h67 =>
 gop x64 true (oBin (Try.prog.underlying 31) .eql x66 (.int .i64 0)) (fun x68 h69 =>
 oPick x64 x68 (.bool false) (fun x70 h71 =>
 gop x70 true (fun K h => K x24 h) (fun x72 h73 =>
 gop x70 true (oBin (Try.prog.underlying 31) .eql x72 (.int .i64 0)) (fun x74 h75 =>
 oPick x70 x74 (.bool false) (fun x76 h77 =>
 gop x76 true (fun K h => K x36 h) (fun x78 h79 =>
 gop x76 true (oBin (Try.prog.underlying 31) .eql x78 (.int .i64 0)) (fun x80 h81 =>
 oPick x76 x80 (.bool false) (fun x82 h83 =>
 gop x82 true (fun K h => K x44 h) (fun x84 h85 =>
 gop x82 true (oBin (Try.prog.underlying 31) .eql x84 (.int .i64 0)) (fun x86 h87 =>
 oPick x82 x86 (.bool false) (fun x88 h89 =>
 gop x88 true (fun K h => K x46 h) (fun x90 h91 =>
 gop x88 true (oBin (Try.prog.underlying 31) .eql x90 (.int .i64 1)) (fun x92 h93 =>
 oPick x88 x92 (.bool false) (fun x94 h95 =>
 gop x94 true (fun K h => K x48 h) (fun x96 h97 =>
 gop x94 true (oBin (Try.prog.underlying 31) .eql x96 (.int .i64 0)) (fun x98 h99 =>
 oPick x94 x98 (.bool false) (fun x100 h101 =>
 gop x100 true (fun K h => K x56 h) (fun x102 h103 =>
 gop x100 true (oBin (Try.prog.underlying 31) .eql x102 (.int .i64 0)) (fun x104 h105 =>
 oPick x100 x104 (.bool false) (fun x106 h107 =>
 gop x106 true (fun K h => K x6 h) (fun x108 h109 =>
 gop x106 true (oBin (Try.prog.underlying 3) .eql x108 (.int .i64 1)) (fun x110 h111 =>
 oPick x106 x110 (.bool false) (fun x112 h113 =>
 gop x112 true (fun K h => K x14 h) (fun x114 h115 =>
 gop x112 true (oBin (Try.prog.underlying 3) .eql x114 (.int .i64 1)) (fun x116 h117 =>
 oPick x112 x116 (.bool false) (fun x118 h119 =>
 gop x118 true (fun K h => K x22 h) (fun x120 h121 =>
 gop x118 true (oBin (Try.prog.underlying 3) .eql x120 (.int .i64 2)) (fun x122 h123 =>
 oPick x118 x122 (.bool false) (fun x124 h125 =>
 gop x124 true (fun K h => K x28 h) (fun x126 h127 =>
 gop x124 true (oBin (Try.prog.underlying 3) .eql x126 (.int .i64 2)) (fun x128 h129 =>
 oPick x124 x128 (.bool false) (fun x130 h131 =>
 gop x130 true (fun K h => K x34 h) (fun x132 h133 =>
 gop x130 true (oBin (Try.prog.underlying 3) .eql x132 (.int .i64 1)) (fun x134 h135 =>
 oPick x130 x134 (.bool false) (fun x136 h137 =>
 gop x136 true (fun K h => K x40 h) (fun x138 h139 =>
 gop x136 true (oBin (Try.prog.underlying 3) .eql x138 (.int .i64 1)) (fun x140 h141 =>
 oPick x136 x140 (.bool false) (fun x142 h143 =>
 gop x142 true (fun K h => K x54 h) (fun x144 h145 =>
 gop x142 true (oBin (Try.prog.underlying 9) .eql x144 (.string (ByteArray.mk #[120, 64, 121]))) (fun x146 h147 =>
 oPick x142 x146 (.bool false) (fun x148 h149 =>
 q .ret [x148] h149) h147) h145) h143) h141) h139) h137) h135) h133) h131) h129) h127) h125) h123) h121) h119) h117) h115) h113) h111) h109) h107) h105) h103) h101) h99) h97) h95) h93) h91) h89) h87) h85) h83) h81) h79) h77) h75) h73) h71) h69) h67) h65) h63) h61) h59) h57) h55) h53) h51) h49) h47) h45) h43) h41) h39) h37) h35) h33) h31) h29) h27) h25) h23) h21) h19) h17) h15) h13) h11) h9) h7) h5) h3)) h1) h
 | _ => False
set_option maxRecDepth 20000 in
theorem f5_T0_ok (q : LPost) : RfN f5_L (f5_T0 q) (wpLs pcN f5_l (proj f5_L q)) :=
 seg_rule' 18 (fun env h => by kernel_rfl) (end_rule' (by kernel_rfl) (Rf.proj q) (fun _ _ x => x)) (Rf.proj q)
theorem f5_ret {v0 : Value} {h : Heap} {K : Kont} : retL Try.prog f5_L Try.f5.results.toList K .ret [v0] h = (K v0 h) := by kernel_rfl
theorem f5_end {v0 : Value} {h : Heap} {K : Kont} : retL Try.prog f5_L Try.f5.results.toList K .normal [v0] h = (K v0 h) := by kernel_rfl
set_option maxRecDepth 20000 in
theorem f5_fn {h : Heap} {K : Kont}
 (hw : f5_T0 (retL Try.prog f5_L Try.f5.results.toList K) [undef] h) : FnH Try.prog 5 #[] h K :=
 fn_by (L := f5_L) (T := fun q => f5_T0 q) (args := []) pcN mixed Try.func5 (c := f5_c) (by kernel_rfl) (by kernel_rfl) (by kernel_rfl) (by kernel_rfl) (fun q => (f5_T0_ok q)) hw
@[go_sem] theorem var49 : varOf Try.prog 49 = .agg 4 := by kernel_rfl
/-! ### 7: missive/missivelaw28.fill -/
noncomputable def f7_c : Code := Try.f7.body.getD .skip
def f7_L : List Nat := [0, 2, 3, 4, 5, 6]
noncomputable def f7_l : List Code := flat f7_c
noncomputable def f7_l0 : List Code := f7_l.drop 4
noncomputable def f7_l1 : List Code := f7_l0.drop 1
noncomputable def f7_l2 : List Code := f7_l1.drop 2
def f7_T2 (q : LPost) : List Value → Heap → Prop := fun vs h => match vs with
 | [v0, _, _, v4, v5, v6] =>
 q .ret [v0, v4, v5, v4, v5, v6] h
 | _ => False
set_option maxRecDepth 20000 in
theorem f7_T2_ok (q : LPost) : RfN f7_L (f7_T2 q) (wpLs pcN f7_l1 (proj f7_L q)) :=
 seg_rule' 2 (fun env h => by kernel_rfl) (end_rule' (by kernel_rfl) (Rf.proj q) (fun _ _ x => x)) (Rf.proj q)
noncomputable def f7_l3 : List Code := flat (hdB f7_l0)
noncomputable def f7_l4 : List Code := flat (hdB f7_l3)
noncomputable def f7_l5 : List Code := f7_l4.drop 3
noncomputable def f7_l6 : List Code := f7_l5.drop 1
def f7_T6 (q : LPost) : List Value → Heap → Prop := fun vs h => match vs with
 | [v0, v2, v3, v4, v5, v6] =>
 oBin (Try.prog.underlying 3) .add v6 (.int .i64 1) (fun x0 h1 =>
 q .normal [v0, v2, v3, v4, v5, x0] h1) h
 | _ => False
set_option maxRecDepth 20000 in
theorem f7_T6_ok (q : LPost) : RfN f7_L (f7_T6 q) (wpLs pcN f7_l5 (proj f7_L q)) :=
 seg_rule' 1 (fun env h => by kernel_rfl) (end_rule' (by kernel_rfl) (Rf.proj q) (fun _ _ x => x)) (Rf.proj q)
def f7_T5 (q : LPost) : List Value → Heap → Prop := fun vs h => match vs with
 | [v0, v2, v3, v4, v5, v6] =>
 oLen (Try.prog.underlying 22) v0 (fun x2 h3 =>
 oBin (Try.prog.underlying 3) .lss v6 x2 (fun x4 h5 =>
 oCond x4 (oIndexAddr (rowedOf Try.prog 22) v0 v6 (fun x6 h7 =>
 oLoad (varOf Try.prog 49) x6 (fun x8 h9 =>
 oCallF Try.prog 15 [v4, x8] (fun x10 h11 =>
 oExtract x10 0 (fun _ h13 =>
 oExtract x10 1 (fun x14 h15 =>
 oBin (Try.prog.underlying 31) .eql x14 (.int .i64 0) (fun x16 h17 =>
 gop x16 true (fun K h => K v0 h) (fun x18 h19 =>
 gop x16 true (fun K h => K v6 h) (fun x20 h21 =>
 gop x16 true (oIndexAddr (rowedOf Try.prog 22) x18 x20) (fun x22 h23 =>
 gop x16 true (oFieldAddr (fieldOff Try.prog 49 0) x22) (fun x24 h25 =>
 gop x16 true (oLoad (varOf Try.prog 3) x24) (fun x26 h27 =>
 gop x16 true (oCallF Try.prog 33 [x26, (.int .i64 6)]) (fun x28 h29 =>
 gop x16 true (oBin (Try.prog.underlying 3) .lss x28 (.int .i64 4)) (fun x30 h31 =>
 oPick x16 x30 (.bool false) (fun x32 h33 =>
 oCond x32 (oIndexAddr (rowedOf Try.prog 22) v0 v6 (fun x34 h35 =>
 oFieldAddr (fieldOff Try.prog 49 3) x34 (fun x36 h37 =>
 oLoad (varOf Try.prog 9) x36 (fun x38 h39 =>
 oBuildSlice (sliceOf Try.prog 26) 1 [(0, x38)] (fun x40 h41 =>
 oAppend (sliceOf Try.prog 26) v5 x40 (fun x42 h43 =>
 f7_T6 q [v0, v2, v3, v4, x42, v6] h43) h41) h39) h37) h35) h33) (f7_T6 q [v0, v2, v3, v4, v5, v6] h33)) h31) h29) h27) h25) h23) h21) h19) h17) h15) h13) h11) h9) h7) h5) (q (.exit 0) [v0, v2, v3, v4, v5, v6] h5)) h3) h
 | _ => False
set_option maxRecDepth 20000 in
theorem f7_T5_ok (q : LPost) : RfN f7_L (f7_T5 q) (wpLs pcN f7_l4 (proj f7_L q)) :=
 seg_rule' 3 (fun env h => by kernel_rfl) (f7_T6_ok q) (Rf.proj q)
def f7_T4 (q : LPost) : List Value → Heap → Prop := LoopS (fun q => f7_T5 q) (inBL 0 (thenL (f7_T2 q) (q)))
set_option maxRecDepth 20000 in
theorem f7_T4_ok (q : LPost) : RfN f7_L (f7_T4 q) (wpLs pcN f7_l3 (inB 0 (thenQ (wpLs pcN f7_l1 (proj f7_L q)) (proj f7_L q)))) :=
 loop_rule' (b := hdB f7_l3) (B := fun q => f7_T5 q) (c := inBL 0 (thenL (f7_T2 q) (q))) (by kernel_rfl) (fun _ _ x => x) (fun q => (f7_T5_ok q)) (Rf.inB (Rf.then (f7_T2_ok q) (Rf.proj q)))
set_option maxRecDepth 20000 in
theorem f7_B3_ok (q : LPost) : RfN f7_L (f7_T4 q) (wpLs pcN f7_l0 (proj f7_L q)) :=
 block_rule (id := 0) (b := hdB f7_l0) (rest := f7_l1) (by kernel_rfl) (f7_T4_ok q)
def f7_T0 (q : LPost) : List Value → Heap → Prop := fun vs h => match vs with
 | [v0, _, _, _, _, _] =>
 oCallF Try.prog 13 [] (fun x44 h45 =>
 f7_T4 q [v0, (.pointer none), (.slice none 0 0), x44, (.slice none 0 0), (.int .i64 0)] h45) h
 | _ => False
set_option maxRecDepth 20000 in
theorem f7_T0_ok (q : LPost) : RfN f7_L (f7_T0 q) (wpLs pcN f7_l (proj f7_L q)) :=
 seg_rule' 4 (fun env h => by kernel_rfl) (f7_B3_ok q) (Rf.proj q)
theorem f7_ret {v0 v2 v3 v4 v5 v6 : Value} {h : Heap} {K : Kont} : retL Try.prog f7_L Try.f7.results.toList K .ret [v0, v2, v3, v4, v5, v6] h = (K (.tuple #[v2, v3]) h) := by kernel_rfl
theorem f7_end {v0 v2 v3 v4 v5 v6 : Value} {h : Heap} {K : Kont} : retL Try.prog f7_L Try.f7.results.toList K .normal [v0, v2, v3, v4, v5, v6] h = (K (.tuple #[v2, v3]) h) := by kernel_rfl
set_option maxRecDepth 20000 in
theorem f7_fn {a0 : Value} {h : Heap} {K : Kont}
 (hw : f7_T0 (retL Try.prog f7_L Try.f7.results.toList K) [a0, undef, undef, undef, undef, undef] h) : FnH Try.prog 7 #[a0] h K :=
 fn_by (L := f7_L) (T := fun q => f7_T0 q) (args := [a0]) pcN mixed Try.func7 (c := f7_c) (by kernel_rfl) (by kernel_rfl) (by kernel_rfl) (by kernel_rfl) (fun q => (f7_T0_ok q)) hw
end Go.Proofs.Ytfooakkfoemdkaa

/- The statement's small functions: has, few; and what the statement reads. -/
namespace Go.Proofs.Ytfooakkfoemdkaa
open Go.Fw
def memB (s : ByteArray) (l : List ByteArray) : Bool := l.any fun x => decide (x = s)
theorem memB_iff {s : ByteArray} {l : List ByteArray} : memB s l = true ↔ s ∈ l := by simp [memB]
theorem memB_not {s : ByteArray} {l : List ByteArray} (h : s ∉ l) : memB s l = false := by
  cases e : memB s l with
  | false => rfl
  | true => exact absurd (memB_iff.1 e) h
section
variable {h : Heap} {K : Kont} {v v' : Value} {l l' : List ByteArray} {p : Nat} {M : Lin} {F : List Res} {D : Nat}
set_option maxRecDepth 8000 in
theorem has_fn {s : ByteArray} (hv : RowsR (fun _ => True) h v 1 (l.map strRow)) (hl : l.length < 4611686018427387904) (hk : K (.bool (memB s l)) h) : FnH Try.prog 11 #[v, .string s] h K := by
  refine f11_fn ?_
  simp only [f11_T0]
  refine LoopS.st (σ := Nat) (fun k => [v, .string s, .bool false, .int .i64 k]) (fun k h' => h' = h ∧ k ≤ l.length ∧ s ∉ l.take k) (fun k => l.length - k) 0 rfl ⟨rfl, Nat.zero_le _, by simp⟩ ?_
  rintro k h' ⟨rfl, hkl, hno⟩
  refine Eq.mpr (by simp only [f11_T5]; rfl) ?_
  refine s_len hv ?_
  simp only [List.length_map]
  by_cases hlt : k < l.length
  · have hi : ((k : Int) < (l.length : Int)) = True := by simp; omega
    simp only [go_sem, hi, decide_true]
    refine s_idx1 (x := .string l[k]) hv (by simpa using hlt) (by simp [strRow]) ?_
    simp only [go_sem]
    refine cond_cases (fun hc => ?_) (fun hc => ?_)
    · rw [f11_ret]
      have : memB s l = true := by
        rw [memB_iff, ← of_decide_eq_true hc]
        exact List.getElem_mem hlt
      rw [this] at hk
      exact hk
    · simp (disch := omega) only [go_sem, bin_add_in]
      refine NextSt.mk (k + 1) rfl ⟨rfl, hlt, ?_⟩ (by omega)
      rw [List.take_succ_eq_append_getElem hlt, List.mem_append, List.mem_singleton]
      exact fun hh => hh.elim hno (fun e => of_decide_eq_false hc e.symm)
  · have hi : ((k : Int) < (l.length : Int)) = False := by simp; omega
    simp only [go_sem, hi, decide_false, f11_T2, f11_ret]
    rw [List.take_of_length_le (by omega)] at hno
    rw [memB_not hno] at hk
    exact hk
/-- What the statement bounds. -/
def fewB (l : List Deed) : Bool := l.all (fun d => decide (d.name.size ≤ 80)) && decide (l.length ≤ 70)
set_option maxRecDepth 8000 in
theorem few_fn {l : List Deed} (hv : RowsR (fun _ => True) h v 4 (l.map deedRow)) (hl : l.length ≤ 9223372036854775807) (hk : K (.bool (fewB l)) h) : FnH Try.prog 6 #[v] h K := by
  refine f6_fn ?_
  simp only [f6_T0]
  refine LoopS.st (σ := Nat) (fun k => [v, .bool false, .int .i64 k]) (fun k h' => h' = h ∧ k ≤ l.length ∧ (l.take k).all (fun d => decide (d.name.size ≤ 80)) = true) (fun k => l.length - k) 0 rfl ⟨rfl, Nat.zero_le _, by simp⟩ ?_
  rintro k h' ⟨rfl, hkl, hall⟩
  have hlv : ∀ K, oLen (some (.slice 49)) v K h' = K (.int .i64 l.length) h' := fun K => by rw [len_val hv, List.length_map]
  by_cases hlt : k < l.length
  · have hd : decide ((k : Int) < (l.length : Int)) = true := by simp; omega
    obtain ⟨b, o, hidx, hcell, _⟩ := elem_at (r := deedRow l[k]) hv (k := k) (by simpa using hlt) (by simp) (by omega)
    have e3 : cellAt h' b (o + 3) = some (.string l[k].name) := hcell 3 (by omega)
    cases d1 : decide ((80 : Int) < (l[k].name.size : Int)) with
    | true =>
      have : fewB l = false := by
        unfold fewB
        rw [Bool.and_eq_false_iff]
        left
        rw [List.all_eq_false]
        exact ⟨l[k], List.getElem_mem hlt, by have := of_decide_eq_true d1; simp; omega⟩
      rw [this] at hk
      simp -implicitDefEqProofs only [f6_T5, go_sem, hlv, hd, hidx, e3, d1]
      rw [f6_ret]
      exact hk
    | false =>
      simp -implicitDefEqProofs (disch := omega) only [f6_T5, go_sem, hlv, hd, hidx, e3, d1, bin_add_in]
      refine NextSt.mk (k + 1) rfl ⟨rfl, hlt, ?_⟩ (by omega)
      rw [List.take_succ_eq_append_getElem hlt, List.all_append, hall]
      have := of_decide_eq_false d1
      simp; omega
  · have hd : decide ((k : Int) < (l.length : Int)) = false := by simp; omega
    rw [List.take_of_length_le (by omega)] at hall
    have : fewB l = decide ((l.length : Int) ≤ 70) := by
      unfold fewB
      rw [hall, Bool.true_and]
      congr 1
      simp; omega
    rw [this] at hk
    simp -implicitDefEqProofs only [f6_T5, go_sem, hlv, hd, f6_T2]
    rw [f6_ret]
    exact hk
/-- The lineage and the names after deeds. -/
def fillM : Lin → List ByteArray → List Deed → Lin × List ByteArray
  | M, ns, [] => (M, ns)
  | M, ns, d :: l => fillM (doM M d).1 (namesM M d ns) l
theorem fillM_snoc : ∀ (M : Lin) (ns : List ByteArray) (l : List Deed) (d : Deed), fillM M ns (l ++ [d]) = ((doM (fillM M ns l).1 d).1, namesM (fillM M ns l).1 d (fillM M ns l).2)
  | _, _, [], _ => rfl
  | M, ns, e :: l, d => fillM_snoc (doM M e).1 (namesM M e ns) l d
theorem fill_inv : ∀ (l : List Deed) (M : Lin) (ns : List ByteArray) (D : Nat), Inv M D ns → D + l.length ≤ 1000 → Inv (fillM M ns l).1 (D + l.length) (fillM M ns l).2
  | [], _, _, _, h, _ => h
  | d :: l, M, ns, D, h, hD => by
    have := fill_inv l _ _ (D + 1) (h.step (by simp at hD; omega) d) (by simp at hD; omega)
    rw [List.length_cons, show D + (l.length + 1) = D + 1 + l.length from by omega]
    exact this
structure FiS where
  k : Nat
  nv : Value
set_option maxRecDepth 8000 in
set_option maxHeartbeats 1000000 in
theorem fill_fn {l : List Deed} (hv : ∀ h', Sep h' F → RowsR (fun _ => True) h' v 4 (l.map deedRow)) (hl : l.length ≤ 70) (hs : Sep h F)
    (hk : ∀ h' p nv, Sep h' (linR p (fillM newL [] l).1 :: vecR nv 9 1 ((fillM newL [] l).2.map strRow) :: F) → K (.tuple #[ptr p, nv]) h') : FnH Try.prog 7 #[v] h K := by
  refine f7_fn ?_
  simp only [f7_T0, go_sem]
  refine new_fn hs fun h1 p hs1 => ?_
  refine LoopS.st (σ := FiS) (fun s => [v, .pointer none, .slice none 0 0, ptr p, s.nv, .int .i64 s.k]) (fun s h' => Sep h' (vecR s.nv 9 1 ((fillM newL [] (l.take s.k)).2.map strRow) :: linR p (fillM newL [] (l.take s.k)).1 :: F) ∧ s.k ≤ l.length) (fun s => l.length - s.k) ⟨0, .slice none 0 0⟩ rfl ⟨hs1.nilVec, Nat.zero_le _⟩ ?_
  rintro ⟨k, nv⟩ h' ⟨hs', hkl⟩
  simp only at hs' hkl ⊢
  have hF : Sep h' F := hs'.tail.tail
  have hlv : ∀ K, oLen (some (.slice 49)) v K h' = K (.int .i64 l.length) h' := fun K => by rw [len_val (hv h' hF), List.length_map]
  by_cases hlt : k < l.length
  · have hd : decide ((k : Int) < (l.length : Int)) = true := by simp; omega
    obtain ⟨b, o, hall⟩ := elem_all (r := deedRow l[k]) hv hF (k := k) (by simpa using hlt) (by simp) (by omega)
    obtain ⟨hidx, _, hload⟩ := hall h' hF
    have hinv := fill_inv (l.take k) newL [] 0 Inv.new (by simp; omega)
    have hD : 0 + (l.take k).length ≤ 1000 := by simp; omega
    have htk : l.take (k + 1) = l.take k ++ [l[k]] := List.take_succ_eq_append_getElem hlt
    have hk1 : (k : Int) + 1 = ((k + 1 : Nat) : Int) := rfl
    generalize hM : fillM newL [] (l.take k) = X at *
    simp -implicitDefEqProofs only [f7_T5, go_sem, hlv, hd, hidx, hload]
    refine do_fn (hs'.pick 1) hinv.ok hD fun h2 hs2 => ?_
    have hF2 : Sep h2 F := hs2.tail.tail
    obtain ⟨hidx2, hcell2, _⟩ := hall h2 hF2
    have e0 : cellAt h2 b o = some (.int .i64 l[k].do_) := hcell2 0 (by omega)
    have e3 : cellAt h2 b (o + 3) = some (.string l[k].name) := hcell2 3 (by omega)
    have hnext : ∀ h3 nv', Sep h3 (vecR nv' 9 1 ((namesM X.1 l[k] X.2).map strRow) :: linR p (doM X.1 l[k]).1 :: F) →
        NextSt (fun s : FiS => [v, .pointer none, .slice none 0 0, ptr p, s.nv, .int .i64 s.k]) (fun s h' => Sep h' (vecR s.nv 9 1 ((fillM newL [] (l.take s.k)).2.map strRow) :: linR p (fillM newL [] (l.take s.k)).1 :: F) ∧ s.k ≤ l.length) (fun s => l.length - s.k) ⟨k, nv⟩
          [v, .pointer none, .slice none 0 0, ptr p, nv', .int .i64 ((k + 1 : Nat) : Int)] h3 := fun h3 nv' hs3 => by
      refine NextSt.mk ⟨k + 1, nv'⟩ rfl ⟨?_, hlt⟩ (by simp only; omega)
      simp only
      rw [htk, fillM_snoc, hM]
      exact hs3
    cases de : decide ((doM X.1 l[k]).2.2 = 0) with
    | false =>
      simp -implicitDefEqProofs (disch := omega) only [go_sem, de, f7_T6, bin_add_in, hk1]
      refine hnext h2 nv ?_
      unfold namesM
      rw [if_neg (fun hh => of_decide_eq_false de hh.1)]
      exact hs2.swap
    | true =>
      simp -implicitDefEqProofs only [go_sem, de, hidx2, Nat.zero_add, Nat.add_zero, e0]
      refine pick_fn _ 6 (by omega) (by omega) _ _ ?_
      cases dp : decide (pickI l[k].do_ 6 < 4) with
      | false =>
        simp -implicitDefEqProofs (disch := omega) only [go_sem, dp, f7_T6, bin_add_in, hk1]
        refine hnext h2 nv ?_
        unfold namesM
        rw [if_neg (fun hh => of_decide_eq_false dp hh.2)]
        exact hs2.swap
      | true =>
        simp -implicitDefEqProofs only [go_sem, dp, hidx2, e3]
        have hnl := hinv.nl
        refine s_append_one (hs2.pick 1) (row := [.string l[k].name]) rfl (by omega) (by omega) (by omega) rfl rfl (by simp [go_sem]) (by simp only [List.length_map]; omega) fun nv' h3 hs3 => ?_
        simp -implicitDefEqProofs (disch := omega) only [go_sem, f7_T6, bin_add_in, hk1]
        refine hnext h3 nv' ?_
        unfold namesM
        rw [if_pos ⟨of_decide_eq_true de, of_decide_eq_true dp⟩, List.map_append]
        exact hs3
  · have hd : decide ((k : Int) < (l.length : Int)) = false := by simp; omega
    rw [List.take_of_length_le (by omega)] at hs'
    simp -implicitDefEqProofs only [f7_T5, go_sem, hlv, hd, f7_T2]
    rw [f7_ret]
    exact hk h' p nv hs'.swap
end
end Go.Proofs.Ytfooakkfoemdkaa

/- Owner and Resolve as functions of the model; the documented examples. -/
namespace Go.Proofs.Ytfooakkfoemdkaa
open Go.Fw
def ownerM (M : Lin) (a : ByteArray) : Int × Bool :=
  match M.ow a with
  | none => (0, false)
  | some i => (((now M.lists (i - 1).toNat : Nat) : Int) + 1, true)
def resolveM (M : Lin) (a : ByteArray) : Int × ByteArray × Int :=
  match M.ow a with
  | none => (0, ⟨#[]⟩, 4)
  | some i => match M.lists[now M.lists (i - 1).toNat]? with
    | some y => (if y.remote = ⟨#[]⟩ then ((now M.lists (i - 1).toNat : Nat) : Int) + 1 else 0, y.remote, 0)
    | none => (0, ⟨#[]⟩, 4)
section
variable {h : Heap} {K : Kont} {p : Nat} {M : Lin} {F : List Res} {D : Nat} {a : ByteArray}
theorem owner_fnM (hr : (linR p M).has h) (hm : Ok M D) (hD : D ≤ 1000) (hk : K (.tuple #[.int .i64 (ownerM M a).1, .bool (ownerM M a).2]) h) : FnH Try.prog 10 #[ptr p, .string a] h K := by
  have hl : M.lists.length ≤ 4294967296 := by have := hm.len; omega
  unfold ownerM at hk
  refine owner_fn hr hl (fun h0 => ?_) (fun i hi => ?_)
  · rw [h0] at hk; exact hk
  · rw [hi] at hk
    obtain ⟨k, rfl, hlt⟩ := hm.own a i hi
    obtain ⟨n, _, hg⟩ := hm.now hD hlt
    have e : ((k : Int) + 1 - 1).toNat = k := by omega
    simp only [e] at hk
    exact ⟨k, n, _, rfl, hg, hk⟩
theorem resolve_fnM (hr : (linR p M).has h) (hm : Ok M D) (hD : D ≤ 1000) (hk : K (.tuple #[.int .i64 (resolveM M a).1, .string (resolveM M a).2.1, .int .i64 (resolveM M a).2.2]) h) : FnH Try.prog 9 #[ptr p, .string a] h K := by
  have hl : M.lists.length ≤ 4294967296 := by have := hm.len; omega
  unfold resolveM at hk
  refine resolve_fn hr hl (fun h0 => ?_) (fun i hi => ?_)
  · rw [h0] at hk; exact hk
  · rw [hi] at hk
    obtain ⟨k, rfl, hlt⟩ := hm.own a i hi
    obtain ⟨n, _, hg⟩ := hm.now hD hlt
    obtain ⟨y, hy, _⟩ := hg.end_
    have e : ((k : Int) + 1 - 1).toNat = k := by omega
    simp only [e, hy] at hk
    exact ⟨k, n, _, y, rfl, hg, hy, hk⟩
end
def sa : ByteArray := ⟨#[97]⟩
def sb : ByteArray := ⟨#[98]⟩
def sc : ByteArray := ⟨#[99]⟩
def sp : ByteArray := ⟨#[112]⟩
def sxy : ByteArray := ⟨#[120, 64, 121]⟩
def m1 : Lin := (addM newL sa 0).1
def m2 : Lin := (renameM m1 1 sb).1
def m3 : Lin := (splitM m2 1 sc sp 7).1
def m4 : Lin := (mergeM m3 2 1).1
def m5 : Lin := (mergeM m4 1 2).1
def m6 : Lin := (moveM m5 1 sxy).1
theorem i1 : Inv m1 1 [sa] := (Inv.new.add 0 (by kernel_rfl)).1
theorem i2 : Inv m2 2 [sa, sb] := i1.rename 1 (by kernel_rfl)
theorem i3 : Inv m3 3 [sa, sb, sc] := i2.split 1 sp 7 (by kernel_rfl)
theorem i4 : Inv m4 4 [sa, sb, sc] := i3.merge (by omega) 2 1
theorem i5 : Inv m5 5 [sa, sb, sc] := i4.merge (by omega) 1 2
theorem i6 : Inv m6 6 [sa, sb, sc] := i5.move 1 sxy
def s7 : Spl := ⟨1, 2, 7, sp⟩
theorem m3s : m3.splits = [s7] := by kernel_rfl
theorem m3p : partI m3 s7 = 2 := by kernel_rfl
theorem m3_reach {V : List Int} {a x : Int} (h : Reach m3 V a x) : a = 2 → x = 2 := by
  intro ha
  induction h with
  | refl => exact ha
  | tail _ hs hl _ ih =>
    rw [m3s, List.mem_singleton] at hs
    subst hs
    have := ih
    rw [← hl] at this
    exact absurd this (by decide)
theorem m3_meets {V P : List Int} (hP : (2 : Int) ∉ P) : ¬ Meets m3 V P 2 := by
  rintro ⟨x, h, hx⟩
  rw [m3_reach h rfl] at hx
  exact hP hx
theorem m3_step1 {P : List Int} (hP : (2 : Int) ∉ P) : stepI m3 [1] P [true] 1 = if (1 : Int) ∈ P then 0 else 2 := by
  unfold stepI
  rw [m3s]
  unfold stepGo
  rw [m3p, if_pos ⟨rfl, by decide⟩, if_neg (m3_meets hP), if_pos ⟨rfl, rfl⟩]
  unfold stepGo
  rfl
theorem m3_step2 : stepI m3 [1, 2] [] [true] 2 = 0 := by
  unfold stepI
  rw [m3s]
  unfold stepGo
  rw [if_neg (fun h => absurd h.1 (by decide))]
  unfold stepGo
  rfl
theorem m3_route1 {r : Int} (h : RouteTo m3 [] [true] [1] 1 r) : r = 2 := by
  have h1 : stepI m3 [1] [] [true] 1 = 2 := by rw [m3_step1 (by simp), if_neg (by simp)]
  exact (RouteTo.unique (.go h1 (by decide) (.stop m3_step2)) h)
theorem m3_route2 {r : Int} (h : RouteTo m3 [1] [true] [1] 1 r) : r = 1 := by
  have h1 : stepI m3 [1] [1] [true] 1 = 0 := by rw [m3_step1 (by decide), if_pos (by simp)]
  exact RouteTo.unique (.stop h1) h
section
variable {h : Heap} {K : Kont} {F : List Res}
theorem bools_new (hs : Sep h F) : Sep (h.push (.cells #[.bool true] 4)) (vecR (.slice (some ⟨h.size, 0, none⟩) 1 1) 4 1 ([true].map boolRow) :: F) :=
  hs.newVec (rows := [true].map boolRow) (e := 4) (sz := 1) (n := 1) rfl (by simp [boolRow]) (by simp [boolRow, go_sem])
theorem ints_new (hs : Sep h F) : Sep (h.push (.cells #[.int .i64 1] 3)) (vecR (.slice (some ⟨h.size, 0, none⟩) 1 1) 3 1 ([(1 : Int)].map intRow) :: F) :=
  hs.newVec (rows := [(1 : Int)].map intRow) (e := 3) (sz := 1) (n := 1) rfl (by simp [intRow]) (by simp [intRow, go_sem])
theorem bld_bool {b : Bool} : oBuildSlice (some (4, 1, 1, .bool false)) 1 [(0, .bool b)] K h = K (.slice (some ⟨h.size, 0, none⟩) 1 1) (h.push (.cells #[.bool b] 4)) := build_slice_of (by omega) (fill_one (x := .bool b) rfl)
theorem bld_int {n : Int} : oBuildSlice (some (3, 1, 8, .int .i64 0)) 1 [(0, .int .i64 n)] K h = K (.slice (some ⟨h.size, 0, none⟩) 1 1) (h.push (.cells #[.int .i64 n] 3)) := build_slice_of (by omega) (fill_one (x := .int .i64 n) rfl)
theorem k31 : known m3 1 = true := by kernel_rfl
theorem n31 : now m3.lists ((1 : Int) - 1).toNat = 0 := by kernel_rfl
theorem e1a : (addM newL sa 0).2.1 = 1 := by kernel_rfl
theorem e1b : (addM newL sa 0).2.2 = 0 := by kernel_rfl
theorem e2a : (renameM m1 1 sb).2 = 0 := by kernel_rfl
theorem e2b : resolveM m2 sa = (1, ⟨#[]⟩, 0) := by kernel_rfl
theorem e3a : (splitM m2 1 sc sp 7).2.1 = 2 := by kernel_rfl
theorem e3b : (splitM m2 1 sc sp 7).2.2 = 0 := by kernel_rfl
theorem e4a : (mergeM m3 2 1).2 = 0 := by kernel_rfl
theorem e4b : resolveM m4 sc = (1, ⟨#[]⟩, 0) := by kernel_rfl
theorem e5a : (mergeM m4 1 2).2 = 1 := by kernel_rfl
theorem e6a : (moveM m5 1 sxy).2 = 0 := by kernel_rfl
theorem e6b : resolveM m6 sb = (0, sxy, 0) := by kernel_rfl
theorem exy : decide (sxy = ⟨#[120, 64, 121]⟩) = true := by kernel_rfl
set_option maxRecDepth 8000 in
set_option maxHeartbeats 4000000 in
theorem small_fn (hs : Sep h F) (hk : ∀ h', Sep h' F → K (.bool true) h') : FnH Try.prog 5 #[] h K := by
  refine f5_fn ?_
  simp only [f5_T0, go_sem]
  refine new_fn hs fun h1 p hs1 => ?_
  have l1 : ∀ {M : Lin} {D : Nat} {ns : List ByteArray}, Inv M D ns → M.lists.length ≤ 4294967296 := fun h => Nat.le_trans h.ok.len (by omega)
  simp only [ptr, go_sem, Option.isNone]
  refine create_fn (s := sa) hs1 (l1 Inv.new) fun h2 hs2 => ?_
  rw [e1a, e1b]
  simp only [go_sem]
  refine rename_fn (M := m1) (n := 1) (s := sb) hs2 (l1 i1) fun h3 hs3 => ?_
  rw [e2a]
  refine resolve_fnM (M := m2) (a := sa) (hs3.at 0) i2.ok (by omega) ?_
  rw [e2b]
  simp only [go_sem]
  refine split_fn (M := m2) (n := 1) (s := sc) (pred := sp) (inp := 7) hs3 (l1 i2) (Nat.le_trans i2.ok.spl (by omega)) fun h4 hs4 => ?_
  rw [e3a, e3b]
  simp only [go_sem, bld_bool]
  have hs5 := bools_new hs4
  generalize hv1 : Value.slice (some ⟨h4.size, 0, none⟩) 1 1 = v1 at *
  generalize h4.push (.cells #[.bool true] 4) = h5 at *
  refine route_fn (M := m3) (n := 1) (P := []) (H := [true]) (F := vecR v1 4 1 ([true].map boolRow) :: F) (hs5.pick 1) i3.ok (by omega) i3.sp (fun h' hs' => RowsR.nil) (fun h' hs' => (hs'.at 0).rows) (by simp) (fun h0 => by rw [k31] at h0; cases h0) (fun _ r hr h6 hs6 => ?_)
  rw [n31] at hr
  have hr1 : r = 2 := m3_route1 hr
  subst hr1
  simp only [go_sem, bld_int, bld_bool]
  have hs7 := ints_new hs6
  have hs8 := bools_new hs7
  rw [Array.size_push] at hs8
  generalize hv3 : Value.slice (some ⟨h6.size + 1, 0, none⟩) 1 1 = v3 at *
  generalize hv2 : Value.slice (some ⟨h6.size, 0, none⟩) 1 1 = v2 at *
  generalize (h6.push (.cells #[.int .i64 1] 3)).push (.cells #[.bool true] 4) = h8 at *
  refine route_fn (M := m3) (n := 1) (P := [1]) (H := [true]) (F := vecR v3 4 1 ([true].map boolRow) :: vecR v2 3 1 ([(1 : Int)].map intRow) :: F) (hs8.sel [2, 0, 0] |>.del 3) i3.ok (by omega) i3.sp (fun h' hs' => (hs'.at 1).rows) (fun h' hs' => (hs'.at 0).rows) (by simp) (fun h0 => by rw [k31] at h0; cases h0) (fun _ r hr h9 hs9 => ?_)
  rw [n31] at hr
  have hr1 : r = 1 := m3_route2 hr
  subst hr1
  refine merge_fn (M := m3) (a := 2) (b := 1) hs9 i3.ok (by omega) fun h10 hs10 => ?_
  rw [e4a]
  refine resolve_fnM (M := m4) (a := sc) (hs10.at 0) i4.ok (by omega) ?_
  rw [e4b]
  simp only [go_sem]
  refine merge_fn (M := m4) (a := 1) (b := 2) hs10 i4.ok (by omega) fun h11 hs11 => ?_
  rw [e5a]
  refine move_fn' (M := m5) (n := 1) (s := sxy) hs11 (l1 i5) fun h12 hs12 => ?_
  rw [e6a]
  refine resolve_fnM (M := m6) (a := sb) (hs12.at 0) i6.ok (by omega) ?_
  rw [e6b]
  rw [extract_0, extract_1, extract_2]
  iterate 14 refine link_int (by first | rfl | exact decide_true _) rfl ?_
  refine link_str rfl rfl ?_
  rw [f5_ret]
  exact hk h12 hs12.tail.tail.tail
end
end Go.Proofs.Ytfooakkfoemdkaa

/- The functions that the statement calls in an open order: has only reads, Names only makes new blocks. -/
namespace Go.Proofs.Ytfooakkfoemdkaa
open Go.Fw
def hasVal (args : List Value) (h : Heap) (v : Value) : Prop := ∃ (sv : Value) (l : List ByteArray) (s : ByteArray), args = [sv, .string s] ∧ RowsR (fun _ => True) h sv 1 (l.map strRow) ∧ l.length < 4611686018427387904 ∧ v = .bool (memB s l)
def namesNew (args : List Value) (h : Heap) (R : Value → Heap → Prop) : Prop := ∃ (p : Nat) (n : Int) (M : Lin) (D : Nat), args = [ptr p, .int .i64 n] ∧ (linR p M).has h ∧ Ok M D ∧ D ≤ 1000 ∧
  R = fun v h' => Turn h h' (fun _ => False) ∧ ∃ Rs, (∃ al : List ByteArray, Rs = [vecR v 9 1 (al.map strRow)] ∧ al.Pairwise ltB ∧ (∀ a, a ∈ al ↔ stands M n a) ∧ al.length ≤ D) ∧ ∃ S', (starL Rs).on h' S' ∧ ∀ b, S' b → h.size ≤ b
noncomputable def pcL : Pure Try.prog where
  kind := fun f => cond (Nat.beq f 11) .read (cond (Nat.beq f 12) .new .wild)
  val := fun f args h v => f = 11 ∧ hasVal args h v
  sound := by
    rintro f args h v ⟨rfl, sv, l, s, rfl, hr, hl, rfl⟩
    exact has_fn hr hl ⟨rfl, rfl⟩
  pure_ok := by
    rintro f args h v hk ⟨rfl, hv⟩ h'
    cases hk
  read_ok := by
    rintro f args h v hk ⟨rfl, sv, l, s, rfl, hr, hl, rfl⟩ h' he
    exact ⟨rfl, sv, l, s, rfl, hr.turn (by omega) (Ext.turn he), hl, rfl⟩
  new := fun f args h R => f = 12 ∧ namesNew args h R
  new_sound := by
    rintro f args h R ⟨rfl, p, n, M, D, rfl, hr, hm, hD, rfl⟩
    exact names_new hr hm hD
  new_ext := by
    rintro f args h R ⟨rfl, p, n, M, D, rfl, hr, hm, hD, rfl⟩ v h' ⟨ht, _⟩
    exact turn_ext ht
theorem l_has {sv : Value} {l : List ByteArray} {s : ByteArray} {K : Kont} {h : Heap} (hr : RowsR (fun _ => True) h sv 1 (l.map strRow)) (hl : l.length < 4611686018427387904) (hk : K (.bool (memB s l)) h) : oPure pcL 11 [sv, .string s] K h :=
  ⟨_, ⟨rfl, sv, l, s, rfl, hr, hl, rfl⟩, hk⟩
theorem l_names {p : Nat} {n : Int} {M : Lin} {D : Nat} {F : List Res} {K : Kont} {h : Heap} (hr : (linR p M).has h) (hm : Ok M D) (hD : D ≤ 1000) (hs : Sep h F)
    (hk : ∀ h' v (al : List ByteArray), al.Pairwise ltB → (∀ a, a ∈ al ↔ stands M n a) → al.length ≤ D → Sep h' (vecR v 9 1 (al.map strRow) :: F) → K v h') : oNew pcL 12 [ptr p, .int .i64 n] K h := by
  refine ⟨_, ⟨rfl, p, n, M, D, rfl, hr, hm, hD, rfl⟩, ?_⟩
  rintro v h' ⟨ht, Rs, ⟨al, rfl, h1, h2, h3⟩, S', hS, hn⟩
  exact hk h' v al h1 h2 h3 ((hs.make ht hS hn).imp fun S hS => (starL_append [vecR v 9 1 (al.map strRow)] S).2 hS)
end Go.Proofs.Ytfooakkfoemdkaa

/- Pieces of functions, printed by a program of ours (Gen), held by the kernel. -/
namespace Go.Proofs.Ytfooakkfoemdkaa
open Go.Fw
@[go_sem] theorem zero38 : zeroOf Try.prog 38 = some (.agg #[(.int .i64 0), (.int .i64 0), (.int .i64 0), (.string (ByteArray.mk #[])), (.string (ByteArray.mk #[]))]) := by kernel_rfl
@[go_sem] theorem var38 : varOf Try.prog 38 = .agg 5 := by kernel_rfl
@[go_sem] theorem esz26 : elemSize Try.prog 26 = some 1 := by kernel_rfl
@[go_sem] theorem und4 : Try.prog.underlying 4 = some .bool := by kernel_rfl
/-! ### 3: missive/missivelaw28.LineageNames -/
noncomputable def f3_c : Code := Try.f3.body.getD .skip
def f3_L : List Nat := [0, 1, 4, 5, 6, 7, 8, 9, 13, 16, 17, 18]
noncomputable def f3_l : List Code := flat f3_c
noncomputable def f3_l0 : List Code := f3_l.drop 7
noncomputable def f3_l1 : List Code := f3_l0.drop 1
noncomputable def f3_l2 : List Code := f3_l1.drop 2
noncomputable def f3_l3 : List Code := f3_l2.drop 1
noncomputable def f3_l4 : List Code := f3_l3.drop 3
def f3_T4 (q : LPost) : List Value → Heap → Prop := fun vs h => match vs with
 | [v0, v1, _, v5, v6, v7, v8, v9, v13, v16, v17, v18] =>
 oCallF Try.prog 9 [v6, v1] (fun x0 h1 =>
 oExtract x0 0 (fun _ h3 =>
 oExtract x0 1 (fun _ h5 =>
 oExtract x0 2 (fun x6 h7 =>
 gop v5 true (fun K h => K v17 h) (fun x8 h9 =>
 gop v5 true (fun K h => K v7 h) (fun x10 h11 =>
 gop v5 true (oLen (Try.prog.underlying 26) x10) (fun x12 h13 =>
 gop v5 true (oBin (Try.prog.underlying 3) .eql x8 x12) (fun x14 h15 =>
 oPick v5 x14 (.bool false) (fun x16 h17 =>
 gop x16 true (fun K h => K x6 h) (fun x18 h19 =>
 gop x16 true (oBin (Try.prog.underlying 31) .eql x18 (.int .i64 0)) (fun x20 h21 =>
 gop x16 true (fun K h => K v7 h) (fun x22 h23 =>
 gop x16 true (fun K h => K v1 h) (fun x24 h25 =>
 gop x16 true (oPure pcL 11 [x22, x24]) (fun x26 h27 =>
 gop x16 true (oBin (Try.prog.underlying 4) .eql x20 x26) (fun x28 h29 =>
 oPick x16 x28 (.bool false) (fun x30 h31 =>
 gop x30 true (fun K h => K x6 h) (fun x32 h33 =>
 gop x30 true (oBin (Try.prog.underlying 31) .eql x32 (.int .i64 0)) (fun x34 h35 =>
 gop x30 true (fun K h => K x34 h) (fun x36 h37 =>
 gop x36 false (fun K h => K x6 h) (fun x38 h39 =>
 gop x36 false (oBin (Try.prog.underlying 31) .eql x38 (.int .i64 4)) (fun x40 h41 =>
 gop x30 true (oPick x36 (.bool true) x40) (fun x42 h43 =>
 oPick x30 x42 (.bool false) (fun x44 h45 =>
 q .ret [v0, v1, x44, v5, v6, v7, v8, v9, v13, v16, v17, v18] h45) h43) h41) h39) h37) h35) h33) h31) h29) h27) h25) h23) h21) h19) h17) h15) h13) h11) h9) h7) h5) h3) h1) h
 | _ => False
set_option maxRecDepth 20000 in
theorem f3_T4_ok (q : LPost) : RfN f3_L (f3_T4 q) (wpLs pcL f3_l3 (proj f3_L q)) :=
 seg_rule' 3 (fun env h => by kernel_rfl) (end_rule' (by kernel_rfl) (Rf.proj q) (fun _ _ x => x)) (Rf.proj q)
noncomputable def f3_l5 : List Code := flat (hdB f3_l2)
noncomputable def f3_l6 : List Code := flat (hdB f3_l5)
noncomputable def f3_l7 : List Code := f3_l6.drop 4
def f3_T7 (q : LPost) : List Value → Heap → Prop := fun vs h => match vs with
 | [v0, v1, v4, v5, v6, v7, v8, v9, v13, v16, v17, v18] =>
 oLen (Try.prog.underlying 29) v8 (fun x46 h47 =>
 oBin (Try.prog.underlying 3) .leq v18 x46 (fun x48 h49 =>
 oCond x48 (oNew pcL 12 [v6, v18] (fun x50 h51 =>
 oLen (Try.prog.underlying 26) x50 (fun x52 h53 =>
 oBin (Try.prog.underlying 3) .add v17 x52 (fun x54 h55 =>
 oBin (Try.prog.underlying 3) .add v18 (.int .i64 1) (fun x56 h57 =>
 q .normal [v0, v1, v4, v5, v6, v7, v8, v9, v13, v16, x54, x56] h57) h55) h53) h51) h49) (q (.exit 4) [v0, v1, v4, v5, v6, v7, v8, v9, v13, v16, v17, v18] h49)) h47) h
 | _ => False
set_option maxRecDepth 20000 in
theorem f3_T7_ok (q : LPost) : RfN f3_L (f3_T7 q) (wpLs pcL f3_l6 (proj f3_L q)) :=
 seg_rule' 4 (fun env h => by kernel_rfl) (end_rule' (by kernel_rfl) (Rf.proj q) (fun _ _ x => x)) (Rf.proj q)
def f3_T6 (q : LPost) : List Value → Heap → Prop := LoopS (fun q => f3_T7 q) (inBL 4 (thenL (f3_T4 q) (q)))
set_option maxRecDepth 20000 in
theorem f3_T6_ok (q : LPost) : RfN f3_L (f3_T6 q) (wpLs pcL f3_l5 (inB 4 (thenQ (wpLs pcL f3_l3 (proj f3_L q)) (proj f3_L q)))) :=
 loop_rule' (b := hdB f3_l5) (B := fun q => f3_T7 q) (c := inBL 4 (thenL (f3_T4 q) (q))) (by kernel_rfl) (fun _ _ x => x) (fun q => (f3_T7_ok q)) (Rf.inB (Rf.then (f3_T4_ok q) (Rf.proj q)))
set_option maxRecDepth 20000 in
theorem f3_B5_ok (q : LPost) : RfN f3_L (f3_T6 q) (wpLs pcL f3_l2 (proj f3_L q)) :=
 block_rule (id := 4) (b := hdB f3_l2) (rest := f3_l3) (by kernel_rfl) (f3_T6_ok q)
def f3_T2 (q : LPost) : List Value → Heap → Prop := fun vs h => match vs with
 | [v0, v1, v4, v5, v6, v7, v8, v9, v13, v16, _, _] =>
 f3_T6 q [v0, v1, v4, v5, v6, v7, v8, v9, v13, v16, (.int .i64 0), (.int .i64 1)] h
 | _ => False
set_option maxRecDepth 20000 in
theorem f3_T2_ok (q : LPost) : RfN f3_L (f3_T2 q) (wpLs pcL f3_l1 (proj f3_L q)) :=
 seg_rule' 2 (fun env h => by kernel_rfl) (f3_B5_ok q) (Rf.proj q)
noncomputable def f3_l8 : List Code := flat (hdB f3_l0)
noncomputable def f3_l9 : List Code := flat (hdB f3_l8)
noncomputable def f3_l10 : List Code := f3_l9.drop 2
noncomputable def f3_l11 : List Code := f3_l10.drop 1
noncomputable def f3_l12 : List Code := f3_l11.drop 1
def f3_T12 (q : LPost) : List Value → Heap → Prop := fun vs h => match vs with
 | [v0, v1, v4, v5, v6, v7, v8, v9, v13, v16, v17, v18] =>
 oBin (Try.prog.underlying 3) .add v9 (.int .i64 1) (fun x58 h59 =>
 q .normal [v0, v1, v4, v5, v6, v7, v8, x58, v13, v16, v17, v18] h59) h
 | _ => False
set_option maxRecDepth 20000 in
theorem f3_T12_ok (q : LPost) : RfN f3_L (f3_T12 q) (wpLs pcL f3_l11 (proj f3_L q)) :=
 seg_rule' 1 (fun env h => by kernel_rfl) (end_rule' (by kernel_rfl) (Rf.proj q) (fun _ _ x => x)) (Rf.proj q)
noncomputable def f3_l13 : List Code := flat (hdB f3_l10)
noncomputable def f3_l14 : List Code := f3_l13.drop 8
noncomputable def f3_l15 : List Code := f3_l14.drop 1
noncomputable def f3_l16 : List Code := flat (hdB f3_l14)
noncomputable def f3_l17 : List Code := flat (hdB f3_l16)
noncomputable def f3_l18 : List Code := f3_l17.drop 4
def f3_T18 (q : LPost) : List Value → Heap → Prop := fun vs h => match vs with
 | [v0, v1, v4, v5, v6, v7, v8, v9, v13, v16, v17, v18] =>
 oLen (Try.prog.underlying 29) v8 (fun x60 h61 =>
 oBin (Try.prog.underlying 3) .leq v16 x60 (fun x62 h63 =>
 oCond x62 (oIndexAddr (rowedOf Try.prog 26) v7 v9 (fun x64 h65 =>
 oLoad (varOf Try.prog 9) x64 (fun x66 h67 =>
 oBin (Try.prog.underlying 3) .eql v16 v13 (fun x68 h69 =>
 oNew pcL 12 [v6, v16] (fun x70 h71 =>
 oPure pcL 11 [x70, x66] (fun x72 h73 =>
 oBin (Try.prog.underlying 4) .neq x72 x68 (fun x74 h75 =>
 oCond x74 (q .ret [v0, v1, (.bool false), v5, v6, v7, v8, v9, v13, v16, v17, v18] h75) (oBin (Try.prog.underlying 3) .add v16 (.int .i64 1) (fun x76 h77 =>
 q .normal [v0, v1, v4, v5, v6, v7, v8, v9, v13, x76, v17, v18] h77) h75)) h73) h71) h69) h67) h65) h63) (q (.exit 2) [v0, v1, v4, v5, v6, v7, v8, v9, v13, v16, v17, v18] h63)) h61) h
 | _ => False
set_option maxRecDepth 20000 in
theorem f3_T18_ok (q : LPost) : RfN f3_L (f3_T18 q) (wpLs pcL f3_l17 (proj f3_L q)) :=
 seg_rule' 4 (fun env h => by kernel_rfl) (end_rule' (by kernel_rfl) (Rf.proj q) (fun _ _ x => x)) (Rf.proj q)
def f3_T17 (q : LPost) : List Value → Heap → Prop := LoopS (fun q => f3_T18 q) (inBL 2 (thenL (f3_T12 q) (inBL 1 (thenL (f3_T12 q) (q)))))
set_option maxRecDepth 20000 in
theorem f3_T17_ok (q : LPost) : RfN f3_L (f3_T17 q) (wpLs pcL f3_l16 (inB 2 (thenQ (wpLs pcL f3_l15 (inB 1 (thenQ (wpLs pcL f3_l11 (proj f3_L q)) (proj f3_L q)))) (inB 1 (thenQ (wpLs pcL f3_l11 (proj f3_L q)) (proj f3_L q)))))) :=
 loop_rule' (b := hdB f3_l16) (B := fun q => f3_T18 q) (c := inBL 2 (thenL (f3_T12 q) (inBL 1 (thenL (f3_T12 q) (q))))) (by kernel_rfl) (fun _ _ x => x) (fun q => (f3_T18_ok q)) (Rf.inB (Rf.then (end_rule' (by kernel_rfl) (Rf.inB (Rf.then (f3_T12_ok q) (Rf.proj q))) (fun _ _ x => x)) (Rf.inB (Rf.then (f3_T12_ok q) (Rf.proj q)))))
set_option maxRecDepth 20000 in
theorem f3_B16_ok (q : LPost) : RfN f3_L (f3_T17 q) (wpLs pcL f3_l14 (inB 1 (thenQ (wpLs pcL f3_l11 (proj f3_L q)) (proj f3_L q)))) :=
 block_rule (id := 2) (b := hdB f3_l14) (rest := f3_l15) (by kernel_rfl) (f3_T17_ok q)
def f3_T14 (q : LPost) : List Value → Heap → Prop := fun vs h => match vs with
 | [v0, v1, v4, v5, v6, v7, v8, v9, _, v16, v17, v18] =>
 oIndexAddr (rowedOf Try.prog 26) v7 v9 (fun x78 h79 =>
 oLoad (varOf Try.prog 9) x78 (fun x80 h81 =>
 oCallF Try.prog 9 [v6, x80] (fun x82 h83 =>
 oExtract x82 0 (fun x84 h85 =>
 oExtract x82 1 (fun x86 h87 =>
 oExtract x82 2 (fun x88 h89 =>
 oIndexAddr (rowedOf Try.prog 26) v7 v9 (fun x90 h91 =>
 oLoad (varOf Try.prog 9) x90 (fun x92 h93 =>
 oCallF Try.prog 10 [v6, x92] (fun x94 h95 =>
 oExtract x94 0 (fun x96 h97 =>
 oExtract x94 1 (fun x98 h99 =>
 oBin (Try.prog.underlying 31) .neq x88 (.int .i64 0) (fun x100 h101 =>
 gop x100 false (fun K h => K x98 h) (fun x102 h103 =>
 gop x100 false (oUn .not x102) (fun x104 h105 =>
 oPick x100 (.bool true) x104 (fun x106 h107 =>
 gop x106 false (fun K h => K x96 h) (fun x108 h109 =>
 gop x106 false (oBin (Try.prog.underlying 3) .lss x108 (.int .i64 1)) (fun x110 h111 =>
 oPick x106 (.bool true) x110 (fun x112 h113 =>
 gop x112 false (fun K h => K x96 h) (fun x114 h115 =>
 gop x112 false (fun K h => K v8 h) (fun x116 h117 =>
 gop x112 false (oLen (Try.prog.underlying 29) x116) (fun x118 h119 =>
 gop x112 false (oBin (Try.prog.underlying 3) .gtr x114 x118) (fun x120 h121 =>
 oPick x112 (.bool true) x120 (fun x122 h123 =>
 gop x122 false (fun K h => K v7 h) (fun x124 h125 =>
 gop x122 false (fun K h => K v9 h) (fun x126 h127 =>
 gop x122 false (oSlice (Try.prog.underlying 26) (elemSize Try.prog 26) x124 none (some x126)) (fun x128 h129 =>
 gop x122 false (fun K h => K v7 h) (fun x130 h131 =>
 gop x122 false (fun K h => K v9 h) (fun x132 h133 =>
 gop x122 false (oIndexAddr (rowedOf Try.prog 26) x130 x132) (fun x134 h135 =>
 gop x122 false (oLoad (varOf Try.prog 9) x134) (fun x136 h137 =>
 gop x122 false (oPure pcL 11 [x128, x136]) (fun x138 h139 =>
 oPick x122 (.bool true) x138 (fun x140 h141 =>
 oCond x140 (q .ret [v0, v1, (.bool false), v5, v6, v7, v8, v9, x96, v16, v17, v18] h141) (oBin (Try.prog.underlying 3) .sub x96 (.int .i64 1) (fun x142 h143 =>
 oIndexAddr (rowedOf Try.prog 29) v8 x142 (fun x144 h145 =>
 oLoad (varOf Try.prog 38) x144 (fun x146 h147 =>
 oAlloc (zeroOf Try.prog 38) 38 (fun x148 h149 =>
 oStore (varOf Try.prog 38) x148 x146 (fun _ h151 =>
 oFieldAddr (fieldOff Try.prog 38 1) x148 (fun x152 h153 =>
 oLoad (varOf Try.prog 3) x152 (fun x154 h155 =>
 oBin (Try.prog.underlying 3) .neq x154 (.int .i64 0) (fun x156 h157 =>
 gop x156 false (fun K h => K x86 h) (fun x158 h159 =>
 gop x156 false (oFieldAddr (fieldOff Try.prog 38 4) x148) (fun x160 h161 =>
 gop x156 false (oLoad (varOf Try.prog 9) x160) (fun x162 h163 =>
 gop x156 false (oBin (Try.prog.underlying 9) .neq x158 x162) (fun x164 h165 =>
 oPick x156 (.bool true) x164 (fun x166 h167 =>
 gop x166 false (fun K h => K x86 h) (fun x168 h169 =>
 gop x166 false (oBin (Try.prog.underlying 9) .eql x168 (.string (ByteArray.mk #[]))) (fun x170 h171 =>
 gop x166 false (fun K h => K x84 h) (fun x172 h173 =>
 gop x166 false (fun K h => K x96 h) (fun x174 h175 =>
 gop x166 false (oBin (Try.prog.underlying 3) .eql x172 x174) (fun x176 h177 =>
 gop x166 false (oBin (Try.prog.underlying 4) .neq x170 x176) (fun x178 h179 =>
 oPick x166 (.bool true) x178 (fun x180 h181 =>
 gop x180 false (fun K h => K x86 h) (fun x182 h183 =>
 gop x180 false (oBin (Try.prog.underlying 9) .neq x182 (.string (ByteArray.mk #[]))) (fun x184 h185 =>
 gop x180 false (fun K h => K x184 h) (fun x186 h187 =>
 gop x186 true (fun K h => K x84 h) (fun x188 h189 =>
 gop x186 true (oBin (Try.prog.underlying 3) .neq x188 (.int .i64 0)) (fun x190 h191 =>
 gop x180 false (oPick x186 x190 (.bool false)) (fun x192 h193 =>
 oPick x180 (.bool true) x192 (fun x194 h195 =>
 oCond x194 (q .ret [v0, v1, (.bool false), v5, v6, v7, v8, v9, x96, v16, v17, v18] h195) (f3_T17 q [v0, v1, v4, v5, v6, v7, v8, v9, x96, (.int .i64 1), v17, v18] h195)) h193) h191) h189) h187) h185) h183) h181) h179) h177) h175) h173) h171) h169) h167) h165) h163) h161) h159) h157) h155) h153) h151) h149) h147) h145) h143) h141)) h139) h137) h135) h133) h131) h129) h127) h125) h123) h121) h119) h117) h115) h113) h111) h109) h107) h105) h103) h101) h99) h97) h95) h93) h91) h89) h87) h85) h83) h81) h79) h
 | _ => False
set_option maxRecDepth 20000 in
theorem f3_T14_ok (q : LPost) : RfN f3_L (f3_T14 q) (wpLs pcL f3_l13 (inB 1 (thenQ (wpLs pcL f3_l11 (proj f3_L q)) (proj f3_L q)))) :=
 seg_rule' 8 (fun env h => by kernel_rfl) (f3_B16_ok q) (Rf.inB (Rf.then (f3_T12_ok q) (Rf.proj q)))
set_option maxRecDepth 20000 in
theorem f3_B13_ok (q : LPost) : RfN f3_L (f3_T14 q) (wpLs pcL f3_l10 (proj f3_L q)) :=
 block_rule (id := 1) (b := hdB f3_l10) (rest := f3_l11) (by kernel_rfl) (f3_T14_ok q)
def f3_T10 (q : LPost) : List Value → Heap → Prop := fun vs h => match vs with
 | [v0, v1, v4, v5, v6, v7, v8, v9, v13, v16, v17, v18] =>
 oLen (Try.prog.underlying 26) v7 (fun x196 h197 =>
 oBin (Try.prog.underlying 3) .lss v9 x196 (fun x198 h199 =>
 oCond x198 (f3_T14 q [v0, v1, v4, v5, v6, v7, v8, v9, v13, v16, v17, v18] h199) (q (.exit 0) [v0, v1, v4, v5, v6, v7, v8, v9, v13, v16, v17, v18] h199)) h197) h
 | _ => False
set_option maxRecDepth 20000 in
theorem f3_T10_ok (q : LPost) : RfN f3_L (f3_T10 q) (wpLs pcL f3_l9 (proj f3_L q)) :=
 seg_rule' 2 (fun env h => by kernel_rfl) (f3_B13_ok q) (Rf.proj q)
def f3_T9 (q : LPost) : List Value → Heap → Prop := LoopS (fun q => f3_T10 q) (inBL 0 (thenL (f3_T2 q) (q)))
set_option maxRecDepth 20000 in
theorem f3_T9_ok (q : LPost) : RfN f3_L (f3_T9 q) (wpLs pcL f3_l8 (inB 0 (thenQ (wpLs pcL f3_l1 (proj f3_L q)) (proj f3_L q)))) :=
 loop_rule' (b := hdB f3_l8) (B := fun q => f3_T10 q) (c := inBL 0 (thenL (f3_T2 q) (q))) (by kernel_rfl) (fun _ _ x => x) (fun q => (f3_T10_ok q)) (Rf.inB (Rf.then (f3_T2_ok q) (Rf.proj q)))
set_option maxRecDepth 20000 in
theorem f3_B8_ok (q : LPost) : RfN f3_L (f3_T9 q) (wpLs pcL f3_l0 (proj f3_L q)) :=
 block_rule (id := 0) (b := hdB f3_l0) (rest := f3_l1) (by kernel_rfl) (f3_T9_ok q)
def f3_T0 (q : LPost) : List Value → Heap → Prop := fun vs h => match vs with
 | [v0, v1, _, _, v6, v7, v8, v9, v13, v16, v17, v18] =>
 oCallF Try.prog 5 [] (fun x200 h201 =>
 oCallF Try.prog 6 [v0] (fun x202 h203 =>
 oUn .not x202 (fun x204 h205 =>
 gop x204 false (fun K h => K v1 h) (fun x206 h207 =>
 gop x204 false (oLen (Try.prog.underlying 9) x206) (fun x208 h209 =>
 gop x204 false (oBin (Try.prog.underlying 3) .gtr x208 (.int .i64 80)) (fun x210 h211 =>
 oPick x204 (.bool true) x210 (fun x212 h213 =>
 oCond x212 (q .ret [v0, v1, x200, x200, v6, v7, v8, v9, v13, v16, v17, v18] h213) (oCallF Try.prog 7 [v0] (fun x214 h215 =>
 oExtract x214 0 (fun x216 h217 =>
 oExtract x214 1 (fun x218 h219 =>
 oCallF Try.prog 8 [x216] (fun x220 h221 =>
 f3_T9 q [v0, v1, (.bool false), x200, x216, x218, x220, (.int .i64 0), v13, v16, v17, v18] h221) h219) h217) h215) h213)) h211) h209) h207) h205) h203) h201) h
 | _ => False
set_option maxRecDepth 20000 in
theorem f3_T0_ok (q : LPost) : RfN f3_L (f3_T0 q) (wpLs pcL f3_l (proj f3_L q)) :=
 seg_rule' 7 (fun env h => by kernel_rfl) (f3_B8_ok q) (Rf.proj q)
theorem f3_ret {v0 v1 v4 v5 v6 v7 v8 v9 v13 v16 v17 v18 : Value} {h : Heap} {K : Kont} : retL Try.prog f3_L Try.f3.results.toList K .ret [v0, v1, v4, v5, v6, v7, v8, v9, v13, v16, v17, v18] h = (K v4 h) := by kernel_rfl
theorem f3_end {v0 v1 v4 v5 v6 v7 v8 v9 v13 v16 v17 v18 : Value} {h : Heap} {K : Kont} : retL Try.prog f3_L Try.f3.results.toList K .normal [v0, v1, v4, v5, v6, v7, v8, v9, v13, v16, v17, v18] h = (K v4 h) := by kernel_rfl
set_option maxRecDepth 20000 in
theorem f3_fn {a0 a1 : Value} {h : Heap} {K : Kont}
 (hw : f3_T0 (retL Try.prog f3_L Try.f3.results.toList K) [a0, a1, undef, undef, undef, undef, undef, undef, undef, undef, undef, undef] h) : FnH Try.prog 3 #[a0, a1] h K :=
 fn_by (L := f3_L) (T := fun q => f3_T0 q) (args := [a0, a1]) pcL mixed Try.func3 (c := f3_c) (by kernel_rfl) (by kernel_rfl) (by kernel_rfl) (by kernel_rfl) (fun q => (f3_T0_ok q)) hw
end Go.Proofs.Ytfooakkfoemdkaa

/- Laws of congruence that keep the rest of the code closed while it is not reached, always: a hypothesis that every simp set of ours rewrites ('tick') makes the law hold where nothing else has changed (else simp falls back to its own congruence, goes into the rest of the code, and takes 2 to the depth). -/
namespace Go.Fw
set_option linter.unusedVariables false
def tick : Nat := 0
def tock : Nat := 0
@[go_sem] theorem tick_eq : tick = tock := Nat.le_antisymm (Nat.le_refl 0) (Nat.le_refl 0)
section
variable {P : Program} {K : Kont} {h : Heap} {tk : Nat}
@[congr] theorem oSome_congrT {x x' : Option Value} {K : Value → Prop} (e0' : tick = tk) (e : x = x') : oSome x K = oSome x' K := by rw [e]
@[congr] theorem oObj_congrT {x x' : Option Obj} {K : Array Value → TypeId → Nat × Nat → Prop} (e0' : tick = tk) (e : x = x') : oObj x K = oObj x' K := by rw [e]
@[congr] theorem oMapL_congrT {x x' : Option (List (Value × Value))} {K : List (Value × Value) → Prop} (e0' : tick = tk) (e : x = x') : oMapL x K = oMapL x' K := by rw [e]
@[congr] theorem oPick_congrT {c c' a a' b b' : Value} (e0' : tick = tk) (e1 : c = c') (e2 : a = a') (e3 : b = b') : oPick c a b K h = oPick c' a' b' K h := by rw [e1, e2, e3]
@[congr] theorem oAlloc_congrT {z z' : Option Value} {t : TypeId} (e0' : tick = tk) (e1 : z = z') : oAlloc z t K h = oAlloc z' t K h := by rw [e1]
@[congr] theorem oBox_congrT {x x' : Value} {t : TypeId} (e0' : tick = tk) (e1 : x = x') : oBox t x K h = oBox t x' K h := by rw [e1]
@[congr] theorem oBuild_congrT {b b' : Option (Value × List (Nat × Nat))} {p p' : List (Nat × Value)} (e0' : tick = tk) (e1 : b = b') (e2 : p = p') : oBuild b p K h = oBuild b' p' K h := by rw [e1, e2]
@[congr] theorem oBuildSlice_congrT {b b' : Option (TypeId × Nat × Nat × Value)} {n : Nat} {p p' : List (Nat × Value)} (e0' : tick = tk) (e1 : b = b') (e2 : p = p') : oBuildSlice b n p K h = oBuildSlice b' n p' K h := by rw [e1, e2]
@[congr] theorem oLoad_congrT {v v' : Var} {x x' : Value} (e0' : tick = tk) (e1 : v = v') (e2 : x = x') : oLoad v x K h = oLoad v' x' K h := by rw [e1, e2]
@[congr] theorem oStore_congrT {v v' : Var} {x x' y y' : Value} (e0' : tick = tk) (e1 : v = v') (e2 : x = x') (e3 : y = y') : oStore v x y K h = oStore v' x' y' K h := by rw [e1, e2, e3]
@[congr] theorem oNilCheck_congrT {x x' : Value} (e0' : tick = tk) (e2 : x = x') : oNilCheck x K h = oNilCheck x' K h := by rw [e2]
@[congr] theorem oBin_congrT {d d' : Option TypeDesc} {op : BinOp} {x x' y y' : Value} (e0' : tick = tk) (e1 : d = d') (e2 : x = x') (e3 : y = y') : oBin d op x y K h = oBin d' op x' y' K h := by rw [e1, e2, e3]
@[congr] theorem oUn_congrT {op : UnOp} {x x' : Value} (e0' : tick = tk) (e2 : x = x') : oUn op x K h = oUn op x' K h := by rw [e2]
@[congr] theorem oConvert_congrT {s s' d d' : Option TypeDesc} {x x' : Value} (e0' : tick = tk) (e1 : s = s') (e2 : d = d') (e3 : x = x') : oConvert s d x K h = oConvert s' d' x' K h := by rw [e1, e2, e3]
@[congr] theorem oMakeMap_congrT {d d' : Option TypeDesc} {r r' : Option Value} (e0' : tick = tk) (e1 : d = d') (e2 : r = r') : oMakeMap d r K h = oMakeMap d' r' K h := by rw [e1, e2]
@[congr] theorem oMakeSlice_congrT {b b' : Option (TypeId × Nat × Nat × Value)} {x x' y y' : Value} (e0' : tick = tk) (e1 : b = b') (e2 : x = x') (e3 : y = y') : oMakeSlice b x y K h = oMakeSlice b' x' y' K h := by rw [e1, e2, e3]
@[congr] theorem oSlice_congrT {d d' : Option TypeDesc} {n n' : Option Nat} {x x' : Value} {lo lo' hi hi' : Option Value} (e0' : tick = tk) (e1 : d = d') (e2 : n = n') (e3 : x = x') (e4 : lo = lo') (e5 : hi = hi') : oSlice d n x lo hi K h = oSlice d' n' x' lo' hi' K h := by rw [e1, e2, e3, e4, e5]
@[congr] theorem oFieldAddr_congrT {o o' : Option Nat} {x x' : Value} (e0' : tick = tk) (e1 : o = o') (e2 : x = x') : oFieldAddr o x K h = oFieldAddr o' x' K h := by rw [e1, e2]
@[congr] theorem oField_congrT {f f' : Var × Nat} {x x' : Value} (e0' : tick = tk) (e1 : f = f') (e2 : x = x') : oField f x K h = oField f' x' K h := by rw [e1, e2]
@[congr] theorem oIndexAddr_congrT {r r' : Rowed} {x x' i i' : Value} (e0' : tick = tk) (e1 : r = r') (e2 : x = x') (e3 : i = i') : oIndexAddr r x i K h = oIndexAddr r' x' i' K h := by rw [e1, e2, e3]
@[congr] theorem oIndexStr_congrT {r r' : Rowed} {x x' i i' : Value} (e0' : tick = tk) (e1 : r = r') (e2 : x = x') (e3 : i = i') : oIndexStr r x i K h = oIndexStr r' x' i' K h := by rw [e1, e2, e3]
@[congr] theorem oLookup_congrT {m m' : Option (TypeDesc × Value)} {ok : Bool} {x x' k k' : Value} (e0' : tick = tk) (e1 : m = m') (e2 : x = x') (e3 : k = k') : oLookup m ok x k K h = oLookup m' ok x' k' K h := by rw [e1, e2, e3]
@[congr] theorem oMapUpdate_congrT {m m' : Option (TypeDesc × Value)} {x x' k k' v v' : Value} (e0' : tick = tk) (e1 : m = m') (e2 : x = x') (e3 : k = k') (e4 : v = v') : oMapUpdate m x k v K h = oMapUpdate m' x' k' v' K h := by rw [e1, e2, e3, e4]
@[congr] theorem oMapEntry_congrT {m m' : Option (TypeDesc × Value)} {x x' k k' : Value} (e0' : tick = tk) (e1 : m = m') (e2 : x = x') (e3 : k = k') : oMapEntry m x k K h = oMapEntry m' x' k' K h := by rw [e1, e2, e3]
@[congr] theorem oEntryStore_congrT {x x' k k' v v' : Value} (e0' : tick = tk) (e2 : x = x') (e3 : k = k') (e4 : v = v') : oEntryStore x k v K h = oEntryStore x' k' v' K h := by rw [e2, e3, e4]
@[congr] theorem oDelete_congrT {m m' : Option (TypeDesc × Value)} {x x' k k' : Value} (e0' : tick = tk) (e1 : m = m') (e2 : x = x') (e3 : k = k') : oDelete m x k K h = oDelete m' x' k' K h := by rw [e1, e2, e3]
@[congr] theorem oRange_congrT {d d' : Option TypeDesc} {x x' : Value} (e0' : tick = tk) (e1 : d = d') (e2 : x = x') : oRange d x K h = oRange d' x' K h := by rw [e1, e2]
@[congr] theorem oNext_congrT {s : Bool} {x x' : Value} (e0' : tick = tk) (e2 : x = x') : oNext x s K h = oNext x' s K h := by rw [e2]
@[congr] theorem oEntry_congrT {x x' : Value} (e0' : tick = tk) (e2 : x = x') : oEntry x K h = oEntry x' K h := by rw [e2]
@[congr] theorem oExtract_congrT {i : Nat} {x x' : Value} (e0' : tick = tk) (e2 : x = x') : oExtract x i K h = oExtract x' i K h := by rw [e2]
@[congr] theorem oLen_congrT {d d' : Option TypeDesc} {x x' : Value} (e0' : tick = tk) (e1 : d = d') (e2 : x = x') : oLen d x K h = oLen d' x' K h := by rw [e1, e2]
@[congr] theorem oCap_congrT {d d' : Option TypeDesc} {x x' : Value} (e0' : tick = tk) (e1 : d = d') (e2 : x = x') : oCap d x K h = oCap d' x' K h := by rw [e1, e2]
@[congr] theorem oAppend_congrT {b b' : Option (TypeId × Nat × Nat × Value)} {x x' y y' : Value} (e0' : tick = tk) (e1 : b = b') (e2 : x = x') (e3 : y = y') : oAppend b x y K h = oAppend b' x' y' K h := by rw [e1, e2, e3]
@[congr] theorem oCopy_congrT {b b' : Option (TypeId × Nat × Nat × Value)} {x x' y y' : Value} (e0' : tick = tk) (e1 : b = b') (e2 : x = x') (e3 : y = y') : oCopy b x y K h = oCopy b' x' y' K h := by rw [e1, e2, e3]
@[congr] theorem oVal_congrT {x x' : Option Value} (e0' : tick = tk) (e1 : x = x') : oVal x K h = oVal x' K h := by rw [e1]
@[congr] theorem oCallF_congrT {f : Nat} {a a' : List Value} (e0' : tick = tk) (e1 : a = a') : oCallF P f a K h = oCallF P f a' K h := by rw [e1]
@[congr] theorem oCallV_congrT {f f' : Value} {a a' : List Value} (e0' : tick = tk) (e0 : f = f') (e1 : a = a') : oCallV P f a K h = oCallV P f' a' K h := by rw [e0, e1]
@[congr] theorem oPure_congrT {pc : Pure P} {f : Nat} {a a' : List Value} (e0' : tick = tk) (e1 : a = a') : oPure pc f a K h = oPure pc f a' K h := by rw [e1]
@[congr] theorem oCond_congrT {x x' : Value} {A B : Prop} (e0' : tick = tk) (e1 : x = x') : oCond x A B = oCond x' A B := by rw [e1]
@[congr] theorem gop_congrT {x x' : Value} {w : Bool} {F : Kont → Heap → Prop} (e0' : tick = tk) (e1 : x = x') : gop x w F K h = gop x' w F K h := by rw [e1]
@[congr] theorem oRow_congrT {x x' : Option (Array Value)} {K : Array Value → Prop} (e0' : tick = tk) (e : x = x') : oRow x K = oRow x' K := by rw [e]
@[congr] theorem oWr_congrT {x x' : Option Obj} {K : Array Value → TypeId → Prop} (e0' : tick = tk) (e : x = x') : oWr x K = oWr x' K := by rw [e]
@[congr] theorem FnH_congrT {f : Nat} {a a' : Array Value} (e0 : tick = tk) (e1 : a = a') : FnH P f a h K = FnH P f a' h K := by rw [e1]
@[congr] theorem oNew_congrT {pc : Pure P} {f : Nat} {a a' : List Value} (e0 : tick = tk) (e1 : a = a') : oNew pc f a K h = oNew pc f a' K h := by rw [e1]
end
@[go_sem] theorem dec_true {i : Decidable True} : @decide True i = true := decide_true i
@[go_sem] theorem dec_false {i : Decidable False} : @decide False i = false := decide_false i
@[go_sem] theorem not_t : (!true) = false := rfl
@[go_sem] theorem not_f : (!false) = true := rfl
@[go_sem] theorem beq_tt : (true == true) = true := rfl
@[go_sem] theorem beq_ff : (false == false) = true := rfl
@[go_sem] theorem beq_tf : (true == false) = false := rfl
@[go_sem] theorem beq_ft : (false == true) = false := rfl
end Go.Fw

/- The statement LineageNames: what its loops show. -/
namespace Go.Proofs.Ytfooakkfoemdkaa
open Go.Fw
theorem Inv.facts {M : Lin} {D : Nat} {ns : List ByteArray} (h : Inv M D ns) (hD : D ≤ 1000) {a : ByteArray} (ha : a ∈ ns) :
    ∃ (r : Nat) (y : Lst), M.lists[r]? = some y ∧ y.into = 0 ∧ resolveM M a = (if y.remote = ⟨#[]⟩ then (r : Int) + 1 else 0, y.remote, 0) ∧ ownerM M a = ((r : Int) + 1, true) ∧ ∀ n, stands M n a ↔ (r : Int) + 1 = n := by
  cases ho : M.ow a with
  | none => exact absurd ho ((h.dom a).1 ha)
  | some i =>
    obtain ⟨k, rfl, hlt⟩ := h.ok.own a i ho
    obtain ⟨n, _, hg⟩ := h.ok.now hD hlt
    obtain ⟨y, hy, hy0⟩ := hg.end_
    have e : ((k : Int) + 1 - 1).toNat = k := by omega
    refine ⟨now M.lists k, y, hy, hy0, ?_, ?_, fun n => ⟨?_, fun hn => ⟨k, ho, hn⟩⟩⟩
    · unfold resolveM; rw [ho]; simp only [e, hy]
    · unfold ownerM; rw [ho]; simp only [e]
    · rintro ⟨k', h1, h2⟩
      rw [ho] at h1
      injection h1 with h1
      have : k = k' := by omega
      rw [this]; exact h2
theorem ltB_nodup {al : List ByteArray} (h : al.Pairwise ltB) : al.Nodup := h.imp fun {a b} hab e => by
  subst e
  have := lessB_iff.2 hab
  have h2 := (lessB_iff (a := a) (b := a)).1 this
  unfold ltB at h2
  exact List.lt_irrefl _ h2
theorem memB_take {ns : List ByteArray} (hn : ns.Nodup) {i : Nat} (hi : i < ns.length) : memB ns[i] (ns.take i) = false := by
  refine memB_not fun hm => ?_
  obtain ⟨j, hj, he⟩ := List.mem_iff_getElem.1 hm
  rw [List.getElem_take] at he
  have hji : j < i := by simp at hj; omega
  exact List.pairwise_iff_getElem.1 hn j i (by omega) hi hji he
section
variable {h : Heap} {K : Kont} {p : Nat} {M : Lin} {F : List Res} {D : Nat} {ns : List ByteArray} {nv va v0 v4 v5 v13 v16 v17 v18 : Value} {other : ByteArray} {q : LPost}
theorem owner_fnE {a : ByteArray} {x : Int} {b : Bool} (hr : (linR p M).has h) (hm : Ok M D) (hD : D ≤ 1000) (he : ownerM M a = (x, b)) (hk : K (.tuple #[.int .i64 x, .bool b]) h) : FnH Try.prog 10 #[ptr p, .string a] h K :=
  owner_fnM hr hm hD (by rw [he]; exact hk)
theorem resolve_fnE {a s : ByteArray} {x e : Int} (hr : (linR p M).has h) (hm : Ok M D) (hD : D ≤ 1000) (he : resolveM M a = (x, s, e)) (hk : K (.tuple #[.int .i64 x, .string s, .int .i64 e]) h) : FnH Try.prog 9 #[ptr p, .string a] h K :=
  resolve_fnM hr hm hD (by rw [he]; exact hk)
set_option maxRecDepth 8000 in
set_option maxHeartbeats 2000000 in
/-- One of the lists: has it this name? -/
theorem names_inner {i r : Nat} (hm : Inv M D ns) (hD : D ≤ 1000) (hi : i < ns.length) (hst : ∀ n, stands M n ns[i] ↔ (r : Int) + 1 = n)
    (hs : Sep h (vecR nv 9 1 (ns.map strRow) :: lstsR va M.lists :: linR p M :: F)) (hk : ∀ h' v16, Sep h' (vecR nv 9 1 (ns.map strRow) :: lstsR va M.lists :: linR p M :: F) → q .normal [v0, .string other, v4, v5, ptr p, nv, va, .int .i64 ((i + 1 : Nat) : Int), .int .i64 ((r : Int) + 1), v16, v17, v18] h') :
    f3_T17 q [v0, .string other, v4, v5, ptr p, nv, va, .int .i64 (i : Int), .int .i64 ((r : Int) + 1), .int .i64 1, v17, v18] h := by
  have hml := hm.ok.len
  have hnl := hm.nl
  refine LoopS.st (σ := Nat) (fun j => [v0, .string other, v4, v5, ptr p, nv, va, .int .i64 (i : Int), .int .i64 ((r : Int) + 1), .int .i64 ((j : Int) + 1), v17, v18]) (fun j h' => Sep h' (vecR nv 9 1 (ns.map strRow) :: lstsR va M.lists :: linR p M :: F) ∧ j ≤ M.lists.length) (fun j => M.lists.length - j) 0 rfl ⟨hs, Nat.zero_le _⟩ ?_
  rintro j h' ⟨hs', hj⟩
  have hlv : ∀ K, oLen (some (.slice 38)) va K h' = K (.int .i64 M.lists.length) h' := fun K => by rw [len_val (hs'.at 1).rows, List.length_map]
  by_cases hjl : j < M.lists.length
  · have hd : decide ((j : Int) + 1 ≤ (M.lists.length : Int)) = true := by simp; omega
    obtain ⟨b, o, hidx, hcell, _⟩ := elem_at (r := strRow ns[i]) (hs'.at 0).rows (k := i) (by simpa using hi) (by simp) (by omega)
    have ec : cellAt h' b o = some (.string ns[i]) := hcell 0 (by omega)
    simp -implicitDefEqProofs only [f3_T18, go_sem, hlv, hd, hidx, ec]
    refine l_names (hs'.at 2) hm.ok hD hs' fun h2 v al hal hmem hlen hs2 => ?_
    refine l_has (hs2.at 0).rows (by omega) ?_
    have hb : memB ns[i] al = decide ((j : Int) + 1 = (r : Int) + 1) := by
      rw [Bool.eq_iff_iff, memB_iff, hmem, hst, decide_eq_true_eq]
      exact eq_comm
    have hj1 : (j : Int) + 1 + 1 = ((j + 1 : Nat) : Int) + 1 := rfl
    rw [hb]
    cases hdj : decide ((j : Int) + 1 = (r : Int) + 1) <;>
    · simp -implicitDefEqProofs (disch := omega) only [go_sem, beq_self_eq_true, Bool.not_true, bin_add_in, hj1]
      exact NextSt.mk (j + 1) rfl ⟨hs2.tail, hjl⟩ (by omega)
  · have hd : decide ((j : Int) + 1 ≤ (M.lists.length : Int)) = false := by simp; omega
    have hi1 : (i : Int) + 1 = ((i + 1 : Nat) : Int) := rfl
    simp -implicitDefEqProofs (disch := omega) only [f3_T18, go_sem, hlv, hd, f3_T12, bin_add_in, hi1]
    exact hk h' _ hs'
set_option maxRecDepth 8000 in
set_option maxHeartbeats 2000000 in
theorem names_round {i : Nat} (hm : Inv M D ns) (hD : D ≤ 1000) (hi : i < ns.length)
    (hs : Sep h (vecR nv 9 1 (ns.map strRow) :: lstsR va M.lists :: linR p M :: F)) (hk : ∀ h' v13 v16, Sep h' (vecR nv 9 1 (ns.map strRow) :: lstsR va M.lists :: linR p M :: F) → q .normal [v0, .string other, v4, v5, ptr p, nv, va, .int .i64 ((i + 1 : Nat) : Int), v13, v16, v17, v18] h') :
    f3_T10 q [v0, .string other, v4, v5, ptr p, nv, va, .int .i64 (i : Int), v13, v16, v17, v18] h := by
  have hml := hm.ok.len
  obtain ⟨r, y, hy, hy0, hres, hown, hst⟩ := hm.facts hD (List.getElem_mem hi)
  obtain ⟨hrl, hyy⟩ := List.getElem?_eq_some_iff.1 hy
  have hlv : ∀ K, oLen (some (.slice 9)) nv K h = K (.int .i64 ns.length) h := fun K => by rw [len_val (hs.at 0).rows, List.length_map]
  have hd : decide ((i : Int) < (ns.length : Int)) = true := by simp; omega
  obtain ⟨b, o, hidx, hcell, _⟩ := elem_at (r := strRow ns[i]) (hs.at 0).rows (k := i) (by simpa using hi) (by simp) (by omega)
  have ec : cellAt h b o = some (.string ns[i]) := hcell 0 (by omega)
  simp -implicitDefEqProofs only [f3_T10, f3_T14, go_sem, hlv, hd, hidx, ec]
  refine resolve_fnE (hs.at 2) hm.ok hD hres ?_
  simp -implicitDefEqProofs only [go_sem, hidx, ec]
  refine owner_fnE (hs.at 2) hm.ok hD hown ?_
  have hla : ∀ K, oLen (some (.slice 38)) va K h = K (.int .i64 M.lists.length) h := fun K => by rw [len_val (hs.at 1).rows, List.length_map]
  have g1 : decide ((r : Int) + 1 < 1) = false := by simp; omega
  have g2 : decide ((M.lists.length : Int) < (r : Int) + 1) = false := by simp; omega
  simp -implicitDefEqProofs only [go_sem, decide_true, Bool.not_true, g1, hla, g2]
  refine s_slice_to (hs.at 0).rows (by simp; omega) fun v' hv' => ?_
  rw [← List.map_take] at hv'
  simp -implicitDefEqProofs only [go_sem, hidx, ec]
  refine l_has hv' (by have := hm.nl; simp; omega) ?_
  rw [memB_take hm.nd hi]
  have e1 : (r : Int) + 1 - 1 = r := by omega
  obtain ⟨b2, o2, hidx2, _, hload2⟩ := elem_at (r := lstRow M.lists[r]) (hs.at 1).rows (k := r) (by simpa using hrl) (by simp) (by omega)
  have z38 : zeroOf Try.prog 38 = some (.agg #[.int .i64 0, .int .i64 0, .int .i64 0, .string (ByteArray.mk #[]), .string (ByteArray.mk #[])]) := by kernel_rfl
  simp -implicitDefEqProofs (disch := omega) only [go_sem, bin_sub_in, e1, hidx2, hload2, z38]
  refine s_alloc hs fun h1 b1 hs1 => ?_
  refine s_store hs1 rfl rfl (by simp [lstRow, go_sem]) fun h2 hs2 => ?_
  have ei : cellAt h2 b1 1 = some (.int .i64 0) := by rw [← hy0, ← hyy]; exact (hs2.at 0).cell 1
  have er : cellAt h2 b1 4 = some (.string y.remote) := by rw [← hyy]; exact (hs2.at 0).cell 4
  have hfin := names_inner (q := q) (v0 := v0) (v4 := v4) (v5 := v5) (v17 := v17) (v18 := v18) (other := other) hm hD hi hst hs2.tail (fun h' v16 hs' => hk h' _ v16 hs')
  generalize y.remote = rm at *
  cases dr : decide (rm = ⟨#[]⟩) with
  | true =>
    have hrm := of_decide_eq_true dr
    simp only [hrm, if_true]
    rw [hrm] at er
    simp -implicitDefEqProofs only [go_sem, Nat.zero_add, ei, er, decide_true, Bool.not_true, beq_self_eq_true]
    exact hfin
  | false =>
    have hrm := of_decide_eq_false dr
    have g3 : decide ((0 : Int) = (r : Int) + 1) = false := by simp; omega
    simp only [hrm, if_false]
    simp -implicitDefEqProofs only [go_sem, Nat.zero_add, ei, er, decide_true, Bool.not_true, dr, g3, beq_self_eq_true, Bool.not_false]
    exact hfin
end
end Go.Proofs.Ytfooakkfoemdkaa

/- The statement LineageNames: the whole. -/
namespace Go.Proofs.Ytfooakkfoemdkaa
open Go.Fw
/-- How many of these names stand for lists up to j. -/
def upto (M : Lin) (ns : List ByteArray) (j : Nat) : Nat := ns.countP fun a => decide ((ownerM M a).1 ≤ (j : Int))
theorem upto_step {M : Lin} {D : Nat} {ns : List ByteArray} (h : Inv M D ns) (hD : D ≤ 1000) {j : Nat} {al : List ByteArray} (hal : al.Pairwise ltB) (hmem : ∀ a, a ∈ al ↔ stands M ((j : Int) + 1) a) : upto M ns (j + 1) = upto M ns j + al.length := by
  have h1 : ∀ a ∈ ns, (stands M ((j : Int) + 1) a ↔ (ownerM M a).1 = (j : Int) + 1) := fun a ha => by
    obtain ⟨r, y, _, _, _, ho, hst⟩ := h.facts hD ha
    rw [hst, ho]
  have h2 : al.length = ns.countP fun a => decide ((ownerM M a).1 = (j : Int) + 1) := by
    rw [List.countP_eq_length_filter]
    refine List.Perm.length_eq ((List.perm_ext_iff_of_nodup (ltB_nodup hal) (h.nd.sublist List.filter_sublist)).2 fun a => ?_)
    rw [hmem, List.mem_filter, decide_eq_true_eq]
    constructor
    · intro hs
      have ha : a ∈ ns := by
        obtain ⟨k, h3, _⟩ := hs
        rw [h.dom, h3]; simp
      exact ⟨ha, (h1 a ha).1 hs⟩
    · exact fun hs => (h1 a hs.1).2 hs.2
  rw [h2]
  unfold upto
  clear h1 h2 hmem hal
  have hnd := h.nd
  clear h hnd
  induction ns with
  | nil => rfl
  | cons a l ih =>
    simp only [List.countP_cons]
    rw [ih]
    have e : ((j + 1 : Nat) : Int) = (j : Int) + 1 := rfl
    by_cases c1 : (ownerM M a).1 ≤ (j : Int)
    · have c2 : (ownerM M a).1 ≤ ((j + 1 : Nat) : Int) := by omega
      have c3 : ¬ (ownerM M a).1 = (j : Int) + 1 := by omega
      simp only [c1, c2, c3, decide_true, decide_false, if_true, Bool.false_eq_true, if_false]
      omega
    · by_cases c2 : (ownerM M a).1 = (j : Int) + 1
      · have c3 : (ownerM M a).1 ≤ ((j + 1 : Nat) : Int) := by omega
        rw [if_pos (decide_eq_true c3), if_pos (decide_eq_true c2), if_neg (by simp [c1])]
        omega
      · have c3 : ¬ (ownerM M a).1 ≤ ((j + 1 : Nat) : Int) := by omega
        simp only [c1, c2, c3, decide_false, Bool.false_eq_true, if_false]
        omega
theorem upto_zero {M : Lin} {D : Nat} {ns : List ByteArray} (h : Inv M D ns) (hD : D ≤ 1000) : upto M ns 0 = 0 := by
  unfold upto
  rw [List.countP_eq_zero]
  intro a ha
  obtain ⟨r, y, _, _, _, ho, _⟩ := h.facts hD ha
  rw [ho]
  simp
theorem upto_all {M : Lin} {D : Nat} {ns : List ByteArray} (h : Inv M D ns) (hD : D ≤ 1000) : upto M ns M.lists.length = ns.length := by
  unfold upto
  rw [List.countP_eq_length]
  intro a ha
  obtain ⟨r, y, hy, _, _, ho, _⟩ := h.facts hD ha
  have := (List.getElem?_eq_some_iff.1 hy).1
  rw [ho]
  simp; omega
theorem resolve_err {M : Lin} {D : Nat} {ns : List ByteArray} (h : Inv M D ns) (hD : D ≤ 1000) (a : ByteArray) : ∃ x s e, resolveM M a = (x, s, e) ∧ ((e = 0 ∧ memB a ns = true) ∨ (e = 4 ∧ memB a ns = false)) := by
  by_cases ha : a ∈ ns
  · obtain ⟨r, y, _, _, hr, _, _⟩ := h.facts hD ha
    exact ⟨_, _, _, hr, .inl ⟨rfl, memB_iff.2 ha⟩⟩
  · have ho : M.ow a = none := by
      cases ho : M.ow a with
      | none => rfl
      | some i => exact absurd ((h.dom a).2 (by rw [ho]; simp)) ha
    refine ⟨0, ⟨#[]⟩, 4, ?_, .inr ⟨rfl, memB_not ha⟩⟩
    unfold resolveM; rw [ho]
section
variable {h : Heap} {K : Kont} {p : Nat} {M : Lin} {F : List Res} {D : Nat} {ns : List ByteArray} {nv va v0 v4 v9 v13 v16 v17 v18 : Value} {other : ByteArray} {l : List Deed}
set_option maxRecDepth 8000 in
set_option maxHeartbeats 2000000 in
/-- All names are counted, and nothing else resolves. -/
theorem names_end (hm : Inv M D ns) (hD : D ≤ 1000) (hs : Sep h (vecR nv 9 1 (ns.map strRow) :: lstsR va M.lists :: linR p M :: F)) (hk : ∀ h', Sep h' F → K (.bool true) h') :
    f3_T2 (retL Try.prog f3_L Try.f3.results.toList K) [v0, .string other, v4, .bool true, ptr p, nv, va, v9, v13, v16, v17, v18] h := by
  have hml := hm.ok.len
  have hnl := hm.nl
  simp only [f3_T2]
  refine LoopS.st (σ := Nat) (fun j => [v0, .string other, v4, .bool true, ptr p, nv, va, v9, v13, v16, .int .i64 (upto M ns j), .int .i64 ((j : Int) + 1)]) (fun j h' => Sep h' (vecR nv 9 1 (ns.map strRow) :: lstsR va M.lists :: linR p M :: F) ∧ j ≤ M.lists.length) (fun j => M.lists.length - j) 0 (by rw [upto_zero hm hD]; rfl) ⟨hs, Nat.zero_le _⟩ ?_
  rintro j h' ⟨hs', hj⟩
  have hlv : ∀ K, oLen (some (.slice 38)) va K h' = K (.int .i64 M.lists.length) h' := fun K => by rw [len_val (hs'.at 1).rows, List.length_map]
  by_cases hjl : j < M.lists.length
  · have hd : decide ((j : Int) + 1 ≤ (M.lists.length : Int)) = true := by simp; omega
    simp -implicitDefEqProofs only [f3_T7, go_sem, hlv, hd]
    refine l_names (hs'.at 2) hm.ok hD hs' fun h2 v al hal hmem hlen hs2 => ?_
    have hstep := upto_step hm hD hal hmem
    have hle : upto M ns j ≤ ns.length := List.countP_le_length
    have hj1 : (j : Int) + 1 + 1 = ((j + 1 : Nat) : Int) + 1 := rfl
    have hu : ((upto M ns j : Nat) : Int) + ((al.length : Nat) : Int) = ((upto M ns (j + 1) : Nat) : Int) := by rw [hstep]; rfl
    have hlv2 : ∀ K, oLen (some (.slice 9)) v K h2 = K (.int .i64 al.length) h2 := fun K => by rw [len_val (hs2.at 0).rows, List.length_map]
    simp -implicitDefEqProofs (disch := omega) only [go_sem, hlv2, bin_add_in, hj1, hu]
    exact NextSt.mk (j + 1) rfl ⟨hs2.tail, hjl⟩ (by omega)
  · have hd : decide ((j : Int) + 1 ≤ (M.lists.length : Int)) = false := by simp; omega
    have : j = M.lists.length := by omega
    subst this
    simp -implicitDefEqProofs only [f3_T7, go_sem, hlv, hd, f3_T4]
    obtain ⟨x, s, e, hres, he⟩ := resolve_err hm hD other
    refine resolve_fnE (hs'.at 2) hm.ok hD hres ?_
    have hln : ∀ K, oLen (some (.slice 9)) nv K h' = K (.int .i64 ns.length) h' := fun K => by rw [len_val (hs'.at 0).rows, List.length_map]
    have hnf : retL Try.prog f3_L Try.f3.results.toList K .ret [v0, .string other, .bool true, .bool true, ptr p, nv, va, v9, v13, v16, .int .i64 (upto M ns M.lists.length), .int .i64 ((M.lists.length : Int) + 1)] h' := by
      rw [f3_ret]
      exact hk h' hs'.tail.tail.tail
    rw [upto_all hm hD] at hnf ⊢
    rcases he with ⟨rfl, he⟩ | ⟨rfl, he⟩
    · simp -implicitDefEqProofs only [go_sem, hln]
      refine l_has (hs'.at 0).rows (by omega) ?_
      rw [he]
      simp -implicitDefEqProofs only [go_sem]
      exact hnf
    · have g : decide ((4 : Int) = 0) = false := by decide
      simp -implicitDefEqProofs only [go_sem, hln, g]
      refine l_has (hs'.at 0).rows (by omega) ?_
      rw [he]
      simp -implicitDefEqProofs only [go_sem]
      exact hnf
set_option maxRecDepth 8000 in
set_option maxHeartbeats 2000000 in
theorem names_law (hs : Sep h F) (hv : ∀ h', Sep h' F → RowsR (fun _ => True) h' v0 4 (l.map deedRow)) (hl : l.length ≤ 9223372036854775807) (hk : ∀ h', Sep h' F → K (.bool true) h') : FnH Try.prog 3 #[v0, .string other] h K := by
  refine f3_fn ?_
  simp only [f3_T0, go_sem]
  refine small_fn hs fun h1 hs1 => ?_
  refine few_fn (hv h1 hs1) hl ?_
  have hret : ∀ v6 v7 v8 v9 v13 v16 v17 v18 h', Sep h' F → retL Try.prog f3_L Try.f3.results.toList K .ret [v0, .string other, .bool true, .bool true, v6, v7, v8, v9, v13, v16, v17, v18] h' := fun v6 v7 v8 v9 v13 v16 v17 v18 h' hs' => by
    rw [f3_ret]; exact hk h' hs'
  cases hf : fewB l with
  | false =>
    simp -implicitDefEqProofs only [go_sem]
    exact hret _ _ _ _ _ _ _ _ _ hs1
  | true =>
    have hll : l.length ≤ 70 := by
      unfold fewB at hf
      rw [Bool.and_eq_true, decide_eq_true_eq] at hf
      exact hf.2
    cases ho : decide ((80 : Int) < (other.size : Int)) with
    | true =>
      simp -implicitDefEqProofs only [go_sem, ho]
      exact hret _ _ _ _ _ _ _ _ _ hs1
    | false =>
      simp -implicitDefEqProofs only [go_sem, ho]
      refine fill_fn hv hll hs1 fun h2 p nv hs2 => ?_
      have hinv := fill_inv l newL [] 0 Inv.new (by omega)
      have hD : 0 + l.length ≤ 1000 := by omega
      generalize fillM newL [] l = X at *
      obtain ⟨M, ns⟩ := X
      simp only at hs2 hinv
      have hml := hinv.ok.len
      simp -implicitDefEqProofs only [go_sem]
      refine (lists_new (hs2.at 0) (by omega)).use hs2 fun h3 va Rs hRs _ hs3 => ?_
      subst hRs
      refine LoopS.st (σ := Nat × Value × Value) (fun s => [v0, .string other, .bool false, .bool true, ptr p, nv, va, .int .i64 s.1, s.2.1, s.2.2, undef, undef]) (fun s h' => Sep h' (vecR nv 9 1 (ns.map strRow) :: lstsR va M.lists :: linR p M :: F) ∧ s.1 ≤ ns.length) (fun s => ns.length - s.1) (0, undef, undef) rfl ⟨hs3.sel [2, 0, 0], Nat.zero_le _⟩ ?_
      rintro ⟨i, v13, v16⟩ h' ⟨hs', hi⟩
      simp only at hs' hi ⊢
      by_cases hil : i < ns.length
      · refine names_round hinv hD hil hs' fun h4 v13' v16' hs4 => ?_
        rw [thenL_normal]
        exact NextSt.mk (i + 1, v13', v16') rfl ⟨hs4, hil⟩ (by simp only; omega)
      · have hd : decide ((i : Int) < (ns.length : Int)) = false := by simp; omega
        have hlv : ∀ K, oLen (some (.slice 9)) nv K h' = K (.int .i64 ns.length) h' := fun K => by rw [len_val (hs'.at 0).rows, List.length_map]
        simp -implicitDefEqProofs only [f3_T10, go_sem, hlv, hd]
        exact names_end hinv hD hs' hk
end
end Go.Proofs.Ytfooakkfoemdkaa

/- What the arguments of the laws read as. -/
namespace Go.Proofs.Ytfooakkfoemdkaa
open Go.Fw
theorem fu49_0 : fieldAt Try.prog 49 0 = some (3, 0, 1) := by kernel_rfl
theorem fu49_1 : fieldAt Try.prog 49 1 = some (3, 1, 1) := by kernel_rfl
theorem fu49_2 : fieldAt Try.prog 49 2 = some (3, 2, 1) := by kernel_rfl
theorem fu49_3 : fieldAt Try.prog 49 3 = some (9, 3, 1) := by kernel_rfl
theorem co49 : Try.prog.cellsOf 49 = 4 := by kernel_rfl
theorem co3 : Try.prog.cellsOf 3 = 1 := by kernel_rfl
theorem co4 : Try.prog.cellsOf 4 = 1 := by kernel_rfl
theorem ru3 : Try.prog.underlying 3 = some (.int .i64) := by kernel_rfl
theorem ru9 : Try.prog.underlying 9 = some .string := by kernel_rfl
theorem ru4 : Try.prog.underlying 4 = some .bool := by kernel_rfl
theorem ru22 : Try.prog.underlying 22 = some (.slice 49) := by kernel_rfl
theorem ru41 : Try.prog.underlying 41 = some (.slice 3) := by kernel_rfl
theorem ru42 : Try.prog.underlying 42 = some (.slice 4) := by kernel_rfl
theorem rd_deed : Rdr Try.prog 49 (fun _ (d : Deed) cs => cs = deedRow d) := by
  intro H enc w fuel cs x h
  obtain ⟨hl, _, _, g0⟩ := rd_field h fu49_0
  obtain ⟨_, _, _, g1⟩ := rd_field h fu49_1
  obtain ⟨_, _, _, g2⟩ := rd_field h fu49_2
  obtain ⟨_, _, _, g3⟩ := rd_field h fu49_3
  rw [co49] at hl
  match cs, hl with
  | [c0, c1, c2, c3], _ =>
    obtain ⟨n0, e0, _⟩ := rd_int ru3 _ _ _ _ _ _ g0
    obtain ⟨n1, e1, _⟩ := rd_int ru3 _ _ _ _ _ _ g1
    obtain ⟨n2, e2, _⟩ := rd_int ru3 _ _ _ _ _ _ g2
    obtain ⟨n3, e3, _⟩ := rd_str ru9 _ _ _ _ _ _ g3
    simp only [List.drop_zero, List.drop_succ_cons, List.take_succ_cons, List.take_zero, List.cons.injEq, and_true] at e0 e1 e2 e3
    subst e0 e1 e2 e3
    exact ⟨⟨n0, n1, n2, n3⟩, rfl⟩
/-- A slice of rows. -/
theorem rd_rows {α : Type} {t e : TypeId} {n : Nat} {row : α → List Value} (ht : Try.prog.underlying t = some (.slice e)) (hn : Try.prog.cellsOf e = n) (h0 : 0 < n) (he : Rdr Try.prog e (fun _ a cs => cs = row a)) :
    Rdr Try.prog t (fun h (l : List α) cs => ∃ v, cs = [v] ∧ RowsR (fun b => b < h.size) h v n (l.map row) ∧ l.length ≤ maxLen) := by
  intro H enc w fuel cs x h
  obtain ⟨xs, v, rfl, hr, hm, hx⟩ := rd_slice ht hn h0 he H enc w fuel _ x h
  refine ⟨xs.map (·.1), v, rfl, ?_, by simpa using hm⟩
  have : xs.map (·.2) = (xs.map (·.1)).map row := by
    rw [List.map_map]; exact List.map_congr_left fun x hm => hx x hm
  rw [← this]; exact hr
theorem rd_deeds : Rdr Try.prog 22 (fun h (l : List Deed) cs => ∃ v, cs = [v] ∧ RowsR (fun b => b < h.size) h v 4 (l.map deedRow) ∧ l.length ≤ maxLen) := rd_rows ru22 co49 (by omega) rd_deed
theorem rd_ints : Rdr Try.prog 41 (fun h (l : List Int) cs => ∃ v, cs = [v] ∧ RowsR (fun b => b < h.size) h v 1 (l.map intRow) ∧ l.length ≤ maxLen) :=
  rd_rows ru41 co3 (by omega) (fun H enc w fuel cs x h => by obtain ⟨n, e, _⟩ := rd_int ru3 H enc w fuel cs x h; exact ⟨n, e⟩)
theorem rd_bools : Rdr Try.prog 42 (fun h (l : List Bool) cs => ∃ v, cs = [v] ∧ RowsR (fun b => b < h.size) h v 1 (l.map boolRow) ∧ l.length ≤ maxLen) :=
  rd_rows ru42 co4 (by omega) (fun H enc w fuel cs x h => by obtain ⟨n, e⟩ := rd_bool ru4 H enc w fuel cs x h; exact ⟨n, e⟩)
end Go.Proofs.Ytfooakkfoemdkaa

/- Appends onto what has no room left: they make a new block and leave all others. Structs compared. -/
namespace Go.Fw
def oAppendF (b : Option (TypeId × Nat × Nat × Value)) (s x : Value) (K : Kont) (h : Heap) : Prop := oAppend b s x (fun v h' => K v h' ∧ Ext h h') h
section
variable {K : Kont} {h : Heap} {tk : Nat}
set_option linter.unusedVariables false
@[congr] theorem oAppendF_congrT {b b' : Option (TypeId × Nat × Nat × Value)} {x x' y y' : Value} (e0' : tick = tk) (e1 : b = b') (e2 : x = x') (e3 : y = y') : oAppendF b x y K h = oAppendF b' x' y' K h := by rw [e1, e2, e3]
@[congr] theorem oStruct_congrT {s s' : Option (List (Nat × TypeDesc))} {op : BinOp} {x x' y y' : Value} (e0' : tick = tk) (e1 : s = s') (e2 : x = x') (e3 : y = y') : oStruct s op x y K h = oStruct s' op x' y' K h := by rw [e1, e2, e3]
theorem struct_eql {l : List (Nat × TypeDesc)} {xs ys : Array Value} {b : Bool} (hc : cellsEq xs ys l = some b) : oStruct (some l) .eql (.agg xs) (.agg ys) K h = K (.bool b) h := by simp only [oStruct, hc]
theorem struct_neq {l : List (Nat × TypeDesc)} {xs ys : Array Value} {b : Bool} (hc : cellsEq xs ys l = some b) : oStruct (some l) .neq (.agg xs) (.agg ys) K h = K (.bool (!b)) h := by simp only [oStruct, hc]
end
section
variable {K : Kont} {h : Heap} {F : List Res}
/-- An empty slice, made new. -/
theorem s_new0 {e : TypeId} {sz bytes : Nat} {z : Value} (hs : Sep h F) (hk : ∀ h' v, Sep h' (vecR v e sz [] :: F) → K v h') : oBuildSlice (some (e, sz, bytes, z)) 0 [] K h := by
  rw [build_slice_0]
  exact hk _ _ (hs.newVec (rows := []) (n := 0) rfl (by simp) (by simp))
/-- A slice of one element, made new. -/
theorem s_new1 {e : TypeId} {sz bytes : Nat} {z x : Value} {row : List Value} (hs : Sep h F) (hx : x.cells = ⟨row⟩) (hrow : row.length = sz) (h1 : ∀ y ∈ row, oneC y = true) (hb : sz ≤ 1000) (hk : ∀ h' v, Sep h' (vecR v e sz [row] :: F) → K v h') :
    oBuildSlice (some (e, sz, bytes, z)) 1 [(0, x)] K h := by
  have hsz : x.cells.size = sz := by rw [hx]; simpa using hrow
  rw [build_slice_of (cs := x.cells) (by omega) (fill_one hsz), hx]
  have := hs.newVec (rows := [row]) (e := e) (sz := sz) (n := 1) rfl (by simpa using hrow) (by simpa using h1)
  simp only [List.flatten_cons, List.flatten_nil, List.append_nil] at this
  exact hk _ _ this
end
end Go.Fw
