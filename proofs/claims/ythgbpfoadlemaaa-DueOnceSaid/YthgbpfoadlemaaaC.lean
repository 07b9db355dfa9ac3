/- Texts that the claim rests on: part 3. No conditions. -/
import Derived.Test.YthgbpfoadlemaaaB
import Derived.Shelf.Sort.Plain
import Derived.Shelf.Slices.In.SortNone
import Derived.Test.YthgbpfoadlemaaaProg
/- Reading buckets; the small functions of the statements. -/
namespace Go.Proofs.Ythgbpfoadlemaaa
open Go.Fw
structure Bkt where
  list : Int
  addr : ByteArray
  ids : List ByteArray
  size : Int
  at_ : Int
  deriving DecidableEq
def bktRow (b : Bkt) (sl : Value) : List Value := [.int .i64 b.list, .string b.addr, sl, .int .i64 b.size, .int .i64 b.at_]
/-- A slice of buckets, with the values of their slices of ids. -/
def Bkts (S : Nat → Prop) (h : Heap) (v : Value) (l : List (Bkt × Value)) : Prop :=
  RowsR S h v 5 (l.map fun p => bktRow p.1 p.2) ∧ ∀ p ∈ l, Strs S h p.2 p.1.ids
section
variable {S : Nat → Prop} {h h' : Heap} {v : Value} {l : List (Bkt × Value)}
theorem Bkts.keep (hr : Bkts S h v l) (hk : ∀ b, S b → h'[b]? = h[b]?) : Bkts S h' v l := ⟨hr.1.keep hk, fun p hp => (hr.2 p hp).keep hk⟩
theorem Bkts.weaken {S' : Nat → Prop} (hr : Bkts S h v l) (hk : ∀ b, S b → S' b) : Bkts S' h v l := ⟨hr.1.weaken hk, fun p hp => (hr.2 p hp).weaken hk⟩
theorem Bkts.val (hr : Bkts S h v l) : ∃ a cap, v = .slice a l.length cap := by
  obtain ⟨a, cap, e⟩ := hr.1.val
  exact ⟨a, cap, by simpa using e⟩
/-- The cells of the i-th bucket. -/
theorem Bkts.at_ (hr : Bkts S h v l) {k : Nat} (hk : k < l.length) : ∃ b o cap, v = .slice (some ⟨b, o, none⟩) l.length cap ∧ S b ∧
    ∀ i (hi : i < l.length), cellAt h b (o + i * 5 + 0) = some (.int .i64 l[i].1.list) ∧ cellAt h b (o + i * 5 + 1) = some (.string l[i].1.addr) ∧ cellAt h b (o + i * 5 + 2) = some l[i].2 ∧
      cellAt h b (o + i * 5 + 3) = some (.int .i64 l[i].1.size) ∧ cellAt h b (o + i * 5 + 4) = some (.int .i64 l[i].1.at_) := by
  obtain ⟨b, o, cap, hv, hs, hc⟩ := hr.1.at_ (k := k) (by simpa using hk)
  refine ⟨b, o, cap, by simpa using hv, hs, fun i hi => ?_⟩
  have hi' : i < (l.map fun p => bktRow p.1 p.2).length := by simpa using hi
  have g : (l.map fun p => bktRow p.1 p.2)[i]? = some (bktRow l[i].1 l[i].2) := by simp [hi]
  refine ⟨?_, ?_, ?_, ?_, ?_⟩
  · rw [hc i 0 hi' (by omega), g]; rfl
  · rw [hc i 1 hi' (by omega), g]; rfl
  · rw [hc i 2 hi' (by omega), g]; rfl
  · rw [hc i 3 hi' (by omega), g]; rfl
  · rw [hc i 4 hi' (by omega), g]; rfl
end
def cntIds (ids : List ByteArray) (id : ByteArray) : Nat := (ids.filter fun x => decide (x = id)).length
def cnt1 (addr id : ByteArray) (b : Bkt) : Nat := if b.addr = addr then cntIds b.ids id else 0
def cnt (l : List Bkt) (addr id : ByteArray) : Nat := (l.map (cnt1 addr id)).sum
def total (l : List Bkt) : Nat := (l.map fun b => b.ids.length).sum
theorem cntIds_le (ids : List ByteArray) (id : ByteArray) : cntIds ids id ≤ ids.length := List.length_filter_le ..
theorem cnt_le : ∀ (l : List Bkt) (addr id : ByteArray), cnt l addr id ≤ total l
  | [], _, _ => Nat.le_refl _
  | b :: r, addr, id => by
    have := cnt_le r addr id
    have h2 := cntIds_le b.ids id
    have h3 : cnt1 addr id b ≤ b.ids.length := by unfold cnt1; split <;> omega
    simp only [cnt, total, List.map_cons, List.sum_cons] at *
    omega
theorem total_mem : ∀ (l : List Bkt) (b : Bkt), b ∈ l → b.ids.length ≤ total l
  | [], _, h => by cases h
  | x :: r, b, h => by
    simp only [total, List.map_cons, List.sum_cons]
    rcases List.mem_cons.1 h with rfl | h
    · omega
    · have := total_mem r b h
      simp only [total] at this
      omega
theorem cnt_append (a b : List Bkt) (addr id : ByteArray) : cnt (a ++ b) addr id = cnt a addr id + cnt b addr id := by simp [cnt]
theorem total_append (a b : List Bkt) : total (a ++ b) = total a + total b := by simp [total]
set_option maxRecDepth 8000 in
theorem count_fn {S : Nat → Prop} {h : Heap} {v : Value} {l : List (Bkt × Value)} {addr id : ByteArray} {K : Kont} (hv : Bkts S h v l) (hb : total (l.map (·.1)) < 4611686018427387904) (hl : l.length < 4611686018427387904)
    (hk : K (.int .i64 (cnt (l.map (·.1)) addr id)) h) : FnH Try.prog 13 #[v, .string addr, .string id] h K := by
  refine f13_fn ?_
  simp only [f13_T0]
  refine LoopS.st (σ := Nat × Value) (fun s => [v, .string addr, .string id, .int .i64 0, .int .i64 (cnt ((l.take s.1).map (·.1)) addr id), .int .i64 s.1, s.2]) (fun s h' => h' = h ∧ s.1 ≤ l.length) (fun s => l.length - s.1) (0, undef) (by simp [cnt]) ⟨rfl, Nat.zero_le _⟩ ?_
  intro s h' hI
  obtain ⟨k, y⟩ := s
  have hkl := hI.2
  have he := hI.1
  clear hI
  subst he
  simp only at hkl ⊢
  obtain ⟨a, cap, rfl⟩ := hv.val
  have htot : ∀ j, cnt ((l.take j).map (·.1)) addr id ≤ total (l.map (·.1)) := by
    intro j
    refine Nat.le_trans (cnt_le _ _ _) ?_
    conv => rhs; rw [← List.take_append_drop j l, List.map_append, total_append]
    omega
  by_cases hlt : k < l.length
  · obtain ⟨b, o, cap', he, _, hc⟩ := hv.at_ hlt
    simp only [Value.slice.injEq] at he
    obtain ⟨rfl, _, rfl⟩ := he
    have hi : ((k : Int) < (l.length : Int)) = True := by simp; omega
    obtain ⟨_, hc1, hc2, _⟩ := hc k hlt
    simp (disch := omega) only [f13_T5, f13_T9, go_sem, hi, decide_true]
    have hs := hv.2 l[k] (List.getElem_mem hlt)
    generalize hln : l[k] = p at *
    obtain ⟨bk, sl⟩ := p
    simp only at hs hc1 hc2
    obtain ⟨a2, cap2, rfl⟩ := Strs.val hs
    have h0 := htot k
    have hk1 : cnt ((l.take (k + 1)).map (·.1)) addr id = cnt ((l.take k).map (·.1)) addr id + cnt1 addr id bk := by
      rw [List.take_succ_eq_append_getElem hlt, List.map_append, cnt_append, hln]
      simp [cnt]
    have h1 := htot (k + 1)
    have hck : ∀ j, (if bk.addr = addr then cntIds (bk.ids.take j) id else 0) ≤ cnt1 addr id bk := by
      intro j
      unfold cnt1 cntIds
      split
      · conv => rhs; rw [← List.take_append_drop j bk.ids, List.filter_append, List.length_append]
        omega
      · exact Nat.le_refl _
    have hki : o + (k : Int).toNat * 5 = o + k * 5 := by simp
    have hids : bk.ids.length ≤ total (l.map (·.1)) := total_mem _ _ (List.mem_map.2 ⟨l[k], List.getElem_mem hlt, by rw [hln]⟩)
    refine LoopS.st (σ := Nat) (fun j => [.slice (some ⟨b, o, none⟩) l.length cap, .string addr, .string id, .int .i64 0, .int .i64 ((cnt ((l.take k).map (·.1)) addr id + (if bk.addr = addr then cntIds (bk.ids.take j) id else 0) : Nat)), .int .i64 k, .int .i64 j]) (fun j h2 => h2 = h' ∧ j ≤ bk.ids.length) (fun j => bk.ids.length - j) 0 (by simp [cntIds]) ⟨rfl, Nat.zero_le _⟩ ?_
    intro j h2 hI
    have hjl := hI.2
    have he := hI.1
    clear hI
    subst he
    have h2 := hck j
    by_cases hjt : j < bk.ids.length
    · obtain ⟨b2, o2, cap3, he, _, hcs⟩ := Strs.at_ hs hjt
      simp only [Value.slice.injEq] at he
      obtain ⟨rfl, _, rfl⟩ := he
      have hij : ((j : Int) < (bk.ids.length : Int)) = True := by simp; omega
      have hcj := hcs j hjt
      have hj1 : cntIds (bk.ids.take (j + 1)) id = cntIds (bk.ids.take j) id + (if bk.ids[j] = id then 1 else 0) := by
        rw [List.take_succ_eq_append_getElem hjt]
        unfold cntIds
        rw [List.filter_append, List.length_append]
        congr 1
        by_cases hx : bk.ids[j] = id <;> simp [hx]
      have h3 := hck (j + 1)
      simp (disch := omega) only [f13_T13, go_sem, index_slice, hki, hc2, hc1, hij, decide_true]
      by_cases ha : bk.addr = addr
      · simp (disch := omega) only [go_sem, ha, decide_true, index_slice, hc2, hcj, Int.toNat_natCast, Nat.mul_one]
        refine cond_cases (fun hx => ?_) (fun hx => ?_)
        · have hx := of_decide_eq_true hx
          simp only [ha, if_true, hj1, hx] at h2 h3 ⊢
          simp (disch := omega) only [go_sem, bin_add_in, f13_T14]
          refine NextSt.mk (j + 1) ?_ ⟨rfl, by omega⟩ (by omega)
          simp only [hj1, hx, if_true]
          rfl
        · have hx := of_decide_eq_false hx
          simp only [ha, if_true, hj1, hx] at h2 h3 ⊢
          simp (disch := omega) only [go_sem, bin_add_in, f13_T14]
          refine NextSt.mk (j + 1) ?_ ⟨rfl, by omega⟩ (by omega)
          simp only [hj1, hx, if_false]
          rfl
      · simp (disch := omega) only [go_sem, ha, decide_false, bin_add_in, f13_T14, if_false]
        refine NextSt.mk (j + 1) ?_ ⟨rfl, by omega⟩ (by omega)
        rfl
    · have hij : ((j : Int) < (bk.ids.length : Int)) = False := by simp; omega
      have hjj : j = bk.ids.length := by omega
      simp (disch := omega) only [f13_T13, go_sem, index_slice, hki, hc2, hij, decide_false, f13_T7, bin_add_in]
      refine NextSt.mk (k + 1, .int .i64 j) ?_ ⟨rfl, by omega⟩ (by simp only; omega)
      simp only [hk1, hjj, List.take_length]
      rfl
  · have hi : ((k : Int) < (l.length : Int)) = False := by simp; omega
    have hkk : k = l.length := by omega
    simp (disch := omega) only [f13_T5, go_sem, hi, decide_false, f13_T2, f13_ret]
    rw [hkk, List.take_length]
    exact hk
end Go.Proofs.Ythgbpfoadlemaaa

/-
  DERIVED: THE SHELF's CONTRACTS AT THIS DUMP, IN PLAIN WORDS (tools/lay-plain.mjs out of 'TryShelf.lean', which tools/lay-shelf.mjs wrote): THE SAME DECLARATIONS UNDER THE SAME NAMES: 'import', 'namespace', 'open', 'def', 'theorem' AND NOTHING ELSE: no command of the shelf's: FOR A HAND-IN. Each laying: the table of numbers ('.._ren') and one theorem, a field a fact of the dump's own or the kernel's comparison; each contract: ONE APPLICATION.
-/
namespace Go.Proofs
open Go.Shelf
def Try.lays189_ren : Go.Shelf.Ren := ⟨fun | 189 => 24 | 125 => 31 | 257 => 30 | 128 => 42 | 129 => 43 | 294 => 33 | 295 => 34 | 296 => 35 | 297 => 36 | 298 => 37 | 299 => 38 | 216 => 39 | 300 => 40 | 301 => 41 | 328 => 53 | 329 => 54 | 330 => 55 | 331 => 56 | 332 => 57 | 215 => 58 | 343 => 63 | n => n, fun | 28 => 59 | 3 => 3 | 46 => 70 | 0 => 0 | 51 => 82 | 53 => 84 | 4 => 4 | 183 => 74 | 182 => 73 | 131 => 79 | 5 => 5 | 9 => 9 | 218 => 90 | 222 => 94 | 228 => 100 | 229 => 101 | n => n, fun | n => n⟩
theorem Try.lays189 : Go.Proofs.Lays.n189 Try.prog Try.lays189_ren := {
  mixed := by kernel_rfl
  f125 := Try.func31.trans (congrArg some (by kernel_rfl))
  f128 := Try.func42.trans (congrArg some (by kernel_rfl))
  f129 := Try.func43.trans (congrArg some (by kernel_rfl))
  f189 := Try.func24.trans (congrArg some (by kernel_rfl))
  f215 := Try.func58.trans (congrArg some (by kernel_rfl))
  f216 := Try.func39.trans (congrArg some (by kernel_rfl))
  f257 := Try.func30.trans (congrArg some (by kernel_rfl))
  f294 := Try.func33.trans (congrArg some (by kernel_rfl))
  f295 := Try.func34.trans (congrArg some (by kernel_rfl))
  f296 := Try.func35.trans (congrArg some (by kernel_rfl))
  f297 := Try.func36.trans (congrArg some (by kernel_rfl))
  f298 := Try.func37.trans (congrArg some (by kernel_rfl))
  f299 := Try.func38.trans (congrArg some (by kernel_rfl))
  f300 := Try.func40.trans (congrArg some (by kernel_rfl))
  f301 := Try.func41.trans (congrArg some (by kernel_rfl))
  f328 := Try.func53.trans (congrArg some (by kernel_rfl))
  f329 := Try.func54.trans (congrArg some (by kernel_rfl))
  f330 := Try.func55.trans (congrArg some (by kernel_rfl))
  f331 := Try.func56.trans (congrArg some (by kernel_rfl))
  f332 := Try.func57.trans (congrArg some (by kernel_rfl))
  f343 := Try.func63.trans (congrArg some (by kernel_rfl))
  t0 := Try.underlying0
  a0 := Try.isAgg0
  z0 := Try.sizeOf0
  v0 := Try.zeroValue0
  t3 := Try.underlying3
  a3 := Try.isAgg3
  z3 := Try.sizeOf3
  v3 := Try.zeroValue3
  t4 := Try.underlying4
  a4 := Try.isAgg4
  z4 := Try.sizeOf4
  v4 := Try.zeroValue4
  t5 := Try.underlying5
  a5 := Try.isAgg5
  z5 := Try.sizeOf5
  v5 := Try.zeroValue5
  t9 := Try.underlying9
  a9 := Try.isAgg9
  z9 := Try.sizeOf9
  v9 := Try.zeroValue9
  t28 := Try.underlying59
  a28 := Try.isAgg59
  z28 := Try.sizeOf59
  v28 := Try.zeroValue59
  t46 := Try.underlying70
  a46 := Try.isAgg70
  z46 := Try.sizeOf70
  v46 := Try.zeroValue70
  t51 := Try.underlying82
  a51 := Try.isAgg82
  z51 := Try.sizeOf82
  v51 := Try.zeroValue82
  t53 := Try.underlying84
  a53 := Try.isAgg84
  z53 := Try.sizeOf84
  v53 := Try.zeroValue84
  t131 := Try.underlying79
  a131 := Try.isAgg79
  z131 := Try.sizeOf79
  v131 := Try.zeroValue79
  t182 := Try.underlying73
  a182 := Try.isAgg73
  z182 := Try.sizeOf73
  v182 := Try.zeroValue73
  t183 := Try.underlying74
  a183 := Try.isAgg74
  z183 := Try.sizeOf74
  v183 := Try.zeroValue74
  t218 := Try.underlying90
  a218 := Try.isAgg90
  z218 := Try.sizeOf90
  v218 := Try.zeroValue90
  t222 := Try.underlying94
  a222 := Try.isAgg94
  z222 := Try.sizeOf94
  v222 := Try.zeroValue94
  t228 := Try.underlying100
  a228 := Try.isAgg100
  z228 := Try.sizeOf100
  v228 := Try.zeroValue100
  t229 := Try.underlying101
  a229 := Try.isAgg101
  z229 := Try.sizeOf101
  v229 := Try.zeroValue101 }
open Go.Sort Go.RowKit in
theorem Try.slices_Sort_int (blk off cap : Nat) (zs : List Int) (w : World) (hH : Holds (Value.int .i64) w blk off zs.toArray) (hblk : blk < w.heap.size) (hsz : zs.length < 4611686018427387904) :
    Calls Try.prog 24 #[.slice (some ⟨blk, off, none⟩) zs.length cap] w fun e w' =>
      e = .returned (.tuple #[]) ∧ ∃ n os, w' = grow (putRow (Value.int .i64) (Sort.ahead w n) blk off (zs.mergeSort fun x y => decide (x ≤ y)).toArray) os := Any.slices_Sort_int Try.lays189 blk off cap zs w hH hblk hsz
def Try.lays190_ren : Go.Shelf.Ren := ⟨fun | 190 => 27 | 125 => 31 | 258 => 32 | 128 => 42 | 129 => 43 | 302 => 44 | 303 => 45 | 304 => 46 | 305 => 47 | 306 => 48 | 307 => 49 | 308 => 50 | 309 => 51 | 310 => 52 | 333 => 59 | 329 => 54 | 330 => 55 | 334 => 60 | 335 => 61 | 336 => 62 | 344 => 64 | n => n, fun | 31 => 28 | 9 => 9 | 3 => 3 | 46 => 70 | 0 => 0 | 51 => 82 | 53 => 84 | 4 => 4 | 183 => 74 | 182 => 73 | 131 => 79 | 5 => 5 | 218 => 90 | 222 => 94 | 228 => 100 | 229 => 101 | n => n, fun | n => n⟩
theorem Try.lays190 : Go.Proofs.Lays.n190 Try.prog Try.lays190_ren := {
  mixed := by kernel_rfl
  f125 := Try.func31.trans (congrArg some (by kernel_rfl))
  f128 := Try.func42.trans (congrArg some (by kernel_rfl))
  f129 := Try.func43.trans (congrArg some (by kernel_rfl))
  f190 := Try.func27.trans (congrArg some (by kernel_rfl))
  f258 := Try.func32.trans (congrArg some (by kernel_rfl))
  f302 := Try.func44.trans (congrArg some (by kernel_rfl))
  f303 := Try.func45.trans (congrArg some (by kernel_rfl))
  f304 := Try.func46.trans (congrArg some (by kernel_rfl))
  f305 := Try.func47.trans (congrArg some (by kernel_rfl))
  f306 := Try.func48.trans (congrArg some (by kernel_rfl))
  f307 := Try.func49.trans (congrArg some (by kernel_rfl))
  f308 := Try.func50.trans (congrArg some (by kernel_rfl))
  f309 := Try.func51.trans (congrArg some (by kernel_rfl))
  f310 := Try.func52.trans (congrArg some (by kernel_rfl))
  f329 := Try.func54.trans (congrArg some (by kernel_rfl))
  f330 := Try.func55.trans (congrArg some (by kernel_rfl))
  f333 := Try.func59.trans (congrArg some (by kernel_rfl))
  f334 := Try.func60.trans (congrArg some (by kernel_rfl))
  f335 := Try.func61.trans (congrArg some (by kernel_rfl))
  f336 := Try.func62.trans (congrArg some (by kernel_rfl))
  f344 := Try.func64.trans (congrArg some (by kernel_rfl))
  t0 := Try.underlying0
  a0 := Try.isAgg0
  z0 := Try.sizeOf0
  v0 := Try.zeroValue0
  t3 := Try.underlying3
  a3 := Try.isAgg3
  z3 := Try.sizeOf3
  v3 := Try.zeroValue3
  t4 := Try.underlying4
  a4 := Try.isAgg4
  z4 := Try.sizeOf4
  v4 := Try.zeroValue4
  t5 := Try.underlying5
  a5 := Try.isAgg5
  z5 := Try.sizeOf5
  v5 := Try.zeroValue5
  t9 := Try.underlying9
  a9 := Try.isAgg9
  z9 := Try.sizeOf9
  v9 := Try.zeroValue9
  t31 := Try.underlying28
  a31 := Try.isAgg28
  z31 := Try.sizeOf28
  v31 := Try.zeroValue28
  t46 := Try.underlying70
  a46 := Try.isAgg70
  z46 := Try.sizeOf70
  v46 := Try.zeroValue70
  t51 := Try.underlying82
  a51 := Try.isAgg82
  z51 := Try.sizeOf82
  v51 := Try.zeroValue82
  t53 := Try.underlying84
  a53 := Try.isAgg84
  z53 := Try.sizeOf84
  v53 := Try.zeroValue84
  t131 := Try.underlying79
  a131 := Try.isAgg79
  z131 := Try.sizeOf79
  v131 := Try.zeroValue79
  t182 := Try.underlying73
  a182 := Try.isAgg73
  z182 := Try.sizeOf73
  v182 := Try.zeroValue73
  t183 := Try.underlying74
  a183 := Try.isAgg74
  z183 := Try.sizeOf74
  v183 := Try.zeroValue74
  t218 := Try.underlying90
  a218 := Try.isAgg90
  z218 := Try.sizeOf90
  v218 := Try.zeroValue90
  t222 := Try.underlying94
  a222 := Try.isAgg94
  z222 := Try.sizeOf94
  v222 := Try.zeroValue94
  t228 := Try.underlying100
  a228 := Try.isAgg100
  z228 := Try.sizeOf100
  v228 := Try.zeroValue100
  t229 := Try.underlying101
  a229 := Try.isAgg101
  z229 := Try.sizeOf101
  v229 := Try.zeroValue101 }
open Go.Sort Go.RowKit in
theorem Try.slices_Sort_string (blk off cap : Nat) (ss : List (List UInt8)) (w : World) (hH : Holds encStr w blk off ss.toArray) (hblk : blk < w.heap.size) (hsz : ss.length < 4611686018427387904) :
    Calls Try.prog 27 #[.slice (some ⟨blk, off, none⟩) ss.length cap] w fun e w' =>
      e = .returned (.tuple #[]) ∧ ∃ n os, w' = grow (putRow encStr (Sort.ahead w n) blk off (ss.mergeSort fun x y => decide (x ≤ y)).toArray) os := Any.slices_Sort_string Try.lays190 blk off cap ss w hH hblk hsz
open Go.RowKit Go.Sort in
/-- .. and plain. (LAID: no walk: one application.) -/
theorem Try.slices_Sort_string_none (p : Option Addr) (cap : Nat) (w : World) :
    Calls Try.prog 27 #[.slice p 0 cap] w fun e w' => e = .returned (.tuple #[]) ∧ w' = w := Any.slices_Sort_string_none Try.lays190 p cap w
open Go.RowKit Go.Sort in
/-- .. and plain. (LAID: no walk: one application.) -/
theorem Try.slices_Sort_int_none (p : Option Addr) (cap : Nat) (w : World) :
    Calls Try.prog 24 #[.slice p 0 cap] w fun e w' => e = .returned (.tuple #[]) ∧ w' = w := Any.slices_Sort_int_none Try.lays189 p cap w
end Go.Proofs

/- The ledger as a resource: owe, keep, Cut, addresses. -/
namespace Go.Proofs.Ythgbpfoadlemaaa
open Go.Fw
def ptr (p : Nat) : Value := .pointer (some ⟨p, 0, none⟩)
structure Led where
  ow : ByteArray → ByteArray → Bool
  bk : Int → ByteArray → Option Bkt
def owSet (ow : ByteArray → ByteArray → Bool) (a i : ByteArray) : ByteArray → ByteArray → Bool := fun a' i' => if a' = a ∧ i' = i then true else ow a' i'
def Led.owe (m : Led) (a i : ByteArray) : Led := { m with ow := owSet m.ow a i }
def Led.put (m : Led) (b : Bkt) : Led := { m with bk := fun l a => if l = b.list ∧ a = b.addr then some b else m.bk l a }
def Led.del (m : Led) (l : Int) (a : ByteArray) : Led := { m with bk := fun l' a' => if l' = l ∧ a' = a then none else m.bk l' a' }
abbrev idsR (b : Bkt) (sl : Value) : Res := vecR sl 9 1 (b.ids.map strRow)
abbrev bktZ : Value := .agg #[.int .i64 0, .string ⟨#[]⟩, .slice none 0 0, .int .i64 0, .int .i64 0]
abbrev Lent := Option (Int × ByteArray)
def bktR (b : Bkt) (v : Value) : Res := exR fun sl => (pureR (v = .agg ⟨bktRow b sl⟩)).star (idsR b sl)
def bkR (q : Lent) (l : Int) (a : ByteArray) (b : Bkt) (v : Value) : Res := if q = some (l, a) then emp else bktR b v
def owG (ow : ByteArray → ByteArray → Bool) : ByteArray → ByteArray → Option Unit := fun a i => if ow a i then some () else none
def owR : ByteArray → ByteArray → Unit → Value → Res := fun _ _ _ v => pureR (v = .bool true)
def ledR (p : Nat) (m : Led) (q : Lent) : Res := exR fun x : Nat × Nat × TypeId =>
  (cellR p #[.map (some x.1), .map (some x.2.1)] x.2.2).star ((nestR .string .string x.1 (owG m.ow) False owR).star (nestR (.int .i64) .string x.2.1 m.bk True (bkR q)))
section
variable {p : Nat} {m : Led} {q : Lent} {h : Heap} {F : List Res} {K : Kont} {a i : ByteArray} {l : Int} {b : Bkt}
theorem led_open (hs : Sep h (ledR p m q :: F)) : ∃ bo bb t, Sep h (cellR p #[.map (some bo), .map (some bb)] t :: nestR .string .string bo (owG m.ow) False owR :: nestR (.int .i64) .string bb m.bk True (bkR q) :: F) := by
  obtain ⟨⟨bo, bb, t⟩, hs⟩ := hs.ex
  exact ⟨bo, bb, t, ((hs.star.pick 1).star.sel [2, 0, 0])⟩
theorem led_close {bo bb : Nat} {t : TypeId} (hs : Sep h (cellR p #[.map (some bo), .map (some bb)] t :: nestR .string .string bo (owG m.ow) False owR :: nestR (.int .i64) .string bb m.bk True (bkR q) :: F)) : Sep h (ledR p m q :: F) :=
  Sep.unex (bo, bb, t) ((hs.sel [1, 1, 0]).unstar.swap.unstar)
set_option maxRecDepth 8000 in
theorem owe_fn (hs : Sep h (ledR p m q :: F)) (hk0 : m.ow a i = true → K (.bool false) h) (hk : m.ow a i = false → ∀ h', Sep h' (ledR p (m.owe a i) q :: F) → K (.bool true) h') :
    FnH Try.prog 28 #[ptr p, .string a, .string i] h K := by
  refine f28_fn ?_
  unfold ptr
  obtain ⟨bo, bb, t, hs⟩ := led_open hs
  obtain ⟨bl, w, hl1, hl2, _, hw0, hw⟩ := (hs.at 1).nestLook2 same_str same_str a i
  have c0 : cellAt h p 0 = some (.map (some bo)) := (hs.at 0).cell 0
  have hwv : w.getD (.bool false) = .bool (m.ow a i) := by
    cases ho : m.ow a i with
    | false => rw [hw0.1 (by simp [owG, ho])]; rfl
    | true =>
      obtain ⟨v, rfl, _, hv, _⟩ := hw () (by simp [owG, ho])
      rw [hv]; rfl
  simp only [f28_T0, go_sem, Nat.zero_add, c0, hl1, hl2, lk, cond_false, hwv]
  refine cond_cases (fun hc => ?_) (fun hc => ?_)
  · simp only [f28_ret]; exact hk0 hc
  · have hk := hk hc
    have hG : owG m.ow a i = none := by simp [owG, hc]
    have hGo : ∀ y, y ≠ a → owG (owSet m.ow a i) y = owG m.ow y := fun y hy => by funext i'; simp [owG, owSet, hy]
    have hGi : ∀ y, y ≠ i → owG (owSet m.ow a i) a y = owG m.ow a y := fun y hy => by simp [owG, owSet, hy]
    have hGs : owG (owSet m.ow a i) a i = some () := by simp [owG, owSet]
    obtain ⟨g, f1, ⟨r, hf, hne, hs⟩ | ⟨hf, hn, hs⟩⟩ := (hs.pick 1).nest a
    · have hm1 := (hs.at 1).mapF
      obtain rfl := look_bl hl1 same_str hm1 (by rw [hf]; rfl)
      simp (disch := omega) only [go_sem, c0, hm1.look same_str, hf, Option.getD_some, lk, cond_false, Option.isNone, f28_T1, Nat.zero_add]
      obtain ⟨f2, hf2, _, hs⟩ := hs.omapNone hG
      refine s_put same_str hs fun h' hs => ?_
      rw [f28_ret]
      refine hk h' (led_close (bo := bo) (bb := bb) (t := t) (Sep.swap ?_))
      refine Sep.nestSome (g := g) (a := a) (R := owR) (R' := owR) (G0 := owG (owSet m.ow a i) a) (r := r) ?_ hf (fun _ _ => rfl) (fun h => h.elim) rfl hGo (fun _ _ => rfl)
      refine Sep.closeSome (R := owR a) (v := .bool true) (f := f2) (hs.add rfl) (by simp) (fun y hy => by simp [hy]) hGs hGi
    · have hm1 := (hs.at 0).mapF
      obtain rfl := look_bl hl1 same_str hm1 (r := none) (by rw [hf]; rfl)
      simp (disch := omega) only [go_sem, c0, hm1.look same_str, hf, Option.getD_none, lk, cond_false, Option.isNone, f28_T1, Nat.zero_add]
      have hs1 : Sep _ (mapR .string h.size (fun _ => none) :: _) := hs.newMap
      generalize h.push (.map #[] 0) = h1, h.size = r at hs1
      refine s_put same_str hs1.swap fun h2 hs2 => ?_
      have c0 : cellAt h2 p 0 = some (.map (some bo)) := (hs2.at 3).cell 0
      have hm2 := (hs2.at 0).mapF
      simp (disch := omega) only [go_sem, c0, hm2.look same_str, if_true, Option.getD_some, lk, cond_false]
      refine s_put same_str hs2.swap fun h3 hs3 => ?_
      rw [f28_ret]
      refine hk h3 (led_close (bo := bo) (bb := bb) (t := t) (Sep.swap ?_))
      have h4 := (hs3.newAll (f := holeR (fun a' => slotR (owR a a') ((fun _ => none : ByteArray → Option Unit) a') ((fun _ => none : ByteArray → Option Value) a')) i) (fun y => by unfold holeR; split <;> rfl)).swap.add (φ := Value.bool true = .bool true) rfl
      have h5 := Sep.closeSome (R := owR a) (v := .bool true) (f := fun _ => none) (g := fun _ => none) (g' := owG (owSet m.ow a i) a) (x := ()) (a := i) h4 (by simp) (fun y hy => by simp [hy]) hGs (fun y hy => by rw [hGi y hy]; exact hn y)
      exact h5.nestSome (G' := owG (owSet m.ow a i)) (by simp) (fun y hy => by simp [hy]) (fun h => h.elim) rfl hGo (fun _ _ => rfl)
theorem bkR_ne {q q' : Lent} {l' : Int} (h1 : ∀ a, q ≠ some (l', a)) (h2 : ∀ a, q' ≠ some (l', a)) : bkR q l' = bkR q' l' := by
  funext a b v
  simp [bkR, h1 a, h2 a]
theorem put_bk (b : Bkt) : (m.put b).bk b.list = fun a => if a = b.addr then some b else m.bk b.list a := by
  funext a
  simp [Led.put]
theorem put_ne {b : Bkt} {l' : Int} (h : l' ≠ b.list) : (m.put b).bk l' = m.bk l' := by
  funext a
  simp [Led.put, h]
set_option maxRecDepth 8000 in
theorem keep_fn {sl : Value} (hs : Sep h (ledR p m (some (b.list, b.addr)) :: idsR b sl :: F)) (hk : ∀ h', Sep h' (ledR p (m.put b) none :: F) → K (.tuple #[]) h') :
    FnH Try.prog 29 #[ptr p, .agg ⟨bktRow b sl⟩] h K := by
  refine f29_fn ?_
  unfold ptr
  simp only [f29_T0, go_sem]
  refine s_box hs fun h1 bx hs1 => ?_
  obtain ⟨bo, bb, t, hs2⟩ := led_open (hs1.sel [1])
  have c0 : cellAt h1 p 1 = some (.map (some bb)) := (hs2.at 0).cell 1
  have cx : ∀ o, cellAt h1 bx o = (bktRow b sl)[o]? := fun o => by rw [(hs2.at 3).cell o]; simp
  have cx0 : cellAt h1 bx 0 = some (.int .i64 b.list) := cx 0
  have hne1 : ∀ y, y ≠ b.list → bkR (some (b.list, b.addr)) y = bkR none y := fun y hy => bkR_ne (fun a e => hy (by injection e with e; injection e with e1 e2; exact e1.symm)) (fun a e => by cases e)
  have hne2 : ∀ y, y ≠ b.addr → bkR (some (b.list, b.addr)) b.list y = bkR none b.list y := fun y hy => by
    funext b' v
    have : ¬ (b.addr = y) := fun e => hy e.symm
    simp [bkR, this]
  have hG0 : (m.put b).bk b.list b.addr = some b := by simp [Led.put]
  have hGi : ∀ y, y ≠ b.addr → (m.put b).bk b.list y = m.bk b.list y := fun y hy => by simp [Led.put, hy]
  obtain ⟨g, f1, ⟨r, hf, hne, hs3⟩ | ⟨hf, hn, hs3⟩⟩ := (hs2.pick 2).nest b.list
  · have hm1 := (hs3.at 1).mapF
    have hs4 : ∃ f2, Sep h1 (mapR .string r f2 :: restR (bkR (some (b.list, b.addr)) b.list) (m.bk b.list) f2 b.addr :: mapR (.int .i64) bb f1 :: restN .string (bkR (some (b.list, b.addr))) True g m.bk f1 b.list :: cellR p #[.map (some bo), .map (some bb)] t :: nestR .string .string bo (owG m.ow) False owR :: cellR bx ⟨bktRow b sl⟩ 36 :: idsR b sl :: F) := by
      cases hb : m.bk b.list b.addr with
      | none => obtain ⟨f2, _, _, hs4⟩ := hs3.omapNone hb; exact ⟨f2, hs4⟩
      | some b0 => obtain ⟨f2, v, _, _, hs4⟩ := hs3.omapSome hb; exact ⟨f2, hs4.tail⟩
    obtain ⟨f2, hs4⟩ := hs4
    have cx1 : cellAt h1 bx 1 = some (.string b.addr) := cx 1
    have hl1 : ∀ K, oLookup (some (.int .i64, .map none)) false (.map (some bb)) (.int .i64 b.list) K h1 = K (.map (some r)) h1 := fun K => by rw [hm1.look same_int, hf]; rfl
    simp (disch := omega) only [go_sem, Nat.zero_add, c0, cx0, cx1, hl1, f29_T1, Option.isNone]
    rw [load_cellR (n := 5) (c := ⟨bktRow b sl⟩) (t := 36) (hs4.at 6) rfl]
    refine s_put same_str hs4 fun h' hs5 => ?_
    rw [f29_end]
    have h6 : Sep h' (bkR none b.list b.addr b (.agg ⟨bktRow b sl⟩) :: (mapR .string r fun x => if x = b.addr then some (.agg ⟨bktRow b sl⟩) else f2 x) :: restR (bkR (some (b.list, b.addr)) b.list) (m.bk b.list) f2 b.addr :: mapR (.int .i64) bb f1 :: restN .string (bkR (some (b.list, b.addr))) True g m.bk f1 b.list :: cellR p #[.map (some bo), .map (some bb)] t :: nestR .string .string bo (owG m.ow) False owR :: cellR bx ⟨bktRow b sl⟩ 36 :: F) :=
      Sep.unex sl (((hs5.pick 7).add rfl).unstar)
    have h7 := h6.closeSome' (R := bkR (some (b.list, b.addr)) b.list) (R' := bkR none b.list) (g' := (m.put b).bk b.list) (fun y hy => (hne2 y hy).symm) (by simp) (fun y hy => by simp [hy]) hG0 hGi
    have h8 := h7.nestSome (R' := bkR none) (G' := (m.put b).bk) hf (fun _ _ => rfl) (fun _ => ⟨b.addr, by rw [hG0]; simp⟩) rfl (fun y hy => put_ne hy) (fun y hy => (hne1 y hy).symm)
    refine hk h' (led_close (bo := bo) (bb := bb) (t := t) ((h8.sel [1, 1, 0]).del 3))
  · have hm1 := (hs3.at 0).mapF
    have hl1 : ∀ K, oLookup (some (.int .i64, .map none)) false (.map (some bb)) (.int .i64 b.list) K h1 = K (.map none) h1 := fun K => by rw [hm1.look same_int, hf]; rfl
    simp (disch := omega) only [go_sem, Nat.zero_add, c0, cx0, hl1, f29_T1, Option.isNone]
    have hs4 : Sep _ (mapR .string h1.size (fun _ => none) :: _) := hs3.newMap
    generalize h1.push (.map #[] 0) = h2, h1.size = r at hs4
    refine s_put same_int hs4.swap fun h3 hs5 => ?_
    have c0 : cellAt h3 p 1 = some (.map (some bb)) := (hs5.at 3).cell 1
    have cx0 : cellAt h3 bx 0 = some (.int .i64 b.list) := (hs5.at 5).cell 0
    have cx1 : cellAt h3 bx 1 = some (.string b.addr) := (hs5.at 5).cell 1
    have hm2 := (hs5.at 0).mapF
    simp (disch := omega) only [go_sem, c0, cx0, cx1, hm2.look same_int, if_true, Option.getD_some, lk, cond_false]
    rw [load_cellR (n := 5) (c := ⟨bktRow b sl⟩) (t := 36) (hs5.at 5) rfl]
    refine s_put same_str hs5.swap fun h4 hs6 => ?_
    rw [f29_end]
    have hs7 := ((hs6.newAll (f := holeR (fun a' => slotR (bkR none b.list a') ((fun _ => none : ByteArray → Option Bkt) a') ((fun _ => none : ByteArray → Option Value) a')) b.addr) (fun y => by unfold holeR; split <;> rfl)).sel [1, 0, 0, 0, 0, 0, 0, 0])
    have h6 := Sep.unex (f := fun sl => (pureR (Value.agg ⟨bktRow b sl⟩ = .agg ⟨bktRow b sl⟩)).star (idsR b sl)) sl ((hs7.pick 7).add rfl).unstar
    have h6 : Sep h4 (bkR none b.list b.addr b (.agg ⟨bktRow b sl⟩) :: _) := Sep.unex (f := fun sl' => (pureR (Value.agg ⟨bktRow b sl⟩ = .agg ⟨bktRow b sl'⟩)).star (idsR b sl')) sl ((hs7.pick 7).add rfl).unstar
    have h7 := Sep.closeSome (R := bkR none b.list) (f := fun _ => none) (g := fun _ => none) (g' := (m.put b).bk b.list) h6 (by simp) (fun y hy => by simp [hy]) hG0 (fun y hy => by rw [hGi y hy]; exact hn y)
    have h8 := h7.nestSome (R' := bkR none) (G' := (m.put b).bk) (by simp) (fun y hy => by simp [hy]) (fun _ => ⟨b.addr, by rw [hG0]; simp⟩) rfl (fun y hy => put_ne hy) (fun y hy => (hne1 y hy).symm)
    refine hk h4 (led_close (bo := bo) (bb := bb) (t := t) ((h8.sel [1, 1, 0]).del 3))
theorem del_bk (m : Led) (l : Int) (a : ByteArray) : (m.del l a).bk l = fun k => if k = a then none else m.bk l k := by
  funext k
  simp [Led.del]
theorem del_ne {m : Led} {l l' : Int} {a : ByteArray} (h : l' ≠ l) : (m.del l a).bk l' = m.bk l' := by
  funext k
  simp [Led.del, h]
theorem bkt_one (b : Bkt) {sl : Value} {h : Heap} (hv : (idsR b sl).has h) : (⟨bktRow b sl⟩ : Array Value).toList.all oneC = true := by
  obtain ⟨o, hv⟩ := hv.vec
  obtain ⟨x, c, rfl⟩ := hv.val
  rfl
set_option maxRecDepth 8000 in
theorem cut_fn (hs : Sep h (ledR p m none :: F)) (hk0 : m.bk l a = none → ∀ h', Sep h' (ledR p m none :: F) → K (.tuple #[bktZ, .bool false]) h')
    (hk : ∀ b, m.bk l a = some b → ∀ h' sl, Sep h' (ledR p (m.del l a) none :: idsR b sl :: F) → K (.tuple #[.agg ⟨bktRow b sl⟩, .bool true]) h') :
    FnH Try.prog 22 #[ptr p, .int .i64 l, .string a] h K := by
  refine f22_fn ?_
  unfold ptr
  simp only [f22_T0, go_sem]
  refine s_alloc hs fun h1 b1 hs1 => ?_
  obtain ⟨bo, bb, t, hs2⟩ := led_open (hs1.sel [1])
  have c0 : cellAt h1 p 1 = some (.map (some bb)) := (hs2.at 0).cell 1
  cases hb : m.bk l a with
  | none =>
    obtain ⟨bl, w, hl1, hl2, _, hw0, _⟩ := (hs2.at 2).nestLook2 same_int same_str l a
    have hw := hw0.1 hb
    subst hw
    simp only [go_sem, Nat.zero_add, c0, hl1, hl2, lk, cond_true, Option.getD_none, Option.isSome]
    refine s_alloc hs1 fun h2 b2 hs3 => ?_
    refine s_store hs3 rfl rfl rfl fun h3 hs4 => ?_
    simp only [go_sem, Bool.not_false]
    refine s_store (hs4.sel [1, 0, 0]) rfl rfl rfl fun h4 hs5 => ?_
    rw [f22_ret, var36, load_cellR (n := 5) (hs5.at 0) rfl]
    exact hk0 hb h4 (hs5.sel [2] |>.del 1 |>.del 1)
  | some b =>
    obtain ⟨g, f1, ⟨r, hf, hne, hs3⟩ | ⟨_, hn, _⟩⟩ := (hs2.pick 2).nest l
    · obtain ⟨f2, v, hv, hn2, hs4⟩ := hs3.omapSome hb
      have hs5 : Sep h1 (bktR b v :: _) := hs4
      obtain ⟨sl, hs5⟩ := Sep.ex hs5
      obtain ⟨rfl, hs6⟩ := hs5.star.pure
      have hone := bkt_one b (hs6.at 0)
      have hm1 := (hs6.at 3).mapF
      have hm2 := (hs6.at 1).mapF
      simp only [go_sem, Nat.zero_add, c0, hm1.look same_int, hf, hm2.look same_str, hv, lk, cond_true, cond_false, Option.getD_some, Option.isSome]
      refine s_alloc hs6 fun h2 b2 hs7 => ?_
      refine s_store hs7 rfl rfl hone fun h3 hs8 => ?_
      have c0 : cellAt h3 p 1 = some (.map (some bb)) := (hs8.at 6).cell 1
      have hm1 := (hs8.at 4).mapF
      simp only [go_sem, Bool.not_true, c0, hm1.look same_int, hf, lk, cond_false, Option.getD_some]
      refine s_del same_str (hs8.pick 2) fun h4 hs9 => ?_
      have c0 : cellAt h4 p 1 = some (.map (some bb)) := (hs9.at 6).cell 1
      have hm1 := (hs9.at 4).mapF
      have hm2 := (hs9.at 0).mapF
      obtain ⟨n, hn, hlen⟩ := hm2.len (a := 9) (t := 36)
      simp only [go_sem, c0, hm1.look same_int, hf, lk, cond_false, Option.getD_some, hlen]
      have hGa : (m.del l a).bk l a = none := by simp [Led.del]
      have hGi : ∀ y, y ≠ a → (m.del l a).bk l y = m.bk l y := fun y hy => by simp [Led.del, hy]
      have h10 : Sep h4 (mapR .string r (fun x => if x = a then none else f2 x) :: restR (bkR none l) (m.bk l) f2 a :: mapR (.int .i64) bb f1 :: restN .string (bkR none) True g m.bk f1 l :: cellR p #[.map (some bo), .map (some bb)] t :: nestR .string .string bo (owG m.ow) False owR :: cellR b1 #[.int .i64 0, .string ⟨#[]⟩, .slice none 0 0, .int .i64 0, .int .i64 0] 36 :: cellR b2 ⟨bktRow b sl⟩ 36 :: idsR b sl :: F) :=
        hs9.sel [0, 2, 2, 2, 2, 2, 2, 0, 0]
      have h11 := h10.closeNone (g' := (m.del l a).bk l) (by simp) (fun y hy => by simp [hy]) hGa hGi
      have fin : ∀ hz, Sep hz (nestR (.int .i64) .string bb (m.del l a).bk True (bkR none) :: cellR p #[.map (some bo), .map (some bb)] t :: nestR .string .string bo (owG m.ow) False owR :: cellR b1 #[.int .i64 0, .string ⟨#[]⟩, .slice none 0 0, .int .i64 0, .int .i64 0] 36 :: cellR b2 ⟨bktRow b sl⟩ 36 :: idsR b sl :: F) →
          f22_T1 (retL Try.prog f22_L Try.f22.results.toList K) [.pointer (some ⟨p, 0, none⟩), .int .i64 l, .string a, .pointer (some ⟨b1, 0, none⟩), .bool false, .pointer (some ⟨b2, 0, none⟩)] hz := by
        intro hz hs
        simp only [f22_T1, var36]
        rw [load_cellR (n := 5) (c := ⟨bktRow b sl⟩) (t := 36) (hs.at 4) rfl]
        refine s_store (hs.pick 3) rfl rfl hone fun h5 hs5 => ?_
        rw [f22_ret, var36, load_cellR (n := 5) (c := ⟨bktRow b sl⟩) (t := 36) (hs5.at 0) rfl]
        refine hk b hb h5 sl (led_close (bo := bo) (bb := bb) (t := t) (hs5.sel [2, 2, 1] |>.del 3 |>.del 3))
      refine cond_cases (fun hc => ?_) (fun hc => ?_)
      · have h0 : n = 0 := by simpa using hc
        have hall : ∀ k, (m.del l a).bk l k = none := fun k => by
          by_cases hk : k = a
          · rw [hk]; exact hGa
          · rw [hGi k hk, hn2]
            have := hn.1 h0 k
            simpa [hk] using this
        refine s_del same_int (h11.pick 1) fun h5 h12 => ?_
        refine fin h5 ?_
        have h13 := h12.sel [0, 1]
        exact (Sep.nestNone (G' := (m.del l a).bk) (R' := bkR none) h13 (by simp) (fun y hy => by simp [hy]) hall (fun y hy => del_ne hy) (fun _ _ => rfl)).del 1
      · have h0 : n ≠ 0 := by simpa using hc
        refine fin h4 ?_
        refine h11.nestSome (G' := (m.del l a).bk) (R' := bkR none) hf (fun _ _ => rfl) (fun _ => ?_) rfl (fun y hy => del_ne hy) (fun _ _ => rfl)
        refine Classical.byContradiction fun hno => h0 (hn.2 fun x => ?_)
        have hx : (m.del l a).bk l x = none := Classical.byContradiction fun hh => hno ⟨x, hh⟩
        by_cases hk : x = a
        · simp [hk]
        · rw [hGi x hk, hn2] at hx
          simp [hk, hx]
    · rw [hn a] at hb; cases hb
end
end Go.Proofs.Ythgbpfoadlemaaa

/- The addresses of a list. -/
namespace Go.Proofs.Ythgbpfoadlemaaa
open Go.Fw
structure Led.Ok (m : Led) (N : Nat) : Prop where
  cov : ∃ L : List (Int × ByteArray), L.length ≤ N ∧ ∀ l a, m.bk l a ≠ none → (l, a) ∈ L
  ocov : ∀ a, ∃ L : List ByteArray, L.length ≤ N ∧ ∀ i, m.ow a i = true → i ∈ L
  ids : ∀ l a b, m.bk l a = some b → b.ids.length ≤ N
  key : ∀ l a b, m.bk l a = some b → b.list = l ∧ b.addr = a
  ne : ∀ l a b, m.bk l a = some b → b.ids ≠ []
theorem str_inj (a b : ByteArray) (h : Value.string a = .string b) : a = b := by injection h
theorem int_inj (a b : Int) (h : Value.int .i64 a = .int .i64 b) : a = b := by injection h
section
variable {p : Nat} {m : Led} {q : Lent} {h : Heap} {F : List Res} {K : Kont} {l : Int} {N : Nat}
theorem Led.Ok.addrs (hm : m.Ok N) (l : Int) : ∃ L : List ByteArray, L.length ≤ N ∧ ∀ a, m.bk l a ≠ none → a ∈ L := by
  obtain ⟨L, h1, h2⟩ := hm.cov
  exact ⟨L.map (·.2), by simpa using h1, fun a ha => List.mem_map.2 ⟨(l, a), h2 l a ha, rfl⟩⟩
set_option maxRecDepth 8000 in
theorem addrs_fn (hs : Sep h (ledR p m q :: F)) (hm : m.Ok N) (hN : N ≤ 4294967296)
    (hk : ∀ h' v (al : List ByteArray), Sep h' (vecR v 9 1 (al.map strRow) :: ledR p m q :: F) → al.Pairwise ltB → (∀ a, a ∈ al ↔ m.bk l a ≠ none) → K v h') :
    FnH Try.prog 25 #[ptr p, .int .i64 l] h K := by
  refine f25_fn ?_
  unfold ptr
  obtain ⟨bo, bb, t, hs1⟩ := led_open hs
  have c0 : cellAt h p 1 = some (.map (some bb)) := (hs1.at 0).cell 1
  obtain ⟨bl, f, X, hl1, hf, hs2, hback⟩ := (hs1.pick 2).nestView l same_int
  simp only [f25_T0, go_sem, Nat.zero_add, c0, hl1]
  refine s_range_opt hs2 fun h1 it es hn hes hs3 => ?_
  have hlen : es.length ≤ N := by
    obtain ⟨L, hL, hc⟩ := hm.addrs l
    have := nodup_len hn (L := L) (fun x hx => by
      obtain ⟨⟨a, v⟩, hm, rfl⟩ := List.mem_map.1 hx
      exact hc a (fun e => by rw [hf] at e; rw [(hes a v).1 hm] at e; cases e))
    simp only [List.length_map] at this
    omega
  refine LoopS.st (σ := List (ByteArray × Value) × Value) (fun s => [.pointer (some ⟨p, 0, none⟩), .int .i64 l, .slice none 0 0, s.2, .pointer (some ⟨it, 0, none⟩)])
    (fun s h' => Sep h' (vecR s.2 9 1 ((s.1.map (·.1)).map strRow) :: rangeR .string it bl es s.1 :: slotsR (bkR q l) (m.bk l) f :: X :: cellR p #[.map (some bo), .map (some bb)] t :: nestR .string .string bo (owG m.ow) False owR :: F) ∧ s.1.length ≤ es.length)
    (fun s => es.length - s.1.length) ([], .slice none 0 0) rfl ⟨hs3.nilVec, by simp⟩ ?_
  rintro ⟨done, v⟩ h2 ⟨hs4, hd⟩
  simp only at hs4 hd ⊢
  simp only [f25_T5]
  refine s_next str_inj hs4.swap (fun hp => ?_) (fun x w h3 hx hs5 hleft => ?_)
  · simp only [go_sem, f25_T2]
    have hp' := hp.map (·.1)
    refine s_sort_strs Try.slices_Sort_string Try.slices_Sort_string_none ?_ hs4 fun h4 s hs6 hs hso => ?_
    · rw [hp'.length_eq, List.length_map]; omega
    · rw [f25_ret]
      have hperm := hs.trans hp'
      have h7 := hback h4 _ ((hs6.pick 1).rangedOpt hn hes |>.sel [0, 1, 1, 0, 0, 0])
      refine hk h4 v s ((led_close (bo := bo) (bb := bb) (t := t) (h7.sel [2, 2, 0, 0])).swap) (sorted_lt hso (hperm.symm.nodup hn)) (fun a => ?_)
      rw [hperm.mem_iff, List.mem_map]
      constructor
      · rintro ⟨⟨a, v⟩, hm, rfl⟩ e
        rw [hf, (hes a v).1 hm] at e; cases e
      · intro hne
        cases hfa : f a with
        | none => exact absurd ((hf a).2 hfa) hne
        | some w => exact ⟨(a, w), (hes a w).2 hfa, rfl⟩
  · obtain ⟨left, hleft⟩ := hleft
    have hdl : done.length + 1 ≤ es.length := by
      have := hleft.length_eq
      simp only [List.length_append, List.length_cons] at this
      omega
    simp only [go_sem, s_entry (e := Value.string) (it := it) (r := bl) (l := es) (done := done) (x := x) (v := w) (hs5.at 0)]
    refine s_append_one hs5.swap (row := [.string x]) rfl (by omega) (by omega) (by omega) rfl rfl (by simp [go_sem]) ?_ fun v' h' hs6 => ?_
    · simp only [List.length_map]; omega
    · refine NextSt.mk (done ++ [(x, w)], v') rfl ⟨?_, by simpa using hdl⟩ (by simp only [List.length_append, List.length_singleton]; omega)
      simpa [strRow] using hs6
end
end Go.Proofs.Ythgbpfoadlemaaa

/- Release: one subscription that takes the id into a bucket. -/
namespace Go.Proofs.Ythgbpfoadlemaaa
open Go.Fw
structure Sub where
  list : Int
  addr : ByteArray
  mode : Int
  topic : ByteArray
  since : Int
def subRow (s : Sub) : List Value := [.int .i64 s.list, .string s.addr, .int .i64 s.mode, .string s.topic, .int .i64 s.since]
def boolRow (b : Bool) : List Value := [.bool b]
structure RelSt where
  m : Led
  sg : List ByteArray
  fl : List Bkt
def mailed (s : Sub) : Bool := decide (s.mode = 0) || decide (s.mode = 2)
def takes (s : Sub) : Bool := mailed s || decide (s.mode = 1)
def addTo (m : Led) (id a : ByteArray) (size list now : Int) : Bkt :=
  let b0 := (m.bk list a).getD ⟨list, a, [], 0, now⟩
  { b0 with ids := b0.ids ++ [id], size := IntKind.i64.wrap (b0.size + size) }
def bump (budget : Int) (st : RelSt) (b : Bkt) : RelSt :=
  if 0 < budget ∧ budget ≤ b.size then { m := st.m.del b.list b.addr, sg := st.sg, fl := st.fl ++ [b] } else { m := st.m.put b, sg := st.sg, fl := st.fl }
def relStep (id : ByteArray) (size list now budget : Int) (st : RelSt) (x : Sub × Bool) : RelSt :=
  if x.2 && takes x.1 && !st.m.ow x.1.addr id then
    if mailed x.1 then { st with m := st.m.owe x.1.addr id, sg := st.sg ++ [x.1.addr] }
    else bump budget { st with m := st.m.owe x.1.addr id } (addTo (st.m.owe x.1.addr id) id x.1.addr size list now)
  else st
def rel (id : ByteArray) (size list now budget : Int) (m : Led) (l : List (Sub × Bool)) : RelSt := l.foldl (relStep id size list now budget) ⟨m, [], []⟩
def bktE (b : Bkt) (row : List Value) : Res := exR fun sl => (pureR (row = bktRow b sl)).star (idsR b sl)
abbrev bktsR (v : Value) (l : List Bkt) : Res := ovecR v 36 5 l bktE
abbrev strsR (v : Value) (l : List ByteArray) : Res := vecR v 9 1 (l.map strRow)
section
variable {p : Nat} {m : Led} {q : Lent} {h : Heap} {F : List Res} {K : Kont} {l : Int} {N : Nat}
theorem bkt_sep {b : Bkt} {sl : Value} (hs : Sep h (idsR b sl :: F)) : Sep h (bktE b (bktRow b sl) :: F) := Sep.unex sl (hs.add rfl).unstar
theorem bktRow_one {b : Bkt} {sl : Value} {h : Heap} (hv : (idsR b sl).has h) : ∀ y ∈ bktRow b sl, oneC y = true := by
  have := bkt_one b hv
  simpa using this
/-- A bucket is appended to a slice of buckets. -/
theorem s_push {v z : Value} {bytes : Nat} {fl : List Bkt} {b : Bkt} {sl : Value} (hs : Sep h (bktsR v fl :: idsR b sl :: F)) (hz : z.cells.size = 5) (hby : 0 < bytes) (hb : (2 * (fl.length + 1) + 200) * bytes ≤ 281474976710656)
    (hk : ∀ v' h', Sep h' (bktsR v' (fl ++ [b]) :: F) → K v' h') : oBuildSlice (some (36, 5, bytes, z)) 1 [(0, .agg ⟨bktRow b sl⟩)] (fun y h' => oAppend (some (36, 5, bytes, z)) v y K h') h := by
  obtain ⟨rows, hl, hs⟩ := hs.ovec
  refine s_append_one hs hz (by omega) (by omega) hby rfl rfl (bktRow_one (hs.at 2)) (by rw [hl]; exact hb) fun v' h' hs => hk v' h' ?_
  exact (((bkt_sep (hs.pick 2)).sel [0, 1, 0]).snoc.swap).unovec
set_option maxRecDepth 8000 in
theorem rel_add {b0 : Bkt} {sl v16 v17 vs va v23 v24 v25 : Value} {id : ByteArray} {size list now budget : Int} {st : RelSt} {q : LPost} {x bx : Nat} {sb : Sub} {s9 : List ByteArray} (hl : b0.list = list) (ha : b0.addr = sb.addr) (hids : b0.ids.length ≤ N) (hN : N ≤ 4294967296) (hfl : st.fl.length ≤ 4294967296)
    (hs : Sep h (idsR b0 sl :: cellR bx ⟨bktRow b0 sl⟩ 36 :: ledR p st.m (some (b0.list, b0.addr)) :: bktsR v17 st.fl :: cellR x ⟨subRow sb⟩ 40 :: strsR v16 s9 :: F))
    (hq : ∀ h' v17', Sep h' (ledR p (bump budget st { b0 with ids := b0.ids ++ [id], size := IntKind.i64.wrap (b0.size + size) }).m none :: bktsR v17' (bump budget st { b0 with ids := b0.ids ++ [id], size := IntKind.i64.wrap (b0.size + size) }).fl :: strsR v16 s9 :: F) →
      f16_T7 q [ptr p, .string id, .int .i64 size, .int .i64 list, .int .i64 now, vs, va, .int .i64 budget, v16, v17', ptr x, ptr bx, v23, v24, v25] h') :
    f16_T10 q [ptr p, .string id, .int .i64 size, .int .i64 list, .int .i64 now, vs, va, .int .i64 budget, v16, v17, ptr x, ptr bx, v23, v24, v25] h := by
  have c2 : cellAt h bx 2 = some sl := (hs.at 1).cell 2
  unfold ptr at hq ⊢
  simp only [f16_T10, go_sem, Nat.zero_add, c2]
  refine s_append_one hs (row := [.string id]) rfl (by omega) (by omega) (by omega) rfl rfl (by simp [go_sem]) (by simp only [List.length_map]; omega) fun sl' h1 hs => ?_
  refine s_fld hs.swap (by exact (by decide : 2 < 5)) ?_ fun h2 hs => ?_
  · obtain ⟨o, hv⟩ := (hs.at 0).vec
    obtain ⟨a, c, rfl⟩ := hv.val
    rfl
  have c3 : cellAt h2 bx 3 = some (.int .i64 b0.size) := (hs.at 0).cell 3
  simp only [c3, go_sem, bin_add]
  refine s_fld hs (by exact (by decide : 3 < 5)) rfl fun h3 hs => ?_
  generalize hb : ({ b0 with ids := b0.ids ++ [id], size := IntKind.i64.wrap (b0.size + size) } : Bkt) = b at hq
  have hs : Sep h3 (cellR bx ⟨bktRow b sl'⟩ 36 :: idsR b sl' :: ledR p st.m (some (b.list, b.addr)) :: bktsR v17 st.fl :: cellR x ⟨subRow sb⟩ 40 :: strsR v16 s9 :: F) := by
    have e : b.ids.map strRow = b0.ids.map strRow ++ [[.string id]] := by subst hb; simp [strRow]
    unfold idsR
    rw [e]
    subst hb
    exact hs
  have hlb : b.list = list := by rw [← hb]; exact hl
  have hab : b.addr = sb.addr := by rw [← hb]; exact ha
  rw [load_cellR (n := 5) (c := ⟨bktRow b sl'⟩) (t := 36) (hs.at 0) rfl]
  have hone := bkt_one b (hs.at 1)
  refine keep_fn (hs.sel [2, 1]) fun h4 hs => ?_
  have c3 : cellAt h4 bx 3 = some (.int .i64 b.size) := (hs.at 1).cell 3
  have hg : ∀ {t : Bool} {K : Kont}, (t = decide (0 < budget)) → (0 < budget → K (.bool (decide (budget ≤ b.size))) h4) → (¬ 0 < budget → K (.bool false) h4) →
    gop (.bool t) true (oFieldAddr (some 3) (.pointer (some ⟨bx, 0, none⟩))) (fun x30 h31 => gop (.bool t) true (oLoad .one x30) (fun x32 h33 => gop (.bool t) true (fun K h => K (.int .i64 budget) h) (fun x34 h35 =>
      gop (.bool t) true (oBin (some (.int .i64)) .geq x32 x34) (fun x36 h37 => oPick (.bool t) x36 (.bool false) K h37) h35) h33) h31) h4 := by
    intro t K ht h1 h0
    by_cases hbd : 0 < budget
    · simp only [hbd, decide_true] at ht
      subst ht
      simp only [go_sem, Nat.zero_add, c3]
      exact h1 hbd
    · simp only [hbd, decide_false] at ht
      subst ht
      simp only [go_sem]
      exact h0 hbd
  have hnot : ¬ (0 < budget ∧ budget ≤ b.size) → f16_T7 q [.pointer (some ⟨p, 0, none⟩), .string id, .int .i64 size, .int .i64 list, .int .i64 now, vs, va, .int .i64 budget, v16, v17, .pointer (some ⟨x, 0, none⟩), .pointer (some ⟨bx, 0, none⟩), v23, v24, v25] h4 := by
    intro hno
    refine hq h4 v17 ?_
    simp only [bump, if_neg hno]
    exact hs.sel [0, 1, 2] |>.del 3 |>.del 3
  refine hg rfl (fun hbd => ?_) (fun hbd => ?_)
  · refine cond_cases (fun hc => ?_) (fun hc => ?_)
    · have hyes : 0 < budget ∧ budget ≤ b.size := ⟨hbd, by simpa using hc⟩
      have cx : cellAt h4 x 1 = some (.string sb.addr) := (hs.at 3).cell 1
      simp only [go_sem, cx]
      refine cut_fn hs (fun hn => ?_) (fun b' hb' h5 sl5 hs => ?_)
      · simp [Led.put, hlb, hab] at hn
      · have hbb : b' = b := by
          simp [Led.put, hlb, hab] at hb'
          exact hb'.symm
        subst hbb
        simp only [go_sem]
        have hone := bkt_one b' (hs.at 1)
        refine s_store (hs.pick 2) rfl rfl hone fun h6 hs => ?_
        rw [load_cellR (n := 5) (c := ⟨bktRow b' sl5⟩) (t := 36) (hs.at 0) rfl]
        refine s_push (hs.sel [3, 2]) rfl (by omega) (by omega) fun v' h7 hs => ?_
        refine hq h7 v' ?_
        have hm : (st.m.put b').del list sb.addr = st.m.del b'.list b'.addr := by
          simp only [Led.put, Led.del, hlb, hab]
          congr 1
          funext l a
          split <;> rfl
        simp only [bump, if_pos hyes]
        rw [hm] at hs
        exact hs.sel [2, 0, 2] |>.del 3 |>.del 3
    · have hno : ¬ budget ≤ b.size := by simpa using hc
      exact hnot (fun hx => hno hx.2)
  · simp only [go_sem]
    exact hnot (fun hx => hbd hx.1)
end
end Go.Proofs.Ythgbpfoadlemaaa

/- Release. -/
namespace Go.Proofs.Ythgbpfoadlemaaa
open Go.Fw
section
variable {p : Nat} {m : Led} {q : Lent} {h : Heap} {F : List Res} {K : Kont} {l : Int} {a : ByteArray} {N M : Nat}
/-- A bucket is read, and its ids are lent out. -/
theorem led_lend {b : Bkt} (hs : Sep h (ledR p m none :: F)) (hb : m.bk l a = some b) : ∃ (sl : Value) (bb : Nat) (bl : Option Nat), Sep h (idsR b sl :: ledR p m (some (l, a)) :: F) ∧ cellAt h p 1 = some (.map (some bb)) ∧
    (∀ K, oLookup (some (.int .i64, .map none)) false (.map (some bb)) (.int .i64 l) K h = K (.map bl) h) ∧ (∀ K ok z, oLookup (some (.string, z)) ok (.map bl) (.string a) K h = K (lk ok (.agg ⟨bktRow b sl⟩) true) h) := by
  obtain ⟨bo, bb, t, hs⟩ := led_open hs
  have c0 : cellAt h p 1 = some (.map (some bb)) := (hs.at 0).cell 1
  obtain ⟨bl, v, h1, h2, hs⟩ := (hs.pick 2).nestLend (R' := bkR (some (l, a))) same_int same_str hb (fun a' k' hne => by
    funext b v
    have : ¬ (l = a' ∧ a = k') := fun e => hne ⟨e.1.symm, e.2.symm⟩
    simp [bkR, this]) (fun v => by simp [bkR])
  have hs : Sep h (bktR b v :: _) := hs
  obtain ⟨sl, hs⟩ := Sep.ex hs
  obtain ⟨rfl, hs2⟩ := hs.star.pure
  exact ⟨sl, bb, bl, (led_close (bo := bo) (bb := bb) (t := t) (hs2.sel [2, 2, 1, 0])).swap, c0, h1, h2⟩
theorem led_none (hs : Sep h (ledR p m none :: F)) (hb : m.bk l a = none) : ∃ (bb : Nat) (bl : Option Nat), Sep h (ledR p m (some (l, a)) :: F) ∧ cellAt h p 1 = some (.map (some bb)) ∧
    (∀ K, oLookup (some (.int .i64, .map none)) false (.map (some bb)) (.int .i64 l) K h = K (.map bl) h) ∧ (∀ K ok z, oLookup (some (.string, z)) ok (.map bl) (.string a) K h = K (lk ok z false) h) := by
  obtain ⟨bo, bb, t, hs⟩ := led_open hs
  have c0 : cellAt h p 1 = some (.map (some bb)) := (hs.at 0).cell 1
  obtain ⟨bl, w, hl1, hl2, _, hw0, _⟩ := (hs.at 2).nestLook2 same_int same_str l a
  have hw := hw0.1 hb
  subst hw
  refine ⟨bb, bl, led_close (bo := bo) (bb := bb) (t := t) ?_, c0, hl1, hl2⟩
  have h2 := (hs.pick 2).nestMono (R' := bkR (some (l, a))) (fun a' k' x v S hG hS => by
    have : ¬ (l = a' ∧ a = k') := fun e => by rw [← e.1, ← e.2, hb] at hG; cases hG
    simpa [bkR, this] using hS)
  exact h2.sel [1, 1, 0]
/-! ### Bounds -/
theorem Led.Ok.mono (hm : m.Ok N) (h : N ≤ M) : m.Ok M :=
  ⟨hm.cov.imp fun _ x => ⟨Nat.le_trans x.1 h, x.2⟩, fun a => (hm.ocov a).imp fun _ x => ⟨Nat.le_trans x.1 h, x.2⟩, fun l a b hb => Nat.le_trans (hm.ids l a b hb) h, hm.key, hm.ne⟩
theorem Led.Ok.owe (hm : m.Ok N) (a i : ByteArray) : (m.owe a i).Ok (N + 1) := by
  have h1 := hm.mono (Nat.le_succ N)
  refine ⟨h1.cov, fun a' => ?_, h1.ids, h1.key, h1.ne⟩
  obtain ⟨L, hL, hc⟩ := hm.ocov a'
  refine ⟨i :: L, by simpa using hL, fun i' hi => ?_⟩
  simp only [Led.owe, owSet] at hi
  split at hi
  · rename_i e; rw [e.2]; exact List.mem_cons_self ..
  · exact List.mem_cons_of_mem _ (hc i' hi)
theorem Led.Ok.put {b : Bkt} (hm : m.Ok N) (hb : b.ids.length ≤ N + 1) (hne : b.ids ≠ []) : (m.put b).Ok (N + 1) := by
  have h1 := hm.mono (Nat.le_succ N)
  obtain ⟨L, hL, hc⟩ := hm.cov
  refine ⟨⟨(b.list, b.addr) :: L, by simpa using hL, fun l a hla => ?_⟩, h1.ocov, fun l a b' hb' => ?_, fun l a b' hb' => ?_, fun l a b' hb' => ?_⟩
  · simp only [Led.put] at hla
    split at hla
    · rename_i e; rw [e.1, e.2]; exact List.mem_cons_self ..
    · exact List.mem_cons_of_mem _ (hc l a hla)
  all_goals
    simp only [Led.put] at hb'
    split at hb'
    · rename_i e
      injection hb' with hb'
      subst hb'
      first | exact hb | exact ⟨e.1.symm, e.2.symm⟩ | exact hne
    · first | exact h1.ids l a b' hb' | exact h1.key l a b' hb' | exact h1.ne l a b' hb'
theorem del_some {l' : Int} {a' : ByteArray} {b : Bkt} (h : (m.del l a).bk l' a' = some b) : m.bk l' a' = some b := by
  simp only [Led.del] at h
  split at h
  · cases h
  · exact h
theorem Led.Ok.del (hm : m.Ok N) (l : Int) (a : ByteArray) : (m.del l a).Ok N := by
  obtain ⟨L, hL, hc⟩ := hm.cov
  refine ⟨⟨L, hL, fun l' a' h => hc l' a' fun e => h ?_⟩, hm.ocov, fun l' a' b h => hm.ids l' a' b (del_some h), fun l' a' b h => hm.key l' a' b (del_some h), fun l' a' b h => hm.ne l' a' b (del_some h)⟩
  simp only [Led.del, e, ite_self]
structure RelOk (st : RelSt) (N k : Nat) : Prop where
  ok : st.m.Ok (N + 2 * k)
  fl : st.fl.length ≤ k
  sg : st.sg.length ≤ k
theorem addTo_ok {id : ByteArray} {size list now : Int} (hm : m.Ok N) : (addTo m id a size list now).ids.length ≤ N + 1 ∧ (addTo m id a size list now).ids ≠ [] := by
  unfold addTo
  refine ⟨?_, by simp⟩
  cases hb : m.bk list a with
  | none => simp
  | some b => have := hm.ids _ _ _ hb; simpa using this
theorem relStep_ok {id : ByteArray} {size list now budget : Int} {st : RelSt} {x : Sub × Bool} {k : Nat} (hst : RelOk st N k) : RelOk (relStep id size list now budget st x) N (k + 1) := by
  obtain ⟨h1, h2, h3⟩ := hst
  unfold relStep
  split
  · split
    · exact ⟨(h1.owe ..).mono (by omega), Nat.le_succ_of_le h2, by simpa using h3⟩
    · have h4 := h1.owe x.1.addr id
      have h5 := addTo_ok (id := id) (a := x.1.addr) (size := size) (list := list) (now := now) h4
      unfold bump
      split
      · exact ⟨(h4.del ..).mono (by omega), by simpa using h2, Nat.le_succ_of_le h3⟩
      · exact ⟨(h4.put h5.1 h5.2).mono (by omega), Nat.le_succ_of_le h2, Nat.le_succ_of_le h3⟩
  · exact ⟨h1.mono (by omega), Nat.le_succ_of_le h2, Nat.le_succ_of_le h3⟩
theorem rel_ok {id : ByteArray} {size list now budget : Int} : ∀ (l : List (Sub × Bool)) (st : RelSt) (k : Nat), RelOk st N k → RelOk (l.foldl (relStep id size list now budget) st) N (k + l.length)
  | [], _, _, h => h
  | x :: l, st, k, h => by
    have := rel_ok (id := id) (size := size) (list := list) (now := now) (budget := budget) l _ (k + 1) (relStep_ok (id := id) (size := size) (list := list) (now := now) (budget := budget) (x := x) h)
    simp only [List.foldl_cons, List.length_cons]
    rw [show k + (l.length + 1) = k + 1 + l.length from by omega]
    exact this
end
end Go.Proofs.Ythgbpfoadlemaaa

/- Release: the loop. -/
namespace Go.Proofs.Ythgbpfoadlemaaa
open Go.Fw
theorem chain1 {a : Nat} {m : Int} {h : Heap} {K : Kont} (hc : cellAt h a 2 = some (.int .i64 m)) (hk : K (.bool (decide (m = 0) || decide (m = 2))) h) :
    gop (.bool (decide (m = 0))) false (oFieldAddr (some 2) (.pointer (some ⟨a, 0, none⟩))) (fun x76 h77 => gop (.bool (decide (m = 0))) false (oLoad .one x76) (fun x78 h79 =>
      gop (.bool (decide (m = 0))) false (oBin (some (.int .i64)) .eql x78 (.int .i64 2)) (fun x80 h81 => oPick (.bool (decide (m = 0))) (.bool true) x80 K h81) h79) h77) h := by
  cases d0 : decide (m = 0) <;> rw [d0] at hk <;> simp only [go_sem, hc, Nat.zero_add]
  · exact hk
  · exact hk
theorem chain2 {a : Nat} {m : Int} {h : Heap} {K : Kont} {ad ml : Bool} (hc : cellAt h a 2 = some (.int .i64 m)) (hk : K (.bool (!ad || (!ml && !decide (m = 1)))) h) :
    gop (.bool (!ad)) false (fun K h => K (.bool ml) h) (fun x90 h91 => gop (.bool (!ad)) false (oUn .not x90) (fun x92 h93 => gop (.bool (!ad)) false (fun K h => K x92 h) (fun x94 h95 =>
      gop x94 true (oFieldAddr (some 2) (.pointer (some ⟨a, 0, none⟩))) (fun x96 h97 => gop x94 true (oLoad .one x96) (fun x98 h99 => gop x94 true (oBin (some (.int .i64)) .neq x98 (.int .i64 1)) (fun x100 h101 =>
        gop (.bool (!ad)) false (oPick x94 x100 (.bool false)) (fun x102 h103 => oPick (.bool (!ad)) (.bool true) x102 K h103) h101) h99) h97) h95) h93) h91) h := by
  cases ad <;> cases ml <;> simp only [go_sem, hc, Nat.zero_add, Bool.not_true, Bool.not_false] at hk ⊢
  · exact hk
  · exact hk
  · exact hk
  · exact hk
theorem chain3 {a : Nat} {s : ByteArray} {p : Value} {i : Value} {h : Heap} {K : Kont} {r : Bool} (hc : cellAt h a 1 = some (.string s)) (h1 : r = true → K (.bool true) h) (h0 : r = false → FnH Try.prog 28 #[p, .string s, i] h (fun x h => oUn .not x K h)) :
    gop (.bool r) false (fun K h => K p h) (fun x106 h107 => gop (.bool r) false (oFieldAddr (some 1) (.pointer (some ⟨a, 0, none⟩))) (fun x108 h109 => gop (.bool r) false (oLoad .one x108) (fun x110 h111 =>
      gop (.bool r) false (fun K h => K i h) (fun x112 h113 => gop (.bool r) false (oCallF Try.prog 28 [x106, x110, x112]) (fun x114 h115 => gop (.bool r) false (oUn .not x114) (fun x116 h117 => oPick (.bool r) (.bool true) x116 K h117) h115) h113) h111) h109) h107) h := by
  cases r <;> simp only [go_sem, hc, Nat.zero_add]
  · exact h0 rfl
  · exact h1 rfl
section
variable {p : Nat} {m : Led} {h h0 : Heap} {F : List Res} {K : Kont} {N : Nat} {id : ByteArray} {size list now budget : Int} {subs : List Sub} {adm : List Bool} {vs va : Value}
theorem rel_next {q : LPost} {k : Nat} {v16 v17 v19 v21 vs va v23 v24 : Value} (hk : k < 4294967296) (hq : q .normal [ptr p, .string id, .int .i64 size, .int .i64 list, .int .i64 now, vs, va, .int .i64 budget, v16, v17, v19, v21, v23, v24, .int .i64 ((k + 1 : Nat) : Int)] h) :
    f16_T7 q [ptr p, .string id, .int .i64 size, .int .i64 list, .int .i64 now, vs, va, .int .i64 budget, v16, v17, v19, v21, v23, v24, .int .i64 k] h := by
  simp (disch := omega) only [f16_T7, go_sem, bin_add_in]
  exact hq
set_option maxRecDepth 8000 in
/-- A round that looks at one subscription. -/
theorem rel_sub {q : LPost} {k x : Nat} {v16 v17 v21 vs va v23 v24 : Value} {st : RelSt} {sb : Sub} (hk : k < 1000) (hN : N ≤ 2147483648) (hst : RelOk st N k) (hnow : st.m.ow sb.addr id = false) (hs : Sep h (ledR p (st.m.owe sb.addr id) none :: cellR x ⟨subRow sb⟩ 40 :: bktsR v17 st.fl :: strsR v16 st.sg :: F)) (htake : takes sb = true)
    (hq : ∀ h' v16' v17' v21', Sep h' (ledR p (relStep id size list now budget st (sb, true)).m none :: bktsR v17' (relStep id size list now budget st (sb, true)).fl :: strsR v16' (relStep id size list now budget st (sb, true)).sg :: F) →
      q .normal [ptr p, .string id, .int .i64 size, .int .i64 list, .int .i64 now, vs, va, .int .i64 budget, v16', v17', ptr x, v21', v23, v24, .int .i64 ((k + 1 : Nat) : Int)] h') :
    oCond (.bool (mailed sb)) (oFieldAddr (fieldOff Try.prog 40 1) (ptr x) (fun x120 h121 => oLoad (varOf Try.prog 9) x120 (fun x122 h123 => oBuildSlice (sliceOf Try.prog 28) 1 [(0, x122)] (fun x124 h125 => oAppend (sliceOf Try.prog 28) v16 x124 (fun x126 h127 =>
       f16_T7 q [ptr p, .string id, .int .i64 size, .int .i64 list, .int .i64 now, vs, va, .int .i64 budget, x126, v17, ptr x, v21, v23, v24, .int .i64 k] h127) h125) h123) h121) h)
     (oNilCheck (ptr p) (fun x128 h129 => oFieldAddr (fieldOff Try.prog 55 1) x128 (fun x130 h131 => oLoad (varOf Try.prog 53) x130 (fun x132 h133 => oLookup (mapOf Try.prog 53) false x132 (.int .i64 list) (fun x134 h135 =>
       oFieldAddr (fieldOff Try.prog 40 1) (ptr x) (fun x136 h137 => oLoad (varOf Try.prog 9) x136 (fun x138 h139 => oLookup (mapOf Try.prog 62) true x134 x138 (fun x140 h141 => oExtract x140 0 (fun x142 h143 => oExtract x140 1 (fun x144 h145 =>
       oAlloc (zeroOf Try.prog 36) 36 (fun x146 h147 => oStore (varOf Try.prog 36) x146 x142 (fun _ h149 => oUn .not x144 (fun x150 h151 =>
       oCond x150 (oFieldAddr (fieldOff Try.prog 40 1) (ptr x) (fun x152 h153 => oLoad (varOf Try.prog 9) x152 (fun x154 h155 => oBuild (buildOf Try.prog 36) [(0, .int .i64 list), (1, x154), (4, .int .i64 now)] (fun x156 h157 => oStore (varOf Try.prog 36) x146 x156 (fun _ h159 =>
       f16_T10 q [ptr p, .string id, .int .i64 size, .int .i64 list, .int .i64 now, vs, va, .int .i64 budget, v16, v17, ptr x, x146, v23, v24, .int .i64 k] h159) h157) h155) h153) h151)
       (f16_T10 q [ptr p, .string id, .int .i64 size, .int .i64 list, .int .i64 now, vs, va, .int .i64 budget, v16, v17, ptr x, x146, v23, v24, .int .i64 k] h151)) h149) h147) h145) h143) h141) h139) h137) h135) h133) h131) h129) h) := by
  have hstep : relStep id size list now budget st (sb, true) = if mailed sb then { st with m := st.m.owe sb.addr id, sg := st.sg ++ [sb.addr] } else bump budget { st with m := st.m.owe sb.addr id } (addTo (st.m.owe sb.addr id) id sb.addr size list now) := by
    simp only [relStep, htake, hnow, Bool.and_self, Bool.not_false, if_true]
  have c1 : cellAt h x 1 = some (.string sb.addr) := (hs.at 1).cell 1
  have hsg := hst.sg
  have hfl := hst.fl
  refine cond_cases (fun hm => ?_) (fun hm => ?_)
  · unfold ptr
    simp only [go_sem, Nat.zero_add, c1]
    refine s_append_one (hs.pick 3) (row := [.string sb.addr]) rfl (by omega) (by omega) (by omega) rfl rfl (by simp [go_sem]) (by simp only [List.length_map]; omega) fun v' h1 hs => ?_
    refine rel_next (by omega) (hq h1 v' v17 v21 ?_)
    rw [hstep, if_pos hm]
    have e : (st.sg ++ [sb.addr]).map strRow = st.sg.map strRow ++ [[.string sb.addr]] := by simp [strRow]
    show Sep h1 (ledR p (st.m.owe sb.addr id) none :: bktsR v17 st.fl :: vecR v' 9 1 ((st.sg ++ [sb.addr]).map strRow) :: F)
    rw [e]
    exact hs.sel [1, 2, 0] |>.del 3
  · rw [hstep, if_neg (by simp [hm])] at hq
    have hids : ∀ b, (st.m.owe sb.addr id).bk list sb.addr = some b → b.ids.length ≤ N + 2 * k := fun b hb => hst.ok.ids _ _ _ hb
    cases hb : (st.m.owe sb.addr id).bk list sb.addr with
    | some b =>
      obtain ⟨sl, bb, bl, hs, c0, hl1, hl2⟩ := led_lend hs hb
      obtain ⟨hk1, hk2⟩ := hst.ok.key list sb.addr b hb
      have hone := bkt_one b (hs.at 0)
      unfold ptr
      simp only [go_sem, Nat.zero_add, c0, c1, hl1, hl2, lk, cond_true]
      refine s_alloc hs fun h1 bx hs => ?_
      refine s_store hs rfl rfl hone fun h2 hs => ?_
      simp only [go_sem, Bool.not_true]
      have hadd : addTo (st.m.owe sb.addr id) id sb.addr size list now = { b with ids := b.ids ++ [id], size := IntKind.i64.wrap (b.size + size) } := by simp [addTo, hb]
      rw [hadd] at hq
      have hs : Sep h2 (idsR b sl :: cellR bx ⟨bktRow b sl⟩ 36 :: ledR p (st.m.owe sb.addr id) (some (b.list, b.addr)) :: bktsR v17 st.fl :: cellR x ⟨subRow sb⟩ 40 :: strsR v16 st.sg :: F) := by
        rw [hk1, hk2]
        exact hs.sel [1, 0, 0, 1, 0, 0]
      refine rel_add (st := { st with m := st.m.owe sb.addr id }) hk1 hk2 (Nat.le_refl b.ids.length) (by have := hids b hb; omega) (by simp only; omega) hs fun h3 v' hs => ?_
      refine rel_next (by omega) (hq h3 v16 v' _ ?_)
      have hsgb : (bump budget { st with m := st.m.owe sb.addr id } { b with ids := b.ids ++ [id], size := IntKind.i64.wrap (b.size + size) }).sg = st.sg := by unfold bump; split <;> rfl
      rw [hsgb]
      exact hs
    | none =>
      obtain ⟨bb, bl, hs, c0, hl1, hl2⟩ := led_none hs hb
      unfold ptr
      simp only [go_sem, Nat.zero_add, c0, c1, hl1, hl2, lk, cond_true]
      refine s_alloc hs fun h1 bx hs => ?_
      refine s_store hs rfl rfl rfl fun h2 hs => ?_
      have c1 : cellAt h2 x 1 = some (.string sb.addr) := (hs.at 2).cell 1
      simp only [go_sem, Bool.not_false, c1]
      rw [build_of (cs := #[.int .i64 list, .string sb.addr, .slice none 0 0, .int .i64 0, .int .i64 now]) rfl]
      refine s_store hs rfl rfl rfl fun h3 hs => ?_
      have hadd : addTo (st.m.owe sb.addr id) id sb.addr size list now = { (⟨list, sb.addr, [], 0, now⟩ : Bkt) with ids := [] ++ [id], size := IntKind.i64.wrap (0 + size) } := by simp [addTo, hb]
      rw [hadd] at hq
      have hs := (hs.nilVec (e := 9) (sz := 1))
      have hs : Sep h3 (idsR ⟨list, sb.addr, [], 0, now⟩ (.slice none 0 0) :: cellR bx ⟨bktRow ⟨list, sb.addr, [], 0, now⟩ (.slice none 0 0)⟩ 36 :: ledR p (st.m.owe sb.addr id) (some (list, sb.addr)) :: bktsR v17 st.fl :: cellR x ⟨subRow sb⟩ 40 :: strsR v16 st.sg :: F) := hs.sel [0, 0, 0, 1, 0, 0]
      refine rel_add (b0 := ⟨list, sb.addr, [], 0, now⟩) (st := { st with m := st.m.owe sb.addr id }) rfl rfl (Nat.le_refl _) (by simp) (by simp only; omega) hs fun h4 v' hs => ?_
      refine rel_next (by omega) (hq h4 v16 v' _ ?_)
      have hsgb : ∀ b, (bump budget { st with m := st.m.owe sb.addr id } b).sg = st.sg := fun b => by unfold bump; split <;> rfl
      rw [hsgb]
      exact hs
structure RelI where
  k : Nat
  v16 : Value
  v17 : Value
  v19 : Value
  v21 : Value
def relVs (p : Nat) (id : ByteArray) (size list now budget : Int) (vs va : Value) (n : Nat) (s : RelI) : List Value :=
  [ptr p, .string id, .int .i64 size, .int .i64 list, .int .i64 now, vs, va, .int .i64 budget, s.v16, s.v17, s.v19, s.v21, vs, .int .i64 n, .int .i64 s.k]
set_option maxRecDepth 8000 in
theorem rel_round {q : LPost} {s : RelI} {st : RelSt} (hlt : s.k < subs.length) (hsl : subs.length ≤ 100) (hN : N ≤ 2147483648) (hst : RelOk st N s.k)
    (hsub : RowsR (fun _ => True) h vs 5 (subs.map subRow)) (hadm : RowsR (fun _ => True) h va 1 (adm.map boolRow))
    (hs : Sep h (ledR p st.m none :: bktsR s.v17 st.fl :: strsR s.v16 st.sg :: F))
    (hadm' : ∀ h', Sep h' F → RowsR (fun _ => True) h' va 1 (adm.map boolRow))
    (hbreak : adm.length ≤ s.k → ∀ h' v, Sep h' (ledR p st.m none :: bktsR s.v17 st.fl :: strsR s.v16 st.sg :: F) → q (.exit 0) (relVs p id size list now budget vs va subs.length { s with v19 := v }) h')
    (hq : ∀ (hge : s.k < adm.length) h' s' st', st' = relStep id size list now budget st (subs[s.k], adm[s.k]) → s'.k = s.k + 1 → Sep h' (ledR p st'.m none :: bktsR s'.v17 st'.fl :: strsR s'.v16 st'.sg :: F) →
      q .normal (relVs p id size list now budget vs va subs.length s') h') :
    f16_T9 q (relVs p id size list now budget vs va subs.length s) h := by
  obtain ⟨k, v16, v17, v19, v21⟩ := s
  simp only at hlt hst hs hbreak hq ⊢
  obtain ⟨b, o, cap, rfl, _, hc⟩ := hsub.at_ (k := k) (by simpa using hlt)
  simp only [List.length_map] at hsub hbreak hq hc ⊢
  generalize hsb : subs[k] = sb at hq
  have hki : o + (k : Int).toNat * 5 = o + k * 5 := by simp
  obtain ⟨aa, capa, hva⟩ := hadm.val
  subst hva
  simp only [List.length_map] at hadm hadm' hbreak hq ⊢
  simp (disch := omega) only [f16_T9, relVs, go_sem, index_slice, hki]
  refine load_cells (n := 5) (subRow sb) rfl (by omega) (fun j hj => ?_) ?_
  · rw [hc k j hlt hj]
    simp [hlt, hsb]
  refine s_alloc hs fun h1 x hs => ?_
  refine s_store hs rfl rfl rfl fun h2 hs => ?_
  have c2 : cellAt h2 x 2 = some (.int .i64 sb.mode) := (hs.at 0).cell 2
  have c1 : cellAt h2 x 1 = some (.string sb.addr) := (hs.at 0).cell 1
  simp (disch := omega) only [go_sem, Nat.zero_add, c2]
  refine cond_cases (fun hge => ?_) (fun hge => ?_)
  · have hge : adm.length ≤ k := by simpa using hge
    exact hbreak hge h2 _ hs.tail
  · have hge : k < adm.length := by simpa using hge
    have hq := hq hge
    obtain ⟨ab, ao, acap, hea, _, hca⟩ := (hadm' h2 hs.tail.tail.tail.tail).at_ (k := k) (by simpa using hge)
    simp only [Value.slice.injEq] at hea
    obtain ⟨rfl, _, _⟩ := hea
    have hka : ao + (k : Int).toNat * 1 = ao + k := by simp
    generalize hadm : adm[k] = ad at hq
    have hca : cellAt h2 ab (ao + k) = some (.bool ad) := by
      have h9 := hca k 0 (by simpa using hge) (by omega)
      simpa [hge, hadm, boolRow] using h9
    refine chain1 c2 ?_
    simp (disch := omega) only [go_sem, index_slice, hka, hca]
    refine chain2 c2 ?_
    have hml : (decide (sb.mode = 0) || decide (sb.mode = 2)) = mailed sb := rfl
    rw [hml]
    have hr : (!ad || (!mailed sb && !decide (sb.mode = 1))) = !(ad && takes sb) := by
      unfold takes
      cases ad <;> cases mailed sb <;> cases decide (sb.mode = 1) <;> rfl
    rw [hr]
    have hend : (ad && takes sb && !st.m.ow sb.addr id) = false → ∀ h', Sep h' (ledR p st.m none :: bktsR v17 st.fl :: strsR v16 st.sg :: F) →
        f16_T7 q [ptr p, .string id, .int .i64 size, .int .i64 list, .int .i64 now, .slice (some ⟨b, o, none⟩) subs.length cap, .slice (some ⟨ab, ao, none⟩) adm.length capa, .int .i64 budget, v16, v17, ptr x, v21, .slice (some ⟨b, o, none⟩) subs.length cap, .int .i64 subs.length, .int .i64 k] h' := by
      intro hgo h' hs
      refine rel_next (by omega) (hq h' ⟨k + 1, v16, v17, ptr x, v21⟩ st ?_ rfl hs)
      simp only [relStep, hgo, Bool.false_eq_true, if_false]
    refine chain3 c1 (fun hx => ?_) (fun hx => ?_)
    · simp only [go_sem]
      exact hend (by simp only [Bool.not_eq_true'] at hx; rw [hx]; rfl) h2 hs.tail
    · have htake : (ad && takes sb) = true := by simpa using hx
      obtain ⟨had, htk⟩ := Bool.and_eq_true_iff.1 htake
      subst had
      refine owe_fn hs.swap (fun how => ?_) (fun how h3 hs => ?_)
      · simp only [go_sem]
        exact hend (by rw [how]; simp) h2 hs.tail
      · have hraw := rel_sub (q := q) (k := k) (x := x) (sb := sb) (st := st) (size := size) (list := list) (now := now) (budget := budget) (id := id) (vs := .slice (some ⟨b, o, none⟩) subs.length cap) (va := .slice (some ⟨ab, ao, none⟩) adm.length capa) (v21 := v21)
          (v23 := .slice (some ⟨b, o, none⟩) subs.length cap) (v24 := .int .i64 subs.length) (by omega) hN hst how hs htk (fun h4 v16' v17' v21' hs => hq h4 ⟨k + 1, v16', v17', ptr x, v21'⟩ _ rfl rfl hs)
        unfold ptr at hraw ⊢
        simp (disch := omega) only [go_sem, Nat.zero_add, Bool.not_true] at hraw ⊢
        exact hraw
set_option maxRecDepth 8000 in
theorem rel_fn (hs : Sep h (ledR p m none :: F)) (hm : m.Ok N) (hN : N ≤ 2147483648) (hsl : subs.length ≤ 100) (hsub : ∀ h', Sep h' F → RowsR (fun _ => True) h' vs 5 (subs.map subRow)) (hadm : ∀ h', Sep h' F → RowsR (fun _ => True) h' va 1 (adm.map boolRow))
    (hk : ∀ h' v16 v17 st, st = rel id size list now budget m (subs.zip adm) → RelOk st N 100 → Sep h' (ledR p st.m none :: bktsR v17 st.fl :: strsR v16 st.sg :: F) → K (.tuple #[v16, v17]) h') :
    FnH Try.prog 16 #[ptr p, .string id, .int .i64 size, .int .i64 list, .int .i64 now, vs, va, .int .i64 budget] h K := by
  refine f16_fn ?_
  obtain ⟨av, caps, hvs⟩ := (hsub h hs.tail).val
  simp only [List.length_map] at hvs
  have hlen : ∀ K, oLen (some (.slice 40)) vs K h = K (.int .i64 subs.length) h := fun K => by rw [hvs]; rfl
  simp only [f16_T0, go_sem, hlen]
  let R : Nat → RelSt := fun k => rel id size list now budget m ((subs.zip adm).take k)
  have hR : ∀ k, RelOk (R k) N k := by
    intro k
    have h0 : RelOk ⟨m, [], []⟩ N 0 := ⟨hm, Nat.le_refl _, Nat.le_refl _⟩
    have := rel_ok (id := id) (size := size) (list := list) (now := now) (budget := budget) ((subs.zip adm).take k) _ 0 h0
    refine ⟨this.ok.mono ?_, Nat.le_trans this.fl ?_, Nat.le_trans this.sg ?_⟩ <;> (have := List.length_take_le k (subs.zip adm); omega)
  have hdone : ∀ k, (subs.zip adm).length ≤ k → R k = rel id size list now budget m (subs.zip adm) := by
    intro k hk
    simp only [R, List.take_of_length_le hk]
  have hzl : (subs.zip adm).length = min subs.length adm.length := List.length_zip
  have hfin : ∀ h' k s, (subs.zip adm).length ≤ k → Sep h' (ledR p (R k).m none :: bktsR s.v17 (R k).fl :: strsR s.v16 (R k).sg :: F) → s.k = k → f16_T2 (retL Try.prog f16_L Try.f16.results.toList K) (relVs p id size list now budget vs va subs.length s) h' := by
    intro h' k s hk' hs hsk
    simp only [f16_T2, relVs]
    rw [f16_ret]
    have hr := hdone k hk'
    rw [hr] at hs
    refine hk h' s.v16 s.v17 _ rfl ?_ hs
    have := hR (subs.zip adm).length
    rw [hdone _ (Nat.le_refl _)] at this
    exact ⟨this.ok.mono (by omega), by have := this.fl; omega, by have := this.sg; omega⟩
  refine LoopS.st (σ := RelI) (relVs p id size list now budget vs va subs.length)
    (fun s h' => Sep h' (ledR p (R s.k).m none :: bktsR s.v17 (R s.k).fl :: strsR s.v16 (R s.k).sg :: F) ∧ s.k ≤ subs.length ∧ s.k ≤ (subs.zip adm).length) (fun s => subs.length - s.k) ⟨0, .slice none 0 0, .slice none 0 0, undef, undef⟩ rfl ⟨?_, by simp, by simp⟩ ?_
  · exact ((hs.nilVec (e := 9) (sz := 1)).newOvec (e := 36) (sz := 5) (R := bktE)).sel [2, 0, 0]
  · intro s h2 hI
    obtain ⟨hs2, hle, hlz⟩ := hI
    by_cases hlt : s.k < subs.length
    · have hi : ((s.k : Int) < (subs.length : Int)) = True := by simp; omega
      simp (disch := omega) only [f16_T5, relVs, go_sem, hi, decide_true]
      refine rel_round (N := N) (st := R s.k) hlt hsl hN (hR s.k) (hsub h2 hs2.tail.tail.tail) (hadm h2 hs2.tail.tail.tail) hs2 hadm (fun hge h3 v hs3 => ?_) (fun hge h3 s' st' hst hk' hs3 => ?_)
      · exact hfin h3 s.k _ (by omega) hs3 rfl
      · have hz : s.k < (subs.zip adm).length := by omega
        have hRs : R s'.k = st' := by
          rw [hst, hk']
          simp only [R, rel]
          rw [List.take_succ_eq_append_getElem hz, List.foldl_append]
          simp
        rw [thenL_normal]
        refine NextSt.mk s' rfl ⟨?_, by omega, by omega⟩ (by omega)
        rw [hRs]; exact hs3
    · have hi : ((s.k : Int) < (subs.length : Int)) = False := by simp; omega
      simp (disch := omega) only [f16_T5, relVs, go_sem, hi, decide_false]
      exact hfin h2 s.k s (by omega) hs2 rfl
end
end Go.Proofs.Ythgbpfoadlemaaa

/- Drain and Due. -/
namespace Go.Proofs.Ythgbpfoadlemaaa
open Go.Fw
def memB (a : ByteArray) (al : List ByteArray) : Bool := al.any fun x => decide (x = a)
theorem memB_iff {a : ByteArray} {al : List ByteArray} : memB a al = true ↔ a ∈ al := by simp [memB]
def Led.delAll (m : Led) (l : Int) (al : List ByteArray) : Led := { m with bk := fun l' a' => if l' = l ∧ memB a' al = true then none else m.bk l' a' }
theorem delAll_nil (m : Led) (l : Int) : m.delAll l [] = m := by simp [Led.delAll, memB]
theorem delAll_snoc (m : Led) (l : Int) (al : List ByteArray) (a : ByteArray) : (m.delAll l al).del l a = m.delAll l (al ++ [a]) := by
  simp only [Led.delAll, Led.del, Led.mk.injEq, true_and]
  funext l' a'
  by_cases h1 : l' = l <;> by_cases h2 : a' = a <;> by_cases h3 : a' ∈ al <;> simp [h1, h2, h3, memB_iff]
theorem delAll_bk {m : Led} {l : Int} {al : List ByteArray} {a : ByteArray} (h : a ∉ al) : (m.delAll l al).bk l a = m.bk l a := by simp [Led.delAll, h, memB_iff]
section
variable {p : Nat} {m : Led} {h h0 : Heap} {F : List Res} {K : Kont} {N : Nat} {l now period : Int}
theorem addrs_len (hm : m.Ok N) {al : List ByteArray} (hal : al.Pairwise ltB) (hmem : ∀ a, a ∈ al ↔ m.bk l a ≠ none) : al.length ≤ N := by
  obtain ⟨L, hL, hc⟩ := hm.addrs l
  have hn : al.Nodup := hal.imp fun hab e => by subst e; exact ltB_irrefl _ hab
  have := nodup_len hn (L := L) (fun x hx => hc x ((hmem x).1 hx))
  omega
structure CutI where
  k : Nat
  v : Value
def gone (m : Led) (l : Int) (P : Bkt → Bool) (al : List ByteArray) : List ByteArray := al.filter fun a => (m.bk l a).any P
def cuts (m : Led) (l : Int) (P : Bkt → Bool) (al : List ByteArray) : List Bkt := (al.filterMap (m.bk l)).filter P
theorem gone_yes {P : Bkt → Bool} {al : List ByteArray} {a : ByteArray} {b : Bkt} (hb : m.bk l a = some b) (hP : P b = true) : gone m l P (al ++ [a]) = gone m l P al ++ [a] := by simp [gone, List.filter_append, hb, hP]
theorem gone_no {P : Bkt → Bool} {al : List ByteArray} {a : ByteArray} {b : Bkt} (hb : m.bk l a = some b) (hP : P b = false) : gone m l P (al ++ [a]) = gone m l P al := by simp [gone, List.filter_append, hb, hP]
theorem cuts_yes {P : Bkt → Bool} {al : List ByteArray} {a : ByteArray} {b : Bkt} (hb : m.bk l a = some b) (hP : P b = true) : cuts m l P (al ++ [a]) = cuts m l P al ++ [b] := by simp [cuts, List.filterMap_append, hb, hP]
theorem cuts_no {P : Bkt → Bool} {al : List ByteArray} {a : ByteArray} {b : Bkt} (hb : m.bk l a = some b) (hP : P b = false) : cuts m l P (al ++ [a]) = cuts m l P al := by simp [cuts, List.filterMap_append, hb, hP]
theorem cuts_len {P : Bkt → Bool} {al : List ByteArray} : (cuts m l P al).length ≤ al.length := Nat.le_trans (List.length_filter_le _ _) (List.length_filterMap_le _ _)
theorem notin_take {al : List ByteArray} (hal : al.Pairwise ltB) {k : Nat} (hk : k < al.length) : al[k] ∉ al.take k := by
  intro hmem
  obtain ⟨j, hj, he⟩ := List.mem_iff_getElem.1 hmem
  rw [List.length_take] at hj
  have hlt := List.pairwise_iff_getElem.1 hal j k (by omega) hk (by omega)
  rw [List.getElem_take] at he
  exact ltB_irrefl _ (he ▸ hlt)
theorem notin_gone {P : Bkt → Bool} {al : List ByteArray} (hal : al.Pairwise ltB) {k : Nat} (hk : k < al.length) : al[k] ∉ gone m l P (al.take k) := fun h => notin_take hal hk (List.mem_filter.1 h).1
set_option maxRecDepth 8000 in
theorem drain_fn (hs : Sep h (ledR p m none :: F)) (hm : m.Ok N) (hN : N ≤ 2147483648)
    (hk : ∀ h' v (al : List ByteArray), al.Pairwise ltB → (∀ a, a ∈ al ↔ m.bk l a ≠ none) → Sep h' (ledR p (m.delAll l (gone m l (fun _ => true) al)) none :: bktsR v (cuts m l (fun _ => true) al) :: F) → K v h') :
    FnH Try.prog 23 #[ptr p, .int .i64 l] h K := by
  refine f23_fn ?_
  simp only [f23_T0, go_sem]
  refine addrs_fn hs hm (by omega) fun h1 va al hs hal hmem => ?_
  have hlen := addrs_len hm hal hmem
  refine s_len (hs.at 0).rows ?_
  simp only [List.length_map]
  refine LoopS.st (σ := CutI) (fun s => [ptr p, .int .i64 l, .slice none 0 0, s.v, va, .int .i64 al.length, .int .i64 s.k])
    (fun s h' => Sep h' (bktsR s.v (cuts m l (fun _ => true) (al.take s.k)) :: strsR va al :: ledR p (m.delAll l (gone m l (fun _ => true) (al.take s.k))) none :: F) ∧ s.k ≤ al.length) (fun s => al.length - s.k) ⟨0, .slice none 0 0⟩ rfl ⟨?_, by simp⟩ ?_
  · simp only [List.take_zero, gone, cuts, List.filter_nil, List.filterMap_nil, delAll_nil]
    exact hs.newOvec
  · rintro ⟨k, v⟩ h2 ⟨hs, hkl⟩
    simp only at hs hkl ⊢
    by_cases hlt : k < al.length
    · have hi : ((k : Int) < (al.length : Int)) = True := by simp; omega
      simp only [f23_T5, go_sem, hi, decide_true]
      refine s_idx1 (x := .string al[k]) (hs.at 1).rows (by simpa using hlt) (by simp [strRow]) ?_
      have hbk := delAll_bk (m := m) (l := l) (notin_gone (m := m) (l := l) (P := fun _ => true) hal hlt)
      obtain ⟨b, hb⟩ : ∃ b, m.bk l al[k] = some b := Option.ne_none_iff_exists'.1 ((hmem _).1 (List.getElem_mem hlt))
      refine cut_fn (hs.pick 2) (fun hn => ?_) (fun b' hb' h3 sl hs => ?_)
      · rw [hbk, hb] at hn; cases hn
      · rw [hbk, hb] at hb'
        injection hb' with hb'
        subst hb'
        have hone := bkt_one b (hs.at 1)
        simp only [go_sem]
        refine s_alloc hs fun h4 bx hs => ?_
        refine s_store hs rfl rfl hone fun h5 hs => ?_
        rw [load_cellR (n := 5) (c := ⟨bktRow b sl⟩) (t := 36) (hs.at 0) rfl]
        have hcl : (cuts m l (fun _ => true) (al.take k)).length ≤ al.length := Nat.le_trans cuts_len (by simp; omega)
        refine s_push (hs.sel [3, 2]) rfl (by omega) (by omega) fun v' h6 hs => ?_
        simp (disch := omega) only [go_sem, bin_add_in]
        refine NextSt.mk ⟨k + 1, v'⟩ rfl ⟨?_, by simp only; omega⟩ (by simp only; omega)
        simp only
        rw [List.take_succ_eq_append_getElem hlt, cuts_yes hb rfl, gone_yes hb rfl, ← delAll_snoc]
        exact hs.sel [0, 2, 1] |>.del 3
    · have hi : ((k : Int) < (al.length : Int)) = False := by simp; omega
      simp only [f23_T5, go_sem, hi, decide_false, f23_T2, f23_ret]
      have hkk : k = al.length := by omega
      rw [hkk, List.take_length] at hs
      exact hk h2 v al hal hmem (hs.sel [2, 0] |>.del 2)
def oldB (now period : Int) (b : Bkt) : Bool := decide (period ≤ IntKind.i64.wrap (now - b.at_))
set_option maxRecDepth 8000 in
theorem due_fn (hs : Sep h (ledR p m none :: F)) (hm : m.Ok N) (hN : N ≤ 2147483648)
    (hk : ∀ h' v (al : List ByteArray), al.Pairwise ltB → (∀ a, a ∈ al ↔ m.bk l a ≠ none) → Sep h' (ledR p (m.delAll l (gone m l (oldB now period) al)) none :: bktsR v (cuts m l (oldB now period) al) :: F) → K v h') :
    FnH Try.prog 17 #[ptr p, .int .i64 l, .int .i64 now, .int .i64 period] h K := by
  refine f17_fn ?_
  simp only [f17_T0, go_sem]
  refine addrs_fn hs hm (by omega) fun h1 va al hs hal hmem => ?_
  have hlen := addrs_len hm hal hmem
  refine s_len (hs.at 0).rows ?_
  simp only [List.length_map]
  refine LoopS.st (σ := CutI) (fun s => [ptr p, .int .i64 l, .int .i64 now, .int .i64 period, .slice none 0 0, s.v, va, .int .i64 al.length, .int .i64 s.k])
    (fun s h' => Sep h' (bktsR s.v (cuts m l (oldB now period) (al.take s.k)) :: strsR va al :: ledR p (m.delAll l (gone m l (oldB now period) (al.take s.k))) none :: F) ∧ s.k ≤ al.length) (fun s => al.length - s.k) ⟨0, .slice none 0 0⟩ rfl ⟨?_, by simp⟩ ?_
  · simp only [List.take_zero, gone, cuts, List.filter_nil, List.filterMap_nil, delAll_nil]
    exact hs.newOvec
  · rintro ⟨k, v⟩ h2 ⟨hs, hkl⟩
    simp only at hs hkl ⊢
    by_cases hlt : k < al.length
    · have hi : ((k : Int) < (al.length : Int)) = True := by simp; omega
      simp only [f17_T5, go_sem, hi, decide_true]
      refine s_idx1 (x := .string al[k]) (hs.at 1).rows (by simpa using hlt) (by simp [strRow]) ?_
      have hbk := delAll_bk (m := m) (l := l) (notin_gone (m := m) (l := l) (P := oldB now period) hal hlt)
      obtain ⟨b, hb⟩ : ∃ b, m.bk l al[k] = some b := Option.ne_none_iff_exists'.1 ((hmem _).1 (List.getElem_mem hlt))
      have hfacts : ∃ (sl : Value) (bb : Nat) (bl : Option Nat), cellAt h2 p 1 = some (.map (some bb)) ∧
        (∀ K, oLookup (some (.int .i64, .map none)) false (.map (some bb)) (.int .i64 l) K h2 = K (.map bl) h2) ∧ (∀ K ok z, oLookup (some (.string, z)) ok (.map bl) (.string al[k]) K h2 = K (lk ok (.agg ⟨bktRow b sl⟩) true) h2) := by
        obtain ⟨sl, bb, bl, _, h1, h2, h3⟩ := led_lend (hs.pick 2) (hbk.trans hb)
        exact ⟨sl, bb, bl, h1, h2, h3⟩
      obtain ⟨sl0, bb, bl, c0, hl1, hl2⟩ := hfacts
      have hfld : ∀ K : Kont, oField (.one, 4) (.agg ⟨bktRow b sl0⟩) K h2 = K (.int .i64 b.at_) h2 := fun K => rfl
      unfold ptr
      simp only [go_sem, Nat.zero_add, c0, hl1, hl2, lk, cond_false, hfld, bin_sub]
      have hP : decide (period ≤ IntKind.i64.wrap (now - b.at_)) = oldB now period b := rfl
      rw [hP]
      refine cond_cases (fun hc => ?_) (fun hc => ?_)
      · refine cut_fn (hs.pick 2) (fun hn => ?_) (fun b' hb' h3 sl hs => ?_)
        · rw [hbk, hb] at hn; cases hn
        · rw [hbk, hb] at hb'
          injection hb' with hb'
          subst hb'
          have hone := bkt_one b (hs.at 1)
          simp only [go_sem]
          refine s_alloc hs fun h4 bx hs => ?_
          refine s_store hs rfl rfl hone fun h5 hs => ?_
          rw [load_cellR (n := 5) (c := ⟨bktRow b sl⟩) (t := 36) (hs.at 0) rfl]
          have hcl : (cuts m l (oldB now period) (al.take k)).length ≤ al.length := Nat.le_trans cuts_len (by simp; omega)
          refine s_push (hs.sel [3, 2]) rfl (by omega) (by omega) fun v' h6 hs => ?_
          simp (disch := omega) only [f17_T6, go_sem, bin_add_in]
          refine NextSt.mk ⟨k + 1, v'⟩ rfl ⟨?_, by simp only; omega⟩ (by simp only; omega)
          simp only
          rw [List.take_succ_eq_append_getElem hlt, cuts_yes hb hc, gone_yes hb hc, ← delAll_snoc]
          exact hs.sel [0, 2, 1] |>.del 3
      · simp (disch := omega) only [f17_T6, go_sem, bin_add_in]
        refine NextSt.mk ⟨k + 1, v⟩ rfl ⟨?_, by simp only; omega⟩ (by simp only; omega)
        simp only
        rw [List.take_succ_eq_append_getElem hlt, cuts_no hb hc, gone_no hb hc]
        exact hs
    · have hi : ((k : Int) < (al.length : Int)) = False := by simp; omega
      simp only [f17_T5, go_sem, hi, decide_false, f17_T2, f17_ret]
      have hkk : k = al.length := by omega
      rw [hkk, List.take_length] at hs
      exact hk h2 v al hal hmem (hs.sel [2, 0] |>.del 2)
end
end Go.Proofs.Ythgbpfoadlemaaa

/- What only reads the ledger: addresses, Owed, Clone. -/
namespace Go.Proofs.Ythgbpfoadlemaaa
open Go.Fw
section
variable {p : Nat} {m : Led} {q : Lent} {h h0 : Heap} {F : List Res} {K : Kont} {N : Nat} {l : Int} {a : ByteArray}
theorem led_cells (hr : (ledR p m q).has h) : ∃ bo bb, cellAt h p 0 = some (.map (some bo)) ∧ cellAt h p 1 = some (.map (some bb)) ∧ (nestR .string .string bo (owG m.ow) False owR).has h ∧ (nestR (.int .i64) .string bb m.bk True (bkR q)).has h := by
  obtain ⟨bo, bb, t, hs⟩ := led_open hr.sep
  exact ⟨bo, bb, (hs.at 0).cell 0, (hs.at 0).cell 1, hs.at 1, hs.at 2⟩
theorem led_look {b : Bkt} (hr : (ledR p m none).has h) (hb : m.bk l a = some b) : ∃ (sl : Value) (bb : Nat) (bl : Option Nat), (idsR b sl).has h ∧ cellAt h p 1 = some (.map (some bb)) ∧
    (∀ K, oLookup (some (.int .i64, .map none)) false (.map (some bb)) (.int .i64 l) K h = K (.map bl) h) ∧ (∀ K ok z, oLookup (some (.string, z)) ok (.map bl) (.string a) K h = K (lk ok (.agg ⟨bktRow b sl⟩) true) h) := by
  obtain ⟨sl, bb, bl, hs, h1, h2, h3⟩ := led_lend hr.sep hb
  exact ⟨sl, bb, bl, hs.at 0, h1, h2, h3⟩
/-- The same, for all heaps in which the ledger lies as it does in h. -/
theorem led_lookF {b : Bkt} (hr : (ledR p m none).has h) (hb : m.bk l a = some b) : ∃ (sl : Value), (idsR b sl).has h ∧ ∀ h', (frozenR h).has h' → ∃ (bb : Nat) (bl : Option Nat), cellAt h' p 1 = some (.map (some bb)) ∧
    (∀ K, oLookup (some (.int .i64, .map none)) false (.map (some bb)) (.int .i64 l) K h' = K (.map bl) h') ∧ (∀ K ok z, oLookup (some (.string, z)) ok (.map bl) (.string a) K h' = K (lk ok (.agg ⟨bktRow b sl⟩) true) h') := by
  obtain ⟨bo, bb, t, hs⟩ := led_open hr.sep
  obtain ⟨bl, hm1, hn, hin⟩ := (hs.at 2).nest
  cases hbl : bl l with
  | none => rw [hn l hbl] at hb; cases hb
  | some r =>
    obtain ⟨_, f, hm2, _, hv⟩ := hin l r hbl
    obtain ⟨v, hfv, hbk⟩ := hv a b hb
    have hbk : (bktR b v).has h := hbk
    obtain ⟨S, sl, S1, S2, ⟨rfl, _⟩, h2, _⟩ := hbk
    refine ⟨sl, ⟨S2, h2⟩, fun h' hz => ⟨bb, some r, ?_, fun K => ?_, fun K ok z => ?_⟩⟩
    · exact (frozen_has hz (hs.at 0)).cell 1
    · rw [(frozen_has hz hm1.has).mapF.look same_int, hbl]; rfl
    · rw [(frozen_has hz hm2.has).mapF.look same_str, hfv]; rfl
theorem owed_len (hm : m.Ok N) {al : List ByteArray} (hal : al.Nodup) (hmem : ∀ i, i ∈ al → m.ow a i = true) : al.length ≤ N := by
  obtain ⟨L, hL, hc⟩ := hm.ocov a
  have := nodup_len hal (L := L) (fun x hx => hc x (hmem x hx))
  omega
set_option maxRecDepth 8000 in
theorem owed_new (hr : (ledR p m q).has h) (hm : m.Ok N) (hN : N ≤ 4294967296) :
    FnNew Try.prog 15 #[ptr p, .string a] h (fun v Rs => ∃ al : List ByteArray, al.Pairwise ltB ∧ (∀ i, i ∈ al ↔ m.ow a i = true) ∧ Rs = [strsR v al]) := by
  refine FnNew.mk (f15_fn ?_)
  unfold ptr
  obtain ⟨bo, bb, c0, c1, hn, _⟩ := led_cells hr
  obtain ⟨bl, f, X, hl1, hf, hs2, _⟩ := hn.sep.nestView a same_str
  simp only [f15_T0, go_sem, Nat.zero_add, c0, hl1]
  refine s_rangeF (frozen_self h) ((frozen_self h).at 0) (hs2.at 0) fun h1 it es hn hes hs3 => ?_
  have hmem' : ∀ x, x ∈ es.map (·.1) ↔ m.ow a x = true := by
    intro x
    have hfx := hf x
    simp only [owG] at hfx
    rw [List.mem_map]
    constructor
    · rintro ⟨⟨y, v⟩, hy, rfl⟩
      have := (hes y v).1 hy
      cases ho : m.ow a y with
      | true => rfl
      | false => simp only [ho] at hfx; rw [hfx.1 rfl] at this; cases this
    · intro hx
      cases hfa : f x with
      | none => simp [hx, hfa] at hfx
      | some w => exact ⟨(x, w), (hes x w).2 hfa, rfl⟩
  have hlen : es.length ≤ N := by
    have := owed_len (a := a) hm hn (fun i hi => (hmem' i).1 hi)
    simpa using this
  refine LoopS.st (σ := List (ByteArray × Value) × Value) (fun s => [.pointer (some ⟨p, 0, none⟩), .string a, .slice none 0 0, s.2, .pointer (some ⟨it, 0, none⟩)])
    (fun s h' => Sep h' (vecR s.2 9 1 ((s.1.map (·.1)).map strRow) :: iterR .string it bl h es s.1 :: [frozenR h]) ∧ s.1.length ≤ es.length)
    (fun s => es.length - s.1.length) ([], .slice none 0 0) rfl ⟨hs3.nilVec, by simp⟩ ?_
  rintro ⟨done, v⟩ h2 ⟨hs4, hd⟩
  simp only at hs4 hd ⊢
  simp only [f15_T5]
  refine s_nextF str_inj hs4.swap (hs4.at 2) (fun hp => ?_) (fun x w h3 hx hs5 hleft => ?_)
  · simp only [go_sem, f15_T2]
    have hp' := hp.map (·.1)
    refine s_sort_strs Try.slices_Sort_string Try.slices_Sort_string_none ?_ hs4 fun h4 s hs6 hs hso => ?_
    · rw [hp'.length_eq, List.length_map]; omega
    · rw [f15_ret]
      have hperm := hs.trans hp'
      exact ⟨[strsR v s], ⟨s, sorted_lt hso (hperm.symm.nodup hn), fun i => by rw [hperm.mem_iff, hmem'], rfl⟩, hs6.sel [0, 1] |>.del 2⟩
  · obtain ⟨left, hleft⟩ := hleft
    have hdl : done.length + 1 ≤ es.length := by
      have := hleft.length_eq
      simp only [List.length_append, List.length_cons] at this
      omega
    simp only [go_sem, s_entryF (e := Value.string) (it := it) (r := bl) (l := es) (done := done) (x := x) (v := w) (hs5.at 0) (hs5.at 2)]
    refine s_append_one hs5.swap (row := [.string x]) rfl (by omega) (by omega) (by omega) rfl rfl (by simp [go_sem]) ?_ fun v' h' hs6 => ?_
    · simp only [List.length_map]; omega
    · refine NextSt.mk (done ++ [(x, w)], v') rfl ⟨?_, by simpa using hdl⟩ (by simp only [List.length_append, List.length_singleton]; omega)
      simpa [strRow] using hs6
set_option maxRecDepth 8000 in
theorem addrs_new (hr : (ledR p m q).has h) (hm : m.Ok N) (hN : N ≤ 4294967296) :
    FnNew Try.prog 25 #[ptr p, .int .i64 l] h (fun v Rs => ∃ al : List ByteArray, al.Pairwise ltB ∧ (∀ a, a ∈ al ↔ m.bk l a ≠ none) ∧ Rs = [strsR v al]) := by
  refine FnNew.mk (f25_fn ?_)
  unfold ptr
  obtain ⟨bo, bb, c0, c1, _, hn⟩ := led_cells hr
  obtain ⟨bl, f, X, hl1, hf, hs2, _⟩ := hn.sep.nestView l same_int
  simp only [f25_T0, go_sem, Nat.zero_add, c1, hl1]
  refine s_rangeF (frozen_self h) ((frozen_self h).at 0) (hs2.at 0) fun h1 it es hn hes hs3 => ?_
  have hmem' : ∀ x, x ∈ es.map (·.1) ↔ m.bk l x ≠ none := by
    intro x
    rw [List.mem_map]
    constructor
    · rintro ⟨⟨a, v⟩, hm, rfl⟩ e
      rw [hf, (hes a v).1 hm] at e; cases e
    · intro hne
      cases hfa : f x with
      | none => exact absurd ((hf x).2 hfa) hne
      | some w => exact ⟨(x, w), (hes x w).2 hfa, rfl⟩
  have hlen : es.length ≤ N := by
    obtain ⟨L, hL, hc⟩ := hm.addrs l
    have := nodup_len hn (L := L) (fun x hx => hc x ((hmem' x).1 hx))
    simp only [List.length_map] at this
    omega
  refine LoopS.st (σ := List (ByteArray × Value) × Value) (fun s => [.pointer (some ⟨p, 0, none⟩), .int .i64 l, .slice none 0 0, s.2, .pointer (some ⟨it, 0, none⟩)])
    (fun s h' => Sep h' (vecR s.2 9 1 ((s.1.map (·.1)).map strRow) :: iterR .string it bl h es s.1 :: [frozenR h]) ∧ s.1.length ≤ es.length)
    (fun s => es.length - s.1.length) ([], .slice none 0 0) rfl ⟨hs3.nilVec, by simp⟩ ?_
  rintro ⟨done, v⟩ h2 ⟨hs4, hd⟩
  simp only at hs4 hd ⊢
  simp only [f25_T5]
  refine s_nextF str_inj hs4.swap (hs4.at 2) (fun hp => ?_) (fun x w h3 hx hs5 hleft => ?_)
  · simp only [go_sem, f25_T2]
    have hp' := hp.map (·.1)
    refine s_sort_strs Try.slices_Sort_string Try.slices_Sort_string_none ?_ hs4 fun h4 s hs6 hs hso => ?_
    · rw [hp'.length_eq, List.length_map]; omega
    · rw [f25_ret]
      have hperm := hs.trans hp'
      exact ⟨[strsR v s], ⟨s, sorted_lt hso (hperm.symm.nodup hn), fun i => by rw [hperm.mem_iff, hmem'], rfl⟩, hs6.sel [0, 1] |>.del 2⟩
  · obtain ⟨left, hleft⟩ := hleft
    have hdl : done.length + 1 ≤ es.length := by
      have := hleft.length_eq
      simp only [List.length_append, List.length_cons] at this
      omega
    simp only [go_sem, s_entryF (e := Value.string) (it := it) (r := bl) (l := es) (done := done) (x := x) (v := w) (hs5.at 0) (hs5.at 2)]
    refine s_append_one hs5.swap (row := [.string x]) rfl (by omega) (by omega) (by omega) rfl rfl (by simp [go_sem]) ?_ fun v' h' hs6 => ?_
    · simp only [List.length_map]; omega
    · refine NextSt.mk (done ++ [(x, w)], v') rfl ⟨?_, by simpa using hdl⟩ (by simp only [List.length_append, List.length_singleton]; omega)
      simpa [strRow] using hs6
theorem clone_new {v : Value} {al : List ByteArray} {S : Nat → Prop} (hr : RowsR S h v 1 (al.map strRow)) (hl : al.length ≤ 4294967296) : FnNew Try.prog 26 #[v] h (fun v' Rs => Rs = [strsR v' al]) := by
  refine FnNew.mk (f26_fn ?_)
  obtain ⟨sa, cap, rfl⟩ := hr.val
  simp only [f26_T0, go_sem]
  cases sa with
  | none =>
    simp only [Option.isNone, go_sem, f26_ret]
    have : al = [] := by
      obtain ⟨a', c', h1, h2, h3, h4⟩ := hr
      simp only [Value.slice.injEq] at h1
      obtain ⟨rfl, _, _⟩ := h1
      cases al with
      | nil => rfl
      | cons x r => obtain ⟨b, o, h5, _⟩ := h4 (by simp); cases h5
    subst this
    exact ⟨[strsR (.slice none 0 0) []], rfl, (frozen_self h).nilVec⟩
  | some ad =>
    simp only [Option.isNone, go_sem]
    rw [build_slice_0]
    have hs := (frozen_self h).newVec (rows := []) (e := 9) (sz := 1) (n := 0) rfl (by simp) (by simp)
    refine s_append (S := S) hs (news := al.map strRow) rfl (by omega) (by omega) ?_ (by simp [strRow, go_sem]) (by simp only [List.length_nil, List.length_map]; omega) fun v' h' hs => ?_
    · exact hr.turn (by omega) (Turn.push ..)
    · rw [f26_ret]
      exact ⟨[strsR v' al], rfl, hs⟩
end
end Go.Proofs.Ythgbpfoadlemaaa

/- Buckets. -/
namespace Go.Proofs.Ythgbpfoadlemaaa
open Go.Fw
def keyLt (b c : Bkt) : Prop := b.list < c.list ∨ b.list = c.list ∧ ltB b.addr c.addr
/-- The buckets of a ledger, in order. -/
structure AllB (m : Led) (l : List Bkt) : Prop where
  sorted : l.Pairwise keyLt
  mem : ∀ b, b ∈ l ↔ m.bk b.list b.addr = some b
section
variable {p : Nat} {m : Led} {q : Lent} {h h0 : Heap} {F : List Res} {K : Kont} {N : Nat} {l : Int} {a : ByteArray}
theorem keyLt_irrefl (b : Bkt) : ¬ keyLt b b := by
  rintro (h | ⟨_, h⟩)
  · omega
  · exact ltB_irrefl _ h
theorem sorted_nodup {l : List Bkt} (hs : l.Pairwise keyLt) : (l.map fun b => (b.list, b.addr)).Nodup := by
  unfold List.Nodup
  rw [List.pairwise_map]
  refine hs.imp ?_
  rintro a b (h | ⟨_, h⟩) e
  · simp only [Prod.mk.injEq] at e; omega
  · simp only [Prod.mk.injEq] at e; rw [e.2] at h; exact ltB_irrefl _ h
theorem all_len (hm : m.Ok N) {l : List Bkt} (hs : l.Pairwise keyLt) (hmem : ∀ b ∈ l, m.bk b.list b.addr = some b) : l.length ≤ N := by
  obtain ⟨L, hL, hc⟩ := hm.cov
  have := nodup_len (sorted_nodup hs) (L := L) (fun x hx => by
    obtain ⟨b, hb, rfl⟩ := List.mem_map.1 hx
    exact hc _ _ (by rw [hmem b hb]; simp))
  simp only [List.length_map] at this
  omega
theorem nest_outer {α β γ : Type} [DecidableEq α] [DecidableEq β] {e1 : α → Value} {e2 : β → Value} {b : Nat} {G : α → β → Option γ} {R : α → β → γ → Value → Res} (hr : (nestR e1 e2 b G True R).has h) :
    ∃ f, (mapR e1 b f).has h ∧ ∀ a, f a = none ↔ ∀ k, G a k = none := by
  obtain ⟨bl, hm, h1, h2⟩ := hr.nest
  refine ⟨_, hm.has, fun a => ?_⟩
  cases hb : bl a with
  | none => simp [h1 a hb]
  | some r =>
    obtain ⟨hne, _⟩ := h2 a r hb
    obtain ⟨k, hk⟩ := hne trivial
    simp only [Option.map_some, reduceCtorEq, false_iff]
    exact fun hall => hk (hall k)
structure BuI where
  k : Nat
  v5 : Value
  v7 : Value
  v34 : Value
  v35 : Value
  v36 : Value
  bs : List Bkt
def buVs (p : Nat) (vl : Value) (n it : Nat) (s : BuI) : List Value :=
  [.pointer (some ⟨p, 0, none⟩), .slice none 0 0, vl, s.v5, s.v7, .pointer (some ⟨it, 0, none⟩), vl, .int .i64 n, .int .i64 s.k, s.v34, s.v35, s.v36]
structure InI where
  j : Nat
  v5 : Value
  bs : List Bkt
theorem keyed {b : Bkt} {hb : m.bk l a = some b} (hm : m.Ok N) : b.list = l ∧ b.addr = a := hm.key _ _ _ hb
set_option maxRecDepth 8000 in
/-- The buckets of one list are added. -/
theorem bkts_inner {vl v26 v27 v28 v15 : Value} {al : List ByteArray} {va v5 : Value} {bs : List Bkt} {q : LPost} {h1 : Heap} {ls : List Int} (hr : (ledR p m none).has h) (hm : m.Ok N) (hN : N ≤ 2147483648) (hal : al.Pairwise ltB) (hmem : ∀ a, a ∈ al ↔ m.bk l a ≠ none)
    (hs : Sep h1 (bktsR v5 bs :: strsR va al :: vecR vl 3 1 (ls.map fun x => [.int .i64 x]) :: [frozenR h])) (hbs : bs.Pairwise keyLt) (hlt : ∀ b ∈ bs, b.list < l) (hbm : ∀ b ∈ bs, m.bk b.list b.addr = some b)
    (hq : ∀ h2 v5' v36 bs', bs'.Pairwise keyLt → (∀ b, b ∈ bs' ↔ b ∈ bs ∨ b.list = l ∧ m.bk b.list b.addr = some b) → Sep h2 (bktsR v5' bs' :: vecR vl 3 1 (ls.map fun x => [.int .i64 x]) :: [frozenR h]) →
      f11_T9 q [.pointer (some ⟨p, 0, none⟩), .slice none 0 0, vl, v5', .int .i64 l, v15, v26, v27, v28, va, .int .i64 al.length, v36] h2) :
    f11_T14 q [.pointer (some ⟨p, 0, none⟩), .slice none 0 0, vl, v5, .int .i64 l, v15, v26, v27, v28, va, .int .i64 al.length, .int .i64 0] h1 := by
  have hlen := addrs_len hm hal hmem
  refine LoopS.st (σ := InI) (fun s => [.pointer (some ⟨p, 0, none⟩), .slice none 0 0, vl, s.v5, .int .i64 l, v15, v26, v27, v28, va, .int .i64 al.length, .int .i64 s.j])
    (fun s h' => Sep h' (bktsR s.v5 s.bs :: strsR va al :: vecR vl 3 1 (ls.map fun x => [.int .i64 x]) :: [frozenR h]) ∧ s.j ≤ al.length ∧ s.bs.Pairwise keyLt ∧ ∀ b, b ∈ s.bs ↔ b ∈ bs ∨ b.list = l ∧ b.addr ∈ al.take s.j ∧ m.bk b.list b.addr = some b)
    (fun s => al.length - s.j) ⟨0, v5, bs⟩ rfl ⟨hs, by simp, hbs, by simp⟩ ?_
  rintro ⟨j, v5, cs⟩ h2 ⟨hs, hj, hcs, hcm⟩
  simp only at hs hj hcs hcm ⊢
  by_cases hlt' : j < al.length
  · have hi : ((j : Int) < (al.length : Int)) = True := by simp; omega
    obtain ⟨b, hb⟩ : ∃ b, m.bk l al[j] = some b := Option.ne_none_iff_exists'.1 ((hmem _).1 (List.getElem_mem hlt'))
    obtain ⟨hbl, hba⟩ := hm.key _ _ _ hb
    have hids := hm.ids _ _ _ hb
    obtain ⟨sl, hsl, hlk⟩ := led_lookF hr hb
    obtain ⟨bb, bl, c1, hl1, hl2⟩ := hlk h2 (hs.at 3)
    simp only [f11_T15, go_sem, hi, decide_true]
    refine s_idx1 (x := .string al[j]) (hs.at 1).rows (by simpa using hlt') (by simp [strRow]) ?_
    simp only [go_sem, Nat.zero_add, c1, hl1, hl2, lk, cond_false]
    refine s_alloc hs fun h3 bx hs => ?_
    refine s_store hs rfl rfl (bkt_one b hsl) fun h4 hs => ?_
    have c2 : cellAt h4 bx 2 = some sl := (hs.at 0).cell 2
    simp only [c2, go_sem, Nat.zero_add]
    have hsl4 : (idsR b sl).has h4 := frozen_has (hs.at 4) hsl
    refine (clone_new hsl4.rows (by omega)).use hs fun h5 sl2 Rs hRs _ hs => ?_
    subst hRs
    have hone : oneC sl2 = true := by
      obtain ⟨o, hv⟩ := (hs.at 0).vec
      obtain ⟨x, c, rfl⟩ := hv.val
      rfl
    refine s_fld (hs.pick 1) (by exact (by decide : 2 < 5)) hone fun h6 hs => ?_
    have hs : Sep h6 (cellR bx ⟨bktRow b sl2⟩ 36 :: idsR b sl2 :: bktsR v5 cs :: strsR va al :: vecR vl 3 1 (ls.map fun x => [.int .i64 x]) :: [frozenR h]) := hs
    rw [load_cellR (n := 5) (c := ⟨bktRow b sl2⟩) (t := 36) (hs.at 0) rfl]
    have hcl : cs.length ≤ N := all_len hm hcs fun c hc => by
      rcases (hcm c).1 hc with h | h
      · exact hbm c h
      · exact h.2.2
    refine s_push (hs.sel [2, 1]) rfl (by omega) (by omega) fun v' h7 hs => ?_
    simp (disch := omega) only [go_sem, bin_add_in]
    refine NextSt.mk ⟨j + 1, v', cs ++ [b]⟩ rfl ⟨hs.sel [0, 1, 1] |>.del 3, by simp only; omega, ?_, fun c => ?_⟩ (by simp only; omega)
    · simp only
      rw [List.pairwise_append]
      refine ⟨hcs, by simp, fun c hc d hd => ?_⟩
      rw [List.mem_singleton] at hd
      subst hd
      rcases (hcm c).1 hc with h | ⟨h1, h2, h3⟩
      · exact .inl (by rw [hbl]; exact hlt c h)
      · refine .inr ⟨by rw [h1, hbl], ?_⟩
        rw [hba]
        obtain ⟨i, hi, he⟩ := List.mem_iff_getElem.1 h2
        rw [List.length_take] at hi
        rw [List.getElem_take] at he
        rw [← he]
        exact List.pairwise_iff_getElem.1 hal i j (by omega) hlt' (by omega)
    · simp only
      rw [List.mem_append, List.mem_singleton, hcm, List.take_succ_eq_append_getElem hlt', List.mem_append, List.mem_singleton]
      constructor
      · rintro ((h | ⟨h1, h2, h3⟩) | rfl)
        · exact .inl h
        · exact .inr ⟨h1, .inl h2, h3⟩
        · exact .inr ⟨hbl, .inr hba, by rw [hbl, hba]; exact hb⟩
      · rintro (h | ⟨h1, h2 | h2, h3⟩)
        · exact .inl (.inl h)
        · exact .inl (.inr ⟨h1, h2, h3⟩)
        · right
          rw [h1, h2, hb] at h3
          injection h3 with h3
          exact h3.symm
  · have hi : ((j : Int) < (al.length : Int)) = False := by simp; omega
    simp only [f11_T15, go_sem, hi, decide_false]
    refine hq h2 v5 _ cs hcs (fun b => ?_) (hs.del 1)
    rw [hcm]
    have hjj : j = al.length := by omega
    rw [hjj, List.take_length]
    constructor
    · rintro (h | ⟨h1, _, h3⟩)
      · exact .inl h
      · exact .inr ⟨h1, h3⟩
    · rintro (h | ⟨h1, h3⟩)
      · exact .inl h
      · exact .inr ⟨h1, (hmem _).2 (by rw [← h1, h3]; simp), h3⟩
def intRow (x : Int) : List Value := [.int .i64 x]
theorem lists_len (hm : m.Ok N) {ls : List Int} (hls : ls.Nodup) (hmem : ∀ l, l ∈ ls → ∃ a, m.bk l a ≠ none) : ls.length ≤ N := by
  obtain ⟨L, hL, hc⟩ := hm.cov
  have := nodup_len hls (L := L.map (·.1)) (fun x hx => by
    obtain ⟨a, ha⟩ := hmem x hx
    exact List.mem_map.2 ⟨(x, a), hc x a ha, rfl⟩)
  simp only [List.length_map] at this
  omega
set_option maxRecDepth 8000 in
theorem buckets_new (hr : (ledR p m none).has h) (hm : m.Ok N) (hN : N ≤ 2147483648) :
    FnNew Try.prog 11 #[ptr p] h (fun v Rs => ∃ bs, AllB m bs ∧ Rs = [bktsR v bs]) := by
  refine FnNew.mk (f11_fn ?_)
  unfold ptr
  obtain ⟨bo, bb, c0, c1, _, hn⟩ := led_cells hr
  obtain ⟨f, hf, hfn⟩ := nest_outer hn
  simp only [f11_T0, go_sem, Nat.zero_add, c1]
  refine s_rangeF (r := some bb) (f := f) (frozen_self h) ((frozen_self h).at 0) hf fun h1 it es hnd hes hs3 => ?_
  have hmem : ∀ l, l ∈ es.map (·.1) ↔ ∃ a, m.bk l a ≠ none := by
    intro l
    rw [List.mem_map]
    constructor
    · rintro ⟨⟨a, v⟩, hm, rfl⟩
      refine Classical.byContradiction fun hno => ?_
      have := (hfn a).2 (fun k => Classical.byContradiction fun hk => hno ⟨k, hk⟩)
      rw [(hes a v).1 hm] at this; cases this
    · rintro ⟨a, ha⟩
      cases hfa : f l with
      | none => exact absurd ((hfn l).1 hfa a) ha
      | some w => exact ⟨(l, w), (hes l w).2 hfa, rfl⟩
  have hlen : es.length ≤ N := by
    have := lists_len hm hnd (fun l hl => (hmem l).1 hl)
    simpa using this
  refine LoopS.st (σ := List (Int × Value) × Value) (fun s => [.pointer (some ⟨p, 0, none⟩), .slice none 0 0, s.2, undef, undef, .pointer (some ⟨it, 0, none⟩), undef, undef, undef, undef, undef, undef])
    (fun s h' => Sep h' (vecR s.2 3 1 ((s.1.map (·.1)).map intRow) :: iterR (.int .i64) it (some bb) h es s.1 :: [frozenR h]) ∧ s.1.length ≤ es.length)
    (fun s => es.length - s.1.length) ([], .slice none 0 0) rfl ⟨hs3.nilVec, by simp⟩ ?_
  rintro ⟨done, v⟩ h2 ⟨hs4, hd⟩
  simp only at hs4 hd ⊢
  simp only [f11_T18]
  refine s_nextF int_inj hs4.swap (hs4.at 2) (fun hp => ?_) (fun x w h3 hx hs5 hleft => ?_)
  · simp only [go_sem, f11_T2]
    have hp' := hp.map (·.1)
    refine s_sort_ints Try.slices_Sort_int Try.slices_Sort_int_none ?_ hs4 fun h4 ls hs6 hperm0 hso => ?_
    · rw [hp'.length_eq, List.length_map]; omega
    · have hperm := hperm0.trans hp'
      have hlt := sortedZ_lt hso (hperm.symm.nodup hnd)
      have hmem' : ∀ l, l ∈ ls ↔ ∃ a, m.bk l a ≠ none := fun l => by rw [hperm.mem_iff, hmem]
      have hll : ls.length ≤ N := by rw [hperm.length_eq, List.length_map]; exact hlen
      have hs7 : Sep h4 (vecR v 3 1 (ls.map fun x => [.int .i64 x]) :: [frozenR h]) := hs6.sel [0, 1] |>.del 2
      refine s_len (hs7.at 0).rows ?_
      simp only [List.length_map]
      refine LoopS.st (σ := BuI) (buVs p v ls.length it)
        (fun s h' => Sep h' (bktsR s.v5 s.bs :: vecR v 3 1 (ls.map fun x => [.int .i64 x]) :: [frozenR h]) ∧ s.k ≤ ls.length ∧ s.bs.Pairwise keyLt ∧ ∀ b, b ∈ s.bs ↔ b.list ∈ ls.take s.k ∧ m.bk b.list b.addr = some b)
        (fun s => ls.length - s.k) ⟨0, .slice none 0 0, undef, undef, undef, undef, []⟩ rfl ⟨hs7.newOvec, by simp, by simp, by simp⟩ ?_
      rintro ⟨k, v5, v7, v34, v35, v36, bs⟩ h5 ⟨hs8, hk, hbs, hbm⟩
      simp only [buVs] at hs8 hk hbs hbm ⊢
      by_cases hkl : k < ls.length
      · have hi : ((k : Int) < (ls.length : Int)) = True := by simp; omega
        simp only [f11_T7, f11_T11, go_sem, hi, decide_true]
        refine s_idx1 (x := .int .i64 ls[k]) (hs8.at 1).rows (by simpa using hkl) (by simp) ?_
        refine (addrs_new (l := ls[k]) (frozen_has (hs8.at 2) hr) hm (by omega)).use hs8 fun h6 va Rs hRs _ hs9 => ?_
        obtain ⟨al, hal, halm, rfl⟩ := hRs
        refine s_len (hs9.at 0).rows ?_
        simp only [List.length_map]
        refine bkts_inner (ls := ls) (bs := bs) hr hm hN hal halm (hs9.sel [1, 0, 0, 0]) hbs (fun b hb => ?_) (fun b hb => ((hbm b).1 hb).2) fun h7 v5' v36' bs' hbs' hbm' hs10 => ?_
        · obtain ⟨i, hi, he⟩ := List.mem_iff_getElem.1 ((hbm b).1 hb).1
          rw [List.length_take] at hi
          rw [List.getElem_take] at he
          rw [← he]
          exact List.pairwise_iff_getElem.1 hlt i k (by omega) hkl (by omega)
        · simp (disch := omega) only [f11_T9, go_sem, bin_add_in]
          refine NextSt.mk ⟨k + 1, v5', .int .i64 ls[k], va, .int .i64 al.length, v36', bs'⟩ rfl ⟨hs10, by simp only; omega, hbs', fun b => ?_⟩ (by simp only; omega)
          simp only
          rw [hbm', hbm, List.take_succ_eq_append_getElem hkl, List.mem_append, List.mem_singleton]
          constructor
          · rintro (⟨h1, h2⟩ | ⟨h1, h2⟩)
            · exact ⟨.inl h1, h2⟩
            · exact ⟨.inr h1, h2⟩
          · rintro ⟨h1 | h1, h2⟩
            · exact .inl ⟨h1, h2⟩
            · exact .inr ⟨h1, h2⟩
      · have hi : ((k : Int) < (ls.length : Int)) = False := by simp; omega
        simp only [f11_T7, go_sem, hi, decide_false, f11_T4, f11_ret]
        have hkk : k = ls.length := by omega
        rw [hkk, List.take_length] at hbm
        refine ⟨[bktsR v5 bs], ⟨bs, ⟨hbs, fun b => ?_⟩, rfl⟩, hs8.del 1⟩
        rw [hbm]
        exact ⟨fun h => h.2, fun h => ⟨(hmem' _).2 ⟨b.addr, by rw [h]; simp⟩, h⟩⟩
  · obtain ⟨left, hleft⟩ := hleft
    have hdl : done.length + 1 ≤ es.length := by
      have := hleft.length_eq
      simp only [List.length_append, List.length_cons] at this
      omega
    simp only [go_sem, s_entryF (e := Value.int .i64) (it := it) (r := some bb) (l := es) (done := done) (x := x) (v := w) (hs5.at 0) (hs5.at 2)]
    refine s_append_one hs5.swap (row := [.int .i64 x]) rfl (by omega) (by omega) (by omega) rfl rfl (by simp [go_sem]) ?_ fun v' h' hs6 => ?_
    · simp only [List.length_map]; omega
    · refine NextSt.mk (done ++ [(x, w)], v') rfl ⟨?_, by simpa using hdl⟩ (by simp only [List.length_append, List.length_singleton]; omega)
      simpa [intRow] using hs6
end
end Go.Proofs.Ythgbpfoadlemaaa

/- New and Copy. -/
namespace Go.Proofs.Ythgbpfoadlemaaa
open Go.Fw
def Led.nil : Led := ⟨fun _ _ => false, fun _ _ => none⟩
theorem nil_ok : Led.nil.Ok 0 := ⟨⟨[], by simp, fun _ _ h => absurd rfl h⟩, fun _ => ⟨[], by simp, fun _ h => by cases h⟩, (fun _ _ _ h => by cases h), (fun _ _ _ h => by cases h), (fun _ _ _ h => by cases h)⟩
section
variable {p : Nat} {m : Led} {q : Lent} {h h0 : Heap} {F : List Res} {K : Kont} {N : Nat} {l : Int} {a : ByteArray}
theorem new_fn (hs : Sep h F) (hk : ∀ h' p, Sep h' (ledR p Led.nil none :: F) → K (ptr p) h') : FnH Try.prog 9 #[] h K := by
  refine f9_fn ?_
  simp only [f9_T0, go_sem]
  have h1 := hs.newNest (e1 := .string) (e2 := .string) (ne := False) (R := owR)
  generalize hh1 : h.push (.map #[] 0) = h1h at *
  have hsz : h1h.size = h.size + 1 := by rw [← hh1]; simp
  have h2 := h1.newNest (e1 := .int .i64) (e2 := .string) (ne := True) (R := bkR none)
  generalize h1h.push (.map #[] 0) = h2h at *
  rw [build_of (cs := #[.map (some h.size), .map (some (h.size + 1))]) rfl]
  refine s_box h2 fun h3 b hs => ?_
  rw [f9_ret]
  refine hk h3 b (led_close (bo := h.size) (bb := h.size + 1) (t := 55) ?_)
  have h4 := hs.sel [0, 1, 0]
  rw [hsz] at h4
  exact h4
/-- What a copy holds once it has come past some addresses. -/
def owPart (m : Led) (al : List ByteArray) : Led := ⟨fun a i => memB a al && m.ow a i, fun _ _ => none⟩
theorem owPart_nil : owPart m [] = Led.nil := by simp [owPart, memB, Led.nil]
theorem putAll_none {bs : List Bkt} {m0 : Led} {l : Int} {a : ByteArray} (h : ∀ b ∈ bs, ¬ (b.list = l ∧ b.addr = a)) : (bs.foldl Led.put m0).bk l a = m0.bk l a := by
  induction bs generalizing m0 with
  | nil => rfl
  | cons b r ih =>
    rw [List.foldl_cons, ih (fun b hb => h b (List.mem_cons_of_mem _ hb))]
    have := h b (List.mem_cons_self ..)
    have : ¬ (l = b.list ∧ a = b.addr) := fun e => this ⟨e.1.symm, e.2.symm⟩
    simp [Led.put, this]
theorem putAll_some {bs : List Bkt} {m0 : Led} (hs : bs.Pairwise keyLt) : ∀ b ∈ bs, (bs.foldl Led.put m0).bk b.list b.addr = some b := by
  induction bs generalizing m0 with
  | nil => intro b hb; cases hb
  | cons c r ih =>
    intro b hb
    rw [List.pairwise_cons] at hs
    rcases List.mem_cons.1 hb with rfl | hb
    · rw [List.foldl_cons, putAll_none (fun c hc e => ?_)]
      · simp [Led.put]
      · rcases hs.1 c hc with h | ⟨_, h⟩
        · omega
        · rw [e.2] at h; exact ltB_irrefl _ h
    · exact ih hs.2 b hb
theorem putAll_ow {bs : List Bkt} {m0 : Led} : (bs.foldl Led.put m0).ow = m0.ow := by
  induction bs generalizing m0 with
  | nil => rfl
  | cons c r ih => rw [List.foldl_cons, ih]; rfl
theorem putAll_eq {bs : List Bkt} {m0 : Led} (hb : AllB m bs) (hm : m.Ok N) (how : m0.ow = m.ow) (hbk : ∀ l a, m0.bk l a = none) : bs.foldl Led.put m0 = m := by
  have h1 : (bs.foldl Led.put m0).bk = m.bk := by
    funext l a
    cases hla : m.bk l a with
    | none =>
      rw [putAll_none, hbk]
      rintro b hb' ⟨rfl, rfl⟩
      rw [(hb.mem b).1 hb'] at hla; cases hla
    | some b =>
      obtain ⟨rfl, rfl⟩ := hm.key _ _ _ hla
      exact putAll_some hb.sorted b ((hb.mem b).2 hla)
  have h2 : (bs.foldl Led.put m0).ow = m.ow := putAll_ow.trans how
  cases hh : bs.foldl Led.put m0 with
  | mk o b => rw [hh] at h1 h2; simp only at h1 h2; rw [h1, h2]
theorem owG_iff {o : ByteArray → ByteArray → Bool} {a i : ByteArray} : owG o a i = none ↔ o a i = false := by
  unfold owG
  cases o a i <;> simp
structure CpI where
  done : List (ByteArray × Value)
  v4 : Value
  v6 : Value
  v25 : Value
structure CkI where
  k : Nat
set_option maxRecDepth 8000 in
/-- One address of a copy. -/
theorem copy_inner {c it r2 : Nat} {al : List ByteArray} {q : LPost} {v39 v40 v41 v25 v4 v6 : Value} {h1 : Heap} {ad : ByteArray} {f2 : ByteArray → Option Value} {X : Res} (_ : m.Ok N) (_ : N ≤ 2147483648) (hnot : ad ∉ al)
    (hin : (mapR .string r2 f2).has h) (hf2 : ∀ i, owG m.ow ad i = none ↔ f2 i = none) (hs : Sep h1 (ledR c (owPart m al) none :: X :: [frozenR h])) (hent : ∀ K, oEntry (.pointer (some ⟨it, 0, none⟩)) K h1 = K (.tuple #[.string ad, .map (some r2)]) h1)
    (hq : ∀ h2 v4 v6 v25, Sep h2 (ledR c (owPart m (al ++ [ad])) none :: X :: [frozenR h]) → q .normal [.pointer (some ⟨p, 0, none⟩), .pointer none, .pointer (some ⟨c, 0, none⟩), v4, v6, .pointer (some ⟨it, 0, none⟩), v25, v39, v40, v41] h2) :
    f19_T13 q [.pointer (some ⟨p, 0, none⟩), .pointer none, .pointer (some ⟨c, 0, none⟩), v4, v6, .pointer (some ⟨it, 0, none⟩), v25, v39, v40, v41] h1 := by
  obtain ⟨n, _, hlen⟩ := (frozen_has (hs.at 2) hin).mapF.len (a := 9) (t := 4)
  simp only [f19_T13, go_sem, hent, hlen]
  have hs1 := hs.newMap (e := Value.string)
  generalize hhp : h1.push (.map #[] 0) = h2, h1.size = r at hs1
  refine s_rangeF (r := some r2) (f := f2) hs1 (hs1.at 3) hin fun h3 it2 es hnd hes hs2 => ?_
  have hmem : ∀ x, x ∈ es.map (·.1) ↔ m.ow ad x = true := by
    intro x
    rw [List.mem_map]
    constructor
    · rintro ⟨⟨y, v⟩, hy, rfl⟩
      cases ho : m.ow ad y with
      | true => rfl
      | false => have := (hf2 y).1 (owG_iff.2 ho); rw [(hes y v).1 hy] at this; cases this
    · intro hx
      cases hfa : f2 x with
      | none => have := owG_iff.1 ((hf2 x).2 hfa); rw [hx] at this; cases this
      | some w => exact ⟨(x, w), (hes x w).2 hfa, rfl⟩
  refine LoopS.st (σ := List (ByteArray × Value)) (fun _ => [.pointer (some ⟨p, 0, none⟩), .pointer none, .pointer (some ⟨c, 0, none⟩), .string ad, .map (some r), .pointer (some ⟨it, 0, none⟩), .pointer (some ⟨it2, 0, none⟩), v39, v40, v41])
    (fun s h' => Sep h' (mapR .string r (fun x => if memB x (s.map (·.1)) = true then some (.bool true) else none) :: iterR .string it2 (some r2) h es s :: ledR c (owPart m al) none :: X :: [frozenR h]) ∧ s.length ≤ es.length)
    (fun s => es.length - s.length) [] rfl ⟨by simpa [memB] using hs2.swap, by simp⟩ ?_
  rintro done h4 ⟨hs3, hd⟩
  simp only [f19_T18]
  refine s_nextF str_inj hs3.swap (hs3.at 4) (fun hp => ?_) (fun x w h5 hx hs4 hleft => ?_)
  · have hp' := hp.map (·.1)
    obtain ⟨bo, bb, t, hs5⟩ := led_open (hs3.sel [2])
    have c0 : cellAt h4 c 0 = some (.map (some bo)) := (hs5.at 0).cell 0
    simp only [go_sem, f19_T15, Nat.zero_add, c0]
    have hG : ∀ i, owG (owPart m al).ow ad i = none := fun i => by
      have : memB ad al = false := by simpa [Bool.eq_false_iff, memB_iff] using hnot
      simp [owG, owPart, this]
    have hGo : ∀ y, y ≠ ad → owG (owPart m (al ++ [ad])).ow y = owG (owPart m al).ow y := fun y hy => by
      funext i
      have : memB y (al ++ [ad]) = memB y al := by simp [memB, Ne.symm hy]
      simp [owG, owPart, this]
    obtain ⟨g, f1, hcase⟩ := (hs5.pick 1).nest ad
    have hs6 := hcase.elim (fun ⟨_, _, _, h⟩ => h.tail) (fun ⟨_, _, h⟩ => h)
    · refine s_put same_str hs6 fun h6 hs7 => ?_
      have hown : (fun x => if memB x (done.map (·.1)) = true then some (Value.bool true) else none) = (fun x => (owG m.ow ad x).map fun _ => Value.bool true) := by
        funext x
        have h1 : memB x (done.map (·.1)) = true ↔ m.ow ad x = true := by rw [memB_iff, hp'.mem_iff, hmem]
        cases ho : m.ow ad x with
        | true => simp [h1.2 ho, owG, ho]
        | false =>
          have : memB x (done.map (·.1)) = false := by rw [Bool.eq_false_iff, ne_eq, h1, ho]; simp
          simp [this, owG, ho]
      have hs8 := (hs7.pick 4)
      rw [hown] at hs8
      have hs9 := (hs8.newAll' (f := fun x => slotR (owR ad x) (owG m.ow ad x) ((owG m.ow ad x).map fun _ => Value.bool true)) (fun x => by
        cases owG m.ow ad x with
        | none => exact fun _ h => h
        | some u => exact ⟨rfl, fun _ h => h⟩)).swap.unomap
      have h10 := Sep.nestSome (G' := owG (owPart m (al ++ [ad])).ow) (R' := owR) (a := ad) hs9 (by simp) (fun y hy => by simp [hy]) (fun h => h.elim) (by
        funext i
        have : memB ad (al ++ [ad]) = true := by simp [memB]
        simp [owG, owPart, this]) hGo (fun _ _ => rfl)
      refine hq h6 _ _ _ ?_
      exact (led_close (bo := bo) (bb := bb) (t := t) (h10.sel [1, 0, 0])).del 1
  · obtain ⟨left, hleft⟩ := hleft
    have hdl : done.length + 1 ≤ es.length := by
      have := hleft.length_eq
      simp only [List.length_append, List.length_cons] at this
      omega
    simp only [go_sem, s_entryF (e := Value.string) (it := it2) (r := some r2) (l := es) (done := done) (x := x) (v := w) (hs4.at 0) (hs4.at 4)]
    refine s_put same_str hs4.swap fun h6 hs5 => ?_
    refine NextSt.mk (done ++ [(x, w)]) rfl ⟨?_, by simpa using hdl⟩ (by simp only [List.length_append, List.length_singleton]; omega)
    have e : (fun y => if y = x then some (Value.bool true) else if memB y (done.map (·.1)) = true then some (Value.bool true) else none) = (fun y => if memB y ((done ++ [(x, w)]).map (·.1)) = true then some (Value.bool true) else none) := by
      funext y
      by_cases hy : y = x
      · simp [hy, memB]
      · have : memB y ((done ++ [(x, w)]).map (·.1)) = memB y (done.map (·.1)) := by simp [memB, Ne.symm hy]
        rw [if_neg hy, this]
    rw [← e]
    exact hs5
theorem zip_drop {β : Type} {R : β → List Value → Res} {xs : List β} {rows : List (List Value)} (hl : rows.length = xs.length) {k : Nat} (hk : k < xs.length) :
    (List.zipWith R xs rows).drop k = R xs[k] (rows[k]'(by omega)) :: (List.zipWith R xs rows).drop (k + 1) := by
  have h1 : k < (List.zipWith R xs rows).length := by simp [List.length_zipWith]; omega
  rw [List.drop_eq_getElem_cons h1, List.getElem_zipWith]
theorem bktE_open {b : Bkt} {row : List Value} (hs : Sep h (bktE b row :: F)) : ∃ sl, row = bktRow b sl ∧ Sep h (idsR b sl :: F) := by
  obtain ⟨sl, hs⟩ := Sep.ex hs
  obtain ⟨e, hs⟩ := hs.star.pure
  exact ⟨sl, e, hs⟩
set_option maxRecDepth 8000 in
theorem copy_new (hr : (ledR p m none).has h) (hm : m.Ok N) (hN : N ≤ 2147483648) :
    FnNew Try.prog 19 #[ptr p] h (fun v Rs => ∃ c, v = ptr c ∧ Rs = [ledR c m none]) := by
  refine FnNew.mk (f19_fn ?_)
  unfold ptr
  simp only [f19_T0, go_sem]
  refine new_fn (frozen_self h) fun h1 c hs1 => ?_
  obtain ⟨bo, bb, c0, c1, hn, _⟩ := led_cells hr
  obtain ⟨bl, hm1, hn0, hin⟩ := hn.nest
  have c0' : cellAt h1 p 0 = some (.map (some bo)) := by
    have := frozen_has (hs1.at 1) hr
    rw [cellAt_congr (frozen_get (hs1.at 1) (lt_of_cell c0))]
    exact c0
  simp only [go_sem, Nat.zero_add, c0']
  refine s_rangeF (r := some bo) hs1 (hs1.at 1) hm1.has fun h2 it es hnd hes hs2 => ?_
  refine LoopS.st (σ := CpI) (fun s => [.pointer (some ⟨p, 0, none⟩), .pointer none, .pointer (some ⟨c, 0, none⟩), s.v4, s.v6, .pointer (some ⟨it, 0, none⟩), s.v25, undef, undef, undef])
    (fun s h' => Sep h' (ledR c (owPart m (s.done.map (·.1))) none :: iterR .string it (some bo) h es s.done :: [frozenR h]) ∧ s.done.length ≤ es.length)
    (fun s => es.length - s.done.length) ⟨[], undef, undef, undef⟩ rfl ⟨?_, by simp⟩ ?_
  · simp only [List.map_nil, owPart_nil]
    exact hs2.swap
  rintro ⟨done, v4, v6, v25⟩ h3 ⟨hs3, hd⟩
  simp only at hs3 hd ⊢
  simp only [f19_T10]
  refine s_nextF str_inj hs3.swap (hs3.at 2) (fun hp => ?_) (fun x w h5 hx hs4 hleft => ?_)
  · have hp' := hp.map (·.1)
    have how : (owPart m (done.map (·.1))).ow = m.ow := by
      funext a i
      simp only [owPart]
      by_cases ha : a ∈ done.map (·.1)
      · rw [memB_iff.2 ha]; simp
      · have h1 : memB a (done.map (·.1)) = false := by simpa [Bool.eq_false_iff, memB_iff] using ha
        rw [h1, Bool.false_and]
        rw [hp'.mem_iff] at ha
        cases hbl : bl a with
        | none => exact (owG_iff.1 (hn0 a hbl i)).symm
        | some r =>
          exact absurd (List.mem_map.2 ⟨(a, .map (some r)), (hes a _).2 (by rw [hbl]; rfl), rfl⟩) ha
    simp only [go_sem, f19_T2]
    refine (buckets_new (frozen_has (hs3.at 2) hr) hm hN).use hs3 fun h4 vb Rs hRs _ hs4 => ?_
    obtain ⟨bs, hbs, rfl⟩ := hRs
    obtain ⟨rows, hrl, hs5⟩ := Sep.ovec hs4
    have hbl : bs.length ≤ N := all_len hm hbs.sorted (fun b hb => (hbs.mem b).1 hb)
    refine s_len (hs5.at 0).rows ?_
    rw [hrl]
    have hs6 : Sep h4 (vecR vb 36 5 rows :: ledR c (owPart m (done.map (·.1))) none :: frozenR h :: List.zipWith bktE bs rows) := by
      have h9 : Sep h4 (elemsR bktE bs rows :: [vecR vb 36 5 rows, ledR c (owPart m (done.map (·.1))) none, frozenR h]) := (hs5.sel [1, 0, 0, 1]).del 4
      have h10 := h9.elems.perm (List.perm_append_comm)
      exact h10
    refine LoopS.st (σ := CkI) (fun s => [.pointer (some ⟨p, 0, none⟩), .pointer none, .pointer (some ⟨c, 0, none⟩), v4, v6, .pointer (some ⟨it, 0, none⟩), v25, vb, .int .i64 bs.length, .int .i64 s.k])
      (fun s h' => Sep h' (vecR vb 36 5 rows :: ledR c ((bs.take s.k).foldl Led.put (owPart m (done.map (·.1)))) none :: frozenR h :: (List.zipWith bktE bs rows).drop s.k) ∧ s.k ≤ bs.length)
      (fun s => bs.length - s.k) ⟨0⟩ rfl ⟨by simpa using hs6, by simp⟩ ?_
    rintro ⟨k⟩ h6 ⟨hs7, hk⟩
    simp only at hs7 hk ⊢
    by_cases hkl : k < bs.length
    · have hi : ((k : Int) < (bs.length : Int)) = True := by simp; omega
      rw [zip_drop hrl hkl] at hs7
      obtain ⟨sl, hrow, hs8⟩ := bktE_open (hs7.pick 3)
      simp only [f19_T7, go_sem, hi, decide_true]
      refine s_idxN (hs8.at 1).rows (by omega) (by omega) ?_
      rw [hrow]
      have hone := bkt_one bs[k] (hs8.at 0)
      refine s_alloc hs8 fun h7 bx hs9 => ?_
      refine s_store hs9 rfl rfl hone fun h8 hs10 => ?_
      rw [load_cellR (n := 5) (c := ⟨bktRow bs[k] sl⟩) (t := 36) (hs10.at 0) rfl]
      have hnone : ((bs.take k).foldl Led.put (owPart m (done.map (·.1)))).bk bs[k].list bs[k].addr = none := by
        rw [putAll_none]
        · rfl
        · rintro b hb ⟨e1, e2⟩
          obtain ⟨i, hi, he⟩ := List.mem_iff_getElem.1 hb
          rw [List.length_take] at hi
          rw [List.getElem_take] at he
          have := List.pairwise_iff_getElem.1 hbs.sorted i k (by omega) hkl (by omega)
          rw [he] at this
          rcases this with h | ⟨_, h⟩
          · omega
          · rw [e2] at h; exact ltB_irrefl _ h
      obtain ⟨_, _, hs11, _, _, _⟩ := led_none (hs10.pick 3) hnone
      refine keep_fn (hs11.sel [0, 1]) fun h9 hs12 => ?_
      simp (disch := omega) only [go_sem, bin_add_in]
      refine NextSt.mk ⟨k + 1⟩ rfl ⟨?_, by simp only; omega⟩ (by simp only; omega)
      simp only
      rw [List.take_succ_eq_append_getElem hkl, List.foldl_append]
      exact hs12.sel [2, 0] |>.del 2
    · have hi : ((k : Int) < (bs.length : Int)) = False := by simp; omega
      have hkk : k = bs.length := by omega
      simp only [f19_T7, go_sem, hi, decide_false, f19_T4, f19_ret]
      rw [hkk, List.take_length, putAll_eq (m := m) hbs hm how (fun _ _ => rfl)] at hs7
      refine ⟨[ledR c m none], ⟨c, rfl, rfl⟩, ?_⟩
      exact Sep.left (F := [ledR c m none, frozenR h]) (hs7.sel [1, 1])
  · obtain ⟨left, hleft⟩ := hleft
    have hdl : done.length + 1 ≤ es.length := by
      have := hleft.length_eq
      simp only [List.length_append, List.length_cons] at this
      omega
    have hw := (hes x w).1 hx
    cases hbl : bl x with
    | none => rw [hbl] at hw; cases hw
    | some r2 =>
      rw [hbl] at hw
      simp only [Option.map_some, Option.some.injEq] at hw
      subst hw
      obtain ⟨_, f2, hm2, hf2, _⟩ := hin x r2 hbl
      have hnot : x ∉ done.map (·.1) := by
        have h1 := (hleft.map (·.1)).nodup_iff.2 hnd
        rw [List.map_append, List.map_cons, List.nodup_append] at h1
        exact fun hmem => h1.2.2 x hmem x (List.mem_cons_self ..) rfl
      simp only [go_sem]
      refine copy_inner (N := N) hm hN hnot hm2.has hf2 hs4.swap (fun K => s_entryF (e := Value.string) (it := it) (r := some bo) (l := es) (done := done) (x := x) (v := .map (some r2)) (hs4.at 0) (hs4.at 2)) fun h6 v4 v6 v25 hs5 => ?_
      rw [thenL_normal]
      refine NextSt.mk ⟨done ++ [(x, .map (some r2))], v4, v6, v25⟩ rfl ⟨?_, by simpa using hdl⟩ (by simp only [List.length_append, List.length_singleton]; omega)
      simpa using hs5
end
end Go.Proofs.Ythgbpfoadlemaaa

/- Merge. -/
namespace Go.Proofs.Ythgbpfoadlemaaa
open Go.Fw
def digs (to : List Sub) (a : ByteArray) : Bool := to.any fun s => decide (s.mode = 1) && decide (s.addr = a)
def mrg (m : Led) (into : Int) (b : Bkt) : Bkt :=
  match m.bk into b.addr with
  | none => { b with list := into }
  | some g => { g with ids := g.ids ++ b.ids, size := IntKind.i64.wrap (g.size + b.size), at_ := if b.at_ < g.at_ then b.at_ else g.at_ }
/-- The ledger once the buckets of these addresses have been moved. -/
def mgLed (m : Led) (src into : Int) (to : List Sub) (al : List ByteArray) : Led :=
  { m with bk := fun l a => if l = src then none else if l = into ∧ memB a al = true ∧ digs to a = true then (m.bk src a).map (mrg m into) else m.bk l a }
def mgCut (m : Led) (src : Int) (to : List Sub) (al : List ByteArray) : List Bkt := (al.filterMap (m.bk src)).filter fun b => !digs to b.addr
section
variable {p : Nat} {m : Led} {q : Lent} {h h0 : Heap} {F : List Res} {K : Kont} {N : Nat} {src into : Int} {a : ByteArray} {to : List Sub} {vt : Value}
theorem memB_snoc {a x : ByteArray} {al : List ByteArray} : memB a (al ++ [x]) = true ↔ memB a al = true ∨ a = x := by simp [memB_iff]
theorem mg_put {al : List ByteArray} {x : ByteArray} {b : Bkt} (hm : m.Ok N) (hne : src ≠ into) (hb : m.bk src x = some b) (hd : digs to x = true) :
    (mgLed m src into to al).put (mrg m into b) = mgLed m src into to (al ++ [x]) := by
  obtain ⟨h1, h2⟩ := hm.key _ _ _ hb
  have hk : (mrg m into b).list = into ∧ (mrg m into b).addr = x := by
    unfold mrg
    split
    · exact ⟨rfl, h2⟩
    · rename_i g hg
      obtain ⟨h3, h4⟩ := hm.key _ _ _ hg
      exact ⟨h3, h4.trans h2⟩
  simp only [mgLed, Led.put, hk, Led.mk.injEq, true_and]
  funext l a
  by_cases e1 : l = into
  · subst e1
    by_cases e2 : a = x
    · subst e2
      simp [hne.symm, memB_snoc, hd, hb]
    · simp [e2, hne.symm, memB_snoc]
  · by_cases e3 : l = src
    · subst e3; simp [hne]
    · simp [e1, e3]
theorem mg_skip {al : List ByteArray} {x : ByteArray} (hd : digs to x = false) : mgLed m src into to (al ++ [x]) = mgLed m src into to al := by
  simp only [mgLed, Led.mk.injEq, true_and]
  funext l a
  by_cases e : a = x
  · subst e; simp [hd]
  · have : memB a (al ++ [x]) = true ↔ memB a al = true := by rw [memB_snoc]; simp [e]
    simp [this]
theorem mg_at {al : List ByteArray} {x : ByteArray} (hne : src ≠ into) (hx : x ∉ al) : (mgLed m src into to al).bk into x = m.bk into x := by
  have : ¬ memB x al = true := by rw [memB_iff]; exact hx
  simp [mgLed, hne.symm, this]
theorem mg_start {al : List ByteArray} (hmem : ∀ a, a ∈ al ↔ m.bk src a ≠ none) : m.delAll src (gone m src (fun _ => true) al) = mgLed m src into to [] := by
  simp only [mgLed, Led.delAll, Led.mk.injEq, true_and]
  funext l a
  by_cases e : l = src
  · subst e
    simp only [true_and, if_true]
    split
    · rfl
    · rename_i hn
      rw [memB_iff] at hn
      refine Classical.byContradiction fun hh => hn (List.mem_filter.2 ⟨(hmem a).2 hh, ?_⟩)
      cases hb : m.bk l a with
      | none => exact absurd hb hh
      | some b => rfl
  · simp [e, memB]
structure DgI where
  k : Nat
set_option maxRecDepth 8000 in
theorem digs_loop {h1 : Heap} {r : Nat} {q : LPost} {v8 v12 v36 v37 v38 : Value} (hsl : to.length ≤ 100) (hto : ∀ h', Sep h' F → RowsR (fun _ => True) h' vt 5 (to.map subRow)) (hs : Sep h1 (mapR .string r (fun _ => none) :: F))
    (hq : ∀ h2 v22 v23, Sep h2 (mapR .string r (fun a => if digs to a = true then some (.bool true) else none) :: F) → f20_T2 q [ptr p, .int .i64 src, .int .i64 into, vt, v8, .map (some r), v12, vt, v22, v23, v36, v37, v38] h2) :
    f20_T10 q [ptr p, .int .i64 src, .int .i64 into, vt, v8, .map (some r), v12, vt, .int .i64 to.length, .int .i64 0, v36, v37, v38] h1 := by
  refine LoopS.st (σ := DgI) (fun s => [ptr p, .int .i64 src, .int .i64 into, vt, v8, .map (some r), v12, vt, .int .i64 to.length, .int .i64 s.k, v36, v37, v38])
    (fun s h' => Sep h' (mapR .string r (fun a => if digs (to.take s.k) a = true then some (.bool true) else none) :: F) ∧ s.k ≤ to.length) (fun s => to.length - s.k) ⟨0⟩ rfl ⟨by simpa [digs] using hs, by simp⟩ ?_
  rintro ⟨k⟩ h2 ⟨hs, hk⟩
  simp only at hs hk ⊢
  by_cases hlt : k < to.length
  · have hi : ((k : Int) < (to.length : Int)) = True := by simp; omega
    simp only [f20_T11, go_sem, hi, decide_true]
    refine s_idxN (hto h2 hs.tail) (by simpa using hlt) (by omega) ?_
    rw [List.getElem_map]
    generalize hsb : to[k] = sb
    refine s_alloc hs fun h3 x hs => ?_
    refine s_store hs rfl rfl rfl fun h4 hs => ?_
    have c2 : cellAt h4 x 2 = some (.int .i64 sb.mode) := (hs.at 0).cell 2
    have c1 : cellAt h4 x 1 = some (.string sb.addr) := (hs.at 0).cell 1
    simp only [go_sem, Nat.zero_add, c2]
    have htk : to.take (k + 1) = to.take k ++ [sb] := by rw [List.take_succ_eq_append_getElem hlt, hsb]
    refine cond_cases (fun hc => ?_) (fun hc => ?_)
    · simp only [go_sem, c1]
      refine s_put same_str hs.swap fun h5 hs => ?_
      simp (disch := omega) only [f20_T12, go_sem, bin_add_in]
      refine NextSt.mk ⟨k + 1⟩ rfl ⟨?_, by simp only; omega⟩ (by simp only; omega)
      have hm1 : sb.mode = 1 := by simpa using hc
      have e : (fun a => if a = sb.addr then some (Value.bool true) else if digs (to.take k) a = true then some (.bool true) else none) = (fun a => if digs (to.take (k + 1)) a = true then some (.bool true) else none) := by
        funext a
        rw [htk]
        by_cases ha : a = sb.addr
        · simp [ha, digs, hm1]
        · have : digs (to.take k ++ [sb]) a = digs (to.take k) a := by simp [digs, Ne.symm ha]
          rw [if_neg ha, this]
      simp only
      rw [← e]
      exact hs.del 1
    · simp (disch := omega) only [f20_T12, go_sem, bin_add_in]
      refine NextSt.mk ⟨k + 1⟩ rfl ⟨?_, by simp only; omega⟩ (by simp only; omega)
      have hm1 : ¬ sb.mode = 1 := by simpa using hc
      have e : (fun a => if digs (to.take k) a = true then some (Value.bool true) else none) = (fun a => if digs (to.take (k + 1)) a = true then some (.bool true) else none) := by
        funext a
        rw [htk]
        have : digs (to.take k ++ [sb]) a = digs (to.take k) a := by simp [digs, hm1]
        rw [this]
      simp only
      rw [← e]
      exact hs.tail
  · have hi : ((k : Int) < (to.length : Int)) = False := by simp; omega
    have hkk : k = to.length := by omega
    simp only [f20_T11, go_sem, hi, decide_false]
    rw [hkk, List.take_length] at hs
    exact hq h2 _ _ hs
theorem mgCut_yes {al : List ByteArray} {x : ByteArray} {b : Bkt} (hb : m.bk src x = some b) (hd : digs to b.addr = false) : mgCut m src to (al ++ [x]) = mgCut m src to al ++ [b] := by
  simp [mgCut, List.filterMap_append, hb, hd]
theorem mgCut_no {al : List ByteArray} {x : ByteArray} {b : Bkt} (hb : m.bk src x = some b) (hd : digs to b.addr = true) : mgCut m src to (al ++ [x]) = mgCut m src to al := by
  simp [mgCut, List.filterMap_append, hb, hd]
structure MgI where
  k : Nat
  v12 : Value
set_option maxRecDepth 8000 in
/-- One bucket is moved or cut. -/
theorem mg_round {h1 : Heap} {r k : Nat} {q : LPost} {v8 v12 v22 v23 v36 v37 : Value} {al : List ByteArray} {b : Bkt} {sl : Value} {rows : List (List Value)} (hm : m.Ok N) (hN : N ≤ 1073741824) (hne : src ≠ into) (hk : k < al.length) (hal : al.Pairwise ltB) (hb : m.bk src al[k] = some b) (hall : al.length ≤ N)
    (hrow : rows[k]? = some (bktRow b sl)) (hcutl : (mgCut m src to (al.take k)).length ≤ al.length) (_ : (k : Int) < al.length) (hrows : rows.length = al.length)
    (hs : Sep h1 (ledR p (mgLed m src into to (al.take k)) none :: bktsR v12 (mgCut m src to (al.take k)) :: mapR .string r (fun a => if digs to a = true then some (.bool true) else none) :: vecR v36 36 5 rows :: idsR b sl :: F))
    (hq : ∀ h2 v12', Sep h2 (ledR p (mgLed m src into to (al.take (k + 1))) none :: bktsR v12' (mgCut m src to (al.take (k + 1))) :: mapR .string r (fun a => if digs to a = true then some (.bool true) else none) :: vecR v36 36 5 rows :: F) →
      q .normal [ptr p, .int .i64 src, .int .i64 into, vt, v8, .map (some r), v12', vt, v22, v23, v36, v37, .int .i64 ((k + 1 : Nat) : Int)] h2) (hv37 : v37 = .int .i64 al.length) :
    f20_T7 q [ptr p, .int .i64 src, .int .i64 into, vt, v8, .map (some r), v12, vt, v22, v23, v36, v37, .int .i64 k] h1 := by
  subst hv37
  obtain ⟨h1k, h2k⟩ := hm.key _ _ _ hb
  have hone := bkt_one b (hs.at 4)
  have hi : ((k : Int) < (al.length : Int)) = True := by simp; omega
  have htk : al.take (k + 1) = al.take k ++ [al[k]] := List.take_succ_eq_append_getElem hk
  have hnext : ∀ {v12 : Value} {h2 : Heap}, q .normal [ptr p, .int .i64 src, .int .i64 into, vt, v8, .map (some r), v12, vt, v22, v23, v36, .int .i64 al.length, .int .i64 ((k + 1 : Nat) : Int)] h2 →
      f20_T8 q [ptr p, .int .i64 src, .int .i64 into, vt, v8, .map (some r), v12, vt, v22, v23, v36, .int .i64 al.length, .int .i64 k] h2 := by
    intro v12 h2 hh
    simp (disch := omega) only [f20_T8, go_sem, bin_add_in]
    exact hh
  simp only [f20_T7, go_sem, hi, decide_true]
  refine s_idxN (hs.at 3).rows (by omega) (by omega) ?_
  rw [(List.getElem_eq_iff _).2 hrow]
  refine s_alloc hs fun h2 x hs => ?_
  refine s_store hs rfl rfl hone fun h3 hs => ?_
  have c1 : cellAt h3 x 1 = some (.string b.addr) := (hs.at 0).cell 1
  have hlk : ∀ K, oLookup (some (.string, .bool false)) false (.map (some r)) (.string b.addr) K h3 = K (.bool (digs to b.addr)) h3 := fun K => by
    rw [(hs.at 3).mapF.look same_str]
    cases digs to b.addr <;> rfl
  simp only [go_sem, Nat.zero_add, c1, hlk]
  refine cond_cases (fun hc => ?_) (fun hc => ?_)
  · have hd : digs to al[k] = false := by rw [← h2k]; simpa using hc
    rw [load_cellR (n := 5) (c := ⟨bktRow b sl⟩) (t := 36) (hs.at 0) rfl]
    refine s_push (hs.sel [2, 4]) rfl (by omega) (by omega) fun v' h4 hs => ?_
    refine hnext (hq h4 v' ?_)
    rw [htk, mg_skip hd]
    rw [mgCut_yes hb (by rw [h2k]; exact hd)]
    exact hs.sel [2, 0, 1, 1] |>.del 4
  · have hd : digs to al[k] = true := by rw [← h2k]; simpa using hc
    have hat := mg_at (m := m) (to := to) hne (notin_take hal hk)
    rw [← h2k] at hat
    have hcut : mgCut m src to (al.take k ++ [al[k]]) = mgCut m src to (al.take k) := mgCut_no hb (by rw [h2k]; exact hd)
    have hput := mg_put (al := al.take k) hm hne hb hd
    rw [← htk] at hput hcut
    have hids := hm.ids _ _ _ hb
    unfold ptr at hnext ⊢
    cases hg : m.bk into b.addr with
    | none =>
      obtain ⟨bb, bl, hs, c0, hl1, hl2⟩ := led_none (hs.pick 1) (hat.trans hg)
      have c1 : cellAt h3 x 1 = some (.string b.addr) := (hs.at 1).cell 1
      simp only [go_sem, Nat.zero_add, c0, hl1, c1, hl2, lk, cond_true]
      refine s_alloc hs fun h4 y hs => ?_
      refine s_store hs rfl rfl rfl fun h5 hs => ?_
      simp only [go_sem, Bool.not_false]
      refine s_fld (hs.pick 2) (by exact (by decide : 0 < 5)) rfl fun h6 hs => ?_
      have hmb : mrg m into b = { b with list := into } := by simp [mrg, hg]
      have ecell : (⟨bktRow b sl⟩ : Array Value).setIfInBounds 0 (.int .i64 into) = ⟨bktRow (mrg m into b) sl⟩ := by rw [hmb]; rfl
      rw [ecell] at hs
      rw [load_cellR (n := 5) (c := ⟨bktRow (mrg m into b) sl⟩) (t := 36) (hs.at 0) rfl]
      have hs : Sep h6 (ledR p (mgLed m src into to (al.take k)) (some ((mrg m into b).list, (mrg m into b).addr)) :: idsR (mrg m into b) sl :: bktsR v12 (mgCut m src to (al.take k)) :: mapR .string r (fun a => if digs to a = true then some (.bool true) else none) :: vecR v36 36 5 rows :: F) := by
        rw [hmb]
        exact hs.sel [2, 5, 2, 2, 2] |>.del 5 |>.del 5
      refine keep_fn hs fun h7 hs => ?_
      refine hnext (hq h7 v12 ?_)
      rw [hput] at hs
      rw [hcut]
      exact hs
    | some g =>
      obtain ⟨slg, bb, bl, hs, c0, hl1, hl2⟩ := led_lend (hs.pick 1) (hat.trans hg)
      obtain ⟨h3k, h4k⟩ := hm.key _ _ _ hg
      have hidg := hm.ids _ _ _ hg
      have honeg := bkt_one g (hs.at 0)
      have c1 : cellAt h3 x 1 = some (.string b.addr) := (hs.at 2).cell 1
      simp only [go_sem, Nat.zero_add, c0, hl1, c1, hl2, lk, cond_true]
      refine s_alloc hs fun h4 y hs => ?_
      refine s_store hs rfl rfl honeg fun h5 hs => ?_
      have cy2 : cellAt h5 y 2 = some slg := (hs.at 0).cell 2
      have cx2 : cellAt h5 x 2 = some sl := (hs.at 3).cell 2
      simp only [go_sem, Bool.not_true, Nat.zero_add, cy2, cx2]
      refine s_append (S := fun _ => True) (hs.pick 1) (news := b.ids.map strRow) rfl (by omega) (by omega) (hs.at 7).rows (by simp [strRow, go_sem]) (by simp only [List.length_map]; omega) fun sl' h6 hs => ?_
      have honesl : oneC sl' = true := by
        obtain ⟨o, hv⟩ := (hs.at 0).vec
        obtain ⟨a, c, rfl⟩ := hv.val
        rfl
      refine s_fld (hs.pick 1) (by exact (by decide : 2 < 5)) honesl fun h7 hs => ?_
      have cy3 : cellAt h7 y 3 = some (.int .i64 g.size) := (hs.at 0).cell 3
      have cx3 : cellAt h7 x 3 = some (.int .i64 b.size) := (hs.at 3).cell 3
      simp only [cy3, cx3, go_sem, bin_add]
      refine s_fld hs (by exact (by decide : 3 < 5)) rfl fun h8 hs => ?_
      have cy4 : cellAt h8 y 4 = some (.int .i64 g.at_) := (hs.at 0).cell 4
      have cx4 : cellAt h8 x 4 = some (.int .i64 b.at_) := (hs.at 3).cell 4
      simp only [cy4, cx4, go_sem]
      refine s_fld hs (by exact (by decide : 4 < 5)) rfl fun h9 hs => ?_
      have hmb : mrg m into b = { g with ids := g.ids ++ b.ids, size := IntKind.i64.wrap (g.size + b.size), at_ := if b.at_ < g.at_ then b.at_ else g.at_ } := by simp [mrg, hg]
      have e : (mrg m into b).ids.map strRow = g.ids.map strRow ++ b.ids.map strRow := by rw [hmb]; simp
      have ecell : ((((⟨bktRow g slg⟩ : Array Value).setIfInBounds 2 sl').setIfInBounds 3 (.int .i64 (IntKind.i64.wrap (g.size + b.size)))).setIfInBounds 4 (.int .i64 (if b.at_ < g.at_ then b.at_ else g.at_))) = ⟨bktRow (mrg m into b) sl'⟩ := by rw [hmb]; rfl
      rw [ecell, ← e] at hs
      rw [load_cellR (n := 5) (c := ⟨bktRow (mrg m into b) sl'⟩) (t := 36) (hs.at 0) rfl]
      have hk1 : (mrg m into b).list = into := by rw [hmb]; exact h3k
      have hk2 : (mrg m into b).addr = b.addr := by rw [hmb]; exact h4k
      have hs : Sep h9 (ledR p (mgLed m src into to (al.take k)) (some ((mrg m into b).list, (mrg m into b).addr)) :: idsR (mrg m into b) sl' :: bktsR v12 (mgCut m src to (al.take k)) :: mapR .string r (fun a => if digs to a = true then some (.bool true) else none) :: vecR v36 36 5 rows :: F) := by
        rw [hk1, hk2]
        exact hs.sel [2, 1, 2, 2, 2] |>.del 5 |>.del 5 |>.del 5
      refine keep_fn hs fun h10 hs => ?_
      refine hnext (hq h10 v12 ?_)
      rw [hput] at hs
      rw [hcut]
      exact hs
theorem cuts_get : ∀ {al : List ByteArray}, (∀ a ∈ al, m.bk src a ≠ none) → (cuts m src (fun _ => true) al).length = al.length ∧ ∀ k (hk : k < al.length), m.bk src al[k] = (cuts m src (fun _ => true) al)[k]?
  | [], _ => ⟨rfl, fun k hk => by simp at hk⟩
  | a :: r, h => by
    obtain ⟨b, hb⟩ := Option.ne_none_iff_exists'.1 (h a (List.mem_cons_self ..))
    have ih := cuts_get (al := r) (fun x hx => h x (List.mem_cons_of_mem _ hx))
    have e : cuts m src (fun _ => true) (a :: r) = b :: cuts m src (fun _ => true) r := by simp [cuts, hb]
    rw [e]
    refine ⟨by simp [ih.1], fun k hk => ?_⟩
    cases k with
    | zero => simpa using hb
    | succ k => simpa using ih.2 k (by simpa using hk)
set_option maxRecDepth 8000 in
theorem merge_fn (hs : Sep h (ledR p m none :: F)) (hm : m.Ok N) (hN : N ≤ 1073741824) (hsl : to.length ≤ 100) (hto : ∀ h', Sep h' F → RowsR (fun _ => True) h' vt 5 (to.map subRow))
    (hk0 : src = into → K (.slice none 0 0) h)
    (hk : src ≠ into → ∀ h' v (al : List ByteArray), al.Pairwise ltB → (∀ a, a ∈ al ↔ m.bk src a ≠ none) → Sep h' (ledR p (mgLed m src into to al) none :: bktsR v (mgCut m src to al) :: F) → K v h') :
    FnH Try.prog 20 #[ptr p, .int .i64 src, .int .i64 into, vt] h K := by
  refine f20_fn ?_
  simp only [f20_T0, go_sem]
  refine cond_cases (fun hc => ?_) (fun hc => ?_)
  · rw [f20_ret]
    exact hk0 (by simpa using hc)
  · have hne : src ≠ into := by simpa using hc
    have hk := hk hne
    refine s_len (hto h hs.tail |>.turn (by omega) (Turn.push ..)) ?_
    simp only [List.length_map]
    have hs1 := hs.newMap (e := Value.string)
    generalize h.push (.map #[] 0) = h1, h.size = r at hs1
    refine digs_loop (F := ledR p m none :: F) hsl (fun h' hs => hto h' hs.tail) hs1 fun h2 v22 v23 hs => ?_
    simp only [f20_T2, go_sem]
    refine drain_fn hs.swap hm (by omega) fun h3 v36 al hal hmem hs => ?_
    have hall := addrs_len hm hal hmem
    obtain ⟨hcl, hcg⟩ := cuts_get (m := m) (src := src) (al := al) (fun a ha => (hmem a).1 ha)
    obtain ⟨rows, hrl, hs⟩ := (hs.pick 1).ovec
    refine s_len (hs.at 0).rows ?_
    rw [hrl, hcl]
    rw [mg_start (into := into) (to := to) hmem] at hs
    have hs5 : Sep h3 (vecR v36 36 5 rows :: ledR p (mgLed m src into to []) none :: mapR .string r (fun a => if digs to a = true then some (.bool true) else none) :: (List.zipWith bktE (cuts m src (fun _ => true) al) rows ++ F)) := by
      have h9 := (hs.sel [1, 0, 0, 0]).elems
      refine h9.perm ?_
      exact (List.perm_append_comm (l₂ := vecR v36 36 5 rows :: ledR p (mgLed m src into to []) none :: mapR .string r (fun a => if digs to a = true then some (.bool true) else none) :: F)).trans
        (List.Perm.cons _ (List.Perm.cons _ (List.Perm.cons _ List.perm_append_comm)))
    refine LoopS.st (σ := MgI) (fun s => [ptr p, .int .i64 src, .int .i64 into, vt, .slice none 0 0, .map (some r), s.v12, vt, v22, v23, v36, .int .i64 al.length, .int .i64 s.k])
      (fun s h' => Sep h' (ledR p (mgLed m src into to (al.take s.k)) none :: bktsR s.v12 (mgCut m src to (al.take s.k)) :: mapR .string r (fun a => if digs to a = true then some (.bool true) else none) :: vecR v36 36 5 rows :: ((List.zipWith bktE (cuts m src (fun _ => true) al) rows).drop s.k ++ F)) ∧ s.k ≤ al.length)
      (fun s => al.length - s.k) ⟨0, .slice none 0 0⟩ rfl ⟨by simp only [List.take_zero, List.drop_zero]; exact (hs5.newOvec (β := Bkt) (e := 36) (sz := 5) (R := bktE)).sel [2, 0, 1, 0], by simp⟩ ?_
    rintro ⟨k, v12⟩ h4 ⟨hs, hkl⟩
    simp only at hs hkl ⊢
    by_cases hlt : k < al.length
    · have hkc : k < (cuts m src (fun _ => true) al).length := by rw [hcl]; exact hlt
      rw [zip_drop hrl hkc] at hs
      have hb := hcg k hlt
      rw [List.getElem?_eq_getElem hkc] at hb
      obtain ⟨sl, hrow, hs⟩ := bktE_open (hs.pick 4)
      have hcut : (mgCut m src to (al.take k)).length ≤ al.length := by
        refine Nat.le_trans (List.length_filter_le _ _) (Nat.le_trans (List.length_filterMap_le _ _) ?_)
        rw [List.length_take]; omega
      refine mg_round (rows := rows) hm hN hne hlt hal hb hall (by rw [List.getElem?_eq_getElem (by omega), hrow]) hcut (by omega) (by omega) (hs.sel [1, 1, 1, 1, 0]) (fun h5 v12' hs => ?_) rfl
      rw [thenL_normal]
      refine NextSt.mk ⟨k + 1, v12'⟩ rfl ⟨hs, by simp only; omega⟩ (by simp only; omega)
    · have hi : ((k : Int) < (al.length : Int)) = False := by simp; omega
      have hkk : k = al.length := by omega
      simp only [f20_T7, go_sem, hi, decide_false, f20_T4, f20_ret]
      rw [hkk, List.take_length, List.drop_eq_nil_of_le (by simp [List.length_zipWith]; omega)] at hs
      exact hk h4 v12 al hal hmem (hs.sel [0, 0] |>.del 2 |>.del 2)
end
end Go.Proofs.Ythgbpfoadlemaaa

/- Which calls the statements' drawn regions may take in any order. -/
namespace Go.Proofs.Ythgbpfoadlemaaa
open Go.Fw
theorem Ext.turn {h h' : Heap} (he : Ext h h') : Turn h h' (fun _ => False) := by
  refine ⟨?_, fun b hb _ => ?_⟩
  · rcases Nat.eq_zero_or_pos h.size with e | e
    · omega
    · have h1 : h[h.size - 1]? = some h[h.size - 1] := Array.getElem?_eq_getElem (by omega)
      have := lt_of_get (he _ _ h1)
      omega
  · have h1 : h[b]? = some h[b] := Array.getElem?_eq_getElem hb
    rw [he _ _ h1, h1]
theorem turn_ext {h h' : Heap} (ht : Turn h h' (fun _ => False)) : Ext h h' := fun b o hb => by rw [ht.keep b (lt_of_get hb) (fun h => h)]; exact hb
theorem Bkts.turn {S : Nat → Prop} {h h' : Heap} {v : Value} {l : List (Bkt × Value)} (hb : Bkts S h v l) (ht : Turn h h' (fun _ => False)) : Bkts S h' v l :=
  ⟨hb.1.turn (by omega) ht, fun p hp => (hb.2 p hp).turn (by omega) ht⟩
def countVal (args : List Value) (h : Heap) (v : Value) : Prop :=
  ∃ (bv : Value) (l : List (Bkt × Value)) (addr id : ByteArray), args = [bv, .string addr, .string id] ∧ Bkts (fun _ => True) h bv l ∧ total (l.map (·.1)) < 4611686018427387904 ∧ l.length < 4611686018427387904 ∧ v = .int .i64 (cnt (l.map (·.1)) addr id)
def owedNew (args : List Value) (h : Heap) (R : Value → Heap → Prop) : Prop :=
  ∃ (p N : Nat) (m : Led) (q : Lent) (a : ByteArray), args = [ptr p, .string a] ∧ (ledR p m q).has h ∧ m.Ok N ∧ N ≤ 4294967296 ∧
    R = fun v h' => Turn h h' (fun _ => False) ∧ ∃ Rs : List Res, (∃ al : List ByteArray, al.Pairwise ltB ∧ (∀ i, i ∈ al ↔ m.ow a i = true) ∧ Rs = [strsR v al]) ∧ ∃ S', (starL Rs).on h' S' ∧ ∀ b, S' b → h.size ≤ b
def pcL : Pure Try.prog where
  kind := fun f => cond (Nat.beq f 12) .pure (cond (Nat.beq f 13) .read (cond (Nat.beq f 15) .new .wild))
  val := fun f args h v => (f = 12 ∧ ∃ n m : Int, 0 < m ∧ m < 4294967296 ∧ args = [.int .i64 n, .int .i64 m] ∧ v = .int .i64 (pickI n m)) ∨ (f = 13 ∧ countVal args h v)
  sound := by
    rintro f args h v (⟨rfl, n, m, h0, h1, rfl, rfl⟩ | ⟨rfl, bv, l, addr, id, rfl, hb, ht, hl, rfl⟩)
    · exact pick_fn n m h0 h1 h _ ⟨rfl, rfl⟩
    · exact count_fn hb ht hl ⟨rfl, rfl⟩
  pure_ok := by
    rintro f args h v hk (⟨rfl, hv⟩ | ⟨rfl, hv⟩) h'
    · exact .inl ⟨rfl, hv⟩
    · cases hk
  read_ok := by
    rintro f args h v hk (⟨rfl, hv⟩ | ⟨rfl, bv, l, addr, id, rfl, hb, ht, hl, rfl⟩) h' he
    · cases hk
    · exact .inr ⟨rfl, bv, l, addr, id, rfl, hb.turn (Ext.turn he), ht, hl, rfl⟩
  new := fun f args h R => f = 15 ∧ owedNew args h R
  new_sound := by
    rintro f args h R ⟨rfl, p, N, m, q, a, rfl, hr, hm, hN, rfl⟩
    exact owed_new hr hm hN
  new_ext := by
    rintro f args h R ⟨rfl, p, N, m, q, a, rfl, hr, hm, hN, rfl⟩ v h' ⟨ht, _⟩
    exact turn_ext ht
theorem l_pick {n m : Int} {K : Kont} {h : Heap} (h0 : 0 < m) (h1 : m < 4294967296) (hk : K (.int .i64 (pickI n m)) h) : oPure pcL 12 [.int .i64 n, .int .i64 m] K h :=
  ⟨_, .inl ⟨rfl, n, m, h0, h1, rfl, rfl⟩, hk⟩
theorem l_count {bv : Value} {l : List (Bkt × Value)} {addr id : ByteArray} {K : Kont} {h : Heap} (hb : Bkts (fun _ => True) h bv l) (ht : total (l.map (·.1)) < 4611686018427387904) (hl : l.length < 4611686018427387904)
    (hk : K (.int .i64 (cnt (l.map (·.1)) addr id)) h) : oPure pcL 13 [bv, .string addr, .string id] K h :=
  ⟨_, .inr ⟨rfl, bv, l, addr, id, rfl, hb, ht, hl, rfl⟩, hk⟩
theorem l_owed {p N : Nat} {m : Led} {q : Lent} {a : ByteArray} {K : Kont} {h : Heap} {F : List Res} (hr : (ledR p m q).has h) (hm : m.Ok N) (hN : N ≤ 4294967296) (hs : Sep h F)
    (hk : ∀ h' v (al : List ByteArray), al.Pairwise ltB → (∀ i, i ∈ al ↔ m.ow a i = true) → Sep h' (strsR v al :: F) → K v h') : oNew pcL 15 [ptr p, .string a] K h := by
  refine ⟨_, ⟨rfl, p, N, m, q, a, rfl, hr, hm, hN, rfl⟩, fun v h' ⟨ht, Rs, ⟨al, h1, h2, h3⟩, S', h4, h5⟩ => ?_⟩
  subst h3
  exact hk h' v al h1 h2 (((hs.make ht h4 h5).imp fun S hS => (starL_append [strsR v al] S).2 hS))
end Go.Proofs.Ythgbpfoadlemaaa

/- Pieces of functions, printed by a program of ours (Gen), held by the kernel. -/
namespace Go.Proofs.Ythgbpfoadlemaaa
open Go.Fw
@[go_sem] theorem esz31 : elemSize Try.prog 31 = some 5 := by kernel_rfl
@[go_sem] theorem slice32 : sliceOf Try.prog 32 = some (4, 1, 1, (.bool false)) := by kernel_rfl
@[go_sem] theorem slice31 : sliceOf Try.prog 31 = some (40, 5, 56, (.agg #[(.int .i64 0), (.string (ByteArray.mk #[])), (.int .i64 0), (.string (ByteArray.mk #[])), (.int .i64 0)])) := by kernel_rfl
@[go_sem] theorem build40 : buildOf Try.prog 40 = some ((.agg #[(.int .i64 0), (.string (ByteArray.mk #[])), (.int .i64 0), (.string (ByteArray.mk #[])), (.int .i64 0)]), [(0, 1), (1, 1), (2, 1), (3, 1), (4, 1)]) := by kernel_rfl
@[go_sem] theorem und25 : Try.prog.underlying 25 = some (.pointer 55) := by kernel_rfl
/-! ### 7: missive/missivelaw37.small -/
noncomputable def f7_c : Code := Try.f7.body.getD .skip
def f7_L : List Nat := [0]
noncomputable def f7_l : List Code := flat f7_c
noncomputable def f7_l0 : List Code := f7_l.drop 13
def f7_T0 (q : LPost) : List Value → Heap → Prop := fun vs h => match vs with
 | [_] =>
 oCallF Try.prog 9 [] (fun x0 h1 =>
 oBin (Try.prog.underlying 25) .eql x0 (.pointer none) (fun x2 h3 =>
 oCond x2 (q .ret [(.bool false)] h3) (oBuild (buildOf Try.prog 40) [(1, (.string (ByteArray.mk #[97])))] (fun x4 h5 =>
 oBuild (buildOf Try.prog 40) [(1, (.string (ByteArray.mk #[98]))), (2, (.int .i64 1))] (fun x6 h7 =>
 oBuild (buildOf Try.prog 40) [(1, (.string (ByteArray.mk #[99]))), (2, (.int .i64 3))] (fun x8 h9 =>
 oBuildSlice (sliceOf Try.prog 31) 3 [(0, x4), (1, x6), (2, x8)] (fun x10 h11 =>
 oBuildSlice (sliceOf Try.prog 32) 3 [(0, (.bool true)), (1, (.bool true)), (2, (.bool true))] (fun x12 h13 =>
 oCallF Try.prog 16 [x0, (.string (ByteArray.mk #[120])), (.int .i64 10), (.int .i64 1), (.int .i64 5), x10, x12, (.int .i64 15)] (fun x14 h15 =>
 oExtract x14 0 (fun x16 h17 =>
 oExtract x14 1 (fun x18 h19 =>
 oBuild (buildOf Try.prog 40) [(1, (.string (ByteArray.mk #[98])))] (fun x20 h21 =>
 oBuildSlice (sliceOf Try.prog 31) 1 [(0, x20)] (fun x22 h23 =>
 oBuildSlice (sliceOf Try.prog 32) 1 [(0, (.bool true))] (fun x24 h25 =>
 oCallF Try.prog 16 [x0, (.string (ByteArray.mk #[120])), (.int .i64 10), (.int .i64 2), (.int .i64 6), x22, x24, (.int .i64 0)] (fun x26 h27 =>
 oExtract x26 0 (fun x28 h29 =>
 oExtract x26 1 (fun x30 h31 =>
 oSlice (Try.prog.underlying 31) (elemSize Try.prog 31) x10 (some (.int .i64 1)) (some (.int .i64 2)) (fun x32 h33 =>
 oBuildSlice (sliceOf Try.prog 32) 1 [(0, (.bool true))] (fun x34 h35 =>
 oCallF Try.prog 16 [x0, (.string (ByteArray.mk #[121])), (.int .i64 10), (.int .i64 1), (.int .i64 7), x32, x34, (.int .i64 15)] (fun x36 h37 =>
 oExtract x36 0 (fun x38 h39 =>
 oExtract x36 1 (fun x40 h41 =>
 oLen (Try.prog.underlying 27) x40 (fun x42 h43 =>
 oBin (Try.prog.underlying 3) .neq x42 (.int .i64 1) (fun x44 h45 =>
 oCond x44 (q .ret [(.bool false)] h45) (oBuildSlice (sliceOf Try.prog 28) 2 [(0, (.string (ByteArray.mk #[120]))), (1, (.string (ByteArray.mk #[121])))] (fun x46 h47 =>
 oBuild (buildOf Try.prog 36) [(0, (.int .i64 1)), (1, (.string (ByteArray.mk #[98]))), (2, x46), (3, (.int .i64 20)), (4, (.int .i64 5))] (fun x48 h49 =>
 oBuildSlice (sliceOf Try.prog 27) 1 [(0, x48)] (fun x50 h51 =>
 oBuildSlice (sliceOf Try.prog 28) 1 [(0, (.string (ByteArray.mk #[97])))] (fun x52 h53 =>
 oCallF Try.prog 21 [x16, x52] (fun x54 h55 =>
 gop x54 true (fun K h => K x18 h) (fun x56 h57 =>
 gop x54 true (oLen (Try.prog.underlying 27) x56) (fun x58 h59 =>
 gop x54 true (oBin (Try.prog.underlying 3) .eql x58 (.int .i64 0)) (fun x60 h61 =>
 oPick x54 x60 (.bool false) (fun x62 h63 =>
 gop x62 true (fun K h => K x28 h) (fun x64 h65 =>
 gop x62 true (oLen (Try.prog.underlying 28) x64) (fun x66 h67 =>
 gop x62 true (oBin (Try.prog.underlying 3) .eql x66 (.int .i64 0)) (fun x68 h69 =>
 oPick x62 x68 (.bool false) (fun x70 h71 =>
 gop x70 true (fun K h => K x30 h) (fun x72 h73 =>
 gop x70 true (oLen (Try.prog.underlying 27) x72) (fun x74 h75 =>
 gop x70 true (oBin (Try.prog.underlying 3) .eql x74 (.int .i64 0)) (fun x76 h77 =>
 oPick x70 x76 (.bool false) (fun x78 h79 =>
 gop x78 true (fun K h => K x38 h) (fun x80 h81 =>
 gop x78 true (oLen (Try.prog.underlying 28) x80) (fun x82 h83 =>
 gop x78 true (oBin (Try.prog.underlying 3) .eql x82 (.int .i64 0)) (fun x84 h85 =>
 oPick x78 x84 (.bool false) (fun x86 h87 =>
 gop x86 true (fun K h => K x40 h) (fun x88 h89 =>
 gop x86 true (fun K h => K x50 h) (fun x90 h91 =>
 gop x86 true (oCallF Try.prog 18 [x88, x90]) (fun x92 h93 =>
 oPick x86 x92 (.bool false) (fun x94 h95 =>
 gop x94 true (fun K h => K x0 h) (fun x96 h97 =>
 gop x94 true (oCallF Try.prog 11 [x96]) (fun x98 h99 =>
 gop x94 true (oLen (Try.prog.underlying 27) x98) (fun x100 h101 =>
 gop x94 true (oBin (Try.prog.underlying 3) .eql x100 (.int .i64 0)) (fun x102 h103 =>
 oPick x94 x102 (.bool false) (fun x104 h105 =>
 gop x104 true (fun K h => K x0 h) (fun x106 h107 =>
 gop x104 true (oNew pcL 15 [x106, (.string (ByteArray.mk #[98]))]) (fun x108 h109 =>
 gop x104 true (oBuildSlice (sliceOf Try.prog 28) 2 [(0, (.string (ByteArray.mk #[120]))), (1, (.string (ByteArray.mk #[121])))]) (fun x110 h111 =>
 gop x104 true (oCallF Try.prog 21 [x108, x110]) (fun x112 h113 =>
 oPick x104 x112 (.bool false) (fun x114 h115 =>
 q .ret [x114] h115) h113) h111) h109) h107) h105) h103) h101) h99) h97) h95) h93) h91) h89) h87) h85) h83) h81) h79) h77) h75) h73) h71) h69) h67) h65) h63) h61) h59) h57) h55) h53) h51) h49) h47) h45)) h43) h41) h39) h37) h35) h33) h31) h29) h27) h25) h23) h21) h19) h17) h15) h13) h11) h9) h7) h5) h3)) h1) h
 | _ => False
set_option maxRecDepth 20000 in
theorem f7_T0_ok (q : LPost) : RfN f7_L (f7_T0 q) (wpLs pcL f7_l (proj f7_L q)) :=
 seg_rule' 13 (fun env h => by kernel_rfl) (end_rule' (by kernel_rfl) (Rf.proj q) (fun _ _ x => x)) (Rf.proj q)
theorem f7_ret {v0 : Value} {h : Heap} {K : Kont} : retL Try.prog f7_L Try.f7.results.toList K .ret [v0] h = (K v0 h) := by kernel_rfl
theorem f7_end {v0 : Value} {h : Heap} {K : Kont} : retL Try.prog f7_L Try.f7.results.toList K .normal [v0] h = (K v0 h) := by kernel_rfl
set_option maxRecDepth 20000 in
theorem f7_fn {h : Heap} {K : Kont}
 (hw : f7_T0 (retL Try.prog f7_L Try.f7.results.toList K) [undef] h) : FnH Try.prog 7 #[] h K :=
 fn_by (L := f7_L) (T := fun q => f7_T0 q) (args := []) pcL mixed Try.func7 (c := f7_c) (by kernel_rfl) (by kernel_rfl) (by kernel_rfl) (by kernel_rfl) (fun q => (f7_T0_ok q)) hw
@[go_sem] theorem var34 : varOf Try.prog 34 = .agg 8 := by kernel_rfl
/-! ### 3: missive/missivelaw37.DueOnce -/
noncomputable def f3_c : Code := Try.f3.body.getD .skip
def f3_L : List Nat := [0, 2, 3, 4, 5, 6, 7, 8, 10, 11, 12, 13, 14, 15, 16, 17]
noncomputable def f3_l : List Code := flat f3_c
noncomputable def f3_l0 : List Code := f3_l.drop 8
noncomputable def f3_l1 : List Code := f3_l0.drop 1
noncomputable def f3_l2 : List Code := f3_l1.drop 3
noncomputable def f3_l3 : List Code := f3_l2.drop 1
noncomputable def f3_l4 : List Code := f3_l3.drop 3
noncomputable def f3_l5 : List Code := f3_l4.drop 1
noncomputable def f3_l6 : List Code := f3_l5.drop 2
def f3_T6 (q : LPost) : List Value → Heap → Prop := fun vs h => match vs with
 | [v0, _, v3, v4, v5, v6, v7, v8, v10, v11, v12, v13, v14, v15, v16, v17] =>
 gop v3 true (fun K h => K v14 h) (fun x0 h1 =>
 gop v3 true (fun K h => K v12 h) (fun x2 h3 =>
 gop v3 true (oBin (Try.prog.underlying 3) .eql x0 x2) (fun x4 h5 =>
 oPick v3 x4 (.bool false) (fun x6 h7 =>
 q .ret [v0, x6, v3, v4, v5, v6, v7, v8, v10, v11, v12, v13, v14, v15, v16, v17] h7) h5) h3) h1) h
 | _ => False
set_option maxRecDepth 20000 in
theorem f3_T6_ok (q : LPost) : RfN f3_L (f3_T6 q) (wpLs pcL f3_l5 (proj f3_L q)) :=
 seg_rule' 2 (fun env h => by kernel_rfl) (end_rule' (by kernel_rfl) (Rf.proj q) (fun _ _ x => x)) (Rf.proj q)
noncomputable def f3_l7 : List Code := flat (hdB f3_l4)
noncomputable def f3_l8 : List Code := flat (hdB f3_l7)
noncomputable def f3_l9 : List Code := f3_l8.drop 2
noncomputable def f3_l10 : List Code := f3_l9.drop 1
noncomputable def f3_l11 : List Code := f3_l10.drop 1
def f3_T11 (q : LPost) : List Value → Heap → Prop := fun vs h => match vs with
 | [v0, v2, v3, v4, v5, v6, v7, v8, v10, v11, v12, v13, v14, v15, v16, v17] =>
 oBin (Try.prog.underlying 3) .add v16 (.int .i64 1) (fun x8 h9 =>
 q .normal [v0, v2, v3, v4, v5, v6, v7, v8, v10, v11, v12, v13, v14, v15, x8, v17] h9) h
 | _ => False
set_option maxRecDepth 20000 in
theorem f3_T11_ok (q : LPost) : RfN f3_L (f3_T11 q) (wpLs pcL f3_l10 (proj f3_L q)) :=
 seg_rule' 1 (fun env h => by kernel_rfl) (end_rule' (by kernel_rfl) (Rf.proj q) (fun _ _ x => x)) (Rf.proj q)
noncomputable def f3_l12 : List Code := flat (hdB f3_l9)
noncomputable def f3_l13 : List Code := f3_l12.drop 1
noncomputable def f3_l14 : List Code := f3_l13.drop 1
noncomputable def f3_l15 : List Code := flat (hdB f3_l13)
noncomputable def f3_l16 : List Code := flat (hdB f3_l15)
noncomputable def f3_l17 : List Code := f3_l16.drop 3
noncomputable def f3_l18 : List Code := f3_l17.drop 1
def f3_T18 (q : LPost) : List Value → Heap → Prop := fun vs h => match vs with
 | [v0, v2, v3, v4, v5, v6, v7, v8, v10, v11, v12, v13, v14, v15, v16, v17] =>
 oBin (Try.prog.underlying 3) .add v17 (.int .i64 1) (fun x10 h11 =>
 q .normal [v0, v2, v3, v4, v5, v6, v7, v8, v10, v11, v12, v13, v14, v15, v16, x10] h11) h
 | _ => False
set_option maxRecDepth 20000 in
theorem f3_T18_ok (q : LPost) : RfN f3_L (f3_T18 q) (wpLs pcL f3_l17 (proj f3_L q)) :=
 seg_rule' 1 (fun env h => by kernel_rfl) (end_rule' (by kernel_rfl) (Rf.proj q) (fun _ _ x => x)) (Rf.proj q)
def f3_T17 (q : LPost) : List Value → Heap → Prop := fun vs h => match vs with
 | [v0, v2, v3, v4, v5, v6, v7, v8, v10, v11, v12, v13, v14, v15, v16, v17] =>
 oIndexAddr (rowedOf Try.prog 22) v0 v16 (fun x12 h13 =>
 oFieldAddr (fieldOff Try.prog 34 6) x12 (fun x14 h15 =>
 oLoad (varOf Try.prog 31) x14 (fun x16 h17 =>
 oLen (Try.prog.underlying 31) x16 (fun x18 h19 =>
 oBin (Try.prog.underlying 3) .lss v17 x18 (fun x20 h21 =>
 gop x20 true (fun K h => K v0 h) (fun x22 h23 =>
 gop x20 true (fun K h => K v16 h) (fun x24 h25 =>
 gop x20 true (oIndexAddr (rowedOf Try.prog 22) x22 x24) (fun x26 h27 =>
 gop x20 true (oFieldAddr (fieldOff Try.prog 34 0) x26) (fun x28 h29 =>
 gop x20 true (oLoad (varOf Try.prog 3) x28) (fun x30 h31 =>
 gop x20 true (oPure pcL 12 [x30, (.int .i64 7)]) (fun x32 h33 =>
 gop x20 true (oBin (Try.prog.underlying 3) .lss x32 (.int .i64 3)) (fun x34 h35 =>
 oPick x20 x34 (.bool false) (fun x36 h37 =>
 oCond x36 (oIndexAddr (rowedOf Try.prog 22) v0 v16 (fun x38 h39 =>
 oFieldAddr (fieldOff Try.prog 34 6) x38 (fun x40 h41 =>
 oLoad (varOf Try.prog 31) x40 (fun x42 h43 =>
 oIndexAddr (rowedOf Try.prog 31) x42 v17 (fun x44 h45 =>
 oLoad (varOf Try.prog 40) x44 (fun x46 h47 =>
 oAlloc (zeroOf Try.prog 40) 40 (fun x48 h49 =>
 oStore (varOf Try.prog 40) x48 x46 (fun _ h51 =>
 oIndexAddr (rowedOf Try.prog 22) v0 v16 (fun x52 h53 =>
 oFieldAddr (fieldOff Try.prog 34 7) x52 (fun x54 h55 =>
 oLoad (varOf Try.prog 32) x54 (fun x56 h57 =>
 oLen (Try.prog.underlying 32) x56 (fun x58 h59 =>
 oBin (Try.prog.underlying 3) .geq v17 x58 (fun x60 h61 =>
 gop x60 false (fun K h => K v0 h) (fun x62 h63 =>
 gop x60 false (fun K h => K v16 h) (fun x64 h65 =>
 gop x60 false (oIndexAddr (rowedOf Try.prog 22) x62 x64) (fun x66 h67 =>
 gop x60 false (oFieldAddr (fieldOff Try.prog 34 7) x66) (fun x68 h69 =>
 gop x60 false (oLoad (varOf Try.prog 32) x68) (fun x70 h71 =>
 gop x60 false (fun K h => K v17 h) (fun x72 h73 =>
 gop x60 false (oIndexAddr (rowedOf Try.prog 32) x70 x72) (fun x74 h75 =>
 gop x60 false (oLoad (varOf Try.prog 4) x74) (fun x76 h77 =>
 gop x60 false (oUn .not x76) (fun x78 h79 =>
 oPick x60 (.bool true) x78 (fun x80 h81 =>
 gop x80 false (oFieldAddr (fieldOff Try.prog 40 2) x48) (fun x82 h83 =>
 gop x80 false (oLoad (varOf Try.prog 3) x82) (fun x84 h85 =>
 gop x80 false (oBin (Try.prog.underlying 3) .neq x84 (.int .i64 0)) (fun x86 h87 =>
 gop x80 false (fun K h => K x86 h) (fun x88 h89 =>
 gop x88 true (oFieldAddr (fieldOff Try.prog 40 2) x48) (fun x90 h91 =>
 gop x88 true (oLoad (varOf Try.prog 3) x90) (fun x92 h93 =>
 gop x88 true (oBin (Try.prog.underlying 3) .neq x92 (.int .i64 2)) (fun x94 h95 =>
 gop x80 false (oPick x88 x94 (.bool false)) (fun x96 h97 =>
 gop x80 false (fun K h => K x96 h) (fun x98 h99 =>
 gop x98 true (oFieldAddr (fieldOff Try.prog 40 2) x48) (fun x100 h101 =>
 gop x98 true (oLoad (varOf Try.prog 3) x100) (fun x102 h103 =>
 gop x98 true (oBin (Try.prog.underlying 3) .neq x102 (.int .i64 1)) (fun x104 h105 =>
 gop x80 false (oPick x98 x104 (.bool false)) (fun x106 h107 =>
 oPick x80 (.bool true) x106 (fun x108 h109 =>
 oCond x108 (f3_T18 q [v0, v2, v3, v4, v5, v6, v7, v8, v10, v11, v12, v13, v14, v15, v16, v17] h109) (oFieldAddr (fieldOff Try.prog 40 1) x48 (fun x110 h111 =>
 oLoad (varOf Try.prog 9) x110 (fun x112 h113 =>
 oIndexAddr (rowedOf Try.prog 22) v0 v16 (fun x114 h115 =>
 oFieldAddr (fieldOff Try.prog 34 4) x114 (fun x116 h117 =>
 oLoad (varOf Try.prog 9) x116 (fun x118 h119 =>
 oPure pcL 13 [v11, x112, x118] (fun x120 h121 =>
 oBin (Try.prog.underlying 3) .neq x120 (.int .i64 1) (fun x122 h123 =>
 gop x122 false (fun K h => K v4 h) (fun x124 h125 =>
 gop x122 false (oFieldAddr (fieldOff Try.prog 40 1) x48) (fun x126 h127 =>
 gop x122 false (oLoad (varOf Try.prog 9) x126) (fun x128 h129 =>
 gop x122 false (fun K h => K v0 h) (fun x130 h131 =>
 gop x122 false (fun K h => K v16 h) (fun x132 h133 =>
 gop x122 false (oIndexAddr (rowedOf Try.prog 22) x130 x132) (fun x134 h135 =>
 gop x122 false (oFieldAddr (fieldOff Try.prog 34 4) x134) (fun x136 h137 =>
 gop x122 false (oLoad (varOf Try.prog 9) x136) (fun x138 h139 =>
 gop x122 false (oNew pcL 15 [x124, x128]) (fun x140 h141 =>
 gop x122 false (oCallF Try.prog 14 [x140, x138]) (fun x142 h143 =>
 gop x122 false (oUn .not x142) (fun x144 h145 =>
 oPick x122 (.bool true) x144 (fun x146 h147 =>
 oCond x146 (q .ret [v0, (.bool false), v3, v4, v5, v6, v7, v8, v10, v11, v12, v13, v14, v15, v16, v17] h147) (oFieldAddr (fieldOff Try.prog 40 1) x48 (fun x148 h149 =>
 oLoad (varOf Try.prog 9) x148 (fun x150 h151 =>
 oCallF Try.prog 14 [v15, x150] (fun x152 h153 =>
 oUn .not x152 (fun x154 h155 =>
 oCond x154 (oFieldAddr (fieldOff Try.prog 40 1) x48 (fun x156 h157 =>
 oLoad (varOf Try.prog 9) x156 (fun x158 h159 =>
 oBuildSlice (sliceOf Try.prog 28) 1 [(0, x158)] (fun x160 h161 =>
 oAppend (sliceOf Try.prog 28) v15 x160 (fun x162 h163 =>
 oFieldAddr (fieldOff Try.prog 40 1) x48 (fun x164 h165 =>
 oLoad (varOf Try.prog 9) x164 (fun x166 h167 =>
 oNew pcL 15 [v4, x166] (fun x168 h169 =>
 oLen (Try.prog.underlying 28) x168 (fun x170 h171 =>
 oBin (Try.prog.underlying 3) .add v14 x170 (fun x172 h173 =>
 f3_T18 q [v0, v2, v3, v4, v5, v6, v7, v8, v10, v11, v12, v13, x172, x162, v16, v17] h173) h171) h169) h167) h165) h163) h161) h159) h157) h155) (f3_T18 q [v0, v2, v3, v4, v5, v6, v7, v8, v10, v11, v12, v13, v14, v15, v16, v17] h155)) h153) h151) h149) h147)) h145) h143) h141) h139) h137) h135) h133) h131) h129) h127) h125) h123) h121) h119) h117) h115) h113) h111) h109)) h107) h105) h103) h101) h99) h97) h95) h93) h91) h89) h87) h85) h83) h81) h79) h77) h75) h73) h71) h69) h67) h65) h63) h61) h59) h57) h55) h53) h51) h49) h47) h45) h43) h41) h39) h37) (q (.exit 8) [v0, v2, v3, v4, v5, v6, v7, v8, v10, v11, v12, v13, v14, v15, v16, v17] h37)) h35) h33) h31) h29) h27) h25) h23) h21) h19) h17) h15) h13) h
 | _ => False
set_option maxRecDepth 20000 in
theorem f3_T17_ok (q : LPost) : RfN f3_L (f3_T17 q) (wpLs pcL f3_l16 (proj f3_L q)) :=
 seg_rule' 3 (fun env h => by kernel_rfl) (f3_T18_ok q) (Rf.proj q)
def f3_T16 (q : LPost) : List Value → Heap → Prop := LoopS (fun q => f3_T17 q) (inBL 8 (thenL (f3_T11 q) (inBL 7 (thenL (f3_T11 q) (q)))))
set_option maxRecDepth 20000 in
theorem f3_T16_ok (q : LPost) : RfN f3_L (f3_T16 q) (wpLs pcL f3_l15 (inB 8 (thenQ (wpLs pcL f3_l14 (inB 7 (thenQ (wpLs pcL f3_l10 (proj f3_L q)) (proj f3_L q)))) (inB 7 (thenQ (wpLs pcL f3_l10 (proj f3_L q)) (proj f3_L q)))))) :=
 loop_rule' (b := hdB f3_l15) (B := fun q => f3_T17 q) (c := inBL 8 (thenL (f3_T11 q) (inBL 7 (thenL (f3_T11 q) (q))))) (by kernel_rfl) (fun _ _ x => x) (fun q => (f3_T17_ok q)) (Rf.inB (Rf.then (end_rule' (by kernel_rfl) (Rf.inB (Rf.then (f3_T11_ok q) (Rf.proj q))) (fun _ _ x => x)) (Rf.inB (Rf.then (f3_T11_ok q) (Rf.proj q)))))
set_option maxRecDepth 20000 in
theorem f3_B15_ok (q : LPost) : RfN f3_L (f3_T16 q) (wpLs pcL f3_l13 (inB 7 (thenQ (wpLs pcL f3_l10 (proj f3_L q)) (proj f3_L q)))) :=
 block_rule (id := 8) (b := hdB f3_l13) (rest := f3_l14) (by kernel_rfl) (f3_T16_ok q)
def f3_T13 (q : LPost) : List Value → Heap → Prop := fun vs h => match vs with
 | [v0, v2, v3, v4, v5, v6, v7, v8, v10, v11, v12, v13, v14, v15, v16, _] =>
 f3_T16 q [v0, v2, v3, v4, v5, v6, v7, v8, v10, v11, v12, v13, v14, v15, v16, (.int .i64 0)] h
 | _ => False
set_option maxRecDepth 20000 in
theorem f3_T13_ok (q : LPost) : RfN f3_L (f3_T13 q) (wpLs pcL f3_l12 (inB 7 (thenQ (wpLs pcL f3_l10 (proj f3_L q)) (proj f3_L q)))) :=
 seg_rule' 1 (fun env h => by kernel_rfl) (f3_B15_ok q) (Rf.inB (Rf.then (f3_T11_ok q) (Rf.proj q)))
set_option maxRecDepth 20000 in
theorem f3_B12_ok (q : LPost) : RfN f3_L (f3_T13 q) (wpLs pcL f3_l9 (proj f3_L q)) :=
 block_rule (id := 7) (b := hdB f3_l9) (rest := f3_l10) (by kernel_rfl) (f3_T13_ok q)
def f3_T9 (q : LPost) : List Value → Heap → Prop := fun vs h => match vs with
 | [v0, v2, v3, v4, v5, v6, v7, v8, v10, v11, v12, v13, v14, v15, v16, v17] =>
 oLen (Try.prog.underlying 22) v0 (fun x174 h175 =>
 oBin (Try.prog.underlying 3) .lss v16 x174 (fun x176 h177 =>
 oCond x176 (f3_T13 q [v0, v2, v3, v4, v5, v6, v7, v8, v10, v11, v12, v13, v14, v15, v16, v17] h177) (q (.exit 6) [v0, v2, v3, v4, v5, v6, v7, v8, v10, v11, v12, v13, v14, v15, v16, v17] h177)) h175) h
 | _ => False
set_option maxRecDepth 20000 in
theorem f3_T9_ok (q : LPost) : RfN f3_L (f3_T9 q) (wpLs pcL f3_l8 (proj f3_L q)) :=
 seg_rule' 2 (fun env h => by kernel_rfl) (f3_B12_ok q) (Rf.proj q)
def f3_T8 (q : LPost) : List Value → Heap → Prop := LoopS (fun q => f3_T9 q) (inBL 6 (thenL (f3_T6 q) (q)))
set_option maxRecDepth 20000 in
theorem f3_T8_ok (q : LPost) : RfN f3_L (f3_T8 q) (wpLs pcL f3_l7 (inB 6 (thenQ (wpLs pcL f3_l5 (proj f3_L q)) (proj f3_L q)))) :=
 loop_rule' (b := hdB f3_l7) (B := fun q => f3_T9 q) (c := inBL 6 (thenL (f3_T6 q) (q))) (by kernel_rfl) (fun _ _ x => x) (fun q => (f3_T9_ok q)) (Rf.inB (Rf.then (f3_T6_ok q) (Rf.proj q)))
set_option maxRecDepth 20000 in
theorem f3_B7_ok (q : LPost) : RfN f3_L (f3_T8 q) (wpLs pcL f3_l4 (proj f3_L q)) :=
 block_rule (id := 6) (b := hdB f3_l4) (rest := f3_l5) (by kernel_rfl) (f3_T8_ok q)
def f3_T4 (q : LPost) : List Value → Heap → Prop := fun vs h => match vs with
 | [v0, v2, v3, v4, v5, v6, v7, v8, v10, v11, v12, v13, _, _, _, v17] =>
 f3_T8 q [v0, v2, v3, v4, v5, v6, v7, v8, v10, v11, v12, v13, (.int .i64 0), (.slice none 0 0), (.int .i64 0), v17] h
 | _ => False
set_option maxRecDepth 20000 in
theorem f3_T4_ok (q : LPost) : RfN f3_L (f3_T4 q) (wpLs pcL f3_l3 (proj f3_L q)) :=
 seg_rule' 3 (fun env h => by kernel_rfl) (f3_B7_ok q) (Rf.proj q)
noncomputable def f3_l19 : List Code := flat (hdB f3_l2)
noncomputable def f3_l20 : List Code := flat (hdB f3_l19)
noncomputable def f3_l21 : List Code := f3_l20.drop 4
def f3_T21 (q : LPost) : List Value → Heap → Prop := fun vs h => match vs with
 | [v0, v2, v3, v4, v5, v6, v7, v8, v10, v11, v12, v13, v14, v15, v16, v17] =>
 oLen (Try.prog.underlying 27) v11 (fun x178 h179 =>
 oBin (Try.prog.underlying 3) .lss v13 x178 (fun x180 h181 =>
 oCond x180 (oIndexAddr (rowedOf Try.prog 27) v11 v13 (fun x182 h183 =>
 oFieldAddr (fieldOff Try.prog 36 2) x182 (fun x184 h185 =>
 oLoad (varOf Try.prog 28) x184 (fun x186 h187 =>
 oLen (Try.prog.underlying 28) x186 (fun x188 h189 =>
 oBin (Try.prog.underlying 3) .add v12 x188 (fun x190 h191 =>
 oBin (Try.prog.underlying 3) .add v13 (.int .i64 1) (fun x192 h193 =>
 q .normal [v0, v2, v3, v4, v5, v6, v7, v8, v10, v11, x190, x192, v14, v15, v16, v17] h193) h191) h189) h187) h185) h183) h181) (q (.exit 4) [v0, v2, v3, v4, v5, v6, v7, v8, v10, v11, v12, v13, v14, v15, v16, v17] h181)) h179) h
 | _ => False
set_option maxRecDepth 20000 in
theorem f3_T21_ok (q : LPost) : RfN f3_L (f3_T21 q) (wpLs pcL f3_l20 (proj f3_L q)) :=
 seg_rule' 4 (fun env h => by kernel_rfl) (end_rule' (by kernel_rfl) (Rf.proj q) (fun _ _ x => x)) (Rf.proj q)
def f3_T20 (q : LPost) : List Value → Heap → Prop := LoopS (fun q => f3_T21 q) (inBL 4 (thenL (f3_T4 q) (q)))
set_option maxRecDepth 20000 in
theorem f3_T20_ok (q : LPost) : RfN f3_L (f3_T20 q) (wpLs pcL f3_l19 (inB 4 (thenQ (wpLs pcL f3_l3 (proj f3_L q)) (proj f3_L q)))) :=
 loop_rule' (b := hdB f3_l19) (B := fun q => f3_T21 q) (c := inBL 4 (thenL (f3_T4 q) (q))) (by kernel_rfl) (fun _ _ x => x) (fun q => (f3_T21_ok q)) (Rf.inB (Rf.then (f3_T4_ok q) (Rf.proj q)))
set_option maxRecDepth 20000 in
theorem f3_B19_ok (q : LPost) : RfN f3_L (f3_T20 q) (wpLs pcL f3_l2 (proj f3_L q)) :=
 block_rule (id := 4) (b := hdB f3_l2) (rest := f3_l3) (by kernel_rfl) (f3_T20_ok q)
def f3_T2 (q : LPost) : List Value → Heap → Prop := fun vs h => match vs with
 | [v0, v2, v3, v4, v5, v6, v7, v8, v10, _, _, _, v14, v15, v16, v17] =>
 oBuildSlice (sliceOf Try.prog 27) 0 [] (fun x194 h195 =>
 oAppend (sliceOf Try.prog 27) x194 v5 (fun x196 h197 =>
 oAppend (sliceOf Try.prog 27) x196 v6 (fun x198 h199 =>
 oCallF Try.prog 11 [v4] (fun x200 h201 =>
 oAppend (sliceOf Try.prog 27) x198 x200 (fun x202 h203 =>
 f3_T20 q [v0, v2, v3, v4, v5, v6, v7, v8, v10, x202, (.int .i64 0), (.int .i64 0), v14, v15, v16, v17] h203) h201) h199) h197) h195) h
 | _ => False
set_option maxRecDepth 20000 in
theorem f3_T2_ok (q : LPost) : RfN f3_L (f3_T2 q) (wpLs pcL f3_l1 (proj f3_L q)) :=
 seg_rule' 3 (fun env h => by kernel_rfl) (f3_B19_ok q) (Rf.proj q)
noncomputable def f3_l22 : List Code := flat (hdB f3_l0)
noncomputable def f3_l23 : List Code := flat (hdB f3_l22)
noncomputable def f3_l24 : List Code := f3_l23.drop 2
noncomputable def f3_l25 : List Code := f3_l24.drop 1
noncomputable def f3_l26 : List Code := f3_l25.drop 1
def f3_T26 (q : LPost) : List Value → Heap → Prop := fun vs h => match vs with
 | [v0, v2, v3, v4, v5, v6, v7, v8, v10, v11, v12, v13, v14, v15, v16, v17] =>
 oBin (Try.prog.underlying 3) .add v7 (.int .i64 1) (fun x204 h205 =>
 q .normal [v0, v2, v3, v4, v5, v6, x204, v8, v10, v11, v12, v13, v14, v15, v16, v17] h205) h
 | _ => False
set_option maxRecDepth 20000 in
theorem f3_T26_ok (q : LPost) : RfN f3_L (f3_T26 q) (wpLs pcL f3_l25 (proj f3_L q)) :=
 seg_rule' 1 (fun env h => by kernel_rfl) (end_rule' (by kernel_rfl) (Rf.proj q) (fun _ _ x => x)) (Rf.proj q)
noncomputable def f3_l27 : List Code := flat (hdB f3_l24)
noncomputable def f3_l28 : List Code := f3_l27.drop 3
noncomputable def f3_l29 : List Code := f3_l28.drop 1
noncomputable def f3_l30 : List Code := flat (hdB f3_l28)
noncomputable def f3_l31 : List Code := flat (hdB f3_l30)
noncomputable def f3_l32 : List Code := f3_l31.drop 4
def f3_T32 (q : LPost) : List Value → Heap → Prop := fun vs h => match vs with
 | [v0, v2, v3, v4, v5, v6, v7, v8, v10, v11, v12, v13, v14, v15, v16, v17] =>
 oLen (Try.prog.underlying 28) v8 (fun x206 h207 =>
 oBin (Try.prog.underlying 3) .lss v10 x206 (fun x208 h209 =>
 oCond x208 (oIndexAddr (rowedOf Try.prog 28) v8 v10 (fun x210 h211 =>
 oLoad (varOf Try.prog 9) x210 (fun x212 h213 =>
 oIndexAddr (rowedOf Try.prog 22) v0 v7 (fun x214 h215 =>
 oFieldAddr (fieldOff Try.prog 34 4) x214 (fun x216 h217 =>
 oLoad (varOf Try.prog 9) x216 (fun x218 h219 =>
 oBuildSlice (sliceOf Try.prog 28) 1 [(0, x218)] (fun x220 h221 =>
 oBuild (buildOf Try.prog 36) [(1, x212), (2, x220)] (fun x222 h223 =>
 oBuildSlice (sliceOf Try.prog 27) 1 [(0, x222)] (fun x224 h225 =>
 oAppend (sliceOf Try.prog 27) v6 x224 (fun x226 h227 =>
 oBin (Try.prog.underlying 3) .add v10 (.int .i64 1) (fun x228 h229 =>
 q .normal [v0, v2, v3, v4, v5, x226, v7, v8, x228, v11, v12, v13, v14, v15, v16, v17] h229) h227) h225) h223) h221) h219) h217) h215) h213) h211) h209) (q (.exit 2) [v0, v2, v3, v4, v5, v6, v7, v8, v10, v11, v12, v13, v14, v15, v16, v17] h209)) h207) h
 | _ => False
set_option maxRecDepth 20000 in
theorem f3_T32_ok (q : LPost) : RfN f3_L (f3_T32 q) (wpLs pcL f3_l31 (proj f3_L q)) :=
 seg_rule' 4 (fun env h => by kernel_rfl) (end_rule' (by kernel_rfl) (Rf.proj q) (fun _ _ x => x)) (Rf.proj q)
def f3_T31 (q : LPost) : List Value → Heap → Prop := LoopS (fun q => f3_T32 q) (inBL 2 (thenL (f3_T26 q) (inBL 1 (thenL (f3_T26 q) (q)))))
set_option maxRecDepth 20000 in
theorem f3_T31_ok (q : LPost) : RfN f3_L (f3_T31 q) (wpLs pcL f3_l30 (inB 2 (thenQ (wpLs pcL f3_l29 (inB 1 (thenQ (wpLs pcL f3_l25 (proj f3_L q)) (proj f3_L q)))) (inB 1 (thenQ (wpLs pcL f3_l25 (proj f3_L q)) (proj f3_L q)))))) :=
 loop_rule' (b := hdB f3_l30) (B := fun q => f3_T32 q) (c := inBL 2 (thenL (f3_T26 q) (inBL 1 (thenL (f3_T26 q) (q))))) (by kernel_rfl) (fun _ _ x => x) (fun q => (f3_T32_ok q)) (Rf.inB (Rf.then (end_rule' (by kernel_rfl) (Rf.inB (Rf.then (f3_T26_ok q) (Rf.proj q))) (fun _ _ x => x)) (Rf.inB (Rf.then (f3_T26_ok q) (Rf.proj q)))))
set_option maxRecDepth 20000 in
theorem f3_B30_ok (q : LPost) : RfN f3_L (f3_T31 q) (wpLs pcL f3_l28 (inB 1 (thenQ (wpLs pcL f3_l25 (proj f3_L q)) (proj f3_L q)))) :=
 block_rule (id := 2) (b := hdB f3_l28) (rest := f3_l29) (by kernel_rfl) (f3_T31_ok q)
def f3_T28 (q : LPost) : List Value → Heap → Prop := fun vs h => match vs with
 | [v0, v2, v3, v4, v5, v6, v7, _, _, v11, v12, v13, v14, v15, v16, v17] =>
 oIndexAddr (rowedOf Try.prog 22) v0 v7 (fun x230 h231 =>
 oLoad (varOf Try.prog 34) x230 (fun x232 h233 =>
 oCallF Try.prog 10 [v4, x232] (fun x234 h235 =>
 oExtract x234 0 (fun x236 h237 =>
 oExtract x234 1 (fun x238 h239 =>
 oAppend (sliceOf Try.prog 27) v5 x238 (fun x240 h241 =>
 f3_T31 q [v0, v2, v3, v4, x240, v6, v7, x236, (.int .i64 0), v11, v12, v13, v14, v15, v16, v17] h241) h239) h237) h235) h233) h231) h
 | _ => False
set_option maxRecDepth 20000 in
theorem f3_T28_ok (q : LPost) : RfN f3_L (f3_T28 q) (wpLs pcL f3_l27 (inB 1 (thenQ (wpLs pcL f3_l25 (proj f3_L q)) (proj f3_L q)))) :=
 seg_rule' 3 (fun env h => by kernel_rfl) (f3_B30_ok q) (Rf.inB (Rf.then (f3_T26_ok q) (Rf.proj q)))
set_option maxRecDepth 20000 in
theorem f3_B27_ok (q : LPost) : RfN f3_L (f3_T28 q) (wpLs pcL f3_l24 (proj f3_L q)) :=
 block_rule (id := 1) (b := hdB f3_l24) (rest := f3_l25) (by kernel_rfl) (f3_T28_ok q)
def f3_T24 (q : LPost) : List Value → Heap → Prop := fun vs h => match vs with
 | [v0, v2, v3, v4, v5, v6, v7, v8, v10, v11, v12, v13, v14, v15, v16, v17] =>
 oLen (Try.prog.underlying 22) v0 (fun x242 h243 =>
 oBin (Try.prog.underlying 3) .lss v7 x242 (fun x244 h245 =>
 oCond x244 (f3_T28 q [v0, v2, v3, v4, v5, v6, v7, v8, v10, v11, v12, v13, v14, v15, v16, v17] h245) (q (.exit 0) [v0, v2, v3, v4, v5, v6, v7, v8, v10, v11, v12, v13, v14, v15, v16, v17] h245)) h243) h
 | _ => False
set_option maxRecDepth 20000 in
theorem f3_T24_ok (q : LPost) : RfN f3_L (f3_T24 q) (wpLs pcL f3_l23 (proj f3_L q)) :=
 seg_rule' 2 (fun env h => by kernel_rfl) (f3_B27_ok q) (Rf.proj q)
def f3_T23 (q : LPost) : List Value → Heap → Prop := LoopS (fun q => f3_T24 q) (inBL 0 (thenL (f3_T2 q) (q)))
set_option maxRecDepth 20000 in
theorem f3_T23_ok (q : LPost) : RfN f3_L (f3_T23 q) (wpLs pcL f3_l22 (inB 0 (thenQ (wpLs pcL f3_l1 (proj f3_L q)) (proj f3_L q)))) :=
 loop_rule' (b := hdB f3_l22) (B := fun q => f3_T24 q) (c := inBL 0 (thenL (f3_T2 q) (q))) (by kernel_rfl) (fun _ _ x => x) (fun q => (f3_T24_ok q)) (Rf.inB (Rf.then (f3_T2_ok q) (Rf.proj q)))
set_option maxRecDepth 20000 in
theorem f3_B22_ok (q : LPost) : RfN f3_L (f3_T23 q) (wpLs pcL f3_l0 (proj f3_L q)) :=
 block_rule (id := 0) (b := hdB f3_l0) (rest := f3_l1) (by kernel_rfl) (f3_T23_ok q)
def f3_T0 (q : LPost) : List Value → Heap → Prop := fun vs h => match vs with
 | [v0, _, _, v4, v5, v6, v7, v8, v10, v11, v12, v13, v14, v15, v16, v17] =>
 oCallF Try.prog 7 [] (fun x246 h247 =>
 oCallF Try.prog 8 [v0] (fun x248 h249 =>
 oUn .not x248 (fun x250 h251 =>
 oCond x250 (q .ret [v0, x246, x246, v4, v5, v6, v7, v8, v10, v11, v12, v13, v14, v15, v16, v17] h251) (oCallF Try.prog 9 [] (fun x252 h253 =>
 f3_T23 q [v0, (.bool false), x246, x252, (.slice none 0 0), (.slice none 0 0), (.int .i64 0), v8, v10, v11, v12, v13, v14, v15, v16, v17] h253) h251)) h249) h247) h
 | _ => False
set_option maxRecDepth 20000 in
theorem f3_T0_ok (q : LPost) : RfN f3_L (f3_T0 q) (wpLs pcL f3_l (proj f3_L q)) :=
 seg_rule' 8 (fun env h => by kernel_rfl) (f3_B22_ok q) (Rf.proj q)
theorem f3_ret {v0 v2 v3 v4 v5 v6 v7 v8 v10 v11 v12 v13 v14 v15 v16 v17 : Value} {h : Heap} {K : Kont} : retL Try.prog f3_L Try.f3.results.toList K .ret [v0, v2, v3, v4, v5, v6, v7, v8, v10, v11, v12, v13, v14, v15, v16, v17] h = (K v2 h) := by kernel_rfl
theorem f3_end {v0 v2 v3 v4 v5 v6 v7 v8 v10 v11 v12 v13 v14 v15 v16 v17 : Value} {h : Heap} {K : Kont} : retL Try.prog f3_L Try.f3.results.toList K .normal [v0, v2, v3, v4, v5, v6, v7, v8, v10, v11, v12, v13, v14, v15, v16, v17] h = (K v2 h) := by kernel_rfl
set_option maxRecDepth 20000 in
theorem f3_fn {a0 : Value} {h : Heap} {K : Kont}
 (hw : f3_T0 (retL Try.prog f3_L Try.f3.results.toList K) [a0, undef, undef, undef, undef, undef, undef, undef, undef, undef, undef, undef, undef, undef, undef, undef] h) : FnH Try.prog 3 #[a0] h K :=
 fn_by (L := f3_L) (T := fun q => f3_T0 q) (args := [a0]) pcL mixed Try.func3 (c := f3_c) (by kernel_rfl) (by kernel_rfl) (by kernel_rfl) (by kernel_rfl) (fun q => (f3_T0_ok q)) hw
@[go_sem] theorem slice22 : sliceOf Try.prog 22 = some (34, 8, 112, (.agg #[(.int .i64 0), (.int .i64 0), (.int .i64 0), (.int .i64 0), (.string (ByteArray.mk #[])), (.string (ByteArray.mk #[])), (.slice none 0 0), (.slice none 0 0)])) := by kernel_rfl
/-! ### 4: missive/missivelaw37.DueBuckets -/
noncomputable def f4_c : Code := Try.f4.body.getD .skip
def f4_L : List Nat := [0, 1, 2, 4, 6, 7, 8, 9, 10, 11, 14, 15, 17, 18]
noncomputable def f4_l : List Code := flat f4_c
noncomputable def f4_l0 : List Code := f4_l.drop 6
noncomputable def f4_l1 : List Code := f4_l0.drop 1
noncomputable def f4_l2 : List Code := f4_l1.drop 2
noncomputable def f4_l3 : List Code := f4_l2.drop 1
noncomputable def f4_l4 : List Code := f4_l3.drop 2
noncomputable def f4_l5 : List Code := f4_l4.drop 1
noncomputable def f4_l6 : List Code := f4_l5.drop 2
noncomputable def f4_l7 : List Code := f4_l6.drop 1
noncomputable def f4_l8 : List Code := f4_l7.drop 2
def f4_T8 (q : LPost) : List Value → Heap → Prop := fun vs h => match vs with
 | [v0, v1, v2, v4, _, v7, v8, v9, v10, v11, v14, v15, v17, v18] =>
 q .ret [v0, v1, v2, v4, v7, v7, v8, v9, v10, v11, v14, v15, v17, v18] h
 | _ => False
set_option maxRecDepth 20000 in
theorem f4_T8_ok (q : LPost) : RfN f4_L (f4_T8 q) (wpLs pcL f4_l7 (proj f4_L q)) :=
 seg_rule' 2 (fun env h => by kernel_rfl) (end_rule' (by kernel_rfl) (Rf.proj q) (fun _ _ x => x)) (Rf.proj q)
noncomputable def f4_l9 : List Code := flat (hdB f4_l6)
noncomputable def f4_l10 : List Code := flat (hdB f4_l9)
noncomputable def f4_l11 : List Code := f4_l10.drop 4
def f4_T11 (q : LPost) : List Value → Heap → Prop := fun vs h => match vs with
 | [v0, v1, v2, v4, v6, v7, v8, v9, v10, v11, v14, v15, v17, v18] =>
 oLen (Try.prog.underlying 27) v17 (fun x0 h1 =>
 oBin (Try.prog.underlying 3) .lss v18 x0 (fun x2 h3 =>
 oCond x2 (oIndexAddr (rowedOf Try.prog 27) v17 v18 (fun x4 h5 =>
 oLoad (varOf Try.prog 36) x4 (fun x6 h7 =>
 oAlloc (zeroOf Try.prog 36) 36 (fun x8 h9 =>
 oStore (varOf Try.prog 36) x8 x6 (fun _ h11 =>
 oFieldAddr (fieldOff Try.prog 36 0) x8 (fun x12 h13 =>
 oLoad (varOf Try.prog 3) x12 (fun x14 h15 =>
 oFieldAddr (fieldOff Try.prog 34 1) v4 (fun x16 h17 =>
 oLoad (varOf Try.prog 3) x16 (fun x18 h19 =>
 oBin (Try.prog.underlying 3) .eql x14 x18 (fun x20 h21 =>
 gop x20 true (oFieldAddr (fieldOff Try.prog 36 2) x8) (fun x22 h23 =>
 gop x20 true (oLoad (varOf Try.prog 28) x22) (fun x24 h25 =>
 gop x20 true (oLen (Try.prog.underlying 28) x24) (fun x26 h27 =>
 gop x20 true (oBin (Try.prog.underlying 3) .gtr x26 (.int .i64 0)) (fun x28 h29 =>
 oPick x20 x28 (.bool false) (fun x30 h31 =>
 gop x30 true (oFieldAddr (fieldOff Try.prog 36 2) x8) (fun x32 h33 =>
 gop x30 true (oLoad (varOf Try.prog 28) x32) (fun x34 h35 =>
 gop x30 true (oFieldAddr (fieldOff Try.prog 36 2) x8) (fun x36 h37 =>
 gop x30 true (oLoad (varOf Try.prog 28) x36) (fun x38 h39 =>
 gop x30 true (oLen (Try.prog.underlying 28) x38) (fun x40 h41 =>
 gop x30 true (oBin (Try.prog.underlying 3) .sub x40 (.int .i64 1)) (fun x42 h43 =>
 gop x30 true (oIndexAddr (rowedOf Try.prog 28) x34 x42) (fun x44 h45 =>
 gop x30 true (oLoad (varOf Try.prog 9) x44) (fun x46 h47 =>
 gop x30 true (oFieldAddr (fieldOff Try.prog 34 4) v4) (fun x48 h49 =>
 gop x30 true (oLoad (varOf Try.prog 9) x48) (fun x50 h51 =>
 gop x30 true (oBin (Try.prog.underlying 9) .eql x46 x50) (fun x52 h53 =>
 oPick x30 x52 (.bool false) (fun x54 h55 =>
 gop x54 true (fun K h => K v10 h) (fun x56 h57 =>
 gop x54 true (oFieldAddr (fieldOff Try.prog 36 1) x8) (fun x58 h59 =>
 gop x54 true (oLoad (varOf Try.prog 9) x58) (fun x60 h61 =>
 gop x54 true (oFieldAddr (fieldOff Try.prog 34 4) v4) (fun x62 h63 =>
 gop x54 true (oLoad (varOf Try.prog 9) x62) (fun x64 h65 =>
 gop x54 true (oPure pcL 13 [x56, x60, x64]) (fun x66 h67 =>
 gop x54 true (oBin (Try.prog.underlying 3) .eql x66 (.int .i64 0)) (fun x68 h69 =>
 oPick x54 x68 (.bool false) (fun x70 h71 =>
 gop x70 true (oFieldAddr (fieldOff Try.prog 36 3) x8) (fun x72 h73 =>
 gop x70 true (oLoad (varOf Try.prog 3) x72) (fun x74 h75 =>
 gop x70 true (fun K h => K v2 h) (fun x76 h77 =>
 gop x70 true (oBin (Try.prog.underlying 3) .geq x74 x76) (fun x78 h79 =>
 oPick x70 x78 (.bool false) (fun x80 h81 =>
 oCond x80 (q .ret [v0, v1, v2, v4, (.bool false), v7, v8, v9, v10, v11, v14, v15, v17, v18] h81) (oBin (Try.prog.underlying 3) .add v18 (.int .i64 1) (fun x82 h83 =>
 q .normal [v0, v1, v2, v4, v6, v7, v8, v9, v10, v11, v14, v15, v17, x82] h83) h81)) h79) h77) h75) h73) h71) h69) h67) h65) h63) h61) h59) h57) h55) h53) h51) h49) h47) h45) h43) h41) h39) h37) h35) h33) h31) h29) h27) h25) h23) h21) h19) h17) h15) h13) h11) h9) h7) h5) h3) (q (.exit 6) [v0, v1, v2, v4, v6, v7, v8, v9, v10, v11, v14, v15, v17, v18] h3)) h1) h
 | _ => False
set_option maxRecDepth 20000 in
theorem f4_T11_ok (q : LPost) : RfN f4_L (f4_T11 q) (wpLs pcL f4_l10 (proj f4_L q)) :=
 seg_rule' 4 (fun env h => by kernel_rfl) (end_rule' (by kernel_rfl) (Rf.proj q) (fun _ _ x => x)) (Rf.proj q)
def f4_T10 (q : LPost) : List Value → Heap → Prop := LoopS (fun q => f4_T11 q) (inBL 6 (thenL (f4_T8 q) (q)))
set_option maxRecDepth 20000 in
theorem f4_T10_ok (q : LPost) : RfN f4_L (f4_T10 q) (wpLs pcL f4_l9 (inB 6 (thenQ (wpLs pcL f4_l7 (proj f4_L q)) (proj f4_L q)))) :=
 loop_rule' (b := hdB f4_l9) (B := fun q => f4_T11 q) (c := inBL 6 (thenL (f4_T8 q) (q))) (by kernel_rfl) (fun _ _ x => x) (fun q => (f4_T11_ok q)) (Rf.inB (Rf.then (f4_T8_ok q) (Rf.proj q)))
set_option maxRecDepth 20000 in
theorem f4_B9_ok (q : LPost) : RfN f4_L (f4_T10 q) (wpLs pcL f4_l6 (proj f4_L q)) :=
 block_rule (id := 6) (b := hdB f4_l6) (rest := f4_l7) (by kernel_rfl) (f4_T10_ok q)
def f4_T6 (q : LPost) : List Value → Heap → Prop := fun vs h => match vs with
 | [v0, v1, v2, v4, v6, v7, v8, v9, v10, v11, v14, v15, _, _] =>
 oCallF Try.prog 11 [v8] (fun x84 h85 =>
 f4_T10 q [v0, v1, v2, v4, v6, v7, v8, v9, v10, v11, v14, v15, x84, (.int .i64 0)] h85) h
 | _ => False
set_option maxRecDepth 20000 in
theorem f4_T6_ok (q : LPost) : RfN f4_L (f4_T6 q) (wpLs pcL f4_l5 (proj f4_L q)) :=
 seg_rule' 2 (fun env h => by kernel_rfl) (f4_B9_ok q) (Rf.proj q)
noncomputable def f4_l12 : List Code := flat (hdB f4_l4)
noncomputable def f4_l13 : List Code := flat (hdB f4_l12)
noncomputable def f4_l14 : List Code := f4_l13.drop 4
def f4_T14 (q : LPost) : List Value → Heap → Prop := fun vs h => match vs with
 | [v0, v1, v2, v4, v6, v7, v8, v9, v10, v11, v14, v15, v17, v18] =>
 oLen (Try.prog.underlying 27) v14 (fun x86 h87 =>
 oBin (Try.prog.underlying 3) .lss v15 x86 (fun x88 h89 =>
 oCond x88 (oIndexAddr (rowedOf Try.prog 27) v14 v15 (fun x90 h91 =>
 oLoad (varOf Try.prog 36) x90 (fun x92 h93 =>
 oAlloc (zeroOf Try.prog 36) 36 (fun x94 h95 =>
 oStore (varOf Try.prog 36) x94 x92 (fun _ h97 =>
 oFieldAddr (fieldOff Try.prog 36 3) x94 (fun x98 h99 =>
 oLoad (varOf Try.prog 3) x98 (fun x100 h101 =>
 oBin (Try.prog.underlying 3) .lss x100 v2 (fun x102 h103 =>
 gop x102 false (oFieldAddr (fieldOff Try.prog 36 0) x94) (fun x104 h105 =>
 gop x102 false (oLoad (varOf Try.prog 3) x104) (fun x106 h107 =>
 gop x102 false (oFieldAddr (fieldOff Try.prog 34 1) v4) (fun x108 h109 =>
 gop x102 false (oLoad (varOf Try.prog 3) x108) (fun x110 h111 =>
 gop x102 false (oBin (Try.prog.underlying 3) .neq x106 x110) (fun x112 h113 =>
 oPick x102 (.bool true) x112 (fun x114 h115 =>
 gop x114 false (oFieldAddr (fieldOff Try.prog 36 2) x94) (fun x116 h117 =>
 gop x114 false (oLoad (varOf Try.prog 28) x116) (fun x118 h119 =>
 gop x114 false (oLen (Try.prog.underlying 28) x118) (fun x120 h121 =>
 gop x114 false (oBin (Try.prog.underlying 3) .eql x120 (.int .i64 0)) (fun x122 h123 =>
 oPick x114 (.bool true) x122 (fun x124 h125 =>
 gop x124 false (oFieldAddr (fieldOff Try.prog 36 2) x94) (fun x126 h127 =>
 gop x124 false (oLoad (varOf Try.prog 28) x126) (fun x128 h129 =>
 gop x124 false (oFieldAddr (fieldOff Try.prog 36 2) x94) (fun x130 h131 =>
 gop x124 false (oLoad (varOf Try.prog 28) x130) (fun x132 h133 =>
 gop x124 false (oLen (Try.prog.underlying 28) x132) (fun x134 h135 =>
 gop x124 false (oBin (Try.prog.underlying 3) .sub x134 (.int .i64 1)) (fun x136 h137 =>
 gop x124 false (oIndexAddr (rowedOf Try.prog 28) x128 x136) (fun x138 h139 =>
 gop x124 false (oLoad (varOf Try.prog 9) x138) (fun x140 h141 =>
 gop x124 false (oFieldAddr (fieldOff Try.prog 34 4) v4) (fun x142 h143 =>
 gop x124 false (oLoad (varOf Try.prog 9) x142) (fun x144 h145 =>
 gop x124 false (oBin (Try.prog.underlying 9) .neq x140 x144) (fun x146 h147 =>
 oPick x124 (.bool true) x146 (fun x148 h149 =>
 oCond x148 (q .ret [v0, v1, v2, v4, (.bool false), v7, v8, v9, v10, v11, v14, v15, v17, v18] h149) (oBin (Try.prog.underlying 3) .add v15 (.int .i64 1) (fun x150 h151 =>
 q .normal [v0, v1, v2, v4, v6, v7, v8, v9, v10, v11, v14, x150, v17, v18] h151) h149)) h147) h145) h143) h141) h139) h137) h135) h133) h131) h129) h127) h125) h123) h121) h119) h117) h115) h113) h111) h109) h107) h105) h103) h101) h99) h97) h95) h93) h91) h89) (q (.exit 4) [v0, v1, v2, v4, v6, v7, v8, v9, v10, v11, v14, v15, v17, v18] h89)) h87) h
 | _ => False
set_option maxRecDepth 20000 in
theorem f4_T14_ok (q : LPost) : RfN f4_L (f4_T14 q) (wpLs pcL f4_l13 (proj f4_L q)) :=
 seg_rule' 4 (fun env h => by kernel_rfl) (end_rule' (by kernel_rfl) (Rf.proj q) (fun _ _ x => x)) (Rf.proj q)
def f4_T13 (q : LPost) : List Value → Heap → Prop := LoopS (fun q => f4_T14 q) (inBL 4 (thenL (f4_T6 q) (q)))
set_option maxRecDepth 20000 in
theorem f4_T13_ok (q : LPost) : RfN f4_L (f4_T13 q) (wpLs pcL f4_l12 (inB 4 (thenQ (wpLs pcL f4_l5 (proj f4_L q)) (proj f4_L q)))) :=
 loop_rule' (b := hdB f4_l12) (B := fun q => f4_T14 q) (c := inBL 4 (thenL (f4_T6 q) (q))) (by kernel_rfl) (fun _ _ x => x) (fun q => (f4_T14_ok q)) (Rf.inB (Rf.then (f4_T6_ok q) (Rf.proj q)))
set_option maxRecDepth 20000 in
theorem f4_B12_ok (q : LPost) : RfN f4_L (f4_T13 q) (wpLs pcL f4_l4 (proj f4_L q)) :=
 block_rule (id := 4) (b := hdB f4_l4) (rest := f4_l5) (by kernel_rfl) (f4_T13_ok q)
def f4_T4 (q : LPost) : List Value → Heap → Prop := fun vs h => match vs with
 | [v0, v1, v2, v4, v6, v7, v8, v9, v10, v11, _, _, v17, v18] =>
 oFieldAddr (fieldOff Try.prog 34 4) v4 (fun x152 h153 =>
 oLoad (varOf Try.prog 9) x152 (fun x154 h155 =>
 oFieldAddr (fieldOff Try.prog 34 3) v4 (fun x156 h157 =>
 oLoad (varOf Try.prog 3) x156 (fun x158 h159 =>
 oFieldAddr (fieldOff Try.prog 34 1) v4 (fun x160 h161 =>
 oLoad (varOf Try.prog 3) x160 (fun x162 h163 =>
 oFieldAddr (fieldOff Try.prog 34 2) v4 (fun x164 h165 =>
 oLoad (varOf Try.prog 3) x164 (fun x166 h167 =>
 oFieldAddr (fieldOff Try.prog 34 6) v4 (fun x168 h169 =>
 oLoad (varOf Try.prog 31) x168 (fun x170 h171 =>
 oFieldAddr (fieldOff Try.prog 34 7) v4 (fun x172 h173 =>
 oLoad (varOf Try.prog 32) x172 (fun x174 h175 =>
 oCallF Try.prog 16 [v8, x154, x158, x162, x166, x170, x174, v2] (fun x176 h177 =>
 oExtract x176 0 (fun _ h179 =>
 oExtract x176 1 (fun x180 h181 =>
 f4_T13 q [v0, v1, v2, v4, v6, v7, v8, v9, v10, v11, x180, (.int .i64 0), v17, v18] h181) h179) h177) h175) h173) h171) h169) h167) h165) h163) h161) h159) h157) h155) h153) h
 | _ => False
set_option maxRecDepth 20000 in
theorem f4_T4_ok (q : LPost) : RfN f4_L (f4_T4 q) (wpLs pcL f4_l3 (proj f4_L q)) :=
 seg_rule' 2 (fun env h => by kernel_rfl) (f4_B12_ok q) (Rf.proj q)
noncomputable def f4_l15 : List Code := flat (hdB f4_l2)
noncomputable def f4_l16 : List Code := flat (hdB f4_l15)
noncomputable def f4_l17 : List Code := f4_l16.drop 4
def f4_T17 (q : LPost) : List Value → Heap → Prop := fun vs h => match vs with
 | [v0, v1, v2, v4, v6, v7, v8, v9, v10, v11, v14, v15, v17, v18] =>
 oLen (Try.prog.underlying 27) v10 (fun x182 h183 =>
 oBin (Try.prog.underlying 3) .lss v11 x182 (fun x184 h185 =>
 oCond x184 (oIndexAddr (rowedOf Try.prog 27) v10 v11 (fun x186 h187 =>
 oLoad (varOf Try.prog 36) x186 (fun x188 h189 =>
 oAlloc (zeroOf Try.prog 36) 36 (fun x190 h191 =>
 oStore (varOf Try.prog 36) x190 x188 (fun _ h193 =>
 oFieldAddr (fieldOff Try.prog 36 2) x190 (fun x194 h195 =>
 oLoad (varOf Try.prog 28) x194 (fun x196 h197 =>
 oLen (Try.prog.underlying 28) x196 (fun x198 h199 =>
 oBin (Try.prog.underlying 3) .eql x198 (.int .i64 0) (fun x200 h201 =>
 gop x200 false (fun K h => K v11 h) (fun x202 h203 =>
 gop x200 false (oBin (Try.prog.underlying 3) .gtr x202 (.int .i64 0)) (fun x204 h205 =>
 gop x200 false (fun K h => K x204 h) (fun x206 h207 =>
 gop x206 true (fun K h => K v10 h) (fun x208 h209 =>
 gop x206 true (fun K h => K v11 h) (fun x210 h211 =>
 gop x206 true (oBin (Try.prog.underlying 3) .sub x210 (.int .i64 1)) (fun x212 h213 =>
 gop x206 true (oIndexAddr (rowedOf Try.prog 27) x208 x212) (fun x214 h215 =>
 gop x206 true (oFieldAddr (fieldOff Try.prog 36 0) x214) (fun x216 h217 =>
 gop x206 true (oLoad (varOf Try.prog 3) x216) (fun x218 h219 =>
 gop x206 true (oFieldAddr (fieldOff Try.prog 36 0) x190) (fun x220 h221 =>
 gop x206 true (oLoad (varOf Try.prog 3) x220) (fun x222 h223 =>
 gop x206 true (oBin (Try.prog.underlying 3) .gtr x218 x222) (fun x224 h225 =>
 gop x206 true (fun K h => K x224 h) (fun x226 h227 =>
 gop x226 false (fun K h => K v10 h) (fun x228 h229 =>
 gop x226 false (fun K h => K v11 h) (fun x230 h231 =>
 gop x226 false (oBin (Try.prog.underlying 3) .sub x230 (.int .i64 1)) (fun x232 h233 =>
 gop x226 false (oIndexAddr (rowedOf Try.prog 27) x228 x232) (fun x234 h235 =>
 gop x226 false (oFieldAddr (fieldOff Try.prog 36 0) x234) (fun x236 h237 =>
 gop x226 false (oLoad (varOf Try.prog 3) x236) (fun x238 h239 =>
 gop x226 false (oFieldAddr (fieldOff Try.prog 36 0) x190) (fun x240 h241 =>
 gop x226 false (oLoad (varOf Try.prog 3) x240) (fun x242 h243 =>
 gop x226 false (oBin (Try.prog.underlying 3) .eql x238 x242) (fun x244 h245 =>
 gop x226 false (fun K h => K x244 h) (fun x246 h247 =>
 gop x246 true (fun K h => K v10 h) (fun x248 h249 =>
 gop x246 true (fun K h => K v11 h) (fun x250 h251 =>
 gop x246 true (oBin (Try.prog.underlying 3) .sub x250 (.int .i64 1)) (fun x252 h253 =>
 gop x246 true (oIndexAddr (rowedOf Try.prog 27) x248 x252) (fun x254 h255 =>
 gop x246 true (oFieldAddr (fieldOff Try.prog 36 1) x254) (fun x256 h257 =>
 gop x246 true (oLoad (varOf Try.prog 9) x256) (fun x258 h259 =>
 gop x246 true (oFieldAddr (fieldOff Try.prog 36 1) x190) (fun x260 h261 =>
 gop x246 true (oLoad (varOf Try.prog 9) x260) (fun x262 h263 =>
 gop x246 true (oBin (Try.prog.underlying 9) .geq x258 x262) (fun x264 h265 =>
 gop x226 false (oPick x246 x264 (.bool false)) (fun x266 h267 =>
 gop x206 true (oPick x226 (.bool true) x266) (fun x268 h269 =>
 gop x200 false (oPick x206 x268 (.bool false)) (fun x270 h271 =>
 oPick x200 (.bool true) x270 (fun x272 h273 =>
 oCond x272 (q .ret [v0, v1, v2, v4, (.bool false), v7, v8, v9, v10, v11, v14, v15, v17, v18] h273) (oBin (Try.prog.underlying 3) .add v11 (.int .i64 1) (fun x274 h275 =>
 q .normal [v0, v1, v2, v4, v6, v7, v8, v9, v10, x274, v14, v15, v17, v18] h275) h273)) h271) h269) h267) h265) h263) h261) h259) h257) h255) h253) h251) h249) h247) h245) h243) h241) h239) h237) h235) h233) h231) h229) h227) h225) h223) h221) h219) h217) h215) h213) h211) h209) h207) h205) h203) h201) h199) h197) h195) h193) h191) h189) h187) h185) (q (.exit 2) [v0, v1, v2, v4, v6, v7, v8, v9, v10, v11, v14, v15, v17, v18] h185)) h183) h
 | _ => False
set_option maxRecDepth 20000 in
theorem f4_T17_ok (q : LPost) : RfN f4_L (f4_T17 q) (wpLs pcL f4_l16 (proj f4_L q)) :=
 seg_rule' 4 (fun env h => by kernel_rfl) (end_rule' (by kernel_rfl) (Rf.proj q) (fun _ _ x => x)) (Rf.proj q)
def f4_T16 (q : LPost) : List Value → Heap → Prop := LoopS (fun q => f4_T17 q) (inBL 2 (thenL (f4_T4 q) (q)))
set_option maxRecDepth 20000 in
theorem f4_T16_ok (q : LPost) : RfN f4_L (f4_T16 q) (wpLs pcL f4_l15 (inB 2 (thenQ (wpLs pcL f4_l3 (proj f4_L q)) (proj f4_L q)))) :=
 loop_rule' (b := hdB f4_l15) (B := fun q => f4_T17 q) (c := inBL 2 (thenL (f4_T4 q) (q))) (by kernel_rfl) (fun _ _ x => x) (fun q => (f4_T17_ok q)) (Rf.inB (Rf.then (f4_T4_ok q) (Rf.proj q)))
set_option maxRecDepth 20000 in
theorem f4_B15_ok (q : LPost) : RfN f4_L (f4_T16 q) (wpLs pcL f4_l2 (proj f4_L q)) :=
 block_rule (id := 2) (b := hdB f4_l2) (rest := f4_l3) (by kernel_rfl) (f4_T16_ok q)
def f4_T2 (q : LPost) : List Value → Heap → Prop := fun vs h => match vs with
 | [v0, v1, v2, v4, v6, v7, v8, v9, _, _, v14, v15, v17, v18] =>
 oCallF Try.prog 11 [v8] (fun x276 h277 =>
 f4_T16 q [v0, v1, v2, v4, v6, v7, v8, v9, x276, (.int .i64 0), v14, v15, v17, v18] h277) h
 | _ => False
set_option maxRecDepth 20000 in
theorem f4_T2_ok (q : LPost) : RfN f4_L (f4_T2 q) (wpLs pcL f4_l1 (proj f4_L q)) :=
 seg_rule' 2 (fun env h => by kernel_rfl) (f4_B15_ok q) (Rf.proj q)
noncomputable def f4_l18 : List Code := flat (hdB f4_l0)
noncomputable def f4_l19 : List Code := flat (hdB f4_l18)
noncomputable def f4_l20 : List Code := f4_l19.drop 4
def f4_T20 (q : LPost) : List Value → Heap → Prop := fun vs h => match vs with
 | [v0, v1, v2, v4, v6, v7, v8, v9, v10, v11, v14, v15, v17, v18] =>
 oLen (Try.prog.underlying 22) v0 (fun x278 h279 =>
 oBin (Try.prog.underlying 3) .lss v9 x278 (fun x280 h281 =>
 oCond x280 (oIndexAddr (rowedOf Try.prog 22) v0 v9 (fun x282 h283 =>
 oLoad (varOf Try.prog 34) x282 (fun x284 h285 =>
 oCallF Try.prog 10 [v8, x284] (fun _ h287 =>
 oBin (Try.prog.underlying 3) .add v9 (.int .i64 1) (fun x288 h289 =>
 q .normal [v0, v1, v2, v4, v6, v7, v8, x288, v10, v11, v14, v15, v17, v18] h289) h287) h285) h283) h281) (q (.exit 0) [v0, v1, v2, v4, v6, v7, v8, v9, v10, v11, v14, v15, v17, v18] h281)) h279) h
 | _ => False
set_option maxRecDepth 20000 in
theorem f4_T20_ok (q : LPost) : RfN f4_L (f4_T20 q) (wpLs pcL f4_l19 (proj f4_L q)) :=
 seg_rule' 4 (fun env h => by kernel_rfl) (end_rule' (by kernel_rfl) (Rf.proj q) (fun _ _ x => x)) (Rf.proj q)
def f4_T19 (q : LPost) : List Value → Heap → Prop := LoopS (fun q => f4_T20 q) (inBL 0 (thenL (f4_T2 q) (q)))
set_option maxRecDepth 20000 in
theorem f4_T19_ok (q : LPost) : RfN f4_L (f4_T19 q) (wpLs pcL f4_l18 (inB 0 (thenQ (wpLs pcL f4_l1 (proj f4_L q)) (proj f4_L q)))) :=
 loop_rule' (b := hdB f4_l18) (B := fun q => f4_T20 q) (c := inBL 0 (thenL (f4_T2 q) (q))) (by kernel_rfl) (fun _ _ x => x) (fun q => (f4_T20_ok q)) (Rf.inB (Rf.then (f4_T2_ok q) (Rf.proj q)))
set_option maxRecDepth 20000 in
theorem f4_B18_ok (q : LPost) : RfN f4_L (f4_T19 q) (wpLs pcL f4_l0 (proj f4_L q)) :=
 block_rule (id := 0) (b := hdB f4_l0) (rest := f4_l1) (by kernel_rfl) (f4_T19_ok q)
def f4_T0 (q : LPost) : List Value → Heap → Prop := fun vs h => match vs with
 | [v0, v1, v2, _, _, _, v8, v9, v10, v11, v14, v15, v17, v18] =>
 oBox 34 v1 (fun x290 h291 =>
 oCallF Try.prog 7 [] (fun x292 h293 =>
 oCallF Try.prog 8 [v0] (fun x294 h295 =>
 oUn .not x294 (fun x296 h297 =>
 gop x296 false (oLoad (varOf Try.prog 34) x290) (fun x298 h299 =>
 gop x296 false (oBuildSlice (sliceOf Try.prog 22) 1 [(0, x298)]) (fun x300 h301 =>
 gop x296 false (oCallF Try.prog 8 [x300]) (fun x302 h303 =>
 gop x296 false (oUn .not x302) (fun x304 h305 =>
 oPick x296 (.bool true) x304 (fun x306 h307 =>
 gop x306 false (fun K h => K v2 h) (fun x308 h309 =>
 gop x306 false (oBin (Try.prog.underlying 3) .lss x308 (.int .i64 1)) (fun x310 h311 =>
 oPick x306 (.bool true) x310 (fun x312 h313 =>
 oCond x312 (q .ret [v0, v1, v2, x290, x292, x292, v8, v9, v10, v11, v14, v15, v17, v18] h313) (oCallF Try.prog 9 [] (fun x314 h315 =>
 f4_T19 q [v0, v1, v2, x290, (.bool false), x292, x314, (.int .i64 0), v10, v11, v14, v15, v17, v18] h315) h313)) h311) h309) h307) h305) h303) h301) h299) h297) h295) h293) h291) h
 | _ => False
set_option maxRecDepth 20000 in
theorem f4_T0_ok (q : LPost) : RfN f4_L (f4_T0 q) (wpLs pcL f4_l (proj f4_L q)) :=
 seg_rule' 6 (fun env h => by kernel_rfl) (f4_B18_ok q) (Rf.proj q)
theorem f4_ret {v0 v1 v2 v4 v6 v7 v8 v9 v10 v11 v14 v15 v17 v18 : Value} {h : Heap} {K : Kont} : retL Try.prog f4_L Try.f4.results.toList K .ret [v0, v1, v2, v4, v6, v7, v8, v9, v10, v11, v14, v15, v17, v18] h = (K v6 h) := by kernel_rfl
theorem f4_end {v0 v1 v2 v4 v6 v7 v8 v9 v10 v11 v14 v15 v17 v18 : Value} {h : Heap} {K : Kont} : retL Try.prog f4_L Try.f4.results.toList K .normal [v0, v1, v2, v4, v6, v7, v8, v9, v10, v11, v14, v15, v17, v18] h = (K v6 h) := by kernel_rfl
set_option maxRecDepth 20000 in
theorem f4_fn {a0 a1 a2 : Value} {h : Heap} {K : Kont}
 (hw : f4_T0 (retL Try.prog f4_L Try.f4.results.toList K) [a0, a1, a2, undef, undef, undef, undef, undef, undef, undef, undef, undef, undef, undef] h) : FnH Try.prog 4 #[a0, a1, a2] h K :=
 fn_by (L := f4_L) (T := fun q => f4_T0 q) (args := [a0, a1, a2]) pcL mixed Try.func4 (c := f4_c) (by kernel_rfl) (by kernel_rfl) (by kernel_rfl) (by kernel_rfl) (fun q => (f4_T0_ok q)) hw
/-! ### 5: missive/missivelaw37.DuePeriods -/
noncomputable def f5_c : Code := Try.f5.body.getD .skip
def f5_L : List Nat := [0, 1, 2, 3, 8, 9, 10, 11, 12, 13, 14, 15]
noncomputable def f5_l : List Code := flat f5_c
noncomputable def f5_l0 : List Code := f5_l.drop 6
noncomputable def f5_l1 : List Code := f5_l0.drop 1
noncomputable def f5_l2 : List Code := f5_l1.drop 4
noncomputable def f5_l3 : List Code := f5_l2.drop 1
noncomputable def f5_l4 : List Code := f5_l3.drop 5
def f5_T4 (q : LPost) : List Value → Heap → Prop := fun vs h => match vs with
 | [v0, v1, v2, v3, _, v9, v10, v11, v12, v13, v14, v15] =>
 oCallF Try.prog 17 [v10, v1, v2, v3] (fun x0 h1 =>
 oCallF Try.prog 11 [v10] (fun x2 h3 =>
 oCallF Try.prog 17 [v10, v1, v2, v3] (fun x4 h5 =>
 gop v9 true (fun K h => K x0 h) (fun x6 h7 =>
 gop v9 true (fun K h => K v13 h) (fun x8 h9 =>
 gop v9 true (oCallF Try.prog 18 [x6, x8]) (fun x10 h11 =>
 oPick v9 x10 (.bool false) (fun x12 h13 =>
 gop x12 true (fun K h => K x2 h) (fun x14 h15 =>
 gop x12 true (fun K h => K v14 h) (fun x16 h17 =>
 gop x12 true (oCallF Try.prog 18 [x14, x16]) (fun x18 h19 =>
 oPick x12 x18 (.bool false) (fun x20 h21 =>
 gop x20 true (fun K h => K x4 h) (fun x22 h23 =>
 gop x20 true (oLen (Try.prog.underlying 27) x22) (fun x24 h25 =>
 gop x20 true (oBin (Try.prog.underlying 3) .eql x24 (.int .i64 0)) (fun x26 h27 =>
 oPick x20 x26 (.bool false) (fun x28 h29 =>
 q .ret [v0, v1, v2, v3, x28, v9, v10, v11, v12, v13, v14, v15] h29) h27) h25) h23) h21) h19) h17) h15) h13) h11) h9) h7) h5) h3) h1) h
 | _ => False
set_option maxRecDepth 20000 in
theorem f5_T4_ok (q : LPost) : RfN f5_L (f5_T4 q) (wpLs pcL f5_l3 (proj f5_L q)) :=
 seg_rule' 5 (fun env h => by kernel_rfl) (end_rule' (by kernel_rfl) (Rf.proj q) (fun _ _ x => x)) (Rf.proj q)
noncomputable def f5_l5 : List Code := flat (hdB f5_l2)
noncomputable def f5_l6 : List Code := flat (hdB f5_l5)
noncomputable def f5_l7 : List Code := f5_l6.drop 3
noncomputable def f5_l8 : List Code := f5_l7.drop 1
def f5_T8 (q : LPost) : List Value → Heap → Prop := fun vs h => match vs with
 | [v0, v1, v2, v3, v8, v9, v10, v11, v12, v13, v14, v15] =>
 oBin (Try.prog.underlying 3) .add v15 (.int .i64 1) (fun x30 h31 =>
 q .normal [v0, v1, v2, v3, v8, v9, v10, v11, v12, v13, v14, x30] h31) h
 | _ => False
set_option maxRecDepth 20000 in
theorem f5_T8_ok (q : LPost) : RfN f5_L (f5_T8 q) (wpLs pcL f5_l7 (proj f5_L q)) :=
 seg_rule' 1 (fun env h => by kernel_rfl) (end_rule' (by kernel_rfl) (Rf.proj q) (fun _ _ x => x)) (Rf.proj q)
def f5_T7 (q : LPost) : List Value → Heap → Prop := fun vs h => match vs with
 | [v0, v1, v2, v3, v8, v9, v10, v11, v12, v13, v14, v15] =>
 oLen (Try.prog.underlying 27) v12 (fun x32 h33 =>
 oBin (Try.prog.underlying 3) .lss v15 x32 (fun x34 h35 =>
 oCond x34 (oIndexAddr (rowedOf Try.prog 27) v12 v15 (fun x36 h37 =>
 oFieldAddr (fieldOff Try.prog 36 0) x36 (fun x38 h39 =>
 oLoad (varOf Try.prog 3) x38 (fun x40 h41 =>
 oBin (Try.prog.underlying 3) .eql x40 v1 (fun x42 h43 =>
 gop x42 true (fun K h => K v2 h) (fun x44 h45 =>
 gop x42 true (fun K h => K v12 h) (fun x46 h47 =>
 gop x42 true (fun K h => K v15 h) (fun x48 h49 =>
 gop x42 true (oIndexAddr (rowedOf Try.prog 27) x46 x48) (fun x50 h51 =>
 gop x42 true (oFieldAddr (fieldOff Try.prog 36 4) x50) (fun x52 h53 =>
 gop x42 true (oLoad (varOf Try.prog 3) x52) (fun x54 h55 =>
 gop x42 true (oBin (Try.prog.underlying 3) .sub x44 x54) (fun x56 h57 =>
 gop x42 true (fun K h => K v3 h) (fun x58 h59 =>
 gop x42 true (oBin (Try.prog.underlying 3) .geq x56 x58) (fun x60 h61 =>
 oPick x42 x60 (.bool false) (fun x62 h63 =>
 oCond x62 (oIndexAddr (rowedOf Try.prog 27) v12 v15 (fun x64 h65 =>
 oLoad (varOf Try.prog 36) x64 (fun x66 h67 =>
 oBuildSlice (sliceOf Try.prog 27) 1 [(0, x66)] (fun x68 h69 =>
 oAppend (sliceOf Try.prog 27) v13 x68 (fun x70 h71 =>
 f5_T8 q [v0, v1, v2, v3, v8, v9, v10, v11, v12, x70, v14, v15] h71) h69) h67) h65) h63) (oIndexAddr (rowedOf Try.prog 27) v12 v15 (fun x72 h73 =>
 oLoad (varOf Try.prog 36) x72 (fun x74 h75 =>
 oBuildSlice (sliceOf Try.prog 27) 1 [(0, x74)] (fun x76 h77 =>
 oAppend (sliceOf Try.prog 27) v14 x76 (fun x78 h79 =>
 f5_T8 q [v0, v1, v2, v3, v8, v9, v10, v11, v12, v13, x78, v15] h79) h77) h75) h73) h63)) h61) h59) h57) h55) h53) h51) h49) h47) h45) h43) h41) h39) h37) h35) (q (.exit 2) [v0, v1, v2, v3, v8, v9, v10, v11, v12, v13, v14, v15] h35)) h33) h
 | _ => False
set_option maxRecDepth 20000 in
theorem f5_T7_ok (q : LPost) : RfN f5_L (f5_T7 q) (wpLs pcL f5_l6 (proj f5_L q)) :=
 seg_rule' 3 (fun env h => by kernel_rfl) (f5_T8_ok q) (Rf.proj q)
def f5_T6 (q : LPost) : List Value → Heap → Prop := LoopS (fun q => f5_T7 q) (inBL 2 (thenL (f5_T4 q) (q)))
set_option maxRecDepth 20000 in
theorem f5_T6_ok (q : LPost) : RfN f5_L (f5_T6 q) (wpLs pcL f5_l5 (inB 2 (thenQ (wpLs pcL f5_l3 (proj f5_L q)) (proj f5_L q)))) :=
 loop_rule' (b := hdB f5_l5) (B := fun q => f5_T7 q) (c := inBL 2 (thenL (f5_T4 q) (q))) (by kernel_rfl) (fun _ _ x => x) (fun q => (f5_T7_ok q)) (Rf.inB (Rf.then (f5_T4_ok q) (Rf.proj q)))
set_option maxRecDepth 20000 in
theorem f5_B5_ok (q : LPost) : RfN f5_L (f5_T6 q) (wpLs pcL f5_l2 (proj f5_L q)) :=
 block_rule (id := 2) (b := hdB f5_l2) (rest := f5_l3) (by kernel_rfl) (f5_T6_ok q)
def f5_T2 (q : LPost) : List Value → Heap → Prop := fun vs h => match vs with
 | [v0, v1, v2, v3, v8, v9, v10, v11, _, _, _, _] =>
 oCallF Try.prog 11 [v10] (fun x80 h81 =>
 f5_T6 q [v0, v1, v2, v3, v8, v9, v10, v11, x80, (.slice none 0 0), (.slice none 0 0), (.int .i64 0)] h81) h
 | _ => False
set_option maxRecDepth 20000 in
theorem f5_T2_ok (q : LPost) : RfN f5_L (f5_T2 q) (wpLs pcL f5_l1 (proj f5_L q)) :=
 seg_rule' 4 (fun env h => by kernel_rfl) (f5_B5_ok q) (Rf.proj q)
noncomputable def f5_l9 : List Code := flat (hdB f5_l0)
noncomputable def f5_l10 : List Code := flat (hdB f5_l9)
noncomputable def f5_l11 : List Code := f5_l10.drop 4
def f5_T11 (q : LPost) : List Value → Heap → Prop := fun vs h => match vs with
 | [v0, v1, v2, v3, v8, v9, v10, v11, v12, v13, v14, v15] =>
 oLen (Try.prog.underlying 22) v0 (fun x82 h83 =>
 oBin (Try.prog.underlying 3) .lss v11 x82 (fun x84 h85 =>
 oCond x84 (oIndexAddr (rowedOf Try.prog 22) v0 v11 (fun x86 h87 =>
 oLoad (varOf Try.prog 34) x86 (fun x88 h89 =>
 oCallF Try.prog 10 [v10, x88] (fun _ h91 =>
 oBin (Try.prog.underlying 3) .add v11 (.int .i64 1) (fun x92 h93 =>
 q .normal [v0, v1, v2, v3, v8, v9, v10, x92, v12, v13, v14, v15] h93) h91) h89) h87) h85) (q (.exit 0) [v0, v1, v2, v3, v8, v9, v10, v11, v12, v13, v14, v15] h85)) h83) h
 | _ => False
set_option maxRecDepth 20000 in
theorem f5_T11_ok (q : LPost) : RfN f5_L (f5_T11 q) (wpLs pcL f5_l10 (proj f5_L q)) :=
 seg_rule' 4 (fun env h => by kernel_rfl) (end_rule' (by kernel_rfl) (Rf.proj q) (fun _ _ x => x)) (Rf.proj q)
def f5_T10 (q : LPost) : List Value → Heap → Prop := LoopS (fun q => f5_T11 q) (inBL 0 (thenL (f5_T2 q) (q)))
set_option maxRecDepth 20000 in
theorem f5_T10_ok (q : LPost) : RfN f5_L (f5_T10 q) (wpLs pcL f5_l9 (inB 0 (thenQ (wpLs pcL f5_l1 (proj f5_L q)) (proj f5_L q)))) :=
 loop_rule' (b := hdB f5_l9) (B := fun q => f5_T11 q) (c := inBL 0 (thenL (f5_T2 q) (q))) (by kernel_rfl) (fun _ _ x => x) (fun q => (f5_T11_ok q)) (Rf.inB (Rf.then (f5_T2_ok q) (Rf.proj q)))
set_option maxRecDepth 20000 in
theorem f5_B9_ok (q : LPost) : RfN f5_L (f5_T10 q) (wpLs pcL f5_l0 (proj f5_L q)) :=
 block_rule (id := 0) (b := hdB f5_l0) (rest := f5_l1) (by kernel_rfl) (f5_T10_ok q)
def f5_T0 (q : LPost) : List Value → Heap → Prop := fun vs h => match vs with
 | [v0, v1, v2, v3, _, _, v10, v11, v12, v13, v14, v15] =>
 oCallF Try.prog 7 [] (fun x94 h95 =>
 oCallF Try.prog 8 [v0] (fun x96 h97 =>
 oUn .not x96 (fun x98 h99 =>
 oCond x98 (q .ret [v0, v1, v2, v3, x94, x94, v10, v11, v12, v13, v14, v15] h99) (oCallF Try.prog 9 [] (fun x100 h101 =>
 f5_T10 q [v0, v1, v2, v3, (.bool false), x94, x100, (.int .i64 0), v12, v13, v14, v15] h101) h99)) h97) h95) h
 | _ => False
set_option maxRecDepth 20000 in
theorem f5_T0_ok (q : LPost) : RfN f5_L (f5_T0 q) (wpLs pcL f5_l (proj f5_L q)) :=
 seg_rule' 6 (fun env h => by kernel_rfl) (f5_B9_ok q) (Rf.proj q)
theorem f5_ret {v0 v1 v2 v3 v8 v9 v10 v11 v12 v13 v14 v15 : Value} {h : Heap} {K : Kont} : retL Try.prog f5_L Try.f5.results.toList K .ret [v0, v1, v2, v3, v8, v9, v10, v11, v12, v13, v14, v15] h = (K v8 h) := by kernel_rfl
theorem f5_end {v0 v1 v2 v3 v8 v9 v10 v11 v12 v13 v14 v15 : Value} {h : Heap} {K : Kont} : retL Try.prog f5_L Try.f5.results.toList K .normal [v0, v1, v2, v3, v8, v9, v10, v11, v12, v13, v14, v15] h = (K v8 h) := by kernel_rfl
set_option maxRecDepth 20000 in
theorem f5_fn {a0 a1 a2 a3 : Value} {h : Heap} {K : Kont}
 (hw : f5_T0 (retL Try.prog f5_L Try.f5.results.toList K) [a0, a1, a2, a3, undef, undef, undef, undef, undef, undef, undef, undef] h) : FnH Try.prog 5 #[a0, a1, a2, a3] h K :=
 fn_by (L := f5_L) (T := fun q => f5_T0 q) (args := [a0, a1, a2, a3]) pcL mixed Try.func5 (c := f5_c) (by kernel_rfl) (by kernel_rfl) (by kernel_rfl) (by kernel_rfl) (fun q => (f5_T0_ok q)) hw
@[go_sem] theorem esz27 : elemSize Try.prog 27 = some 5 := by kernel_rfl
/-! ### 6: missive/missivelaw37.DueMerges -/
noncomputable def f6_c : Code := Try.f6.body.getD .skip
def f6_L : List Nat := [0, 1, 2, 3, 8, 9, 10, 11, 12, 14, 15, 16, 17, 18, 19, 20, 21, 22, 23, 24]
noncomputable def f6_l : List Code := flat f6_c
noncomputable def f6_l0 : List Code := f6_l.drop 6
noncomputable def f6_l1 : List Code := f6_l0.drop 1
noncomputable def f6_l2 : List Code := f6_l1.drop 12
noncomputable def f6_l3 : List Code := f6_l2.drop 1
noncomputable def f6_l4 : List Code := f6_l3.drop 1
noncomputable def f6_l5 : List Code := f6_l4.drop 1
noncomputable def f6_l6 : List Code := f6_l5.drop 2
def f6_T6 (q : LPost) : List Value → Heap → Prop := fun vs h => match vs with
 | [v0, v1, v2, v3, _, v9, v10, v11, v12, v14, v15, v16, v17, v18, v19, v20, v21, v22, v23, v24] =>
 gop v9 true (fun K h => K v17 h) (fun x0 h1 =>
 gop v9 true (fun K h => K v18 h) (fun x2 h3 =>
 gop v9 true (oBin (Try.prog.underlying 3) .eql x0 x2) (fun x4 h5 =>
 oPick v9 x4 (.bool false) (fun x6 h7 =>
 q .ret [v0, v1, v2, v3, x6, v9, v10, v11, v12, v14, v15, v16, v17, v18, v19, v20, v21, v22, v23, v24] h7) h5) h3) h1) h
 | _ => False
set_option maxRecDepth 20000 in
theorem f6_T6_ok (q : LPost) : RfN f6_L (f6_T6 q) (wpLs pcL f6_l5 (proj f6_L q)) :=
 seg_rule' 2 (fun env h => by kernel_rfl) (end_rule' (by kernel_rfl) (Rf.proj q) (fun _ _ x => x)) (Rf.proj q)
noncomputable def f6_l7 : List Code := flat (hdB f6_l4)
noncomputable def f6_l8 : List Code := flat (hdB f6_l7)
noncomputable def f6_l9 : List Code := f6_l8.drop 4
def f6_T9 (q : LPost) : List Value → Heap → Prop := fun vs h => match vs with
 | [v0, v1, v2, v3, v8, v9, v10, v11, v12, v14, v15, v16, v17, v18, v19, v20, v21, v22, v23, v24] =>
 oLen (Try.prog.underlying 27) v16 (fun x8 h9 =>
 oBin (Try.prog.underlying 3) .lss v24 x8 (fun x10 h11 =>
 oCond x10 (oIndexAddr (rowedOf Try.prog 27) v16 v24 (fun x12 h13 =>
 oFieldAddr (fieldOff Try.prog 36 3) x12 (fun x14 h15 =>
 oLoad (varOf Try.prog 3) x14 (fun x16 h17 =>
 oBin (Try.prog.underlying 3) .add v18 x16 (fun x18 h19 =>
 oLen (Try.prog.underlying 27) v14 (fun x20 h21 =>
 oBin (Try.prog.underlying 3) .geq v24 x20 (fun x22 h23 =>
 gop x22 true (fun K h => K v16 h) (fun x24 h25 =>
 gop x22 true (fun K h => K v24 h) (fun x26 h27 =>
 gop x22 true (oIndexAddr (rowedOf Try.prog 27) x24 x26) (fun x28 h29 =>
 gop x22 true (oFieldAddr (fieldOff Try.prog 36 0) x28) (fun x30 h31 =>
 gop x22 true (oLoad (varOf Try.prog 3) x30) (fun x32 h33 =>
 gop x22 true (fun K h => K v1 h) (fun x34 h35 =>
 gop x22 true (oBin (Try.prog.underlying 3) .eql x32 x34) (fun x36 h37 =>
 oPick x22 x36 (.bool false) (fun x38 h39 =>
 gop x38 false (fun K h => K v24 h) (fun x40 h41 =>
 gop x38 false (fun K h => K v14 h) (fun x42 h43 =>
 gop x38 false (oLen (Try.prog.underlying 27) x42) (fun x44 h45 =>
 gop x38 false (oBin (Try.prog.underlying 3) .lss x40 x44) (fun x46 h47 =>
 gop x38 false (fun K h => K x46 h) (fun x48 h49 =>
 gop x48 true (fun K h => K v16 h) (fun x50 h51 =>
 gop x48 true (fun K h => K v24 h) (fun x52 h53 =>
 gop x48 true (oIndexAddr (rowedOf Try.prog 27) x50 x52) (fun x54 h55 =>
 gop x48 true (oFieldAddr (fieldOff Try.prog 36 0) x54) (fun x56 h57 =>
 gop x48 true (oLoad (varOf Try.prog 3) x56) (fun x58 h59 =>
 gop x48 true (fun K h => K v1 h) (fun x60 h61 =>
 gop x48 true (oBin (Try.prog.underlying 3) .neq x58 x60) (fun x62 h63 =>
 gop x38 false (oPick x48 x62 (.bool false)) (fun x64 h65 =>
 oPick x38 (.bool true) x64 (fun x66 h67 =>
 oCond x66 (q .ret [v0, v1, v2, v3, (.bool false), v9, v10, v11, v12, v14, v15, v16, v17, x18, v19, v20, v21, v22, v23, v24] h67) (oBin (Try.prog.underlying 3) .add v24 (.int .i64 1) (fun x68 h69 =>
 q .normal [v0, v1, v2, v3, v8, v9, v10, v11, v12, v14, v15, v16, v17, x18, v19, v20, v21, v22, v23, x68] h69) h67)) h65) h63) h61) h59) h57) h55) h53) h51) h49) h47) h45) h43) h41) h39) h37) h35) h33) h31) h29) h27) h25) h23) h21) h19) h17) h15) h13) h11) (q (.exit 8) [v0, v1, v2, v3, v8, v9, v10, v11, v12, v14, v15, v16, v17, v18, v19, v20, v21, v22, v23, v24] h11)) h9) h
 | _ => False
set_option maxRecDepth 20000 in
theorem f6_T9_ok (q : LPost) : RfN f6_L (f6_T9 q) (wpLs pcL f6_l8 (proj f6_L q)) :=
 seg_rule' 4 (fun env h => by kernel_rfl) (end_rule' (by kernel_rfl) (Rf.proj q) (fun _ _ x => x)) (Rf.proj q)
def f6_T8 (q : LPost) : List Value → Heap → Prop := LoopS (fun q => f6_T9 q) (inBL 8 (thenL (f6_T6 q) (q)))
set_option maxRecDepth 20000 in
theorem f6_T8_ok (q : LPost) : RfN f6_L (f6_T8 q) (wpLs pcL f6_l7 (inB 8 (thenQ (wpLs pcL f6_l5 (proj f6_L q)) (proj f6_L q)))) :=
 loop_rule' (b := hdB f6_l7) (B := fun q => f6_T9 q) (c := inBL 8 (thenL (f6_T6 q) (q))) (by kernel_rfl) (fun _ _ x => x) (fun q => (f6_T9_ok q)) (Rf.inB (Rf.then (f6_T6_ok q) (Rf.proj q)))
set_option maxRecDepth 20000 in
theorem f6_B7_ok (q : LPost) : RfN f6_L (f6_T8 q) (wpLs pcL f6_l4 (proj f6_L q)) :=
 block_rule (id := 8) (b := hdB f6_l4) (rest := f6_l5) (by kernel_rfl) (f6_T8_ok q)
def f6_T4 (q : LPost) : List Value → Heap → Prop := fun vs h => match vs with
 | [v0, v1, v2, v3, v8, v9, v10, v11, v12, v14, v15, v16, v17, v18, v19, v20, v21, v22, v23, _] =>
 f6_T8 q [v0, v1, v2, v3, v8, v9, v10, v11, v12, v14, v15, v16, v17, v18, v19, v20, v21, v22, v23, (.int .i64 0)] h
 | _ => False
set_option maxRecDepth 20000 in
theorem f6_T4_ok (q : LPost) : RfN f6_L (f6_T4 q) (wpLs pcL f6_l3 (proj f6_L q)) :=
 seg_rule' 1 (fun env h => by kernel_rfl) (f6_B7_ok q) (Rf.proj q)
noncomputable def f6_l10 : List Code := flat (hdB f6_l2)
noncomputable def f6_l11 : List Code := flat (hdB f6_l10)
noncomputable def f6_l12 : List Code := f6_l11.drop 2
noncomputable def f6_l13 : List Code := f6_l12.drop 1
noncomputable def f6_l14 : List Code := f6_l13.drop 1
def f6_T14 (q : LPost) : List Value → Heap → Prop := fun vs h => match vs with
 | [v0, v1, v2, v3, v8, v9, v10, v11, v12, v14, v15, v16, v17, v18, v19, v20, v21, v22, v23, v24] =>
 oBin (Try.prog.underlying 3) .add v19 (.int .i64 1) (fun x70 h71 =>
 q .normal [v0, v1, v2, v3, v8, v9, v10, v11, v12, v14, v15, v16, v17, v18, x70, v20, v21, v22, v23, v24] h71) h
 | _ => False
set_option maxRecDepth 20000 in
theorem f6_T14_ok (q : LPost) : RfN f6_L (f6_T14 q) (wpLs pcL f6_l13 (proj f6_L q)) :=
 seg_rule' 1 (fun env h => by kernel_rfl) (end_rule' (by kernel_rfl) (Rf.proj q) (fun _ _ x => x)) (Rf.proj q)
noncomputable def f6_l15 : List Code := flat (hdB f6_l12)
noncomputable def f6_l16 : List Code := f6_l15.drop 3
noncomputable def f6_l17 : List Code := f6_l16.drop 1
noncomputable def f6_l18 : List Code := f6_l17.drop 2
noncomputable def f6_l19 : List Code := f6_l18.drop 1
noncomputable def f6_l20 : List Code := f6_l19.drop 2
def f6_T20 (q : LPost) : List Value → Heap → Prop := fun vs h => match vs with
 | [v0, v1, v2, v3, v8, v9, v10, v11, v12, v14, v15, v16, v17, v18, v19, v20, v21, v22, v23, v24] =>
 oFieldAddr (fieldOff Try.prog 36 0) v20 (fun x72 h73 =>
 oLoad (varOf Try.prog 3) x72 (fun x74 h75 =>
 oBin (Try.prog.underlying 3) .neq x74 v1 (fun x76 h77 =>
 gop x76 true (oFieldAddr (fieldOff Try.prog 36 0) v20) (fun x78 h79 =>
 gop x76 true (oLoad (varOf Try.prog 3) x78) (fun x80 h81 =>
 gop x76 true (fun K h => K v2 h) (fun x82 h83 =>
 gop x76 true (oBin (Try.prog.underlying 3) .neq x80 x82) (fun x84 h85 =>
 oPick x76 x84 (.bool false) (fun x86 h87 =>
 gop x86 true (fun K h => K v22 h) (fun x88 h89 =>
 gop x86 true (oUn .not x88) (fun x90 h91 =>
 oPick x86 x90 (.bool false) (fun x92 h93 =>
 oCond x92 (q .ret [v0, v1, v2, v3, (.bool false), v9, v10, v11, v12, v14, v15, v16, v17, v18, v19, v20, v21, v22, v23, v24] h93) (f6_T14 q [v0, v1, v2, v3, v8, v9, v10, v11, v12, v14, v15, v16, v17, v18, v19, v20, v21, v22, v23, v24] h93)) h91) h89) h87) h85) h83) h81) h79) h77) h75) h73) h
 | _ => False
set_option maxRecDepth 20000 in
theorem f6_T20_ok (q : LPost) : RfN f6_L (f6_T20 q) (wpLs pcL f6_l19 (inB 3 (thenQ (wpLs pcL f6_l13 (proj f6_L q)) (proj f6_L q)))) :=
 seg_rule' 2 (fun env h => by kernel_rfl) (end_rule' (by kernel_rfl) (Rf.inB (Rf.then (f6_T14_ok q) (Rf.proj q))) (fun _ _ x => x)) (Rf.inB (Rf.then (f6_T14_ok q) (Rf.proj q)))
noncomputable def f6_l21 : List Code := flat (hdB f6_l18)
noncomputable def f6_l22 : List Code := flat (hdB f6_l21)
noncomputable def f6_l23 : List Code := f6_l22.drop 4
def f6_T23 (q : LPost) : List Value → Heap → Prop := fun vs h => match vs with
 | [v0, v1, v2, v3, v8, v9, v10, v11, v12, v14, v15, v16, v17, v18, v19, v20, v21, v22, v23, v24] =>
 oLen (Try.prog.underlying 27) v15 (fun x94 h95 =>
 oBin (Try.prog.underlying 3) .lss v23 x94 (fun x96 h97 =>
 oCond x96 (gop v22 false (fun K h => K v15 h) (fun x98 h99 =>
 gop v22 false (fun K h => K v23 h) (fun x100 h101 =>
 gop v22 false (fun K h => K v23 h) (fun x102 h103 =>
 gop v22 false (oBin (Try.prog.underlying 3) .add x102 (.int .i64 1)) (fun x104 h105 =>
 gop v22 false (oSlice (Try.prog.underlying 27) (elemSize Try.prog 27) x98 (some x100) (some x104)) (fun x106 h107 =>
 gop v22 false (fun K h => K v12 h) (fun x108 h109 =>
 gop v22 false (fun K h => K v19 h) (fun x110 h111 =>
 gop v22 false (fun K h => K v19 h) (fun x112 h113 =>
 gop v22 false (oBin (Try.prog.underlying 3) .add x112 (.int .i64 1)) (fun x114 h115 =>
 gop v22 false (oSlice (Try.prog.underlying 27) (elemSize Try.prog 27) x108 (some x110) (some x114)) (fun x116 h117 =>
 gop v22 false (oCallF Try.prog 18 [x106, x116]) (fun x118 h119 =>
 oPick v22 (.bool true) x118 (fun x120 h121 =>
 oBin (Try.prog.underlying 3) .add v23 (.int .i64 1) (fun x122 h123 =>
 q .normal [v0, v1, v2, v3, v8, v9, v10, v11, v12, v14, v15, v16, v17, v18, v19, v20, v21, x120, x122, v24] h123) h121) h119) h117) h115) h113) h111) h109) h107) h105) h103) h101) h99) h97) (q (.exit 6) [v0, v1, v2, v3, v8, v9, v10, v11, v12, v14, v15, v16, v17, v18, v19, v20, v21, v22, v23, v24] h97)) h95) h
 | _ => False
set_option maxRecDepth 20000 in
theorem f6_T23_ok (q : LPost) : RfN f6_L (f6_T23 q) (wpLs pcL f6_l22 (proj f6_L q)) :=
 seg_rule' 4 (fun env h => by kernel_rfl) (end_rule' (by kernel_rfl) (Rf.proj q) (fun _ _ x => x)) (Rf.proj q)
def f6_T22 (q : LPost) : List Value → Heap → Prop := LoopS (fun q => f6_T23 q) (inBL 6 (thenL (f6_T20 q) (inBL 3 (thenL (f6_T14 q) (q)))))
set_option maxRecDepth 20000 in
theorem f6_T22_ok (q : LPost) : RfN f6_L (f6_T22 q) (wpLs pcL f6_l21 (inB 6 (thenQ (wpLs pcL f6_l19 (inB 3 (thenQ (wpLs pcL f6_l13 (proj f6_L q)) (proj f6_L q)))) (inB 3 (thenQ (wpLs pcL f6_l13 (proj f6_L q)) (proj f6_L q)))))) :=
 loop_rule' (b := hdB f6_l21) (B := fun q => f6_T23 q) (c := inBL 6 (thenL (f6_T20 q) (inBL 3 (thenL (f6_T14 q) (q))))) (by kernel_rfl) (fun _ _ x => x) (fun q => (f6_T23_ok q)) (Rf.inB (Rf.then (f6_T20_ok q) (Rf.inB (Rf.then (f6_T14_ok q) (Rf.proj q)))))
set_option maxRecDepth 20000 in
theorem f6_B21_ok (q : LPost) : RfN f6_L (f6_T22 q) (wpLs pcL f6_l18 (inB 3 (thenQ (wpLs pcL f6_l13 (proj f6_L q)) (proj f6_L q)))) :=
 block_rule (id := 6) (b := hdB f6_l18) (rest := f6_l19) (by kernel_rfl) (f6_T22_ok q)
def f6_T18 (q : LPost) : List Value → Heap → Prop := fun vs h => match vs with
 | [v0, v1, v2, v3, v8, v9, v10, v11, v12, v14, v15, v16, v17, v18, v19, v20, v21, _, _, v24] =>
 f6_T22 q [v0, v1, v2, v3, v8, v9, v10, v11, v12, v14, v15, v16, v17, v18, v19, v20, v21, (.bool false), (.int .i64 0), v24] h
 | _ => False
set_option maxRecDepth 20000 in
theorem f6_T18_ok (q : LPost) : RfN f6_L (f6_T18 q) (wpLs pcL f6_l17 (inB 3 (thenQ (wpLs pcL f6_l13 (proj f6_L q)) (proj f6_L q)))) :=
 seg_rule' 2 (fun env h => by kernel_rfl) (f6_B21_ok q) (Rf.inB (Rf.then (f6_T14_ok q) (Rf.proj q)))
noncomputable def f6_l24 : List Code := flat (hdB f6_l16)
noncomputable def f6_l25 : List Code := flat (hdB f6_l24)
noncomputable def f6_l26 : List Code := f6_l25.drop 4
def f6_T26 (q : LPost) : List Value → Heap → Prop := fun vs h => match vs with
 | [v0, v1, v2, v3, v8, v9, v10, v11, v12, v14, v15, v16, v17, v18, v19, v20, v21, v22, v23, v24] =>
 oFieldAddr (fieldOff Try.prog 36 2) v20 (fun x124 h125 =>
 oLoad (varOf Try.prog 28) x124 (fun x126 h127 =>
 oLen (Try.prog.underlying 28) x126 (fun x128 h129 =>
 oBin (Try.prog.underlying 3) .lss v21 x128 (fun x130 h131 =>
 oCond x130 (oFieldAddr (fieldOff Try.prog 36 1) v20 (fun x132 h133 =>
 oLoad (varOf Try.prog 9) x132 (fun x134 h135 =>
 oFieldAddr (fieldOff Try.prog 36 2) v20 (fun x136 h137 =>
 oLoad (varOf Try.prog 28) x136 (fun x138 h139 =>
 oIndexAddr (rowedOf Try.prog 28) x138 v21 (fun x140 h141 =>
 oLoad (varOf Try.prog 9) x140 (fun x142 h143 =>
 oPure pcL 13 [v12, x134, x142] (fun x144 h145 =>
 oFieldAddr (fieldOff Try.prog 36 1) v20 (fun x146 h147 =>
 oLoad (varOf Try.prog 9) x146 (fun x148 h149 =>
 oFieldAddr (fieldOff Try.prog 36 2) v20 (fun x150 h151 =>
 oLoad (varOf Try.prog 28) x150 (fun x152 h153 =>
 oIndexAddr (rowedOf Try.prog 28) x152 v21 (fun x154 h155 =>
 oLoad (varOf Try.prog 9) x154 (fun x156 h157 =>
 oPure pcL 13 [v16, x148, x156] (fun x158 h159 =>
 oBin (Try.prog.underlying 3) .neq x144 x158 (fun x160 h161 =>
 oCond x160 (q .ret [v0, v1, v2, v3, (.bool false), v9, v10, v11, v12, v14, v15, v16, v17, v18, v19, v20, v21, v22, v23, v24] h161) (oBin (Try.prog.underlying 3) .add v21 (.int .i64 1) (fun x162 h163 =>
 q .normal [v0, v1, v2, v3, v8, v9, v10, v11, v12, v14, v15, v16, v17, v18, v19, v20, x162, v22, v23, v24] h163) h161)) h159) h157) h155) h153) h151) h149) h147) h145) h143) h141) h139) h137) h135) h133) h131) (q (.exit 4) [v0, v1, v2, v3, v8, v9, v10, v11, v12, v14, v15, v16, v17, v18, v19, v20, v21, v22, v23, v24] h131)) h129) h127) h125) h
 | _ => False
set_option maxRecDepth 20000 in
theorem f6_T26_ok (q : LPost) : RfN f6_L (f6_T26 q) (wpLs pcL f6_l25 (proj f6_L q)) :=
 seg_rule' 4 (fun env h => by kernel_rfl) (end_rule' (by kernel_rfl) (Rf.proj q) (fun _ _ x => x)) (Rf.proj q)
def f6_T25 (q : LPost) : List Value → Heap → Prop := LoopS (fun q => f6_T26 q) (inBL 4 (thenL (f6_T18 q) (inBL 3 (thenL (f6_T14 q) (q)))))
set_option maxRecDepth 20000 in
theorem f6_T25_ok (q : LPost) : RfN f6_L (f6_T25 q) (wpLs pcL f6_l24 (inB 4 (thenQ (wpLs pcL f6_l17 (inB 3 (thenQ (wpLs pcL f6_l13 (proj f6_L q)) (proj f6_L q)))) (inB 3 (thenQ (wpLs pcL f6_l13 (proj f6_L q)) (proj f6_L q)))))) :=
 loop_rule' (b := hdB f6_l24) (B := fun q => f6_T26 q) (c := inBL 4 (thenL (f6_T18 q) (inBL 3 (thenL (f6_T14 q) (q))))) (by kernel_rfl) (fun _ _ x => x) (fun q => (f6_T26_ok q)) (Rf.inB (Rf.then (f6_T18_ok q) (Rf.inB (Rf.then (f6_T14_ok q) (Rf.proj q)))))
set_option maxRecDepth 20000 in
theorem f6_B24_ok (q : LPost) : RfN f6_L (f6_T25 q) (wpLs pcL f6_l16 (inB 3 (thenQ (wpLs pcL f6_l13 (proj f6_L q)) (proj f6_L q)))) :=
 block_rule (id := 4) (b := hdB f6_l16) (rest := f6_l17) (by kernel_rfl) (f6_T25_ok q)
def f6_T16 (q : LPost) : List Value → Heap → Prop := fun vs h => match vs with
 | [v0, v1, v2, v3, v8, v9, v10, v11, v12, v14, v15, v16, v17, v18, v19, _, _, v22, v23, v24] =>
 oIndexAddr (rowedOf Try.prog 27) v12 v19 (fun x164 h165 =>
 oLoad (varOf Try.prog 36) x164 (fun x166 h167 =>
 oAlloc (zeroOf Try.prog 36) 36 (fun x168 h169 =>
 oStore (varOf Try.prog 36) x168 x166 (fun _ h171 =>
 oFieldAddr (fieldOff Try.prog 36 3) x168 (fun x172 h173 =>
 oLoad (varOf Try.prog 3) x172 (fun x174 h175 =>
 oBin (Try.prog.underlying 3) .add v17 x174 (fun x176 h177 =>
 f6_T25 q [v0, v1, v2, v3, v8, v9, v10, v11, v12, v14, v15, v16, x176, v18, v19, x168, (.int .i64 0), v22, v23, v24] h177) h175) h173) h171) h169) h167) h165) h
 | _ => False
set_option maxRecDepth 20000 in
theorem f6_T16_ok (q : LPost) : RfN f6_L (f6_T16 q) (wpLs pcL f6_l15 (inB 3 (thenQ (wpLs pcL f6_l13 (proj f6_L q)) (proj f6_L q)))) :=
 seg_rule' 3 (fun env h => by kernel_rfl) (f6_B24_ok q) (Rf.inB (Rf.then (f6_T14_ok q) (Rf.proj q)))
set_option maxRecDepth 20000 in
theorem f6_B15_ok (q : LPost) : RfN f6_L (f6_T16 q) (wpLs pcL f6_l12 (proj f6_L q)) :=
 block_rule (id := 3) (b := hdB f6_l12) (rest := f6_l13) (by kernel_rfl) (f6_T16_ok q)
def f6_T12 (q : LPost) : List Value → Heap → Prop := fun vs h => match vs with
 | [v0, v1, v2, v3, v8, v9, v10, v11, v12, v14, v15, v16, v17, v18, v19, v20, v21, v22, v23, v24] =>
 oLen (Try.prog.underlying 27) v12 (fun x178 h179 =>
 oBin (Try.prog.underlying 3) .lss v19 x178 (fun x180 h181 =>
 oCond x180 (f6_T16 q [v0, v1, v2, v3, v8, v9, v10, v11, v12, v14, v15, v16, v17, v18, v19, v20, v21, v22, v23, v24] h181) (q (.exit 2) [v0, v1, v2, v3, v8, v9, v10, v11, v12, v14, v15, v16, v17, v18, v19, v20, v21, v22, v23, v24] h181)) h179) h
 | _ => False
set_option maxRecDepth 20000 in
theorem f6_T12_ok (q : LPost) : RfN f6_L (f6_T12 q) (wpLs pcL f6_l11 (proj f6_L q)) :=
 seg_rule' 2 (fun env h => by kernel_rfl) (f6_B15_ok q) (Rf.proj q)
def f6_T11 (q : LPost) : List Value → Heap → Prop := LoopS (fun q => f6_T12 q) (inBL 2 (thenL (f6_T4 q) (q)))
set_option maxRecDepth 20000 in
theorem f6_T11_ok (q : LPost) : RfN f6_L (f6_T11 q) (wpLs pcL f6_l10 (inB 2 (thenQ (wpLs pcL f6_l3 (proj f6_L q)) (proj f6_L q)))) :=
 loop_rule' (b := hdB f6_l10) (B := fun q => f6_T12 q) (c := inBL 2 (thenL (f6_T4 q) (q))) (by kernel_rfl) (fun _ _ x => x) (fun q => (f6_T12_ok q)) (Rf.inB (Rf.then (f6_T4_ok q) (Rf.proj q)))
set_option maxRecDepth 20000 in
theorem f6_B10_ok (q : LPost) : RfN f6_L (f6_T11 q) (wpLs pcL f6_l2 (proj f6_L q)) :=
 block_rule (id := 2) (b := hdB f6_l2) (rest := f6_l3) (by kernel_rfl) (f6_T11_ok q)
def f6_T2 (q : LPost) : List Value → Heap → Prop := fun vs h => match vs with
 | [v0, v1, v2, v3, v8, v9, v10, v11, _, v14, v15, v16, v17, v18, v19, v20, v21, v22, v23, v24] =>
 oCallF Try.prog 11 [v10] (fun x182 h183 =>
 oCallF Try.prog 19 [v10] (fun x184 h185 =>
 oBin (Try.prog.underlying 25) .eql x184 (.pointer none) (fun x186 h187 =>
 oCond x186 (q .ret [v0, v1, v2, v3, (.bool false), v9, v10, v11, x182, v14, v15, v16, v17, v18, v19, v20, v21, v22, v23, v24] h187) (oCallF Try.prog 20 [v10, v1, v2, v3] (fun x188 h189 =>
 oCallF Try.prog 11 [v10] (fun x190 h191 =>
 oCallF Try.prog 11 [x184] (fun x192 h193 =>
 oCallF Try.prog 18 [x192, x182] (fun x194 h195 =>
 oUn .not x194 (fun x196 h197 =>
 oCond x196 (q .ret [v0, v1, v2, v3, (.bool false), v9, v10, v11, x182, x188, x190, v16, v17, v18, v19, v20, v21, v22, v23, v24] h197) (oBuildSlice (sliceOf Try.prog 27) 0 [] (fun x198 h199 =>
 oAppend (sliceOf Try.prog 27) x198 x188 (fun x200 h201 =>
 oAppend (sliceOf Try.prog 27) x200 x190 (fun x202 h203 =>
 f6_T11 q [v0, v1, v2, v3, v8, v9, v10, v11, x182, x188, x190, x202, (.int .i64 0), (.int .i64 0), (.int .i64 0), v20, v21, v22, v23, v24] h203) h201) h199) h197)) h195) h193) h191) h189) h187)) h185) h183) h
 | _ => False
set_option maxRecDepth 20000 in
theorem f6_T2_ok (q : LPost) : RfN f6_L (f6_T2 q) (wpLs pcL f6_l1 (proj f6_L q)) :=
 seg_rule' 12 (fun env h => by kernel_rfl) (f6_B10_ok q) (Rf.proj q)
noncomputable def f6_l27 : List Code := flat (hdB f6_l0)
noncomputable def f6_l28 : List Code := flat (hdB f6_l27)
noncomputable def f6_l29 : List Code := f6_l28.drop 4
def f6_T29 (q : LPost) : List Value → Heap → Prop := fun vs h => match vs with
 | [v0, v1, v2, v3, v8, v9, v10, v11, v12, v14, v15, v16, v17, v18, v19, v20, v21, v22, v23, v24] =>
 oLen (Try.prog.underlying 22) v0 (fun x204 h205 =>
 oBin (Try.prog.underlying 3) .lss v11 x204 (fun x206 h207 =>
 oCond x206 (oIndexAddr (rowedOf Try.prog 22) v0 v11 (fun x208 h209 =>
 oLoad (varOf Try.prog 34) x208 (fun x210 h211 =>
 oCallF Try.prog 10 [v10, x210] (fun _ h213 =>
 oBin (Try.prog.underlying 3) .add v11 (.int .i64 1) (fun x214 h215 =>
 q .normal [v0, v1, v2, v3, v8, v9, v10, x214, v12, v14, v15, v16, v17, v18, v19, v20, v21, v22, v23, v24] h215) h213) h211) h209) h207) (q (.exit 0) [v0, v1, v2, v3, v8, v9, v10, v11, v12, v14, v15, v16, v17, v18, v19, v20, v21, v22, v23, v24] h207)) h205) h
 | _ => False
set_option maxRecDepth 20000 in
theorem f6_T29_ok (q : LPost) : RfN f6_L (f6_T29 q) (wpLs pcL f6_l28 (proj f6_L q)) :=
 seg_rule' 4 (fun env h => by kernel_rfl) (end_rule' (by kernel_rfl) (Rf.proj q) (fun _ _ x => x)) (Rf.proj q)
def f6_T28 (q : LPost) : List Value → Heap → Prop := LoopS (fun q => f6_T29 q) (inBL 0 (thenL (f6_T2 q) (q)))
set_option maxRecDepth 20000 in
theorem f6_T28_ok (q : LPost) : RfN f6_L (f6_T28 q) (wpLs pcL f6_l27 (inB 0 (thenQ (wpLs pcL f6_l1 (proj f6_L q)) (proj f6_L q)))) :=
 loop_rule' (b := hdB f6_l27) (B := fun q => f6_T29 q) (c := inBL 0 (thenL (f6_T2 q) (q))) (by kernel_rfl) (fun _ _ x => x) (fun q => (f6_T29_ok q)) (Rf.inB (Rf.then (f6_T2_ok q) (Rf.proj q)))
set_option maxRecDepth 20000 in
theorem f6_B27_ok (q : LPost) : RfN f6_L (f6_T28 q) (wpLs pcL f6_l0 (proj f6_L q)) :=
 block_rule (id := 0) (b := hdB f6_l0) (rest := f6_l1) (by kernel_rfl) (f6_T28_ok q)
def f6_T0 (q : LPost) : List Value → Heap → Prop := fun vs h => match vs with
 | [v0, v1, v2, v3, _, _, v10, v11, v12, v14, v15, v16, v17, v18, v19, v20, v21, v22, v23, v24] =>
 oCallF Try.prog 7 [] (fun x216 h217 =>
 oCallF Try.prog 8 [v0] (fun x218 h219 =>
 oUn .not x218 (fun x220 h221 =>
 gop x220 false (fun K h => K v3 h) (fun x222 h223 =>
 gop x220 false (oLen (Try.prog.underlying 31) x222) (fun x224 h225 =>
 gop x220 false (oBin (Try.prog.underlying 3) .gtr x224 (.int .i64 8)) (fun x226 h227 =>
 oPick x220 (.bool true) x226 (fun x228 h229 =>
 gop x228 false (fun K h => K v1 h) (fun x230 h231 =>
 gop x228 false (fun K h => K v2 h) (fun x232 h233 =>
 gop x228 false (oBin (Try.prog.underlying 3) .eql x230 x232) (fun x234 h235 =>
 oPick x228 (.bool true) x234 (fun x236 h237 =>
 oCond x236 (q .ret [v0, v1, v2, v3, x216, x216, v10, v11, v12, v14, v15, v16, v17, v18, v19, v20, v21, v22, v23, v24] h237) (oCallF Try.prog 9 [] (fun x238 h239 =>
 f6_T28 q [v0, v1, v2, v3, (.bool false), x216, x238, (.int .i64 0), v12, v14, v15, v16, v17, v18, v19, v20, v21, v22, v23, v24] h239) h237)) h235) h233) h231) h229) h227) h225) h223) h221) h219) h217) h
 | _ => False
set_option maxRecDepth 20000 in
theorem f6_T0_ok (q : LPost) : RfN f6_L (f6_T0 q) (wpLs pcL f6_l (proj f6_L q)) :=
 seg_rule' 6 (fun env h => by kernel_rfl) (f6_B27_ok q) (Rf.proj q)
theorem f6_ret {v0 v1 v2 v3 v8 v9 v10 v11 v12 v14 v15 v16 v17 v18 v19 v20 v21 v22 v23 v24 : Value} {h : Heap} {K : Kont} : retL Try.prog f6_L Try.f6.results.toList K .ret [v0, v1, v2, v3, v8, v9, v10, v11, v12, v14, v15, v16, v17, v18, v19, v20, v21, v22, v23, v24] h = (K v8 h) := by kernel_rfl
theorem f6_end {v0 v1 v2 v3 v8 v9 v10 v11 v12 v14 v15 v16 v17 v18 v19 v20 v21 v22 v23 v24 : Value} {h : Heap} {K : Kont} : retL Try.prog f6_L Try.f6.results.toList K .normal [v0, v1, v2, v3, v8, v9, v10, v11, v12, v14, v15, v16, v17, v18, v19, v20, v21, v22, v23, v24] h = (K v8 h) := by kernel_rfl
set_option maxRecDepth 20000 in
theorem f6_fn {a0 a1 a2 a3 : Value} {h : Heap} {K : Kont}
 (hw : f6_T0 (retL Try.prog f6_L Try.f6.results.toList K) [a0, a1, a2, a3, undef, undef, undef, undef, undef, undef, undef, undef, undef, undef, undef, undef, undef, undef, undef, undef] h) : FnH Try.prog 6 #[a0, a1, a2, a3] h K :=
 fn_by (L := f6_L) (T := fun q => f6_T0 q) (args := [a0, a1, a2, a3]) pcL mixed Try.func6 (c := f6_c) (by kernel_rfl) (by kernel_rfl) (by kernel_rfl) (by kernel_rfl) (fun q => (f6_T0_ok q)) hw
end Go.Proofs.Ythgbpfoadlemaaa

/- The statements' small functions: has, Strings, Same. -/
namespace Go.Proofs.Ythgbpfoadlemaaa
open Go.Fw
section
variable {h : Heap} {K : Kont} {v v' : Value} {l l' : List ByteArray}
set_option maxRecDepth 8000 in
theorem has_fn {s : ByteArray} (hv : RowsR (fun _ => True) h v 1 (l.map strRow)) (hl : l.length < 4611686018427387904) (hk : K (.bool (memB s l)) h) : FnH Try.prog 14 #[v, .string s] h K := by
  refine f14_fn ?_
  simp only [f14_T0]
  refine LoopS.st (σ := Nat) (fun k => [v, .string s, .bool false, .int .i64 k]) (fun k h' => h' = h ∧ k ≤ l.length ∧ memB s (l.take k) = false) (fun k => l.length - k) 0 rfl ⟨rfl, Nat.zero_le _, rfl⟩ ?_
  rintro k h' ⟨rfl, hkl, hno⟩
  refine Eq.mpr (by simp only [f14_T5]; rfl) ?_
  refine s_len hv ?_
  simp only [List.length_map]
  by_cases hlt : k < l.length
  · have hi : ((k : Int) < (l.length : Int)) = True := by simp; omega
    simp only [go_sem, hi, decide_true]
    refine s_idx1 (x := .string l[k]) hv (by simpa using hlt) (by simp [strRow]) ?_
    simp only [go_sem]
    have e : l = l.take k ++ l[k] :: l.drop (k + 1) := by rw [← List.drop_eq_getElem_cons hlt, List.take_append_drop]
    refine cond_cases (fun hc => ?_) (fun hc => ?_)
    · rw [f14_ret]
      have : memB s l = true := memB_iff.2 (by have := of_decide_eq_true hc; rw [← this]; exact List.getElem_mem hlt)
      rw [this] at hk
      exact hk
    · simp (disch := omega) only [go_sem, bin_add_in]
      refine NextSt.mk (k + 1) rfl ⟨rfl, hlt, ?_⟩ (by omega)
      rw [List.take_succ_eq_append_getElem hlt]
      have hne := of_decide_eq_false hc
      simp only [memB, List.any_append, List.any_cons, List.any_nil, Bool.or_false] at hno ⊢
      rw [hno]
      simp [hne]
  · have hi : ((k : Int) < (l.length : Int)) = False := by simp; omega
    simp only [go_sem, hi, decide_false, f14_T2, f14_ret]
    rw [List.take_of_length_le (by omega)] at hno
    rw [hno] at hk
    exact hk
set_option maxRecDepth 8000 in
theorem strings_fn (hv : RowsR (fun _ => True) h v 1 (l.map strRow)) (hv' : RowsR (fun _ => True) h v' 1 (l'.map strRow)) (hl : l.length < 4611686018427387904) (hk : K (.bool (decide (l = l'))) h) : FnH Try.prog 21 #[v, v'] h K := by
  refine f21_fn ?_
  simp only [f21_T0]
  refine Eq.mpr (by simp only [go_sem]; rfl) ?_
  refine s_len hv ?_
  refine s_len hv' ?_
  simp only [List.length_map, go_sem]
  refine cond_cases (fun hc => ?_) (fun hc => ?_)
  · rw [f21_ret]
    have hne : l ≠ l' := fun e => by subst e; simp at hc
    rw [decide_eq_false hne] at hk
    exact hk
  · have hlen : l.length = l'.length := by
      have : (l.length : Int) = l'.length := by simpa using hc
      omega
    refine LoopS.st (σ := Nat) (fun k => [v, v', .bool false, .int .i64 k]) (fun k h' => h' = h ∧ k ≤ l.length ∧ l.take k = l'.take k) (fun k => l.length - k) 0 rfl ⟨rfl, Nat.zero_le _, rfl⟩ ?_
    rintro k h' ⟨rfl, hkl, hsame⟩
    refine Eq.mpr (by simp only [f21_T5]; rfl) ?_
    refine s_len hv ?_
    simp only [List.length_map]
    by_cases hlt : k < l.length
    · have hi : ((k : Int) < (l.length : Int)) = True := by simp; omega
      simp only [go_sem, hi, decide_true]
      refine s_idx1 (x := .string l[k]) hv (by simpa using hlt) (by simp [strRow]) ?_
      refine s_idx1 (x := .string (l'[k]'(by omega))) hv' (by simp; omega) (by simp [strRow]) ?_
      simp only [go_sem]
      refine cond_cases (fun hc => ?_) (fun hc => ?_)
      · rw [f21_ret]
        have hne : l ≠ l' := fun e => by subst e; simp at hc
        rw [decide_eq_false hne] at hk
        exact hk
      · simp (disch := omega) only [go_sem, bin_add_in]
        refine NextSt.mk (k + 1) rfl ⟨rfl, hlt, ?_⟩ (by omega)
        have heq : l[k] = l'[k]'(by omega) := by simpa using hc
        rw [List.take_succ_eq_append_getElem hlt, List.take_succ_eq_append_getElem (by omega), hsame, heq]
    · have hi : ((k : Int) < (l.length : Int)) = False := by simp; omega
      simp only [go_sem, hi, decide_false, f21_T2, f21_ret]
      rw [List.take_of_length_le (by omega), List.take_of_length_le (by omega)] at hsame
      rw [decide_eq_true hsame] at hk
      exact hk
theorem gop_or {t : Bool} {F : Kont → Heap → Prop} {K : Kont} {h : Heap} (h1 : t = true → K (.bool true) h) (h0 : t = false → F K h) :
    (∀ G : Kont, (t = true → G undef h) → (t = false → F G h) → gop (.bool t) false F G h) := by
  intro G hG hF
  cases t
  · exact hF rfl
  · exact hG rfl
structure SmI where
  k : Nat
  v6 : Value
set_option maxRecDepth 8000 in
/-- The ids of two buckets are compared. -/
theorem same_ids {q : LPost} {b1 o1 c1 n1 b2 o2 c2 n2 k : Nat} {ids ids' : List ByteArray} {sl sl' v4 : Value} {h : Heap} (hk1 : k < n1) (hk2 : k < n2)
    (hc1 : cellAt h b1 (o1 + k * 5 + 2) = some sl) (hc2 : cellAt h b2 (o2 + k * 5 + 2) = some sl') (hs : RowsR (fun _ => True) h sl 1 (ids.map strRow)) (hs' : RowsR (fun _ => True) h sl' 1 (ids'.map strRow))
    (hlen : ids.length = ids'.length) (hb : ids.length < 4611686018427387904)
    (hno : ids ≠ ids' → ∀ v6, q .ret [.slice (some ⟨b1, o1, none⟩) n1 c1, .slice (some ⟨b2, o2, none⟩) n2 c2, .bool false, .int .i64 k, v6] h)
    (hyes : ids = ids' → ∀ v6, f18_T7 q [.slice (some ⟨b1, o1, none⟩) n1 c1, .slice (some ⟨b2, o2, none⟩) n2 c2, v4, .int .i64 k, v6] h) :
    f18_T12 q [.slice (some ⟨b1, o1, none⟩) n1 c1, .slice (some ⟨b2, o2, none⟩) n2 c2, v4, .int .i64 k, .int .i64 0] h := by
  have hki1 : o1 + (k : Int).toNat * 5 = o1 + k * 5 := by simp
  have hki2 : o2 + (k : Int).toNat * 5 = o2 + k * 5 := by simp
  refine LoopS.st (σ := Nat) (fun j => [.slice (some ⟨b1, o1, none⟩) n1 c1, .slice (some ⟨b2, o2, none⟩) n2 c2, v4, .int .i64 k, .int .i64 j]) (fun j h' => h' = h ∧ j ≤ ids.length ∧ ids.take j = ids'.take j) (fun j => ids.length - j) 0 rfl ⟨rfl, Nat.zero_le _, rfl⟩ ?_
  rintro j h' ⟨rfl, hjl, hsame⟩
  simp (disch := omega) only [f18_T13, go_sem, index_slice, hki1, hc1]
  refine s_len hs ?_
  simp only [List.length_map]
  by_cases hlt : j < ids.length
  · have hi : ((j : Int) < (ids.length : Int)) = True := by simp; omega
    simp (disch := omega) only [go_sem, hi, decide_true, hc1]
    refine s_idx1 (x := .string ids[j]) hs (by simpa using hlt) (by simp [strRow]) ?_
    simp (disch := omega) only [go_sem, hki2, hc2]
    refine s_idx1 (x := .string (ids'[j]'(by omega))) hs' (by simp; omega) (by simp [strRow]) ?_
    simp only [go_sem]
    refine cond_cases (fun hc => ?_) (fun hc => ?_)
    · refine hno (fun e => ?_) _
      subst e; simp at hc
    · simp (disch := omega) only [go_sem, bin_add_in]
      refine NextSt.mk (j + 1) rfl ⟨rfl, hlt, ?_⟩ (by omega)
      have heq : ids[j] = ids'[j]'(by omega) := by simpa using hc
      rw [List.take_succ_eq_append_getElem hlt, List.take_succ_eq_append_getElem (by omega), hsame, heq]
  · have hi : ((j : Int) < (ids.length : Int)) = False := by simp; omega
    simp only [go_sem, hi, decide_false]
    rw [List.take_of_length_le (by omega), List.take_of_length_le (by omega)] at hsame
    exact hyes hsame _
theorem gop_f {t : Bool} {F : Kont → Heap → Prop} {G : Kont} {h : Heap} (ht : t = false) (hF : F G h) : gop (.bool t) false F G h := by subst ht; exact hF
set_option maxRecDepth 8000 in
set_option maxHeartbeats 1000000 in
theorem same_fn {v v' : Value} {l l' : List (Bkt × Value)} (hv : Bkts (fun _ => True) h v l) (hv' : Bkts (fun _ => True) h v' l') (hl : l.length < 4611686018427387904) (hb : ∀ p ∈ l, p.1.ids.length < 4611686018427387904)
    (hk : K (.bool (decide (l.map (·.1) = l'.map (·.1)))) h) : FnH Try.prog 18 #[v, v'] h K := by
  refine f18_fn ?_
  simp only [f18_T0]
  refine Eq.mpr (by simp only [go_sem]; rfl) ?_
  refine s_len hv.1 ?_
  refine s_len hv'.1 ?_
  simp only [List.length_map, go_sem]
  refine cond_cases (fun hc => ?_) (fun hc => ?_)
  · rw [f18_ret]
    have hne : l.map (·.1) ≠ l'.map (·.1) := fun e => by
      have := congrArg List.length e
      simp only [List.length_map] at this
      simp [this] at hc
    rw [decide_eq_false hne] at hk
    exact hk
  · have hlen : l.length = l'.length := by
      have : (l.length : Int) = l'.length := by simpa using hc
      omega
    have hfalse : l.map (·.1) ≠ l'.map (·.1) → K (.bool false) h := fun hne => by rw [decide_eq_false hne] at hk; exact hk
    refine LoopS.st (σ := SmI) (fun s => [v, v', .bool false, .int .i64 s.k, s.v6]) (fun s h' => h' = h ∧ s.k ≤ l.length ∧ (l.take s.k).map (·.1) = (l'.take s.k).map (·.1)) (fun s => l.length - s.k) ⟨0, undef⟩ rfl ⟨rfl, Nat.zero_le _, rfl⟩ ?_
    rintro ⟨k, v6⟩ h' ⟨rfl, hkl, hsame⟩
    simp only at hkl hsame ⊢
    refine Eq.mpr (by simp only [f18_T5]; rfl) ?_
    refine s_len hv.1 ?_
    simp only [List.length_map]
    by_cases hlt : k < l.length
    · have hi : ((k : Int) < (l.length : Int)) = True := by simp; omega
      have hlt' : k < l'.length := by omega
      obtain ⟨b1, o1, cap1, rfl, _, hc1⟩ := hv.at_ hlt
      obtain ⟨b2, o2, cap2, rfl, _, hc2⟩ := hv'.at_ hlt'
      obtain ⟨a0, a1, a2, a3, a4⟩ := hc1 k hlt
      obtain ⟨e0, e1, e2, e3, e4⟩ := hc2 k hlt'
      have hs := hv.2 l[k] (List.getElem_mem hlt)
      have hs' := hv'.2 l'[k] (List.getElem_mem hlt')
      have hbk := hb l[k] (List.getElem_mem hlt)
      generalize hpk : l[k] = p at *
      generalize hpk' : l'[k] = p' at *
      obtain ⟨bk, sl⟩ := p
      obtain ⟨bk', sl'⟩ := p'
      simp only at a0 a1 a2 a3 a4 e0 e1 e2 e3 e4 hs hs' hbk
      have hki1 : o1 + (k : Int).toNat * 5 = o1 + k * 5 := by simp
      have hki2 : o2 + (k : Int).toNat * 5 = o2 + k * 5 := by simp
      obtain ⟨sa1, sc1, hsl1⟩ := hs.val
      obtain ⟨sa2, sc2, hsl2⟩ := hs'.val
      have hne : bk ≠ bk' → l.map (·.1) ≠ l'.map (·.1) := by
        intro hne e
        have h1 : (l.map (·.1))[k]? = (l'.map (·.1))[k]? := by rw [e]
        rw [List.getElem?_map, List.getElem?_map, List.getElem?_eq_getElem hlt, List.getElem?_eq_getElem hlt', hpk, hpk'] at h1
        exact hne (by simpa using h1)
      simp only [go_sem, hi, decide_true]
      simp (disch := omega) only [f18_T9, go_sem, index_slice, hki1, hki2, a0, e0]
      cases d0 : decide (bk.list = bk'.list) with
      | false =>
        simp only [Bool.not_false, go_sem]
        rw [f18_ret]
        exact hfalse (hne fun e => by subst e; simp at d0)
      | true =>
        simp (disch := omega) only [Bool.not_true, go_sem, index_slice, hki1, hki2, a1, e1]
        cases d1 : decide (bk.addr = bk'.addr) with
        | false =>
          simp only [Bool.not_false, go_sem]
          rw [f18_ret]
          exact hfalse (hne fun e => by subst e; simp at d1)
        | true =>
          simp (disch := omega) only [Bool.not_true, go_sem, index_slice, hki1, hki2, a3, e3]
          cases d3 : decide (bk.size = bk'.size) with
          | false =>
            simp only [Bool.not_false, go_sem]
            rw [f18_ret]
            exact hfalse (hne fun e => by subst e; simp at d3)
          | true =>
            simp (disch := omega) only [Bool.not_true, go_sem, index_slice, hki1, hki2, a4, e4]
            cases d4 : decide (bk.at_ = bk'.at_) with
            | false =>
              simp only [Bool.not_false, go_sem]
              rw [f18_ret]
              exact hfalse (hne fun e => by subst e; simp at d4)
            | true =>
              have hl1 : ∀ K, oLen (some (.slice 9)) sl K h' = K (.int .i64 bk.ids.length) h' := fun K => by rw [hsl1]; rfl
              have hl2 : ∀ K, oLen (some (.slice 9)) sl' K h' = K (.int .i64 bk'.ids.length) h' := fun K => by rw [hsl2]; rfl
              simp (disch := omega) only [Bool.not_true, go_sem, index_slice, hki1, hki2, a2, e2, hl1, hl2]
              refine cond_cases (fun hc => ?_) (fun hc => ?_)
              · rw [f18_ret]
                exact hfalse (hne fun e => by subst e; simp at hc)
              · have hil : bk.ids.length = bk'.ids.length := by
                  have : (bk.ids.length : Int) = bk'.ids.length := by simpa using hc
                  omega
                refine same_ids (by omega) (by omega) a2 e2 hs hs' hil hbk (fun hne' v6 => ?_) (fun heq v6 => ?_)
                · show retL Try.prog f18_L Try.f18.results.toList K .ret _ h'
                  rw [f18_ret]
                  exact hfalse (hne fun e => hne' (by rw [e]))
                · unfold f18_T7
                  simp (disch := omega) only [go_sem, bin_add_in]
                  refine NextSt.mk ⟨k + 1, v6⟩ rfl ⟨rfl, hlt, ?_⟩ (by simp only; omega)
                  have hbb : bk = bk' := by
                    cases bk; cases bk'
                    simp only [decide_eq_true_eq] at d0 d1 d3 d4
                    simp only at heq
                    simp [d0, d1, d3, d4, heq]
                  simp only
                  rw [List.take_succ_eq_append_getElem hlt, List.take_succ_eq_append_getElem hlt', List.map_append, List.map_append, hsame, hpk, hpk']
                  simp [hbb]
    · have hi : ((k : Int) < (l.length : Int)) = False := by simp; omega
      simp only [go_sem, hi, decide_false, f18_T2, f18_ret]
      rw [List.take_of_length_le (by omega), List.take_of_length_le (by omega)] at hsame
      rw [decide_eq_true hsame] at hk
      exact hk
end
end Go.Proofs.Ythgbpfoadlemaaa
