/- Texts that the claim rests on: part 1. No conditions. -/
import Derived.WalkKit
import Derived.IntWalk
/- A heap-level reading of the model's instruction programs: 'hp P s K h' says that, from every world whose heap is h, the program s ends well and what it leaves meets K. -/
namespace Go.Fw

abbrev Heap := Array Obj

/-- The cell at an address. -/
def cellH (h : Heap) (a : Addr) : Option Value :=
  match h[a.block]? with
  | some (.cells c _ _) => if a.spot.isSome then none else c[a.off]?
  | _ => none
def shapeH (h : Heap) (r : Nat) : Option (TypeId × Nat) :=
  match h[r]? with
  | some (.cells c elem _) => some (elem, c.size)
  | _ => none
def frozenH (h : Heap) (a : Addr) : Bool :=
  match h[a.block]? with
  | some (.cells _ _ (lo, hi)) => lo ≤ a.off && a.off < hi
  | _ => false
def setCellH (h : Heap) (a : Addr) (v : Value) : Heap :=
  h.modify a.block fun
    | .cells c elem frozen => .cells (if a.spot.isSome then c else c.setIfInBounds a.off v) elem frozen
    | o => o

/-- All but the heap and the count of draws is as it was. -/
structure Same (w w' : World) : Prop where
  os : w'.os = w.os
  tape : w'.tape = w.tape
  output : w'.output = w.output
theorem Same.refl (w : World) : Same w w := ⟨rfl, rfl, rfl⟩
theorem Same.trans {a b c : World} (h : Same a b) (k : Same b c) : Same a c := ⟨k.os.trans h.os, k.tape.trans h.tape, k.output.trans h.output⟩

def oneC : Value → Bool
  | .agg _ | .tuple _ => false
  | _ => true

def hp {α : Type} (P : Program) : Sem α → (α → Heap → Prop) → Heap → Prop
  | .pure a, K, h => K a h
  | .load _ a k, K, h => match cellH h a with
    | some v => hp P (k v) K h
    | none => False
  | .store _ a v k, K, h => oneC v = true ∧ (cellH h a).isSome = true ∧ frozenH h a = false ∧ hp P k K (setCellH h a v)
  | .new o k, K, h => hp P (k h.size) K (h.push o)
  | .shape r k, K, h => hp P (k (shapeH h r)) K h
  | .freeze _ _ _, _, _ => False
  | .frozen a k, K, h => hp P (k (frozenH h a)) K h
  | .getObj r k, K, h => match h[r]? with
    | some (.cells ..) => False
    | some o => hp P (k o) K h
    | none => False
  | .setObj r o k, K, h => match h[r]? with
    | some (.cells ..) => False
    | some _ => hp P k K (h.setIfInBounds r o)
    | none => False
  | .choose q k, K, h => if q.forced then hp P (k 0) K h else ∀ n, hp P (k (q.cut n)) K h
  | .sys _ _, _, _ => False
  | .program k, K, h => hp P (k P) K h
  | .mark _ k, K, h => hp P k K h
  | .halt _, _, _ => False

theorem cellH_eq (w : World) (a : Addr) : w.cell? a = cellH w.heap a := rfl
theorem frozenH_eq (w : World) (a : Addr) : w.frozen? a = frozenH w.heap a := rfl
theorem setCellH_eq (w : World) (a : Addr) (v : Value) : (w.setCell a v).heap = setCellH w.heap a v := rfl

theorem hp_run {α : Type} {P : Program} (s : Sem α) : ∀ (w : World) (K : α → Heap → Prop), hp P s K w.heap →
    ∃ a w', s.run P w = .ok a w' ∧ Same w w' ∧ K a w'.heap := by
  induction s with
  | pure a => intro w K h; exact ⟨a, w, rfl, Same.refl w, h⟩
  | load m a k ih =>
    intro w K h
    simp only [hp] at h
    simp only [Sem.run, cellH_eq]
    split at h
    · rename_i v hv
      simp only [hv]
      exact ih v w K h
    · exact h.elim
  | store m a v k ih =>
    intro w K h
    simp only [hp] at h
    obtain ⟨h1, h2, h3, h4⟩ := h
    obtain ⟨u, hu⟩ := Option.isSome_iff_exists.1 h2
    have h5 := ih (w.setCell a v) K (by rw [setCellH_eq]; exact h4)
    cases v <;> first
      | (simp [oneC] at h1; done)
      | (simp only [Sem.run, cellH_eq, frozenH_eq, hu, h3, Bool.false_eq_true, if_false]
         obtain ⟨x, w', e1, e2, e3⟩ := h5
         exact ⟨x, w', e1, ⟨e2.os, e2.tape, e2.output⟩, e3⟩)
  | new o k ih =>
    intro w K h
    simp only [hp] at h
    simp only [Sem.run]
    obtain ⟨x, w', e1, e2, e3⟩ := ih w.heap.size { w with heap := w.heap.push o } K h
    exact ⟨x, w', e1, ⟨e2.os, e2.tape, e2.output⟩, e3⟩
  | shape r k ih => intro w K h; exact ih (w.shape? r) w K h
  | freeze a n k ih => intro w K h; exact h.elim
  | frozen a k ih => intro w K h; exact ih (w.frozen? a) w K h
  | getObj r k ih =>
    intro w K h
    simp only [hp] at h
    simp only [Sem.run]
    split at h
    · exact h.elim
    · rename_i o hne ho
      simp only [ho]
      exact ih o w K h
    · exact h.elim
  | setObj r o k ih =>
    intro w K h
    simp only [hp] at h
    simp only [Sem.run]
    split at h
    · exact h.elim
    · rename_i o' hne ho
      simp only [ho]
      obtain ⟨x, w', e1, e2, e3⟩ := ih { w with heap := w.heap.setIfInBounds r o } K h
      exact ⟨x, w', e1, ⟨e2.os, e2.tape, e2.output⟩, e3⟩
    · exact h.elim
  | choose q k ih =>
    intro w K h
    simp only [hp] at h
    simp only [Sem.run]
    split at h
    · rename_i hq
      simp only [hq, if_true]
      exact ih 0 w K h
    · rename_i hq
      simp only [hq]
      obtain ⟨x, w', e1, e2, e3⟩ := ih _ { w with drawn := w.drawn + 1 } K (h _)
      exact ⟨x, w', by simpa using e1, ⟨e2.os, e2.tape, e2.output⟩, e3⟩
  | sys c k ih => intro w K h; exact h.elim
  | program k ih => intro w K h; exact ih P w K h
  | mark m k ih => intro w K h; exact ih w K h
  | halt x => intro w K h; exact h.elim

theorem hp_mono {α : Type} {P : Program} (s : Sem α) : ∀ {K K' : α → Heap → Prop} {h : Heap}, (∀ a h, K a h → K' a h) → hp P s K h → hp P s K' h := by
  induction s with
  | pure a => intro K K' h hk hh; exact hk _ _ hh
  | load m a k ih =>
    intro K K' h hk hh
    simp only [hp] at hh ⊢
    split at hh
    · exact ih _ hk hh
    · exact hh.elim
  | store m a v k ih => intro K K' h hk hh; exact ⟨hh.1, hh.2.1, hh.2.2.1, ih hk hh.2.2.2⟩
  | new o k ih => intro K K' h hk hh; exact ih _ hk hh
  | shape r k ih => intro K K' h hk hh; exact ih _ hk hh
  | freeze a n k ih => intro K K' h hk hh; exact hh.elim
  | frozen a k ih => intro K K' h hk hh; exact ih _ hk hh
  | getObj r k ih =>
    intro K K' h hk hh
    simp only [hp] at hh ⊢
    split at hh
    · exact hh.elim
    · exact ih _ hk hh
    · exact hh.elim
  | setObj r o k ih =>
    intro K K' h hk hh
    simp only [hp] at hh ⊢
    split at hh
    · exact hh.elim
    · exact ih hk hh
    · exact hh.elim
  | choose q k ih =>
    intro K K' h hk hh
    simp only [hp] at hh ⊢
    split at hh
    · rename_i hq; rw [if_pos hq]; exact ih 0 hk hh
    · rename_i hq; rw [if_neg hq]; exact fun n => ih _ hk (hh n)
  | sys c k ih => intro K K' h hk hh; exact hh.elim
  | program k ih => intro K K' h hk hh; exact ih P hk hh
  | mark m k ih => intro K K' h hk hh; exact ih hk hh
  | halt x => intro K K' h hk hh; exact hh.elim

theorem hp_bind' {α β : Type} {P : Program} (s : Sem α) (f : α → Sem β) : ∀ (K : β → Heap → Prop) (h : Heap), hp P (s.bind f) K h = hp P s (fun a h' => hp P (f a) K h') h := by
  induction s with
  | pure a => intro K h; rfl
  | load m a k ih =>
    intro K h
    simp only [Sem.bind, hp]
    cases cellH h a with
    | none => rfl
    | some v => exact ih v K h
  | store m a v k ih => intro K h; simp only [Sem.bind, hp, ih]
  | new o k ih => intro K h; simp only [Sem.bind, hp, ih]
  | shape r k ih => intro K h; simp only [Sem.bind, hp, ih]
  | freeze a n k ih => intro K h; rfl
  | frozen a k ih => intro K h; simp only [Sem.bind, hp, ih]
  | getObj r k ih =>
    intro K h
    simp only [Sem.bind, hp, ih]
  | setObj r o k ih =>
    intro K h
    simp only [Sem.bind, hp, ih]
  | choose q k ih => intro K h; simp only [Sem.bind, hp, ih]
  | sys c k ih => intro K h; rfl
  | program k ih => intro K h; simp only [Sem.bind, hp, ih]
  | mark m k ih => intro K h; simp only [Sem.bind, hp, ih]
  | halt x => intro K h; rfl
theorem hp_bind {α β : Type} {P : Program} (s : Sem α) (f : α → Sem β) (K : β → Heap → Prop) (h : Heap) : hp P (s >>= f) K h = hp P s (fun a h' => hp P (f a) K h') h := hp_bind' s f K h
theorem hp_pure {α : Type} {P : Program} (a : α) (K : α → Heap → Prop) (h : Heap) : hp P (pure a) K h = K a h := rfl
theorem hp_load {P : Program} (a : Addr) (m : Mode) (K : Value → Heap → Prop) (h : Heap) : hp P (load a m) K h = match cellH h a with
    | some v => K v h
    | none => False := by
  simp only [load, hp]
theorem hp_program {P : Program} (K : Program → Heap → Prop) (h : Heap) : hp P program K h = K P h := rfl
theorem hp_newObj {P : Program} (o : Obj) (K : Nat → Heap → Prop) (h : Heap) : hp P (newObj o) K h = K h.size (h.push o) := rfl
theorem hp_underlying {P : Program} (t : TypeId) (d : TypeDesc) (hd : P.underlying t = some d) (K : TypeDesc → Heap → Prop) (h : Heap) : hp P (underlying t) K h = K d h := by
  simp only [underlying, hp_bind, hp_program, hd, hp_pure]
theorem hp_typeInfo {P : Program} (t : TypeId) (i : TypeInfo) (hd : P.info? t = some i) (K : TypeInfo → Heap → Prop) (h : Heap) : hp P (typeInfo t) K h = K i h := by
  simp only [typeInfo, hp_bind, hp_program, hd, hp_pure]

/-- A call, read at the heap: from every world with this heap it returns, and what it returns and leaves meets K. -/
def FnH (P : Program) (f : FuncId) (args : Array Value) (h : Heap) (K : Value → Heap → Prop) : Prop :=
  ∀ w : World, w.heap = h → Calls P f args w fun e w' => ∃ v, e = .returned v ∧ Same w w' ∧ K v w'.heap
theorem FnH.mono {P : Program} {f : FuncId} {args : Array Value} {h : Heap} {K K' : Value → Heap → Prop} (hf : FnH P f args h K) (hk : ∀ v h, K v h → K' v h) : FnH P f args h K' :=
  fun w hw => (hf w hw).mono fun _ _ ⟨v, he, hs, hv⟩ => ⟨v, he, hs, hk _ _ hv⟩

/-- What an operation comes to. -/
def hpNext (P : Program) (K : Value → Heap → Prop) : Next → Heap → Prop
  | .value v, h => K v h
  | .skip, h => K undef h
  | .enter f args, h => FnH P f args h K
  | _, _ => False
def hpX (P : Program) (s : Sem Next) (K : Value → Heap → Prop) (h : Heap) : Prop := hp P s (hpNext P K) h

theorem hpX_wp {P : Program} {o : Oper} {a : Act} {w : World} {K : Value → Heap → Prop} {N : Act → World → Prop} {Q : Exit → Act → World → Prop}
    (hx : hpX P (execOp a.eval o) K w.heap) (hn : ∀ v w', Same w w' → K v w'.heap → N (a.put o.dst v) w') : o.wp P a w N Q := by
  obtain ⟨nx, w1, hr, hs, hk⟩ := hp_run _ w _ hx
  unfold Oper.wp
  rw [hr]
  cases nx <;> simp only [hpNext] at hk <;> simp only [Oper.upon]
  case value v => exact hn v w1 hs hk
  case skip => exact hn _ w1 hs hk
  case enter f args =>
    refine (hk w1 rfl).mono ?_
    rintro e w2 ⟨v, rfl, hs2, hv⟩
    exact hn v w2 (hs.trans hs2) hv
end Go.Fw

/- What each operation of a function comes to, read at the heap: 'opH', and that it is what the model's operation does ('opH_sound'). -/
namespace Go.Fw

/-! ### Static facts about types -/
inductive Var where
  | one
  | agg (n : Nat)
  | bad
def isAggD : TypeDesc → Bool
  | .struct _ | .array _ _ => true
  | _ => false
def varOf (P : Program) (t : TypeId) : Var :=
  match P.underlying t, P.info? t with
  | some d, some i => cond (isAggD d) (.agg i.size) (cond (Nat.beq i.size 1) .one .bad)
  | _, _ => .bad
theorem varOf_spec {P : Program} {t : TypeId} (hg : (varOf P t) ≠ .bad) : ∃ d i, P.underlying t = some d ∧ P.info? t = some i ∧
    ((isAggD d = true ∧ varOf P t = .agg i.size) ∨ (isAggD d = false ∧ i.size = 1 ∧ varOf P t = .one)) := by
  cases hd : P.underlying t with
  | none => exact absurd (by simp only [varOf, hd]) hg
  | some d =>
    cases hi : P.info? t with
    | none => exact absurd (by simp only [varOf, hd, hi]) hg
    | some i =>
      refine ⟨d, i, rfl, rfl, ?_⟩
      cases ha : isAggD d with
      | true => exact .inl ⟨rfl, by simp only [varOf, hd, hi, ha, cond_true]⟩
      | false =>
        cases hb : Nat.beq i.size 1 with
        | true => exact .inr ⟨rfl, Nat.eq_of_beq_eq_true hb, by simp only [varOf, hd, hi, ha, hb, cond_true, cond_false]⟩
        | false => exact absurd (by simp only [varOf, hd, hi, ha, hb, cond_false]) hg
theorem hp_isAgg {P : Program} {t : TypeId} {d : TypeDesc} (hd : P.underlying t = some d) (K : Bool → Heap → Prop) (h : Heap) : hp P (isAgg t) K h = K (isAggD d) h := by
  simp only [isAgg, hp_bind, hp_underlying t d hd]
  cases d <;> rfl
theorem hp_sizeOf {P : Program} {t : TypeId} {i : TypeInfo} (hi : P.info? t = some i) (K : Nat → Heap → Prop) (h : Heap) : hp P (sizeOf t) K h = K i.size h := by
  simp only [sizeOf, hp_bind, hp_typeInfo t i hi, hp_pure]
def zeroOf (P : Program) (t : TypeId) : Option Value := (P.info? t).bind (·.zero)
def sizeOf' (P : Program) (t : TypeId) : Option Nat := (P.info? t).map (·.size)
def bytesOf' (P : Program) (t : TypeId) : Option Nat := (P.info? t).map (·.bytes)

/-! ### Reading and writing variables -/
def readVar (h : Heap) (a : Addr) : Var → Option Value
  | .one => cellH h a
  | .agg n => match h[a.block]? with
    | some (.cells c _ _) => if a.spot.isNone && Nat.ble (a.off + n) c.size then some (.agg (c.extract a.off (a.off + n))) else none
    | _ => none
  | .bad => none
def wrCells (c : Array Value) (o : Nat) : List Value → Array Value
  | [] => c
  | v :: r => wrCells (c.setIfInBounds o v) (o + 1) r
def storeH (h : Heap) (a : Addr) (vs : List Value) : Option Heap :=
  match h[a.block]? with
  | some (.cells c t (0, 0)) => if a.spot.isNone && Nat.ble (a.off + vs.length) c.size && vs.all oneC then some (h.setIfInBounds a.block (.cells (wrCells c a.off vs) t (0, 0))) else none
  | _ => none
def Var.size : Var → Nat
  | .one => 1
  | .agg n => n
  | .bad => 0
def Var.good : Var → Bool
  | .bad => false
  | _ => true

abbrev Kont := Value → Heap → Prop

def oLoad (var : Var) (v : Value) (K : Kont) (h : Heap) : Prop :=
  match v with
  | .pointer (some a) => match readVar h a var with
    | some x => K x h
    | none => False
  | _ => False
def oStore (var : Var) (v x : Value) (K : Kont) (h : Heap) : Prop :=
  match v with
  | .pointer (some a) => var.good = true ∧ x.cells.size = var.size ∧ match storeH h a x.cells.toList with
    | some h' => K undef h'
    | none => False
  | _ => False

theorem wrCells_size (vs : List Value) : ∀ (c : Array Value) (o : Nat), (wrCells c o vs).size = c.size := by
  induction vs with
  | nil => intro c o; rfl
  | cons v r ih => intro c o; simp [wrCells, ih]

theorem hp_loadCellsFrom {P : Program} {h : Heap} {a : Addr} {c : Array Value} {t : TypeId} {fz : Nat × Nat} (hb : h[a.block]? = some (.cells c t fz)) (hs : a.spot = none) :
    ∀ (n i : Nat) (acc : Array Value) (K : Array Value → Heap → Prop), a.off + i + n ≤ c.size → K (acc ++ c.extract (a.off + i) (a.off + i + n)) h → hp P (loadCellsFrom a i n acc) K h := by
  intro n
  induction n with
  | zero => intro i acc K _ hk; simp only [loadCellsFrom, hp_pure]; rw [show c.extract (a.off + i) (a.off + i + 0) = #[] from by apply Array.ext'; simp, Array.append_empty] at hk; exact hk
  | succ n ih =>
    intro i acc K hle hk
    have hlt : a.off + i < c.size := by omega
    have hc : cellH h (a.add i) = some (c[a.off + i]) := by
      unfold cellH Addr.add
      by_cases hi : i = 0
      · subst hi; simp [hb, hs]
      · simp [hi, hb, hlt]
    simp only [loadCellsFrom, hp_bind, hp_load, hc]
    refine ih (i + 1) _ K (by omega) ?_
    have e : acc.push c[a.off + i] ++ c.extract (a.off + (i + 1)) (a.off + (i + 1) + n) = acc ++ c.extract (a.off + i) (a.off + i + (n + 1)) := by
      apply Array.ext'
      simp only [Array.toList_append, Array.toList_push, Array.toList_extract, List.append_assoc, List.singleton_append, List.extract_eq_take_drop]
      congr 1
      have h1 : a.off + (i + 1) + n - (a.off + (i + 1)) = n := by omega
      have h2 : a.off + i + (n + 1) - (a.off + i) = n + 1 := by omega
      rw [h1, h2]
      have h3 : c.toList.drop (a.off + i) = c[a.off + i] :: c.toList.drop (a.off + (i + 1)) := by
        rw [List.drop_eq_getElem_cons (by simpa using hlt)]
        simp [Nat.add_assoc]
      rw [h3, List.take_succ_cons]
    rw [e]; exact hk

theorem hp_loadVar {P : Program} {t : TypeId} {a : Addr} {x : Value} {K : Kont} {h : Heap} (hr : readVar h a (varOf P t) = some x) (hk : K x h) : hp P (loadVar t a) K h := by
  have hg : varOf P t ≠ .bad := by intro e; rw [e] at hr; cases hr
  obtain ⟨d, i, hd, hi, ⟨ha, hv⟩ | ⟨ha, hs, hv⟩⟩ := varOf_spec hg
  · rw [hv] at hr
    simp only [loadVar, hp_bind, hp_isAgg hd, ha, if_true, hp_sizeOf hi, loadCells]
    simp only [readVar] at hr
    split at hr
    · rename_i c e fz hb
      split at hr
      · rename_i hc
        simp only [Bool.and_eq_true, Nat.ble_eq, Option.isNone_iff_eq_none] at hc
        injection hr with hr
        refine hp_loadCellsFrom hb hc.1 i.size 0 #[] _ (by omega) ?_
        simp only [hp_pure]
        subst hr
        simpa using hk
      · cases hr
    · cases hr
  · rw [hv] at hr
    simp only [loadVar, hp_bind, hp_isAgg hd, ha, Bool.false_eq_true, if_false, hp_load]
    simp only [readVar] at hr
    rw [hr]
    exact hk
theorem oLoad_sound {P : Program} {t : TypeId} {v : Value} {K : Kont} {h : Heap} (hk : oLoad (varOf P t) v K h) : hp P (Instr.loadAt t v) K h := by
  unfold oLoad at hk
  split at hk
  · rename_i a
    split at hk
    · rename_i x hx
      have hsure : Instr.sureAddr (.pointer (some a)) = pure a := rfl
      simp only [Instr.loadAt, hsure, hp_bind, hp_pure]
      exact hp_loadVar hx hk
    · exact hk.elim
  · exact hk.elim

theorem setIf_self (h : Heap) (b : Nat) (o : Obj) (hb : h[b]? = some o) : h.setIfInBounds b o = h := by
  apply Array.ext'
  rw [Array.toList_setIfInBounds]
  apply List.ext_getElem?
  intro i
  rw [List.getElem?_set]
  split
  · rename_i e
    subst e
    have : b < h.size := by
      rcases Nat.lt_or_ge b h.size with hlt | hge
      · exact hlt
      · rw [Array.getElem?_eq_none hge] at hb; cases hb
    rw [if_pos (by simpa using this), ← hb]
    simp [hb]
  · rfl
theorem hp_storeCells {P : Program} : ∀ (vs : List Value) (h : Heap) (a : Addr) (c : Array Value) (t : TypeId) (i : Nat) (K : Unit → Heap → Prop),
    h[a.block]? = some (.cells c t (0, 0)) → a.spot = none → a.off + i + vs.length ≤ c.size → vs.all oneC = true →
    K () (h.setIfInBounds a.block (.cells (wrCells c (a.off + i) vs) t (0, 0))) → hp P (storeCells a vs i) K h := by
  intro vs
  induction vs with
  | nil =>
    intro h a c t i K hb hs hle h1 hk
    simp only [storeCells, hp_pure]
    simp only [wrCells] at hk
    rw [setIf_self h _ _ hb] at hk
    exact hk
  | cons v r ih =>
    intro h a c t i K hb hs hle h1 hk
    simp only [List.length_cons] at hle
    simp only [List.all_cons, Bool.and_eq_true] at h1
    have hlt : a.off + i < c.size := by omega
    have hblk : (a.add i).block = a.block := by unfold Addr.add; split <;> rfl
    have hoff : (a.add i).off = a.off + i := by unfold Addr.add; split <;> simp_all
    have hspot : (a.add i).spot = none := by unfold Addr.add; split <;> simp_all
    have hc : cellH h (a.add i) = some (c[a.off + i]) := by
      unfold cellH
      rw [hblk, hb, hspot, hoff]
      simp [Array.getElem?_eq_getElem hlt]
    have hf : frozenH h (a.add i) = false := by
      unfold frozenH
      rw [hblk, hb]
      simp
    have hset : setCellH h (a.add i) v = h.setIfInBounds a.block (.cells (c.setIfInBounds (a.off + i) v) t (0, 0)) := by
      unfold setCellH
      rw [hblk, hspot, hoff]
      apply Array.ext'
      apply List.ext_getElem?
      intro j
      rw [Array.toList_setIfInBounds, List.getElem?_set, Array.getElem?_toList, Array.getElem?_modify]
      have hlt2 : a.block < h.size := by
        rcases Nat.lt_or_ge a.block h.size with hlt | hge
        · exact hlt
        · rw [Array.getElem?_eq_none hge] at hb; cases hb
      split
      · rename_i e
        rw [if_pos (by simpa using hlt2), ← e, hb]
        simp
      · rw [Array.getElem?_toList]
    simp only [storeCells, store, hp_bind, hp]
    refine ⟨h1.1, by rw [hc]; rfl, hf, ?_⟩
    rw [hset]
    have hlt2 : a.block < h.size := by
      rcases Nat.lt_or_ge a.block h.size with hlt | hge
      · exact hlt
      · rw [Array.getElem?_eq_none hge] at hb; cases hb
    refine ih _ a (c.setIfInBounds (a.off + i) v) t (i + 1) K ?_ hs (by simp; omega) h1.2 ?_
    · simp [hlt2]
    · simp only [wrCells] at hk
      rw [Array.setIfInBounds_setIfInBounds]
      exact hk
theorem hp_storeVar {P : Program} {t : TypeId} {a : Addr} {x : Value} {K : Unit → Heap → Prop} {h h' : Heap} (hg : (varOf P t).good = true) (hz : x.cells.size = (varOf P t).size)
    (hs : storeH h a x.cells.toList = some h') (hk : K () h') : hp P (storeVar t a x) K h := by
  have hg' : varOf P t ≠ .bad := by intro e; rw [e] at hg; cases hg
  obtain ⟨d, i, hd, hi, hv⟩ := varOf_spec hg'
  have hz' : x.cells.size = i.size := by
    rcases hv with ⟨_, hv⟩ | ⟨_, h1, hv⟩
    · rw [hz, hv]; rfl
    · rw [hz, hv, h1]; rfl
  simp only [storeVar, hp_bind, hp_sizeOf hi, hz', ne_eq, not_true_eq_false, if_false]
  unfold storeH at hs
  split at hs
  · rename_i c e hb
    split at hs
    · rename_i hc
      simp only [Bool.and_eq_true, Nat.ble_eq, Option.isNone_iff_eq_none] at hc
      injection hs with hs
      subst hs
      exact hp_storeCells _ h a c e 0 K hb hc.1.1 (by omega) hc.2 hk
    · cases hs
  · cases hs
theorem oStore_sound {P : Program} {t : TypeId} {v x : Value} {K : Kont} {h : Heap} (hk : oStore (varOf P t) v x K h) : hp P (Instr.storeAt t v x) (fun _ h' => K undef h') h := by
  unfold oStore at hk
  split at hk
  · rename_i a
    obtain ⟨hg, hz, hk⟩ := hk
    split at hk
    · rename_i h' hs
      have hsure : Instr.sureAddr (.pointer (some a)) = pure a := rfl
      simp only [Instr.storeAt, hsure, hp_bind, hp_pure]
      exact hp_storeVar hg hz hs hk
    · exact hk.elim
  · exact hk.elim
end Go.Fw

/- The other operations, read at the heap. -/
namespace Go.Fw

def oPick (c a b : Value) (K : Kont) (h : Heap) : Prop :=
  match c with
  | .bool t => K (if t then a else b) h
  | _ => False
def newPtr (h : Heap) : Value := .pointer (some ⟨h.size, 0, none⟩)
def oAlloc (z : Option Value) (t : TypeId) (K : Kont) (h : Heap) : Prop :=
  match z with
  | some z => K (newPtr h) (h.push (.cells z.cells t))
  | none => False
def oBox (t : TypeId) (x : Value) (K : Kont) (h : Heap) : Prop := K (newPtr h) (h.push (.cells x.cells t))

/-- The places of a struct's fields. -/
def placesOf (P : Program) : List Field → Option (List (Nat × Nat))
  | [] => some []
  | f :: r => match sizeOf' P f.type, placesOf P r with
    | some n, some l => some ((f.offset, n) :: l)
    | _, _ => none
def buildOf (P : Program) (t : TypeId) : Option (Value × List (Nat × Nat)) :=
  match P.underlying t, zeroOf P t with
  | some (.struct fs), some z => (placesOf P fs.toList).map fun l => (z, l)
  | _, _ => none
def oBuild (b : Option (Value × List (Nat × Nat))) (parts : List (Nat × Value)) (K : Kont) (h : Heap) : Prop :=
  match b with
  | some (z, l) => match Instr.fill (fun i => l[i]?) z.cells parts with
    | some cs => K (.agg cs) h
    | none => False
  | none => False
def sliceOf (P : Program) (t : TypeId) : Option (TypeId × Nat × Nat × Value) :=
  match P.underlying t with
  | some (.slice e) => match P.info? e with
    | some i => match i.zero with
      | some z => some (e, i.size, i.bytes, z)
      | none => none
    | none => none
  | _ => none
def oBuildSlice (b : Option (TypeId × Nat × Nat × Value)) (len : Nat) (parts : List (Nat × Value)) (K : Kont) (h : Heap) : Prop :=
  match b with
  | some (e, size, _, z) => Nat.ble (len * size) (2 ^ 24) = true ∧ match Instr.fill (fun i => some (i * size, size)) ((Array.range (len * size)).map (z.cells[· % z.cells.size]!)) parts with
    | some cs => K (.slice (some ⟨h.size, 0, none⟩) len len) (h.push (.cells cs e))
    | none => False
  | none => False
def oNilCheck (x : Value) (K : Kont) (h : Heap) : Prop :=
  match x with
  | .pointer (some a) => K (.pointer (some a)) h
  | _ => False

def binI (op : BinOp) (k : IntKind) (a : Int) (k' : IntKind) (b : Int) : Option Value :=
  match op with
  | .shl => if b < 0 then none else some (.int k (k.wrap (a * 2 ^ (min b.toNat k.bits))))
  | .shr => if b < 0 then none else some (.int k (a.fdiv (2 ^ (min b.toNat k.bits))))
  | .add => if k = k' then some (.int k (k.wrap (a + b))) else none
  | .sub => if k = k' then some (.int k (k.wrap (a - b))) else none
  | .mul => if k = k' then some (.int k (k.wrap (a * b))) else none
  | .quo => if k = k' then (if b = 0 then none else some (.int k (k.wrap (a.tdiv b)))) else none
  | .rem => if k = k' then (if b = 0 then none else some (.int k (a.tmod b))) else none
  | .eql => if k = k' then some (.bool (decide (a = b))) else none
  | .neq => if k = k' then some (.bool (!decide (a = b))) else none
  | .lss => if k = k' then some (.bool (decide (a < b))) else none
  | .leq => if k = k' then some (.bool (decide (a ≤ b))) else none
  | .gtr => if k = k' then some (.bool (decide (b < a))) else none
  | .geq => if k = k' then some (.bool (decide (b ≤ a))) else none
  | _ => none
/-- The order of strings, on lists of bytes. -/
def lessB (a b : ByteArray) : Bool := Op.bytesLess a.toList b.toList
def binS (op : BinOp) (a b : ByteArray) : Option Value :=
  match op with
  | .add => if a.size + b.size ≤ maxLen then some (.string (a ++ b)) else none
  | .eql => some (.bool (decide (a = b)))
  | .neq => some (.bool (!decide (a = b)))
  | .lss => some (.bool (lessB a b))
  | .leq => some (.bool (lessB a b || decide (a = b)))
  | .gtr => some (.bool (!(lessB a b || decide (a = b))))
  | .geq => some (.bool (!lessB a b))
  | _ => none
def eqV (d : TypeDesc) (x y : Value) : Option Bool :=
  match d, x, y with
  | .bool, .bool a, .bool b => some (a == b)
  | .pointer _, .pointer none, .pointer b => some b.isNone
  | .pointer _, .pointer (some _), .pointer none => some false
  | .map _ _, .map none, .map b => some b.isNone
  | .map _ _, .map (some _), .map none => some false
  | .slice _, .slice none _ _, .slice b _ _ => some b.isNone
  | .slice _, .slice (some _) _ _, .slice none _ _ => some false
  | .func _ _ _, .nilFunc, .nilFunc => some true
  | .func _ _ _, .func _ _ _, .nilFunc => some false
  | _, _, _ => none
def binV (d : Option TypeDesc) (op : BinOp) (x y : Value) : Option Value :=
  match x, y with
  | .int k a, .int k' b => binI op k a k' b
  | .string a, .string b => binS op a b
  | x, y => match d, op with
    | some d, .eql => (eqV d x y).map .bool
    | some d, .neq => (eqV d x y).map fun b => .bool (!b)
    | _, _ => none
def oBin (d : Option TypeDesc) (op : BinOp) (x y : Value) (K : Kont) (h : Heap) : Prop :=
  match binV d op x y with
  | some r => K r h
  | none => False
def oUn (op : UnOp) (x : Value) (K : Kont) (h : Heap) : Prop :=
  match op, x with
  | .not, .bool b => K (.bool (!b)) h
  | .neg, .int k n => K (.int k (k.wrap (0 - n))) h
  | _, _ => False
def oConvert (s d : Option TypeDesc) (x : Value) (K : Kont) (h : Heap) : Prop :=
  match s, d, x with
  | some _, some (.int k), .int _ n => K (.int k (k.wrap n)) h
  | some _, some .string, .string b => K (.string b) h
  | _, _, _ => False
def oMakeMap (d : Option TypeDesc) (r : Option Value) (K : Kont) (h : Heap) : Prop :=
  match r with
  | none => K (.map (some h.size)) (h.push (.map #[] 0))
  | some (.int _ _) => match d with
    | some (.map _ _) => K (.map (some h.size)) (h.push (.map #[] 0))
    | _ => False
  | _ => False
def oMakeSlice (b : Option (TypeId × Nat × Nat × Value)) (l c : Value) (K : Kont) (h : Heap) : Prop :=
  match b, l, c with
  | some (e, size, bytes, z), .int _ l, .int _ c => 0 ≤ l ∧ l ≤ c ∧ c ≤ 9223372036854775807 ∧ (bytes : Int) * c ≤ 281474976710656 ∧ z.cells.size = size ∧
      K (.slice (some ⟨h.size, 0, none⟩) l.toNat c.toNat) (h.push (.cells ((Array.range (c.toNat * size)).map (z.cells[· % z.cells.size]!)) e))
  | _, _, _ => False
def bndV (v : Option Value) (dflt : Nat) : Option Int :=
  match v with
  | none => some dflt
  | some (.int _ n) => some n
  | _ => none
def oSlice (d : Option TypeDesc) (size : Option Nat) (x : Value) (lo hi : Option Value) (K : Kont) (h : Heap) : Prop :=
  match d, size, x with
  | some .string, _, .string s => match bndV lo 0, bndV hi s.size with
    | some l, some u => 0 ≤ l ∧ l ≤ u ∧ u ≤ s.size ∧ K (.string (s.extract l.toNat u.toNat)) h
    | _, _ => False
  | some (.slice _), some n, .slice a len cap => match bndV lo 0, bndV hi len with
    | some l, some u => 0 ≤ l ∧ l ≤ u ∧ u ≤ cap ∧ len ≤ cap ∧ K (.slice (if cap = l.toNat then a else a.map (·.add (l.toNat * n))) (u.toNat - l.toNat) (cap - l.toNat)) h
    | _, _ => False
  | _, _, _ => False
def fieldOf (P : Program) (s : TypeId) (f : Nat) : Option (Field × Nat) :=
  match P.underlying s with
  | some (.struct fs) => match fs[f]? with
    | some fd => (sizeOf' P fd.type).map fun n => (fd, n)
    | none => none
  | _ => none
def fieldOff (P : Program) (s : TypeId) (f : Nat) : Option Nat :=
  match fieldOf P s f with
  | some (fd, n) => cond (Nat.beq n 0) none (some fd.offset)
  | none => none
def oFieldAddr (off : Option Nat) (x : Value) (K : Kont) (h : Heap) : Prop :=
  match off, x with
  | some n, .pointer (some a) => K (.pointer (some (a.add n))) h
  | _, _ => False
def partV (var : Var) (cs : Array Value) (off : Nat) : Option Value :=
  match var with
  | .one => cs[off]?
  | .agg n => some (.agg (cs.extract off (off + n)))
  | .bad => none
def fieldVar (P : Program) (s : TypeId) (f : Nat) : Var × Nat :=
  match fieldOf P s f with
  | some (fd, _) => (varOf P fd.type, fd.offset)
  | none => (.bad, 0)
def oField (f : Var × Nat) (x : Value) (K : Kont) (h : Heap) : Prop :=
  match x with
  | .agg cs => match partV f.1 cs f.2 with
    | some v => K v h
    | none => False
  | _ => False
inductive Rowed where
  | slice (size : Nat)
  | array (len size : Nat)
  | string
  | bad
def rowedOf (P : Program) (t : TypeId) : Rowed :=
  match P.underlying t with
  | some (.slice e) => match sizeOf' P e with
    | some n => .slice n
    | none => .bad
  | some (.array len e) => match sizeOf' P e with
    | some n => .array len n
    | none => .bad
  | some .string => .string
  | _ => .bad
def oIndexAddr (r : Rowed) (x i : Value) (K : Kont) (h : Heap) : Prop :=
  match r, x, i with
  | .slice n, .slice (some a) len _, .int _ i => 0 ≤ i ∧ i < len ∧ K (.pointer (some (a.add (i.toNat * n)))) h
  | .array len n, .pointer (some a), .int _ i => 0 ≤ i ∧ i < len ∧ K (.pointer (some (a.add (i.toNat * n)))) h
  | _, _, _ => False
def oIndexStr (r : Rowed) (x i : Value) (K : Kont) (h : Heap) : Prop :=
  match r, x, i with
  | .string, .string s, .int _ i => 0 ≤ i ∧ match s[i.toNat]? with
    | some b => K (.int .u8 b.toNat) h
    | none => False
  | _, _, _ => False
def oExtract (x : Value) (i : Nat) (K : Kont) (h : Heap) : Prop :=
  match x with
  | .tuple vs => match vs[i]? with
    | some v => K v h
    | none => False
  | _ => False

/-! ### Soundness -/
section
variable {P : Program} {K : Kont} {h : Heap}
theorem hp_map {α β : Type} (f : α → β) (s : Sem α) (K : β → Heap → Prop) (h : Heap) : hp P (f <$> s) K h = hp P s (fun a h => K (f a) h) h := by
  show hp P (s >>= fun a => pure (f a)) K h = _
  simp only [hp_bind, hp_pure]
theorem hp_zeroValue {t : TypeId} {z : Value} (hz : zeroOf P t = some z) (K : Kont) (h : Heap) : hp P (zeroValue t) K h = K z h := by
  unfold zeroOf at hz
  cases hi : P.info? t with
  | none => rw [hi] at hz; cases hz
  | some i =>
    rw [hi] at hz
    simp only [Option.bind_some] at hz
    simp only [zeroValue, hp_bind, hp_typeInfo t i hi, hz, hp_pure]
theorem oAlloc_sound {t : TypeId} (hk : oAlloc (zeroOf P t) t K h) : hp P (Instr.alloc t true (.tuple #[])) K h := by
  unfold oAlloc at hk
  split at hk
  · rename_i z hz
    simp only [Instr.alloc, hp_bind, hp_zeroValue hz, newVar, newRow, hp_newObj, hp_pure]
    exact hk
  · exact hk.elim
theorem oBox_sound {t : TypeId} {x : Value} (hk : oBox t x K h) : hp P (Instr.box t x) K h := by
  simp only [Instr.box, newVar, newRow, hp_bind, hp_newObj, hp_pure]
  exact hk
theorem hp_mapM_places : ∀ (fs : List Field) (l : List (Nat × Nat)), placesOf P fs = some l → ∀ (K : List (Nat × Nat) → Heap → Prop) (h : Heap), K l h →
    hp P (fs.mapM (fun f => do pure (f.offset, ← sizeOf f.type))) K h := by
  intro fs
  induction fs with
  | nil => intro l hl K h hk; simp only [placesOf] at hl; injection hl with hl; subst hl; simpa [List.mapM_nil, hp_pure] using hk
  | cons f r ih =>
    intro l hl K h hk
    simp only [placesOf] at hl
    split at hl
    · rename_i n l' hn hl'
      injection hl with hl
      subst hl
      unfold sizeOf' at hn
      cases hi : P.info? f.type with
      | none => rw [hi] at hn; cases hn
      | some i =>
        rw [hi] at hn
        simp only [Option.map_some, Option.some.injEq] at hn
        subst hn
        rw [List.mapM_cons]
        simp only [hp_bind, hp_sizeOf hi, hp_pure]
        exact ih l' hl' _ h hk
    · cases hl
theorem oBuild_sound {t : TypeId} {parts : Array (Nat × Value)} (hk : oBuild (buildOf P t) parts.toList K h) : hp P (Instr.build t parts) K h := by
  unfold oBuild at hk
  split at hk
  · rename_i z l hb
    split at hk
    · rename_i cs hcs
      unfold buildOf at hb
      split at hb
      · rename_i fs z' hu hz
        cases hp' : placesOf P fs.toList with
        | none => rw [hp'] at hb; cases hb
        | some l' =>
          rw [hp'] at hb
          simp only [Option.map_some, Option.some.injEq, Prod.mk.injEq] at hb
          obtain ⟨rfl, rfl⟩ := hb
          simp only [Instr.build, hp_bind, hp_zeroValue hz, hp_underlying t _ hu]
          rw [Array.mapM_eq_mapM_toList]
          simp only [hp_map]
          refine hp_mapM_places fs.toList l' hp' _ h ?_
          simp only [List.getElem?_toArray, hcs, hp_pure]
          exact hk
      · cases hb
    · exact hk.elim
  · exact hk.elim
theorem sliceOf_spec {t e : TypeId} {size bytes : Nat} {z : Value} (hs : sliceOf P t = some (e, size, bytes, z)) :
    ∃ i, P.underlying t = some (.slice e) ∧ P.info? e = some i ∧ i.size = size ∧ i.bytes = bytes ∧ i.zero = some z ∧ zeroOf P e = some z := by
  unfold sliceOf at hs
  split at hs
  · rename_i e' hu
    split at hs
    · rename_i i hi
      split at hs
      · rename_i z' hz
        simp only [Option.some.injEq, Prod.mk.injEq] at hs
        obtain ⟨rfl, rfl, rfl, rfl⟩ := hs
        exact ⟨i, hu, hi, rfl, rfl, hz, by simp [zeroOf, hi, hz]⟩
      · cases hs
    · cases hs
  · cases hs
theorem oBuildSlice_sound {t : TypeId} {len : Nat} {parts : Array (Nat × Value)} (hk : oBuildSlice (sliceOf P t) len parts.toList K h) : hp P (Instr.buildSlice t len parts) K h := by
  unfold oBuildSlice at hk
  split at hk
  · rename_i e size bytes z hb
    obtain ⟨hle, hk⟩ := hk
    obtain ⟨i, hu, hi, hs, _, _, hz⟩ := sliceOf_spec hb
    have hle' : ¬ (len * size > 2 ^ 24) := by have := Nat.le_of_ble_eq_true hle; omega
    have range0 : Array.range 0 = #[] := by apply Array.ext'; simp
    split at hk
    · rename_i cs hcs
      by_cases h0 : len * size = 0
      · rw [h0, range0, Array.map_empty] at hcs
        simp only [Instr.buildSlice, hp_bind, hp_underlying t _ hu, hp_sizeOf hi, hs, h0, range0, Array.map_empty, hcs, newRow]
        exact hk
      · simp only [Instr.buildSlice, hp_bind, hp_underlying t _ hu, hp_sizeOf hi, hs, if_neg hle', if_neg h0, hp_zeroValue hz, hp_pure, hcs, newRow, hp_newObj]
        exact hk
    · exact hk.elim
  · exact hk.elim
theorem oUn_sound {op : UnOp} {x : Value} (hk : oUn op x K h) : hp P (Op.unary op x) K h := by
  unfold oUn at hk
  split at hk
  · exact hk
  · exact hk
  · exact hk.elim
theorem oFieldAddr_sound {s : TypeId} {f : Nat} {x : Value} (hk : oFieldAddr (fieldOff P s f) x K h) : hp P (Instr.fieldAt s x f) K h := by
  unfold oFieldAddr at hk
  split at hk
  · rename_i n a hf
    unfold fieldOff fieldOf at hf
    split at hf
    · rename_i fd m hfo
      split at hfo
      · rename_i fs hu
        split at hfo
        · rename_i fd' hfd
          unfold sizeOf' at hfo
          cases hi : P.info? fd'.type with
          | none => rw [hi] at hfo; cases hfo
          | some i =>
            rw [hi] at hfo
            simp only [Option.map_some, Option.some.injEq, Prod.mk.injEq] at hfo
            obtain ⟨rfl, rfl⟩ := hfo
            cases hz : Nat.beq i.size 0 with
            | true => rw [hz] at hf; cases hf
            | false =>
              rw [hz] at hf
              simp only [cond_false, Option.some.injEq] at hf
              subst hf
              have hz' : i.size ≠ 0 := Nat.ne_of_beq_eq_false hz
              have hsure : Instr.sureAddr (.pointer (some a)) = pure a := rfl
              simp only [Instr.fieldAt, hp_bind, hp_underlying s _ hu, hfd, hsure, hp_pure, fieldPlace, hp_sizeOf hi, if_neg hz']
              exact hk
        · cases hfo
      · cases hfo
    · cases hf
  · exact hk.elim
theorem hp_part {t : TypeId} {cs : Array Value} {off : Nat} {v : Value} (hv : partV (varOf P t) cs off = some v) (hk : K v h) : hp P (part t cs off) K h := by
  have hg : varOf P t ≠ .bad := by intro e; rw [e] at hv; cases hv
  obtain ⟨d, i, hd, hi, ⟨ha, hv'⟩ | ⟨ha, hs, hv'⟩⟩ := varOf_spec hg
  · rw [hv'] at hv
    simp only [partV, Option.some.injEq] at hv
    simp only [part, hp_bind, hp_isAgg hd, ha, if_true, hp_sizeOf hi, hp_pure, hv]
    exact hk
  · rw [hv'] at hv
    simp only [partV] at hv
    simp only [part, hp_bind, hp_isAgg hd, ha, Bool.false_eq_true, if_false, hv, hp_pure]
    exact hk
theorem oField_sound {s : TypeId} {f : Nat} {x : Value} (hk : oField (fieldVar P s f) x K h) : hp P (Instr.field s x f) K h := by
  unfold oField at hk
  split at hk
  · rename_i cs
    split at hk
    · rename_i v hv
      unfold fieldVar fieldOf at hv
      split at hv
      · rename_i fd n hfo
        split at hfo
        · rename_i fs hu
          split at hfo
          · rename_i fd' hfd
            cases hn : sizeOf' P fd'.type with
            | none => rw [hn] at hfo; cases hfo
            | some m =>
              rw [hn] at hfo
              simp only [Option.map_some, Option.some.injEq, Prod.mk.injEq] at hfo
              obtain ⟨rfl, rfl⟩ := hfo
              have hagg : asAgg (.agg cs) = pure cs := rfl
              simp only [Instr.field, hp_bind, hp_underlying s _ hu, hfd, hagg, hp_pure]
              exact hp_part hv hk
          · cases hfo
        · cases hfo
      · simp only [partV] at hv; cases hv
    · exact hk.elim
  · exact hk.elim
theorem hp_asIntOf (k : IntKind) (n : Int) (K : IntKind × Int → Heap → Prop) (h : Heap) : hp P (asIntOf (.int k n)) K h = K (k, n) h := rfl
theorem hp_asInt (k : IntKind) (n : Int) (K : Int → Heap → Prop) (h : Heap) : hp P (asInt (.int k n)) K h = K n h := rfl
theorem sizeOf'_spec {e : TypeId} {n : Nat} (hn : sizeOf' P e = some n) : ∃ i, P.info? e = some i ∧ i.size = n := by
  unfold sizeOf' at hn
  cases hi : P.info? e with
  | none => rw [hi] at hn; cases hn
  | some i => rw [hi] at hn; simp only [Option.map_some, Option.some.injEq] at hn; exact ⟨i, rfl, hn⟩
theorem rowedOf_slice {t : TypeId} {n : Nat} (hr : rowedOf P t = .slice n) : ∃ e i, P.underlying t = some (.slice e) ∧ P.info? e = some i ∧ i.size = n := by
  unfold rowedOf at hr
  split at hr
  · rename_i e hu
    split at hr
    · rename_i m hm
      obtain ⟨i, hi, hs⟩ := sizeOf'_spec hm
      injection hr with hr
      exact ⟨e, i, hu, hi, hs.trans hr⟩
    · cases hr
  · rename_i len e hu
    split at hr <;> cases hr
  · cases hr
  · cases hr
theorem rowedOf_array {t : TypeId} {len n : Nat} (hr : rowedOf P t = .array len n) : ∃ e i, P.underlying t = some (.array len e) ∧ P.info? e = some i ∧ i.size = n := by
  unfold rowedOf at hr
  split at hr
  · rename_i e hu
    split at hr <;> cases hr
  · rename_i len' e hu
    split at hr
    · rename_i m hm
      obtain ⟨i, hi, hs⟩ := sizeOf'_spec hm
      injection hr with hr1 hr
      subst hr1
      exact ⟨e, i, hu, hi, hs.trans hr⟩
    · cases hr
  · cases hr
  · cases hr
theorem rowedOf_string {t : TypeId} (hr : rowedOf P t = .string) : P.underlying t = some .string := by
  unfold rowedOf at hr
  split at hr
  · split at hr <;> cases hr
  · split at hr <;> cases hr
  · assumption
  · cases hr
theorem oIndexAddr_sound {t : TypeId} {x i : Value} (hk : oIndexAddr (rowedOf P t) x i K h) : hp P (Instr.indexAt t x i) K h := by
  unfold oIndexAddr at hk
  split at hk
  · rename_i n a len cap k i hr
    obtain ⟨e, inf, hu, hi, hs⟩ := rowedOf_slice hr
    obtain ⟨h0, h1, hk⟩ := hk
    simp only [Instr.indexAt, hp_bind, hp_asIntOf, hp_underlying t _ hu, hp_pure, if_pos (And.intro h0 h1), hp_sizeOf hi, hs]
    exact hk
  · rename_i len n a k i hr
    obtain ⟨e, inf, hu, hi, hs⟩ := rowedOf_array hr
    obtain ⟨h0, h1, hk⟩ := hk
    have hsure : Instr.sureAddr (.pointer (some a)) = pure a := rfl
    simp only [Instr.indexAt, hp_bind, hp_asIntOf, hp_underlying t _ hu, hsure, hp_pure, if_pos (And.intro h0 h1), hp_sizeOf hi, hs]
    exact hk
  · exact hk.elim
theorem oIndexStr_sound {t : TypeId} {x i : Value} (hk : oIndexStr (rowedOf P t) x i K h) : hp P (Instr.index t x i) K h := by
  unfold oIndexStr at hk
  split at hk
  · rename_i s k i hr
    have hu := rowedOf_string hr
    obtain ⟨h0, hk⟩ := hk
    split at hk
    · rename_i b hb
      simp only [Instr.index, hp_bind, hp_asIntOf, hp_underlying t _ hu, if_pos h0, hb, hp_pure]
      exact hk
    · exact hk.elim
  · exact hk.elim
theorem oExtract_sound {x : Value} {i : Nat} (hk : oExtract x i K h) : hp P (Instr.extract x i) K h := by
  unfold oExtract at hk
  split at hk
  · split at hk
    · rename_i v hv
      simp only [Instr.extract, hv, hp_pure]
      exact hk
    · exact hk.elim
  · exact hk.elim
theorem oMakeMap_sound {t : TypeId} {r : Option Value} (hk : oMakeMap (P.underlying t) r K h) : hp P (Instr.makeMap t r) K h := by
  unfold oMakeMap at hk
  split at hk
  · simp only [Instr.makeMap, hp_bind, hp_newObj, hp_pure]
    exact hk
  · split at hk
    · rename_i ke el hu
      simp only [Instr.makeMap, hp_bind, hp_underlying t _ hu, hp_asInt, hp_newObj, hp_pure]
      exact hk
    · exact hk.elim
  · exact hk.elim
theorem oConvert_sound {s d : TypeId} {x : Value} (hk : oConvert (P.underlying s) (P.underlying d) x K h) : hp P (convert s d x) K h := by
  unfold oConvert at hk
  split at hk
  · rename_i ds k k' n hs hd
    simp only [convert, hp_bind, hp_underlying s _ hs, hp_underlying d _ hd, Conv.intToInt, hp_pure]
    exact hk
  · rename_i ds b hs hd
    simp only [convert, hp_bind, hp_underlying s _ hs, hp_underlying d _ hd, hp_pure]
    exact hk
  · exact hk.elim
end
end Go.Fw

/- Comparisons, slices, maps and the builtins, read at the heap. -/
namespace Go.Fw
section
variable {P : Program} {K : Kont} {h : Heap}

theorem toList_beq (a b : ByteArray) : (a.toList == b.toList) = decide (a = b) := by
  rw [Bool.eq_iff_iff]
  simp only [beq_iff_eq, decide_eq_true_eq]
  constructor
  · intro e
    rw [ByteArray.toList_eq, ByteArray.toList_eq] at e
    cases a; cases b
    congr 1
    exact Array.toList_inj.1 e
  · rintro rfl; rfl
theorem hp_binI {op : BinOp} {k k' : IntKind} {a b : Int} {t : TypeId} {r : Value} (hr : binI op k a k' b = some r) : hp P (binOp op t (.int k a) (.int k' b)) K h = K r h := by
  have key : ∀ (s : Sem Value) (c : Prop) [Decidable c], c → s = pure r → (hp P (if ¬ c then stuck "BinOp: operands of different kinds" else s) K h = K r h) := by
    intro s c _ hc hs
    rw [if_neg (by simpa using hc), hs]; rfl
  cases op <;> simp only [binI] at hr <;> first
    | (cases hr; done)
    | (split at hr
       · cases hr
       · rename_i hb
         injection hr with hr; subst hr
         simp only [binOp, Op.shift, if_neg hb, hp_pure]
       done)
    | (split at hr
       · rename_i hk
         refine key _ _ hk ?_
         first
           | (injection hr with hr; subst hr; rfl)
           | (injection hr with hr; subst hr; simp only [Op.intCmp, bne, Int.beq_eq_decide, gt_iff_lt, ge_iff_le])
           | (split at hr
              · cases hr
              · rename_i hb
                injection hr with hr; subst hr
                simp only [Op.intDiv, if_neg hb])
       · cases hr)
theorem hp_binS {op : BinOp} {a b : ByteArray} {t : TypeId} {r : Value} (hr : binS op a b = some r) : hp P (binOp op t (.string a) (.string b)) K h = K r h := by
  cases op <;> simp only [binS] at hr <;> first
    | (cases hr; done)
    | (injection hr with hr; subst hr; simp [binOp, Op.stringOp, hp_pure, lessB, toList_beq]; done)
    | (split at hr
       · rename_i hle
         injection hr with hr; subst hr
         have : ¬ (((a.size + b.size : Nat) : Int) > IntKind.i64.max) := by
           have e : IntKind.i64.max = 9223372036854775807 := by decide
           rw [e]; unfold maxLen at hle; omega
         simp only [binOp, Op.stringOp, if_neg this, hp_pure]
       · cases hr)
theorem hp_equalIn {d : TypeDesc} {x y : Value} {t : TypeId} {r : Bool} (hd : P.underlying t = some d) (hr : eqV d x y = some r) (n : Nat) (K : Bool → Heap → Prop) (h : Heap) :
    hp P (Op.equalIn (n + 1) t x y) K h = K r h := by
  simp only [Op.equalIn, hp_bind, hp_underlying t d hd]
  unfold eqV at hr
  split at hr <;> first
    | (injection hr with hr; subst hr; simp only [hp_pure]; done)
    | (cases hr; done)
theorem maxDepth_eq : Op.maxDepth = 9999 + 1 := rfl
theorem hp_equal {d : TypeDesc} {x y : Value} {t : TypeId} {r : Bool} (hd : P.underlying t = some d) (hr : eqV d x y = some r) (K : Bool → Heap → Prop) (h : Heap) :
    hp P (Op.equal t x y) K h = K r h := by
  unfold Op.equal
  rw [maxDepth_eq]
  exact hp_equalIn hd hr 9999 K h
theorem hp_eqGuard {op : BinOp} {d : TypeDesc} {a b : Value} {t : TypeId} {x y : Operand} {r : Bool} (hr : eqV d a b = some r) (K : Unit → Heap → Prop) (h : Heap) :
    hp P (eqGuard op t x y a b) K h = K () h := by
  unfold eqGuard
  unfold eqV at hr
  split at hr <;> first
    | (cases hr; done)
    | (cases op <;> rfl)
theorem hp_eqGuard_int {op : BinOp} {k k' : IntKind} {a b : Int} {t : TypeId} {x y : Operand} (K : Unit → Heap → Prop) (h : Heap) :
    hp P (eqGuard op t x y (.int k a) (.int k' b)) K h = K () h := by
  unfold eqGuard
  cases op <;> rfl
theorem hp_eqGuard_str {op : BinOp} {a b : ByteArray} {t : TypeId} {x y : Operand} (K : Unit → Heap → Prop) (h : Heap) :
    hp P (eqGuard op t x y (.string a) (.string b)) K h = K () h := by
  unfold eqGuard
  cases op <;> rfl
theorem eqV_binOp {op : BinOp} {d : TypeDesc} {x y : Value} {t : TypeId} {b : Bool} (hop : op = .eql ∨ op = .neq) (hd : P.underlying t = some d) (hb : eqV d x y = some b) :
    hp P (binOp op t x y) K h = K (.bool (if op = .eql then b else !b)) h := by
  rcases hop with rfl | rfl
  · have : binOp .eql t x y = (do pure (.bool (← Op.equal t x y))) := by
      unfold eqV at hb
      split at hb <;> first | rfl | cases hb
    rw [this]
    simp only [hp_bind, hp_equal hd hb, hp_pure, if_true]
  · have : binOp .neq t x y = (do pure (.bool (!(← Op.equal t x y)))) := by
      unfold eqV at hb
      split at hb <;> first | rfl | cases hb
    rw [this]
    simp only [hp_bind, hp_equal hd hb, hp_pure]
    rfl
theorem oBin_sound {op : BinOp} {t : TypeId} {a b : Value} {x y : Operand} (hk : oBin (P.underlying t) op a b K h) : hp P (do eqGuard op t x y a b; binOp op t a b) K h := by
  unfold oBin at hk
  split at hk
  · rename_i r hr
    simp only [hp_bind]
    unfold binV at hr
    split at hr
    · rw [hp_eqGuard_int, hp_binI hr]; exact hk
    · rw [hp_eqGuard_str, hp_binS hr]; exact hk
    · split at hr
      · rename_i d hd
        cases he : eqV d a b with
        | none => rw [he] at hr; cases hr
        | some c =>
          rw [he] at hr
          simp only [Option.map_some, Option.some.injEq] at hr
          subst hr
          rw [hp_eqGuard he, eqV_binOp (.inl rfl) hd he]
          exact hk
      · rename_i d hd
        cases he : eqV d a b with
        | none => rw [he] at hr; cases hr
        | some c =>
          rw [he] at hr
          simp only [Option.map_some, Option.some.injEq] at hr
          subst hr
          rw [hp_eqGuard he, eqV_binOp (.inr rfl) hd he]
          exact hk
      · cases hr
  · exact hk.elim
end
end Go.Fw

/- Maps, read at the heap. -/
namespace Go.Fw

def simpleD : TypeDesc → Bool
  | .int _ | .string | .bool => true
  | _ => false
def mapOf (P : Program) (t : TypeId) : Option (TypeDesc × Value) :=
  match P.underlying t with
  | some (.map k e) => match P.underlying k, zeroOf P e with
    | some d, some z => cond (simpleD d) (some (d, z)) none
    | _, _ => none
  | _ => none
def lk (ok : Bool) (v : Value) (b : Bool) : Value := cond ok (.tuple #[v, .bool b]) v
def oLookup (m : Option (TypeDesc × Value)) (ok : Bool) (x k : Value) (K : Kont) (h : Heap) : Prop :=
  match m, x with
  | some (_, z), .map none => K (lk ok z false) h
  | some (d, z), .map (some r) => match h[r]? with
    | some (.map es _) => match Instr.findNow d k es.toList 0 with
      | some (some (_, v)) => K (lk ok v true) h
      | some none => K (lk ok z false) h
      | none => False
    | _ => False
  | _, _ => False
def oMapUpdate (m : Option (TypeDesc × Value)) (x k v : Value) (K : Kont) (h : Heap) : Prop :=
  match m, x with
  | some (d, _), .map (some r) => match h[r]? with
    | some (.map es clock) => match Instr.findNow d k es.toList 0 with
      | some (some (i, _)) => K undef (h.setIfInBounds r (.map (es.modify i fun e => { e with key := k, val := v }) clock))
      | some none => K undef (h.setIfInBounds r (.map (es.push { key := k, val := v, born := clock }) (clock + 1)))
      | none => False
    | _ => False
  | _, _ => False
def oMapEntry (m : Option (TypeDesc × Value)) (x k : Value) (K : Kont) (h : Heap) : Prop :=
  match m, x with
  | some (d, z), .map (some r) => match h[r]? with
    | some (.map es clock) => match Instr.findNow d k es.toList 0 with
      | some (some (i, v)) => K (.tuple #[v, goInt (((es[i]?).map (·.born)).getD 0)]) (h.setIfInBounds r (.map (es.modify i fun e => { e with key := k }) clock))
      | some none => K (.tuple #[z, goInt clock]) (h.setIfInBounds r (.map (es.push { key := k, val := z, born := clock }) (clock + 1)))
      | none => False
    | _ => False
  | _, _ => False
def oEntryStore (x s v : Value) (K : Kont) (h : Heap) : Prop :=
  match x, s with
  | .map (some r), .int _ born => match h[r]? with
    | some (.map es clock) => match es.findIdx? (fun e => (e.born : Int) == born) with
      | some i => K undef (h.setIfInBounds r (.map (es.modify i fun e => { e with val := v }) clock))
      | none => False
    | _ => False
  | _, _ => False
def oDelete (m : Option (TypeDesc × Value)) (x k : Value) (K : Kont) (h : Heap) : Prop :=
  match m, x with
  | some _, .map none => K (.tuple #[]) h
  | some (d, _), .map (some r) => match h[r]? with
    | some (.map es clock) => match Instr.findNow d k es.toList 0 with
      | some (some (i, _)) => K (.tuple #[]) (h.setIfInBounds r (.map (es.eraseIdxIfInBounds i) clock))
      | some none => K (.tuple #[]) h
      | none => False
    | _ => False
  | _, _ => False
def oRange (d : Option TypeDesc) (x : Value) (K : Kont) (h : Heap) : Prop :=
  match d, x with
  | some (.map _ _), .map none => K (newPtr h) (h.push (.mapIter none 0 #[] 0))
  | some (.map _ _), .map (some m) => match h[m]? with
    | some (.map _ clock) => K (newPtr h) (h.push (.mapIter (some m) clock #[] clock))
    | _ => False
  | some .string, .string s => K (newPtr h) (h.push (.stringIter s 0))
  | _, _ => False
def oNext (x : Value) (isString : Bool) (K : Kont) (h : Heap) : Prop :=
  match x, isString with
  | .pointer (some ⟨r, 0, _⟩), false => match h[r]? with
    | some (.mapIter none _ _ _) => K (.tuple #[.bool false]) h
    | some (.mapIter (some m) since seen last) => match h[m]? with
      | some (.map es clock) => (!seen.isEmpty && !es.isEmpty && es.all (·.born ≥ last)) = false ∧
          ((∀ e ∈ es.toList, seen.contains e.born = false → since ≤ e.born) → K (.tuple #[.bool false]) h) ∧
          ∀ e ∈ es.toList, seen.contains e.born = false → K (.tuple #[.bool true, e.key, e.val]) (h.setIfInBounds r (.mapIter (some m) since (seen.push e.born) clock))
      | _ => False
    | _ => False
  | .pointer (some ⟨r, 0, _⟩), true => match h[r]? with
    | some (.stringIter s pos) => if pos < s.size then K (.tuple #[.bool true, .int .i64 pos, .int .i32 (Utf8.decode s pos).1]) (h.setIfInBounds r (.stringIter s (pos + (Utf8.decode s pos).2))) else K (.tuple #[.bool false]) h
    | _ => False
  | _, _ => False
def oEntry (x : Value) (K : Kont) (h : Heap) : Prop :=
  match x with
  | .pointer (some ⟨r, 0, _⟩) => match h[r]? with
    | some (.mapIter (some m) _ seen stepped) => match seen.back? with
      | some stamp => match h[m]? with
        | some (.map es clock) => clock = stepped ∧ match es.find? (·.born == stamp) with
          | some e => K (.tuple #[e.key, e.val]) h
          | none => False
        | _ => False
      | none => False
    | _ => False
  | _ => False

section
variable {P : Program} {K : Kont} {h : Heap}
theorem bytes_beq' (a b : ByteArray) : (a == b) = true ↔ a = b := by
  constructor
  · intro e
    rw [show (a == b) = (a.data == b.data) from rfl] at e
    cases a; cases b
    simp only [beq_iff_eq] at e
    rw [e]
  · rintro rfl
    rw [show (a == a) = (a.data == a.data) from rfl]
    simp
theorem mapOf_spec {t : TypeId} {d : TypeDesc} {z : Value} (hm : mapOf P t = some (d, z)) : ∃ k e, P.underlying t = some (.map k e) ∧ P.underlying k = some d ∧ zeroOf P e = some z ∧ simpleD d = true := by
  unfold mapOf at hm
  split at hm
  · rename_i k e hu
    split at hm
    · rename_i d' z' hd hz
      cases hs : simpleD d' with
      | true =>
        rw [hs] at hm
        simp only [cond_true, Option.some.injEq, Prod.mk.injEq] at hm
        obtain ⟨rfl, rfl⟩ := hm
        exact ⟨k, e, hu, hd, hz, hs⟩
      | false => rw [hs] at hm; cases hm
    · cases hm
  · cases hm
theorem hp_checkKey {e : Bool} {n : Nat} {t : TypeId} {d : TypeDesc} {v : Value} (hd : P.underlying t = some d) (hs : simpleD d = true) (K : Unit → Heap → Prop) (h : Heap) :
    hp P (Instr.checkKey e (n + 1) t v) K h = K () h := by
  simp only [Instr.checkKey, hp_bind, hp_underlying t d hd]
  cases d <;> first
    | (simp only [simpleD] at hs; cases hs; done)
    | (cases v <;> rfl)
theorem ten_thousand : (10000 : Nat) = 9999 + 1 := rfl
theorem hp_findKey {t : TypeId} {d : TypeDesc} {k : Value} {es : List MapEntry} {r : Option (Nat × Value)} (hd : P.underlying t = some d) (hr : Instr.findNow d k es 0 = some r)
    (K : Option (Nat × Value) → Heap → Prop) (h : Heap) : hp P (Instr.findKey t k es) K h = K r h := by
  simp only [Instr.findKey, hp_bind, hp_underlying t d hd, hr, hp_pure]
theorem sameNow_eq {d : TypeDesc} {k k' : Value} (hs : Instr.sameNow d k k' = some true) : k' = k ∧ Instr.sameBits 10000 k' k = true := by
  unfold Instr.sameNow at hs
  split at hs
  · split at hs
    · rename_i hk
      subst hk
      simp only [Option.some.injEq, beq_iff_eq] at hs
      subst hs
      exact ⟨rfl, by simp [Instr.sameBits]⟩
    · cases hs
  · rename_i a b
    simp only [Option.some.injEq] at hs
    have hab : a = b := by
      exact (bytes_beq' a b).1 hs
    subst hab
    exact ⟨rfl, by simpa [Instr.sameBits] using hs⟩
  · simp only [Option.some.injEq, beq_iff_eq] at hs
    subst hs
    exact ⟨rfl, by simp [Instr.sameBits]⟩
  · cases hs
theorem findNow_some {d : TypeDesc} {k : Value} : ∀ (es : List MapEntry) (n i : Nat) (v : Value), Instr.findNow d k es n = some (some (i, v)) →
    ∃ e, n ≤ i ∧ es[i - n]? = some e ∧ e.val = v ∧ Instr.sameNow d k e.key = some true := by
  intro es
  induction es with
  | nil => intro n i v hf; simp [Instr.findNow] at hf
  | cons e r ih =>
    intro n i v hf
    simp only [Instr.findNow] at hf
    split at hf
    · rename_i hs
      simp only [Option.some.injEq, Prod.mk.injEq] at hf
      obtain ⟨rfl, rfl⟩ := hf
      exact ⟨e, Nat.le_refl _, by simp, rfl, hs⟩
    · obtain ⟨e', hle, he, hv, hs⟩ := ih (n + 1) i v hf
      refine ⟨e', by omega, ?_, hv, hs⟩
      rw [show i - n = (i - (n + 1)) + 1 from by omega, List.getElem?_cons_succ]
      exact he
    · cases hf
theorem hp_getMap {r : Nat} {es : Array MapEntry} {clock : Nat} (hb : h[r]? = some (.map es clock)) (K : Obj → Heap → Prop) : hp P (getObj r) K h = K (.map es clock) h := by
  simp only [getObj, hp, hb]
theorem hp_setMap {r : Nat} {es : Array MapEntry} {clock : Nat} {o : Obj} (hb : h[r]? = some (.map es clock)) (K : Unit → Heap → Prop) : hp P (setObj r o) K h = K () (h.setIfInBounds r o) := by
  simp only [setObj, hp, hb]
theorem oLookup_sound {t : TypeId} {ok : Bool} {x k : Value} (hk : oLookup (mapOf P t) ok x k K h) : hp P (Instr.lookup t x k ok) K h := by
  unfold oLookup at hk
  have hlk : ∀ (v : Value) (b : Bool), (if ok = true then Value.tuple #[v, .bool b] else v) = lk ok v b := by intro v b; cases ok <;> rfl
  split at hk
  · rename_i d z hm
    obtain ⟨kt, et, hu, hd, hz, hs⟩ := mapOf_spec hm
    simp only [Instr.lookup, hp_bind, hp_underlying t _ hu, hp_pure, ten_thousand, hp_checkKey hd hs, hp_findKey (es := (#[] : Array MapEntry).toList) (r := none) hd rfl, hp_zeroValue hz, hlk]
    exact hk
  · rename_i d z r hm
    obtain ⟨kt, et, hu, hd, hz, hs⟩ := mapOf_spec hm
    split at hk
    · rename_i es clock hb
      split at hk
      · rename_i i v hf
        simp only [Instr.lookup, hp_bind, hp_underlying t _ hu, hp_getMap hb, hp_pure, ten_thousand, hp_checkKey hd hs, hp_findKey hd hf, hlk]
        exact hk
      · rename_i hf
        simp only [Instr.lookup, hp_bind, hp_underlying t _ hu, hp_getMap hb, hp_pure, ten_thousand, hp_checkKey hd hs, hp_findKey hd hf, hp_zeroValue hz, hlk]
        exact hk
      · exact hk.elim
    · exact hk.elim
  · exact hk.elim
theorem hp_keyStays {d : TypeDesc} {k : Value} {es : Array MapEntry} {i : Nat} {v : Value} (hf : Instr.findNow d k es.toList 0 = some (some (i, v))) (K : Kont) (h : Heap) :
    hp P (Instr.keyThatStays (((es[i]?).map (·.key)).getD k) k) K h = K k h := by
  obtain ⟨e, _, he, _, hs⟩ := findNow_some _ _ _ _ hf
  simp only [Nat.sub_zero, Array.getElem?_toList] at he
  obtain ⟨hk, hb⟩ := sameNow_eq hs
  simp only [Instr.keyThatStays, he, Option.map_some, Option.getD_some, hb, if_true, hp_pure]
theorem oMapUpdate_sound {t : TypeId} {x k v : Value} (hk : oMapUpdate (mapOf P t) x k v K h) : hp P (Instr.mapUpdate t x k v) (fun _ h' => K undef h') h := by
  unfold oMapUpdate at hk
  split at hk
  · rename_i d z r hm
    obtain ⟨kt, et, hu, hd, hz, hs⟩ := mapOf_spec hm
    split at hk
    · rename_i es clock hb
      split at hk
      · rename_i i v' hf
        simp only [Instr.mapUpdate, hp_bind, hp_underlying t _ hu, hp_getMap hb, ten_thousand, hp_checkKey hd hs, hp_findKey hd hf, hp_keyStays hf, hp_setMap hb]
        exact hk
      · rename_i hf
        simp only [Instr.mapUpdate, hp_bind, hp_underlying t _ hu, hp_getMap hb, ten_thousand, hp_checkKey hd hs, hp_findKey hd hf, hp_setMap hb]
        exact hk
      · exact hk.elim
    · exact hk.elim
  · exact hk.elim
theorem oMapEntry_sound {t : TypeId} {x k : Value} (hk : oMapEntry (mapOf P t) x k K h) : hp P (Instr.mapEntry t x k) K h := by
  unfold oMapEntry at hk
  split at hk
  · rename_i d z r hm
    obtain ⟨kt, et, hu, hd, hz, hs⟩ := mapOf_spec hm
    split at hk
    · rename_i es clock hb
      split at hk
      · rename_i i v' hf
        simp only [Instr.mapEntry, hp_bind, hp_underlying t _ hu, hp_getMap hb, ten_thousand, hp_checkKey hd hs, hp_findKey hd hf, hp_keyStays hf, hp_setMap hb, hp_pure]
        exact hk
      · rename_i hf
        simp only [Instr.mapEntry, hp_bind, hp_underlying t _ hu, hp_getMap hb, ten_thousand, hp_checkKey hd hs, hp_findKey hd hf, hp_setMap hb, hp_zeroValue hz, hp_pure]
        exact hk
      · exact hk.elim
    · exact hk.elim
  · exact hk.elim
theorem oEntryStore_sound {t : TypeId} {x s v : Value} (hk : oEntryStore x s v K h) : hp P (Instr.entryStore t x s v) (fun _ h' => K undef h') h := by
  unfold oEntryStore at hk
  split at hk
  · split at hk
    · rename_i es clock hb
      split at hk
      · rename_i i hf
        simp only [Instr.entryStore, hp_bind, hp_getMap hb, hp_asInt, hf, hp_setMap hb]
        exact hk
      · exact hk.elim
    · exact hk.elim
  · exact hk.elim
theorem oDelete_sound {t t' : TypeId} {ty : TypeId} {x k : Value} (hk : oDelete (mapOf P t) x k K h) : hp P (Builtin.delete_ #[t, t'] ty #[x, k]) K h := by
  unfold oDelete at hk
  have e0 : (#[t, t'] : Array TypeId)[0]? = some t := rfl
  have e1 : (#[x, k] : Array Value)[0]? = some x := rfl
  have e2 : (#[x, k] : Array Value)[1]? = some k := rfl
  split at hk
  · rename_i m hm
    obtain ⟨kt, et, hu, hd, hz, hs⟩ := mapOf_spec hm
    simp only [Builtin.delete_, e0, e1, e2, hp_bind, hp_underlying t _ hu, ten_thousand, hp_checkKey hd hs, hp_pure]
    exact hk
  · rename_i d z r hm
    obtain ⟨kt, et, hu, hd, hz, hs⟩ := mapOf_spec hm
    split at hk
    · rename_i es clock hb
      split at hk
      · rename_i i v' hf
        simp only [Builtin.delete_, e0, e1, e2, hp_bind, hp_underlying t _ hu, hp_getMap hb, ten_thousand, hp_checkKey hd hs, hp_findKey hd hf, hp_setMap hb, hp_pure]
        exact hk
      · rename_i hf
        simp only [Builtin.delete_, e0, e1, e2, hp_bind, hp_underlying t _ hu, hp_getMap hb, ten_thousand, hp_checkKey hd hs, hp_findKey hd hf, hp_setMap hb, hp_pure]
        rw [setIf_self h _ _ hb]
        exact hk
      · exact hk.elim
    · exact hk.elim
  · exact hk.elim
theorem oRange_sound {t : TypeId} {x : Value} (hk : oRange (P.underlying t) x K h) : hp P (Instr.range t x) K h := by
  unfold oRange at hk
  split at hk
  · rename_i hu
    simp only [Instr.range, hp_bind, hp_underlying t _ hu, hp_pure, hp_newObj]
    exact hk
  · rename_i hu
    split at hk
    · rename_i es clock hb
      simp only [Instr.range, hp_bind, hp_underlying t _ hu, hp_getMap hb, hp_pure, hp_newObj]
      exact hk
    · exact hk.elim
  · rename_i hu
    simp only [Instr.range, hp_bind, hp_underlying t _ hu, hp_pure, hp_newObj]
    exact hk
  · exact hk.elim
theorem hp_getIter {r : Nat} {m : Option Nat} {since stepped : Nat} {seen : Array Nat} (hb : h[r]? = some (.mapIter m since seen stepped)) (K : Obj → Heap → Prop) : hp P (getObj r) K h = K (.mapIter m since seen stepped) h := by
  simp only [getObj, hp, hb]
theorem hp_setIter {r : Nat} {m : Option Nat} {since stepped : Nat} {seen : Array Nat} {o : Obj} (hb : h[r]? = some (.mapIter m since seen stepped)) (K : Unit → Heap → Prop) : hp P (setObj r o) K h = K () (h.setIfInBounds r o) := by
  simp only [setObj, hp, hb]
theorem oEntry_sound {x : Value} (hk : oEntry x K h) : hp P (Instr.entry x) K h := by
  unfold oEntry at hk
  split at hk
  · split at hk
    · rename_i hb
      split at hk
      · rename_i stamp hst
        split at hk
        · rename_i es clock hm
          obtain ⟨hc, hk⟩ := hk
          subst hc
          split at hk
          · rename_i e he
            simp only [Instr.entry, hp_bind, hp_getIter hb, hst, hp_getMap hm, bne_self_eq_false, Bool.false_eq_true, if_false, he, hp_pure]
            exact hk
          · exact hk.elim
        · exact hk.elim
      · exact hk.elim
    · exact hk.elim
  · exact hk.elim
end
end Go.Fw

/- Slices, builtins, iterators, read at the heap. -/
namespace Go.Fw

def lenV : Value → Option Nat
  | .slice _ n _ => some n
  | .string s => some s.size
  | _ => none
def oLen (d : Option TypeDesc) (x : Value) (K : Kont) (h : Heap) : Prop :=
  match d, x with
  | some .string, .string s => K (.int .i64 s.size) h
  | some (.slice _), .slice _ n _ => K (.int .i64 n) h
  | some (.map _ _), .map none => K (.int .i64 0) h
  | some (.map _ _), .map (some r) => match h[r]? with
    | some (.map es _) => K (.int .i64 es.size) h
    | _ => False
  | _, _ => False
def oCap (d : Option TypeDesc) (x : Value) (K : Kont) (h : Heap) : Prop :=
  match d, x with
  | some (.slice _), .slice _ _ n => K (.int .i64 n) h
  | _, _ => False
def rowH (h : Heap) (a : Addr) (m : Nat) : Option (Array Value) :=
  match h[a.block]? with
  | some (.cells c _ _) => if a.spot.isNone && Nat.ble (a.off + m) c.size then some (c.extract a.off (a.off + m)) else none
  | _ => none
/-- The cells of the first n elements. -/
def rdCells (h : Heap) (size n : Nat) : Value → Option (Array Value)
  | .slice (some a) _ _ => if n * size = 0 then some #[] else rowH h a (n * size)
  | .slice none _ _ => some #[]
  | .string s => some ((s.extract 0 n).data.map fun b => .int .u8 b.toNat)
  | _ => none
/-- Cells stored from an address on; no cells: nothing is done. -/
def putCells (h : Heap) (a : Option Addr) (off : Nat) (vs : List Value) : Option Heap :=
  match a, vs with
  | none, _ => some h
  | some _, [] => some h
  | some a, v :: r => storeH h (a.add off) (v :: r)
def oAppend (b : Option (TypeId × Nat × Nat × Value)) (s x : Value) (K : Kont) (h : Heap) : Prop :=
  match b, s, lenV x with
  | some (e, size, bytes, z), .slice base sLen sCap, some n =>
    if sLen + n ≤ sCap then
      match rdCells h size n x with
      | some new => match putCells h base (sLen * size) new.toList with
        | some h' => K (.slice base (sLen + n) sCap) h'
        | none => False
      | none => False
    else
      bytes ≠ 0 ∧ Builtin.nextslicecap (sLen + n) sCap * bytes ≤ 281474976710656 ∧
      match rdCells h size sLen (.slice base sLen sCap), rdCells h size n x with
      | some old, some new => ∀ newCap, sLen + n ≤ newCap → K (.slice (some ⟨h.size, 0, none⟩) (sLen + n) newCap) (h.push (.cells (old ++ new ++ Builtin.zeroCells z.cells (newCap - (sLen + n))) e))
      | _, _ => False
  | _, _, _ => False
def oCopy (b : Option (TypeId × Nat × Nat × Value)) (d x : Value) (K : Kont) (h : Heap) : Prop :=
  match b, d, lenV x with
  | some (_, size, _, _), .slice base dLen _, some n =>
    match rdCells h size (Nat.min n dLen) x with
    | some new => match putCells h base 0 new.toList with
      | some h' => K (.int .i64 (Nat.min n dLen)) h'
      | none => False
    | none => False
  | _, _, _ => False
def min2V : Value → Value → Option Value
  | .int k x, .int _ y => some (.int k (if y < x then y else x))
  | .string x, .string y => some (.string (if lessB x y || decide (x = y) then x else y))
  | _, _ => none
def max2V : Value → Value → Option Value
  | .int k x, .int _ y => some (.int k (if y > x then y else x))
  | _, _ => none
def foldV (f : Value → Value → Option Value) : Value → List Value → Option Value
  | x, [] => some x
  | x, y :: r => match f x y with
    | some z => foldV f z r
    | none => none
def minI : List Value → Option Value
  | [] => none
  | x :: r => foldV min2V x r
def maxI : List Value → Option Value
  | [] => none
  | x :: r => foldV max2V x r
def oVal (r : Option Value) (K : Kont) (h : Heap) : Prop :=
  match r with
  | some v => K v h
  | none => False

section
variable {P : Program} {K : Kont} {h : Heap}
theorem oLen_sound {t : TypeId} {ts : Array TypeId} {ty : TypeId} {x : Value} (ht : ts[0]? = some t) (hk : oLen (P.underlying t) x K h) : hp P (Builtin.len_ ts ty #[x]) K h := by
  have e1 : (#[x] : Array Value)[0]? = some x := rfl
  unfold oLen at hk
  split at hk
  · rename_i hu
    simp only [Builtin.len_, ht, e1, hp_bind, hp_underlying t _ hu, hp_pure]; exact hk
  · rename_i hu
    simp only [Builtin.len_, ht, e1, hp_bind, hp_underlying t _ hu, hp_pure]; exact hk
  · rename_i hu
    simp only [Builtin.len_, ht, e1, hp_bind, hp_underlying t _ hu, hp_pure]; exact hk
  · rename_i hu
    split at hk
    · rename_i es clock hb
      simp only [Builtin.len_, ht, e1, hp_bind, hp_underlying t _ hu, hp_getMap hb, hp_pure]; exact hk
    · exact hk.elim
  · exact hk.elim
theorem oCap_sound {t : TypeId} {ts : Array TypeId} {ty : TypeId} {x : Value} (ht : ts[0]? = some t) (hk : oCap (P.underlying t) x K h) : hp P (Builtin.cap_ ts ty #[x]) K h := by
  have e1 : (#[x] : Array Value)[0]? = some x := rfl
  unfold oCap at hk
  split at hk
  · rename_i hu
    simp only [Builtin.cap_, ht, e1, hp_bind, hp_underlying t _ hu, hp_pure]; exact hk
  · exact hk.elim
theorem hp_lenOf {x : Value} {n : Nat} (hx : lenV x = some n) (K : Nat → Heap → Prop) (h : Heap) : hp P (Builtin.lenOf x) K h = K n h := by
  unfold lenV at hx
  split at hx
  · injection hx with hx; subst hx; rfl
  · injection hx with hx; subst hx; rfl
  · cases hx
theorem hp_row {a : Addr} {m : Nat} {cs : Array Value} (hr : rowH h a m = some cs) {K : Array Value → Heap → Prop} (hk : K cs h) : hp P (loadCells a m) K h := by
  unfold rowH at hr
  split at hr
  · rename_i c e fz hb
    split at hr
    · rename_i hc
      simp only [Bool.and_eq_true, Nat.ble_eq, Option.isNone_iff_eq_none] at hc
      injection hr with hr
      subst hr
      exact hp_loadCellsFrom hb hc.1 m 0 #[] _ (by omega) (by simpa using hk)
    · cases hr
  · cases hr
theorem hp_rdCells {size n : Nat} {x : Value} {cs : Array Value} (hr : rdCells h size n x = some cs) {K : Array Value → Heap → Prop} (hk : K cs h) : hp P (Builtin.firstCells size n x) K h := by
  unfold rdCells at hr
  split at hr
  · split at hr
    · rename_i h0
      injection hr with hr; subst hr
      simp only [Builtin.firstCells, h0, loadCells, loadCellsFrom, hp_pure]
      exact hk
    · exact hp_row hr hk
  · injection hr with hr; subst hr; exact hk
  · injection hr with hr; subst hr; exact hk
  · cases hr
theorem hp_putCells {a : Option Addr} {off : Nat} {vs : List Value} {h' : Heap} (hs : putCells h a off vs = some h') {K : Unit → Heap → Prop} (hk : K () h') :
    hp P (match a with | some a => storeCells (a.add off) vs | none => pure ()) K h := by
  unfold putCells at hs
  split at hs
  · injection hs with hs; subst hs; exact hk
  · injection hs with hs; subst hs; exact hk
  · rename_i a v r
    unfold storeH at hs
    split at hs
    · rename_i c e hb
      split at hs
      · rename_i hc
        simp only [Bool.and_eq_true, Nat.ble_eq, Option.isNone_iff_eq_none] at hc
        injection hs with hs
        subst hs
        exact hp_storeCells _ h (a.add off) c e 0 K hb hc.1.1 (by omega) hc.2 hk
      · cases hs
    · cases hs
theorem i64max : IntKind.i64.max = 9223372036854775807 := by decide
theorem oAppend_sound {t t' : TypeId} {ty : TypeId} {s x : Value} (ht : ∀ k, P.underlying t' ≠ some (.int k)) (ht' : (P.underlying t').isSome = true) (hk : oAppend (sliceOf P t) s x K h) :
    hp P (Builtin.append_ #[t, t'] ty #[s, x]) K h := by
  obtain ⟨d, hd⟩ := Option.isSome_iff_exists.1 ht'
  have e0 : (#[t, t'] : Array TypeId)[0]? = some t := rfl
  have e0' : (#[t, t'] : Array TypeId)[1]? = some t' := rfl
  have e1 : (#[s, x] : Array Value)[0]? = some s := rfl
  have e2 : (#[s, x] : Array Value)[1]? = some x := rfl
  have hint : ∀ k, d ≠ .int k := fun k e => ht k (e ▸ hd)
  clear ht ht'
  cases d
  case int k => exact absurd rfl (hint k)
  all_goals
    unfold oAppend at hk
    split at hk
    · rename_i e size bytes z base sLen sCap n hb hn
      obtain ⟨i, hu, hi, hs, hby, _, hz0⟩ := sliceOf_spec hb
      simp only [Builtin.append_, e0, e0', e1, e2, hp_bind, hp_underlying t _ hu, hp_sizeOf hi, hs, hp_underlying t' _ hd, hp_pure, Bool.false_eq_true, if_false, hp_lenOf hn]
      split at hk
      · rename_i hle
        simp only [if_pos hle]
        split at hk
        · rename_i new hnew
          split at hk
          · rename_i h' hput
            simp only [Bool.not_false, if_true, hp_bind]
            refine hp_rdCells hnew ?_
            have := hp_putCells (P := P) (K := fun _ h' => K (.slice base (sLen + n) sCap) h') hput hk
            cases base with
            | none => simp only [hp_pure] at this ⊢; exact this
            | some a => simp only [hp_bind, hp_pure] at this ⊢; exact this
          · exact hk.elim
        · exact hk.elim
      · rename_i hle
        simp only [if_neg hle]
        obtain ⟨hb0, hcap, hk⟩ := hk
        split at hk
        · rename_i old new hold hnew
          have hz1 : ¬ (i.bytes = 0) := by rw [hby]; exact hb0
          have hc1 : ¬ (Builtin.nextslicecap (sLen + n) sCap * i.bytes > 2 ^ 48) := by rw [hby]; omega
          simp only [hp_bind, hp_typeInfo e i hi, false_or, hz1, and_false, if_false, hp_pure, if_neg hc1, Bool.not_false, if_true]
          simp only [choose, hp, Question.forced, Bool.false_eq_true, if_false]
          intro m
          have hcut : sLen + n ≤ Question.cut (.appendCap (sLen + n) sCap e) m := by simp only [Question.cut]; omega
          generalize Question.cut (.appendCap (sLen + n) sCap e) m = newCap at hcut
          have hroom : ∀ (K : Unit → Heap → Prop) (h : Heap), hp P (askRoom (newCap * i.bytes)) K h = K () h := by
            intro K h; unfold askRoom; split <;> rfl
          simp only [hroom]
          refine hp_rdCells hold ?_
          refine hp_rdCells hnew ?_
          simp only [hp_zeroValue hz0, newRow, hp_bind, hp_newObj, hp_pure]
          exact hk newCap hcut
        · exact hk.elim
    · exact hk.elim
theorem oCopy_sound {t t' : TypeId} {ty : TypeId} {d x : Value} (hk : oCopy (sliceOf P t) d x K h) : hp P (Builtin.copy_ #[t, t'] ty #[d, x]) K h := by
  have e0 : (#[t, t'] : Array TypeId)[0]? = some t := rfl
  have e1 : (#[d, x] : Array Value)[0]? = some d := rfl
  have e2 : (#[d, x] : Array Value)[1]? = some x := rfl
  unfold oCopy at hk
  split at hk
  · rename_i e size bytes z base dLen cap n hb hn
    obtain ⟨i, hu, hi, hs, hby, _, hz0⟩ := sliceOf_spec hb
    split at hk
    · rename_i new hnew
      split at hk
      · rename_i h' hput
        simp only [Builtin.copy_, e0, e1, e2, hp_bind, hp_underlying t _ hu, hp_lenOf hn, hp_sizeOf hi, hs]
        refine hp_rdCells hnew ?_
        have := hp_putCells (P := P) (K := fun _ h' => K (.int .i64 (Nat.min n dLen)) h') hput hk
        cases base with
        | none => simp only [hp_pure] at this ⊢; exact this
        | some a =>
          simp only [hp_bind, hp_pure] at this ⊢
          rw [show a.add 0 = a from rfl] at this
          exact this
      · exact hk.elim
    · exact hk.elim
  · exact hk.elim
theorem hp_min2 {x y z : Value} (hz : min2V x y = some z) (K : Kont) (h : Heap) : hp P (Builtin.min2 x y) K h = K z h := by
  unfold min2V at hz
  split at hz
  · injection hz with hz; subst hz; rfl
  · injection hz with hz; subst hz
    simp [Builtin.min2, Op.stringOp, asBool, hp_pure, lessB, toList_beq]
  · cases hz
theorem hp_max2 {x y z : Value} (hz : max2V x y = some z) (K : Kont) (h : Heap) : hp P (Builtin.max2 x y) K h = K z h := by
  unfold max2V at hz
  split at hz
  · injection hz with hz; subst hz; rfl
  · cases hz
theorem foldlM_V {f : Value → Value → Option Value} {g : Value → Value → Sem Value} (hfg : ∀ x y z, f x y = some z → ∀ (K : Kont) (h : Heap), hp P (g x y) K h = K z h) :
    ∀ (r : List Value) (x : Value) (v : Value), foldV f x r = some v → ∀ (K : Kont) (h : Heap), hp P (r.foldlM g x) K h = K v h := by
  intro r
  induction r with
  | nil => intro x v hv K h; simp only [foldV] at hv; injection hv with hv; subst hv; rfl
  | cons y r ih =>
    intro x v hv K h
    simp only [foldV] at hv
    split at hv
    · rename_i z hz
      rw [List.foldlM_cons, hp_bind, hfg x y z hz]
      exact ih z v hv K h
    · cases hv
theorem oMin_sound {ts : Array TypeId} {ty : TypeId} {args : Array Value} (hk : oVal (minI args.toList) K h) : hp P (Builtin.min_ ts ty args) K h := by
  unfold oVal at hk
  split at hk
  · rename_i v hv
    unfold Builtin.min_
    split
    · rename_i e; rw [e] at hv; simp [minI] at hv
    · rename_i x r e; rw [e] at hv; rw [foldlM_V (fun _ _ _ hz => hp_min2 hz) r x v hv]; exact hk
  · exact hk.elim
theorem oMax_sound {ts : Array TypeId} {ty : TypeId} {args : Array Value} (hk : oVal (maxI args.toList) K h) : hp P (Builtin.max_ ts ty args) K h := by
  unfold oVal at hk
  split at hk
  · rename_i v hv
    unfold Builtin.max_
    split
    · rename_i e; rw [e] at hv; simp [maxI] at hv
    · rename_i x r e; rw [e] at hv; rw [foldlM_V (fun _ _ _ hz => hp_max2 hz) r x v hv]; exact hk
  · exact hk.elim
end
end Go.Fw

/- Slicing, making slices, stepping an iterator, read at the heap. -/
namespace Go.Fw
section
variable {P : Program} {K : Kont} {h : Heap}
theorem hp_choose (q : Question) (K : Nat → Heap → Prop) (h : Heap) : hp P (choose q) K h = if q.forced then K 0 h else ∀ n, K (q.cut n) h := rfl
theorem range0 : Array.range 0 = #[] := by apply Array.ext'; simp
theorem oMakeSlice_sound {t : TypeId} {l c : Value} (hk : oMakeSlice (sliceOf P t) l c K h) : hp P (Instr.makeSlice t l c) K h := by
  unfold oMakeSlice at hk
  split at hk
  · rename_i e size bytes z k l k' c hb
    obtain ⟨i, hu, hi, hs, hby, _, hz0⟩ := sliceOf_spec hb
    obtain ⟨h0, h1, h2, h3, hzs, hk⟩ := hk
    have wl : IntKind.i64.wrap l = l := IntWalk.i64_in _ (by omega)
    have wc : IntKind.i64.wrap c = c := IntWalk.i64_in _ (by omega)
    have hbig : ¬ ((i.bytes : Int) * c > 2 ^ 48) := by rw [hby]; omega
    have hc0 : ¬ c < 0 := by omega
    have hl0 : ¬ l < 0 := by omega
    have hlc : ¬ l > c := by omega
    have hroom : ∀ (n : Nat) (K : Unit → Heap → Prop) (h : Heap), hp P (askRoom n) K h = K () h := by
      intro n K h; unfold askRoom; split <;> rfl
    simp only [Instr.makeSlice, hp_bind, hp_underlying t _ hu, hp_asInt, hp_typeInfo e i hi, wl, wc, hbig, hc0, hl0, hlc, decide_false, Bool.or_self, Bool.false_eq_true, if_false, hroom, hp_sizeOf hi, hs]
    by_cases hn : c.toNat * size = 0
    · simp only [hn, if_true, hp_pure, newRow, hp_bind, hp_newObj]
      rw [hn, range0, Array.map_empty] at hk
      rw [range0, Array.map_empty]
      exact hk
    · simp only [if_neg hn, hp_pure, newRow, hp_bind, hp_newObj, hp_zeroValue hz0]
      exact hk
  · exact hk.elim
theorem hp_sliceBound {v : Value} {n : Int} {y : Nat} {c : BoundsCode} (hv : bndV (some v) 0 = some n) (h0 : 0 ≤ n) (h1 : n ≤ y) (K : Nat → Heap → Prop) (h : Heap) : hp P (Instr.sliceBound v y c) K h = K n.toNat h := by
  unfold bndV at hv
  split at hv
  · rename_i e; cases e
  · rename_i k m e
    injection e with e
    subst e
    injection hv with hv
    subst hv
    simp only [Instr.sliceBound, hp_bind, hp_asIntOf, if_pos (And.intro h0 h1), hp_pure]
  · cases hv
theorem hp_sliceBounds {lo hi : Option Value} {l u : Int} {b : Bool} {len cap : Nat} (hl : bndV lo 0 = some l) (hh : bndV hi len = some u) (h0 : 0 ≤ l) (h1 : l ≤ u) (h2 : u ≤ cap) (K : Nat × Nat × Nat → Heap → Prop) (h : Heap) :
    hp P (Instr.sliceBounds b len cap lo hi none) K h = K (l.toNat, u.toNat, cap) h := by
  cases hi with
  | none =>
    simp only [bndV] at hh
    injection hh with hh
    subst hh
    cases lo with
    | none =>
      simp only [bndV] at hl
      injection hl with hl
      subst hl
      simp only [Instr.sliceBounds, hp_bind, hp_pure]
      rfl
    | some v =>
      simp only [Instr.sliceBounds, hp_bind, hp_pure]
      rw [hp_sliceBound hl h0 h1]
      rfl
  | some w =>
    have hw : bndV (some w) 0 = some u := by
      rw [← hh]
      cases w <;> rfl
    cases lo with
    | none =>
      simp only [bndV] at hl
      injection hl with hl
      subst hl
      simp only [Instr.sliceBounds, hp_bind, hp_pure]
      rw [hp_sliceBound hw (by omega) h2]
      rfl
    | some v =>
      simp only [Instr.sliceBounds, hp_bind, hp_pure]
      rw [hp_sliceBound hw (by omega) h2, hp_sliceBound hl h0 (by omega)]
theorem oSlice_sound {t : TypeId} {size : Option Nat} {x : Value} {lo hi : Option Value}
    (hsz : ∀ e, P.underlying t = some (.slice e) → size = sizeOf' P e) (hk : oSlice (P.underlying t) size x lo hi K h) : hp P (Instr.sliceAt t x lo hi none) K h := by
  unfold oSlice at hk
  split at hk
  · rename_i s hu
    split at hk
    · rename_i l u hl hh
      obtain ⟨h0, h1, h2, hk⟩ := hk
      simp only [Instr.sliceAt, Instr.slice, hp_bind, hp_underlying t _ hu, Option.isSome_none, Bool.false_eq_true, if_false, hp_sliceBounds hl hh h0 h1 h2, hp_pure]
      exact hk
    · exact hk.elim
  · rename_i e n a len cap hu
    split at hk
    · rename_i l u hl hh
      obtain ⟨h0, h1, h2, h3, hk⟩ := hk
      obtain ⟨i, hi, hs⟩ := sizeOf'_spec (hsz e hu).symm
      simp only [Instr.sliceAt, Instr.slice, hp_bind, hp_underlying t _ hu, hp_sliceBounds hl hh h0 h1 h2, hp_sizeOf hi, hs, hp_pure]
      exact hk
    · exact hk.elim
  · exact hk.elim
theorem oNext_sound {ty : TypeId} {x : Value} {b : Bool} (hk : oNext x b K h) : hp P (Instr.next x b ty) K h := by
  unfold oNext at hk
  split at hk
  · rename_i r sp
    split at hk
    · rename_i a b c hb
      simp only [Instr.next, hp_bind, hp_getIter hb, hp_pure]
      exact hk
    · rename_i m since seen last hb
      split at hk
      · rename_i es clock hm
        obtain ⟨hgd, hover, hstep⟩ := hk
        simp only [Instr.next, hp_bind, hp_getIter hb, hp_getMap hm]
        have hgd' : ¬ ((!seen.isEmpty && !es.isEmpty && es.all (·.born ≥ last)) = true) := by rw [hgd]; simp
        rw [if_neg hgd']
        generalize hcand : ((if ((es.filter fun e => !seen.contains e.born).filter (·.born < since)).isEmpty = true then #[none] else #[]) ++
          (((es.filter fun e => !seen.contains e.born).filter (·.born < since)) ++ ((es.filter fun e => !seen.contains e.born).filter (·.born ≥ since))).map some : Array (Option MapEntry)) = cand
        have hpos : 0 < cand.size := by
          rw [← hcand]
          split
          · simp; omega
          · rename_i hne
            have : 0 < ((es.filter fun e => !seen.contains e.born).filter (·.born < since)).size := by
              rcases Nat.eq_zero_or_pos ((es.filter fun e => !seen.contains e.born).filter (·.born < since)).size with h0 | h0
              · exact absurd (by simpa using h0) hne
              · exact h0
            simp only [Array.size_append, Array.size_map]
            omega
        have hmem : ∀ c ∈ cand, (c = none ∧ (∀ e ∈ es.toList, seen.contains e.born = false → since ≤ e.born)) ∨ ∃ e, c = some e ∧ e ∈ es.toList ∧ seen.contains e.born = false := by
          intro c hc
          rw [← hcand] at hc
          rcases Array.mem_append.1 hc with hc | hc
          · left
            split at hc
            · rename_i hemp
              simp only [List.mem_toArray, List.mem_singleton] at hc
              refine ⟨hc, fun e he hs => ?_⟩
              rcases Nat.lt_or_ge e.born since with hlt | hge
              · exfalso
                have hin : e ∈ (es.filter fun e => !seen.contains e.born).filter (·.born < since) := by
                  simp only [Array.mem_filter, decide_eq_true_eq, Bool.not_eq_true']
                  exact ⟨⟨Array.mem_toList_iff.1 he, hs⟩, hlt⟩
                have h0 : ((es.filter fun e => !seen.contains e.born).filter (·.born < since)).size = 0 := by simpa using hemp
                rw [Array.size_eq_zero_iff.1 h0] at hin
                simp at hin
              · exact hge
            · simp at hc
          · right
            simp only [Array.mem_map, Array.mem_append, Array.mem_filter, Bool.not_eq_true'] at hc
            obtain ⟨e, he, rfl⟩ := hc
            rcases he with ⟨⟨h1, h2⟩, _⟩ | ⟨⟨h1, h2⟩, _⟩
            · exact ⟨e, rfl, Array.mem_toList_iff.2 h1, h2⟩
            · exact ⟨e, rfl, Array.mem_toList_iff.2 h1, h2⟩
        have hall : ∀ i, i < cand.size → hp P (match cand[i]? with
            | some (some e) => do
              setObj r (.mapIter (some m) since (seen.push e.born) clock)
              pure (.tuple #[.bool true, e.key, e.val])
            | some none => pure (.tuple #[.bool false])
            | none => stuck "Next: no such candidate") K h := by
          intro i hi
          rw [Array.getElem?_eq_getElem hi]
          rcases hmem _ (Array.getElem_mem hi) with ⟨he, hc⟩ | ⟨e, he, hin, hs⟩
          · rw [he]
            exact hover hc
          · rw [he]
            simp only [hp_bind, hp_setIter hb, hp_pure]
            exact hstep e hin hs
        rw [hp_bind, hp_choose]
        split
        · exact hall 0 hpos
        · intro n
          exact hall (n % cand.size) (Nat.mod_lt _ hpos)
      · exact hk.elim
    · exact hk.elim
  · rename_i r sp
    split at hk
    · rename_i s pos hb
      have hget : ∀ K, hp P (getObj r) K h = K (.stringIter s pos) h := by intro K; simp only [getObj, hp, hb]
      have hset : ∀ (o : Obj) (K : Unit → Heap → Prop), hp P (setObj r o) K h = K () (h.setIfInBounds r o) := by intro o K; simp only [setObj, hp, hb]
      simp only [Instr.next, hp_bind, hget]
      split at hk
      · rename_i hlt
        simp only [if_pos hlt, hp_bind, hset, hp_pure]
        exact hk
      · rename_i hlt
        simp only [if_neg hlt, hp_pure]
        exact hk
    · exact hk.elim
  · exact hk.elim
end
end Go.Fw

/- Structs of plain fields, compared. -/
namespace Go.Fw
def flatD : TypeDesc → Bool
  | .int _ | .string | .bool => true
  | _ => false
def cellEq : TypeDesc → Value → Value → Option Bool
  | .int _, .int k a, .int k' b => if k = k' then some (decide (a = b)) else none
  | .string, .string a, .string b => some (decide (a = b))
  | .bool, .bool a, .bool b => some (a == b)
  | _, _, _ => none
def cellsEq (xs ys : Array Value) : List (Nat × TypeDesc) → Option Bool
  | [] => some true
  | (o, d) :: r => match xs[o]?, ys[o]? with
    | some a, some b => (match cellEq d a b, cellsEq xs ys r with
      | some c, some e => some (c && e)
      | _, _ => none)
    | _, _ => none
def flatFields (P : Program) : List Field → Option (List (Nat × TypeDesc))
  | [] => some []
  | f :: r => cond (f.name == "_") none (match P.underlying f.type, flatFields P r with
    | some d, some l => cond (flatD d) (some ((f.offset, d) :: l)) none
    | _, _ => none)
/-- The places of a struct's fields, all plain, and what they hold. -/
def structOf (P : Program) (t : TypeId) : Option (List (Nat × TypeDesc)) :=
  match P.underlying t with
  | some (.struct fs) => cond (P.stoodInHeld t || P.eqGuardType P.depth t) none (flatFields P fs.toList)
  | _ => none
def isStructD : Option TypeDesc → Bool
  | some (.struct _) => true
  | _ => false
def oStruct (s : Option (List (Nat × TypeDesc))) (op : BinOp) (x y : Value) (K : Kont) (h : Heap) : Prop :=
  match s, x, y with
  | some l, .agg xs, .agg ys => (match cellsEq xs ys l, op with
    | some b, .eql => K (.bool b) h
    | some b, .neq => K (.bool (!b)) h
    | _, _ => False)
  | _, _, _ => False
section
variable {P : Program} {K : Kont} {h : Heap}
theorem hp_partF {t : TypeId} {d : TypeDesc} {cs : Array Value} {off : Nat} {v : Value} (hd : P.underlying t = some d) (hf : flatD d = true) (hv : cs[off]? = some v) (K : Value → Heap → Prop) (h : Heap) : hp P (part t cs off) K h = K v h := by
  cases d <;> simp only [flatD] at hf <;> (try (cases hf; done)) <;> simp [part, isAgg, hp_bind, hp_underlying t _ hd, hp_pure, hv]
theorem hp_cellEq {t : TypeId} {d : TypeDesc} {a b : Value} {r : Bool} (hd : P.underlying t = some d) (hr : cellEq d a b = some r) (n : Nat) (K : Bool → Heap → Prop) (h : Heap) : hp P (Op.equalIn (n + 1) t a b) K h = K r h := by
  simp only [Op.equalIn, hp_bind, hp_underlying t d hd]
  unfold cellEq at hr
  split at hr
  · split at hr
    · rename_i hk
      injection hr with hr
      subst hr
      have : ∀ a b : Int, (a == b) = decide (a = b) := fun a b => by rw [Bool.eq_iff_iff]; simp
      simp only [hk, if_true, hp_pure, this]
    · cases hr
  · injection hr with hr
    subst hr
    have : ∀ a b : ByteArray, (a == b) = decide (a = b) := fun a b => by
      rw [beq_toListBytes, toList_beq]
    simp only [hp_pure, this]
  · injection hr with hr
    subst hr
    simp only [hp_pure]
  · cases hr
theorem hp_equalStruct {t : TypeId} {fs : Array Field} {xs ys : Array Value} {l : List (Nat × TypeDesc)} {r : Bool} (hd : P.underlying t = some (.struct fs)) (hs : P.stoodInHeld t = false) (hl : flatFields P fs.toList = some l) (hr : cellsEq xs ys l = some r) (n : Nat) (K : Bool → Heap → Prop) (h : Heap) :
    hp P (Op.equalIn (n + 2) t (.agg xs) (.agg ys)) K h = K r h := by
  rw [show n + 2 = (n + 1) + 1 from rfl]
  rw [Op.equalIn]
  simp only [hp_bind, hp_underlying t _ hd, hp_program, hs, Bool.false_eq_true, if_false]
  rw [← Array.forIn_toList]
  revert hl hr
  generalize fs.toList = fl
  intro hl
  induction fl generalizing l r with
  | nil =>
    intro hr
    simp only [flatFields] at hl
    injection hl with hl
    subst hl
    simp only [cellsEq] at hr
    injection hr with hr
    subst hr
    simp only [List.forIn_nil, hp_pure]
  | cons f fl ih =>
    intro hr
    unfold flatFields at hl
    cases hn : f.name == "_" with
    | true => rw [hn] at hl; cases hl
    | false =>
      rw [hn] at hl
      simp only [cond_false] at hl
      have hne : f.name ≠ "_" := by simpa using hn
      cases hu : P.underlying f.type with
      | none => rw [hu] at hl; cases hl
      | some d =>
        cases hfl : flatFields P fl with
        | none => rw [hu, hfl] at hl; cases hl
        | some l' =>
          rw [hu, hfl] at hl
          simp only at hl
          cases hfd : flatD d with
          | false => rw [hfd] at hl; cases hl
          | true =>
            rw [hfd] at hl
            simp only [cond_true, Option.some.injEq] at hl
            subst hl
            unfold cellsEq at hr
            cases hx : xs[f.offset]? with
            | none => rw [hx] at hr; cases hr
            | some a =>
              cases hy : ys[f.offset]? with
              | none => rw [hx, hy] at hr; cases hr
              | some b =>
                rw [hx, hy] at hr
                simp only at hr
                cases hc : cellEq d a b with
                | none => rw [hc] at hr; cases hr
                | some c =>
                  cases he : cellsEq xs ys l' with
                  | none => rw [hc, he] at hr; cases hr
                  | some e =>
                    rw [hc, he] at hr
                    simp only [Option.some.injEq] at hr
                    subst hr
                    have ih' := ih (r := e) hfl he
                    simp only [List.forIn_cons, hp_bind, hne, ne_eq, not_false_eq_true, if_true, hp_partF hu hfd hx, hp_partF hu hfd hy, hp_cellEq hu hc]
                    cases c
                    · simp only [Bool.not_false, if_true, hp_pure, Bool.false_and]
                    · simp only [Bool.not_true, Bool.false_eq_true, if_false, hp_pure, Bool.true_and]
                      exact ih'
theorem oStruct_sound {op : BinOp} {t : TypeId} {a b : Value} {x y : Operand} (hk : oStruct (structOf P t) op a b K h) : hp P (do eqGuard op t x y a b; binOp op t a b) K h := by
  unfold oStruct at hk
  split at hk
  · rename_i l xs ys hl
    unfold structOf at hl
    split at hl
    · rename_i fs hd
      cases hc : (P.stoodInHeld t || P.eqGuardType P.depth t) with
      | true => rw [hc] at hl; cases hl
      | false =>
        rw [hc] at hl
        simp only [cond_false] at hl
        rw [Bool.or_eq_false_iff] at hc
        have hg : ∀ (K : Unit → Heap → Prop) h, hp P (eqGuard op t x y (.agg xs) (.agg ys)) K h = K () h := fun K h => by
          cases op <;> simp [eqGuard, hp_bind, hp_program, hc.2, hp_pure]
        split at hk
        · rename_i r hr
          have e : ∀ K h, hp P (Op.equal t (.agg xs) (.agg ys)) K h = K r h := fun K h => by
            unfold Op.equal; exact hp_equalStruct hd hc.1 hl hr 9998 K h
          simp only [hp_bind, hg]
          have : binOp .eql t (.agg xs) (.agg ys) = (do pure (.bool (← Op.equal t (.agg xs) (.agg ys)))) := rfl
          rw [this]
          simp only [hp_bind, e, hp_pure]
          exact hk
        · rename_i r hr
          have e : ∀ K h, hp P (Op.equal t (.agg xs) (.agg ys)) K h = K r h := fun K h => by
            unfold Op.equal; exact hp_equalStruct hd hc.1 hl hr 9998 K h
          simp only [hp_bind, hg]
          have : binOp .neq t (.agg xs) (.agg ys) = (do pure (.bool (!(← Op.equal t (.agg xs) (.agg ys))))) := rfl
          rw [this]
          simp only [hp_bind, e, hp_pure]
          exact hk
        · exact hk.elim
    · cases hl
  · exact hk.elim
theorem oStruct_pure {s : Option (List (Nat × TypeDesc))} {op : BinOp} {x y : Value} (hk : oStruct s op x y K h) : ∃ v, K v h ∧ ∀ h' (K' : Kont), K' v h' → oStruct s op x y K' h' := by
  unfold oStruct at hk
  split at hk
  · split at hk
    · rename_i hr
      exact ⟨_, hk, fun h' K' hh => by unfold oStruct; simp only [hr]; exact hh⟩
    · rename_i hr
      exact ⟨_, hk, fun h' K' hh => by unfold oStruct; simp only [hr]; exact hh⟩
    · exact hk.elim
  · exact hk.elim
end
end Go.Fw

/- One operation, and a row of operations, read at the heap. -/
namespace Go.Fw

inductive Kind where
  | pure | read | new | wild
  deriving DecidableEq
/-- What is there stays, to the letter. -/
def Ext (h h' : Heap) : Prop := ∀ (b : Nat) (o : Obj), h[b]? = some o → h'[b]? = some o
/-- Functions whose calls are taken by what they come to: such as only compute ('pure'), such as only read ('read'), such as only make new blocks ('new'). All others are 'wild'. -/
structure Pure (P : Program) where
  kind : Nat → Kind
  val : Nat → List Value → Heap → Value → Prop
  sound : ∀ f args h v, val f args h v → FnH P f args.toArray h (fun v' h' => v' = v ∧ h' = h)
  pure_ok : ∀ f args h v, kind f = .pure → val f args h v → ∀ h', val f args h' v
  read_ok : ∀ f args h v, kind f = .read → val f args h v → ∀ h', Ext h h' → val f args h' v
  new : Nat → List Value → Heap → (Value → Heap → Prop) → Prop
  new_sound : ∀ f args h R, new f args h R → FnH P f args.toArray h R
  new_ext : ∀ f args h R, new f args h R → ∀ v h', R v h' → Ext h h'
  /-- An append onto one of these is taken as making new blocks alone (onto what has no room left). -/
  fresh : List Nat := []
def Pure.none (P : Program) : Pure P where
  kind := fun _ => .wild
  val := fun _ _ _ _ => False
  sound := fun _ _ _ _ h => h.elim
  pure_ok := fun _ _ _ _ _ h => h.elim
  read_ok := fun _ _ _ _ _ h => h.elim
  new := fun _ _ _ _ => False
  new_sound := fun _ _ _ _ h => h.elim
  new_ext := fun _ _ _ _ h => h.elim

def isFresh {P : Program} (pc : Pure P) (c : Call) : Bool :=
  match c.callee with
  | .builtin .append => (match c.args[0]? with
    | some (Operand.tmp t) => pc.fresh.contains t
    | _ => false)
  | _ => false
def enterOk (P : Program) (f : Nat) : Bool :=
  match P.funcs[f]? with
  | some fn => !(fn.name == "runtime.NumGoroutine") && fn.body.isSome
  | none => false
def oCallF (P : Program) (f : Nat) (args : List Value) (K : Kont) (h : Heap) : Prop := FnH P f args.toArray h K
def oPure {P : Program} (pc : Pure P) (f : Nat) (args : List Value) (K : Kont) (h : Heap) : Prop := ∃ v, pc.val f args h v ∧ K v h
def oNew {P : Program} (pc : Pure P) (f : Nat) (args : List Value) (K : Kont) (h : Heap) : Prop := ∃ R, pc.new f args h R ∧ ∀ v h', R v h' → K v h'
/-- A call of a named function, by its kind. -/
def oCall {P : Program} (pc : Pure P) (f : Nat) (args : List Value) (K : Kont) (h : Heap) : Prop :=
  match pc.kind f with
  | .wild => oCallF P f args K h
  | .new => oNew pc f args K h
  | _ => oPure pc f args K h
def oCallV (P : Program) (f : Value) (args : List Value) (K : Kont) (h : Heap) : Prop :=
  match f with
  | .func (.func g) first captured => enterOk P g = true ∧ FnH P g (first ++ args.toArray ++ captured) h K
  | _ => False
def isIntD : Option TypeDesc → Bool
  | some (.int _) => true
  | _ => false
def oBuiltin (P : Program) (b : Builtin) (ts : List TypeId) (args : List Value) (K : Kont) (h : Heap) : Prop :=
  match b, ts, args with
  | .len, [t], [x] => oLen (P.underlying t) x K h
  | .cap, [t], [x] => oCap (P.underlying t) x K h
  | .append, [t, t'], [s, x] => cond ((P.underlying t').isSome && !isIntD (P.underlying t')) (oAppend (sliceOf P t) s x K h) False
  | .copy, [t, _], [d, x] => oCopy (sliceOf P t) d x K h
  | .delete, [t, _], [x, k] => oDelete (mapOf P t) x k K h
  | .min, _, args => oVal (minI args) K h
  | .max, _, args => oVal (maxI args) K h
  | _, _, _ => False
def elemSize (P : Program) (t : TypeId) : Option Nat :=
  match P.underlying t with
  | some (.slice e) => sizeOf' P e
  | _ => none
def opH {P : Program} (pc : Pure P) (o : Oper) (ρ : Operand → Value) (K : Kont) (h : Heap) : Prop :=
  match o.op with
  | .move x | .assign x => K (ρ x) h
  | .pick c a b => oPick (ρ c) (ρ a) (ρ b) K h
  | .alloc t => oAlloc (zeroOf P t) t K h
  | .box t x => oBox t (ρ x) K h
  | .build t parts => oBuild (buildOf P t) (parts.toList.map fun p => (p.1, ρ p.2)) K h
  | .buildSlice t n parts => oBuildSlice (sliceOf P t) n (parts.toList.map fun p => (p.1, ρ p.2)) K h
  | .load t a => oLoad (varOf P t) (ρ a) K h
  | .store t a x => oStore (varOf P t) (ρ a) (ρ x) K h
  | .nilCheck x => oNilCheck (ρ x) K h
  | .binOp op t x y _ => cond (isStructD (P.underlying t)) (oStruct (structOf P t) op (ρ x) (ρ y) K h) (oBin (P.underlying t) op (ρ x) (ρ y) K h)
  | .unOp op _ x => oUn op (ρ x) K h
  | .convert s d x => oConvert (P.underlying s) (P.underlying d) (ρ x) K h
  | .makeFunc f first captured => K (.func f (first.map ρ) (captured.map ρ)) h
  | .makeMap t r => oMakeMap (P.underlying t) (r.map ρ) K h
  | .makeSlice t l c => oMakeSlice (sliceOf P t) (ρ l) (ρ c) K h
  | .slice t x lo hi none => oSlice (P.underlying t) (elemSize P t) (ρ x) (lo.map ρ) (hi.map ρ) K h
  | .fieldAddr s x f => oFieldAddr (fieldOff P s f) (ρ x) K h
  | .field s x f => oField (fieldVar P s f) (ρ x) K h
  | .indexAddr t x i => oIndexAddr (rowedOf P t) (ρ x) (ρ i) K h
  | .index t x i => oIndexStr (rowedOf P t) (ρ x) (ρ i) K h
  | .lookup t x k ok => oLookup (mapOf P t) ok (ρ x) (ρ k) K h
  | .mapUpdate t m k x | .insert t m k x => oMapUpdate (mapOf P t) (ρ m) (ρ k) (ρ x) K h
  | .mapEntry t m k => oMapEntry (mapOf P t) (ρ m) (ρ k) K h
  | .entryStore _ m s x => oEntryStore (ρ m) (ρ s) (ρ x) K h
  | .range t x => oRange (P.underlying t) (ρ x) K h
  | .next it s => oNext (ρ it) s K h
  | .entry it => oEntry (ρ it) K h
  | .extract t i => oExtract (ρ t) i K h
  | .call c => match c.callee with
    | .builtin b => oBuiltin P b c.argTypes.toList (c.args.toList.map ρ) (cond (isFresh pc c) (fun v h' => K v h' ∧ Ext h h') K) h
    | .value (.func g) => cond (enterOk P g) (oCall pc g (c.args.toList.map ρ) K h) False
    | .value f => oCallV P (ρ f) (c.args.toList.map ρ) K h
    | .invoke _ _ => False
  | _ => False

section
variable {P : Program} {K : Kont} {h : Heap}
theorem hpX_value {s : Sem Value} (hs : hp P s K h) : hpX P (do pure (.value (← s))) K h := by
  unfold hpX
  simp only [hp_bind, hp_pure]
  exact hs
theorem hpNext_mono {K K' : Kont} (hm : ∀ v h, K v h → K' v h) : ∀ (n : Next) (h : Heap), hpNext P K n h → hpNext P K' n h := by
  intro n h hk
  cases n <;> simp only [hpNext] at hk ⊢
  case value v => exact hm _ _ hk
  case skip => exact hm _ _ hk
  case enter f args => exact FnH.mono hk hm
theorem hpX_mono {s : Sem Next} {K K' : Kont} (hm : ∀ v h, K v h → K' v h) (hk : hpX P s K h) : hpX P s K' h := hp_mono s (fun n h => hpNext_mono hm n h) hk
theorem fresh_K {b : Bool} {h : Heap} {K : Kont} : ∀ v h', (cond b (fun v h' => K v h' ∧ Ext h h') K) v h' → K v h' := by
  intro v h' hk
  cases b
  · exact hk
  · exact hk.1
theorem hpX_unit {s : Sem Unit} (hs : hp P s (fun _ h' => K undef h') h) : hpX P (do s; pure .skip) K h := by
  unfold hpX
  simp only [hp_bind, hp_pure]
  exact hs
theorem hp_callFunc {f : Nat} {args : Array Value} (he : enterOk P f = true) (hk : FnH P f args h K) : hp P (callFunc f args) (hpNext P K) h := by
  unfold enterOk at he
  split at he
  · rename_i fn hf
    simp only [Bool.and_eq_true, Bool.not_eq_true'] at he
    have h1 : (fn.name == "runtime.NumGoroutine") = false := he.1
    have h2 : fn.body.isNone = false := by
      have := he.2
      cases hb : fn.body with
      | none => rw [hb] at this; cases this
      | some c => rfl
    simp only [callFunc, hp_bind, hp_program, hf, h1, h2, Bool.false_eq_true, if_false, hp_pure]
    exact hk
  · cases he
theorem args2 {α : Type} {l : List α} {a : Array α} (h : a.toList = l) : a = l.toArray := by rw [← h]
theorem oBuiltin_sound {ρ : Operand → Value} {b : Builtin} {c : Call} {ty : TypeId} {cs : Array Bool} (hb : c.callee = .builtin b) (hk : oBuiltin P b c.argTypes.toList (c.args.toList.map ρ) K h) :
    hpX P (builtin b c.argTypes ty cs (c.args.map ρ)) K h := by
  have hargs : (c.args.map ρ).toList = c.args.toList.map ρ := by simp
  generalize c.args.map ρ = as at hargs
  unfold oBuiltin at hk
  rw [← hargs] at hk
  split at hk
  · rename_i t x ht hx
    rw [args2 hx]
    exact hpX_value (oLen_sound (by rw [args2 ht]; rfl) hk)
  · rename_i t x ht hx
    rw [args2 hx]
    exact hpX_value (oCap_sound (by rw [args2 ht]; rfl) hk)
  · rename_i t t' s x ht hx
    rw [args2 hx, args2 ht]
    cases hc : ((P.underlying t').isSome && !isIntD (P.underlying t')) with
    | false => rw [hc] at hk; exact hk.elim
    | true =>
      rw [hc] at hk
      simp only [Bool.and_eq_true, Bool.not_eq_true'] at hc
      refine hpX_value (oAppend_sound (fun k hk' => ?_) hc.1 hk)
      rw [hk'] at hc
      exact absurd hc.2 (by simp [isIntD])
  · rename_i t t' d x ht hx
    rw [args2 hx, args2 ht]
    exact hpX_value (oCopy_sound hk)
  · rename_i t t' x k ht hx
    rw [args2 hx, args2 ht]
    exact hpX_value (oDelete_sound hk)
  · exact hpX_value (oMin_sound hk)
  · exact hpX_value (oMax_sound hk)
  · exact hk.elim
theorem hp_callV {f : Value} {args : Array Value} {g : Nat} {first captured : Array Value} (hf : f = .func (.func g) first captured) (he : enterOk P g = true) (hk : FnH P g (first ++ args ++ captured) h K) :
    hp P (do let d ← Deferred.ofValue f args; invoke d.target d.args) (hpNext P K) h := by
  subst hf
  simp only [Deferred.ofValue, hp_bind, hp_pure, invoke]
  exact hp_callFunc he hk
theorem opH_sound {pc : Pure P} {o : Oper} {ρ : Operand → Value} (hρ : ∀ g, ρ (.func g) = .func (.func g) #[] #[]) (hk : opH pc o ρ K h) : hpX P (execOp ρ o) K h := by
  unfold opH at hk
  split at hk <;> (try exact hk.elim) <;> rename_i heq <;> unfold execOp <;> rw [heq]
  · exact hk
  · exact hk
  · rename_i c a b
    unfold oPick at hk
    split at hk
    · rename_i t ht
      simp only [ht, asBool, hpX, hp_bind, hp_pure]
      exact hk
    · exact hk.elim
  · exact hpX_value (oAlloc_sound hk)
  · exact hpX_value (oBox_sound hk)
  · exact hpX_value (oBuild_sound (by simpa using hk))
  · exact hpX_value (oBuildSlice_sound (by simpa using hk))
  · exact hpX_value (oLoad_sound hk)
  · exact hpX_unit (oStore_sound hk)
  · unfold oNilCheck at hk
    split at hk
    · rename_i a ha
      simp only [ha]
      exact hk
    · exact hk.elim
  · rename_i op t x y _
    cases hs : isStructD (P.underlying t) with
    | true => rw [hs] at hk; exact hpX_value (oStruct_sound hk)
    | false => rw [hs] at hk; exact hpX_value (oBin_sound hk)
  · exact hpX_value (oUn_sound hk)
  · exact hpX_value (oConvert_sound hk)
  · exact hk
  · exact hpX_value (oMakeMap_sound hk)
  · exact hpX_value (oMakeSlice_sound hk)
  · exact hpX_value (oSlice_sound (fun e he => by unfold elemSize; rw [he]) hk)
  · exact hpX_value (oFieldAddr_sound hk)
  · exact hpX_value (oField_sound hk)
  · exact hpX_value (oIndexAddr_sound hk)
  · exact hpX_value (oIndexStr_sound hk)
  · exact hpX_value (oLookup_sound hk)
  · exact hpX_unit (oMapUpdate_sound hk)
  · exact hpX_unit (oMapUpdate_sound hk)
  · exact hpX_value (oMapEntry_sound hk)
  · exact hpX_unit (oEntryStore_sound hk)
  · exact hpX_value (oRange_sound hk)
  · exact hpX_value (oNext_sound hk)
  · exact hpX_value (oEntry_sound hk)
  · exact hpX_value (oExtract_sound hk)
  · rename_i c
    split at hk
    · rename_i b hb
      simp only [resolve, hb, hpX, hp_bind, hp_pure, invoke]
      exact hpX_mono fresh_K (oBuiltin_sound hb hk)
    · rename_i g hg
      cases he : enterOk P g with
      | false => rw [he] at hk; exact hk.elim
      | true =>
        rw [he] at hk
        simp only [cond_true] at hk
        have hfn : FnH P g (c.args.toList.map ρ).toArray h K := by
          have hpure : oPure pc g (c.args.toList.map ρ) K h → FnH P g (c.args.toList.map ρ).toArray h K := by
            rintro ⟨v, hv, hk⟩
            exact (pc.sound g _ h v hv).mono (by rintro v' h' ⟨rfl, rfl⟩; exact hk)
          unfold oCall at hk
          split at hk
          · exact hk
          · obtain ⟨R, hR, hk⟩ := hk
            exact (pc.new_sound g _ h R hR).mono hk
          · exact hpure hk
        simp only [resolve, hg]
        refine hp_callV (hρ g) he ?_
        have e : (#[] ++ c.args.map ρ ++ #[] : Array Value) = (c.args.toList.map ρ).toArray := by
          apply Array.ext'; simp
        rw [e]
        exact hfn
    · rename_i f hnf hf
      unfold oCallV at hk
      split at hk
      · rename_i g first captured hv
        obtain ⟨he, hk⟩ := hk
        simp only [resolve, hf]
        refine hp_callV hv he ?_
        have e : (first ++ c.args.map ρ ++ captured : Array Value) = first ++ (c.args.toList.map ρ).toArray ++ captured := by
          apply Array.ext'; simp
        rw [e]
        exact hk
      · exact hk.elim
    · exact hk.elim
end
end Go.Fw

/- Which operations may change places. -/
namespace Go.Fw

def Kind.light : Kind → Bool
  | .pure | .read => true
  | _ => false
def Kind.tame : Kind → Bool
  | .wild => false
  | _ => true
def kindOf {P : Program} (pc : Pure P) (op : Op) : Kind :=
  match op with
  | .move _ | .assign _ | .pick _ _ _ | .nilCheck _ | .binOp _ _ _ _ _ | .unOp _ _ _ | .convert _ _ _ | .makeFunc _ _ _ | .slice _ _ _ _ _ | .fieldAddr _ _ _ | .field _ _ _ | .indexAddr _ _ _ | .index _ _ _
  | .extract _ _ | .build _ _ => .pure
  | .load _ _ | .lookup _ _ _ _ | .entry _ => .read
  | .alloc _ | .box _ _ | .buildSlice _ _ _ | .makeMap _ _ | .makeSlice _ _ _ | .range _ _ => .new
  | .call c => match c.callee with
    | .builtin .len | .builtin .cap => .read
    | .builtin .min | .builtin .max => .pure
    | .builtin .append => cond (isFresh pc c) .new .wild
    | .value (.func g) => pc.kind g
    | _ => .wild
  | _ => .wild

theorem Ext.refl (h : Heap) : Ext h h := fun _ _ e => e
theorem Ext.trans {a b c : Heap} (h : Ext a b) (k : Ext b c) : Ext a c := fun i o e => k i o (h i o e)
theorem Ext.push (h : Heap) (o : Obj) : Ext h (h.push o) := fun b x e => by
  have hlt : b < h.size := by
    rcases Nat.lt_or_ge b h.size with hlt | hge
    · exact hlt
    · rw [Array.getElem?_eq_none hge] at e; cases e
  rw [Array.getElem?_push_lt hlt]
  rw [Array.getElem?_eq_getElem hlt] at e
  exact e

/-- The operation yields v in every heap. -/
def Yields {P : Program} (pc : Pure P) (o : Oper) (ρ : Operand → Value) (v : Value) (S : Heap → Prop) : Prop := ∀ h', S h' → ∀ K' : Kont, K' v h' → opH pc o ρ K' h'

section
variable {P : Program} {K : Kont} {h : Heap}
theorem oPick_pure {c a b : Value} (hk : oPick c a b K h) : ∃ v, K v h ∧ ∀ h' (K' : Kont), K' v h' → oPick c a b K' h' := by
  unfold oPick at hk
  split at hk
  · exact ⟨_, hk, fun _ _ h => h⟩
  · exact hk.elim
theorem oNil_pure {x : Value} (hk : oNilCheck x K h) : ∃ v, K v h ∧ ∀ h' (K' : Kont), K' v h' → oNilCheck x K' h' := by
  unfold oNilCheck at hk
  split at hk
  · exact ⟨_, hk, fun _ _ h => h⟩
  · exact hk.elim
theorem oBin_pure {d : Option TypeDesc} {op : BinOp} {x y : Value} (hk : oBin d op x y K h) : ∃ v, K v h ∧ ∀ h' (K' : Kont), K' v h' → oBin d op x y K' h' := by
  unfold oBin at hk
  split at hk
  · rename_i r hr
    exact ⟨r, hk, fun _ _ h => by unfold oBin; rw [hr]; exact h⟩
  · exact hk.elim
theorem oUn_pure {op : UnOp} {x : Value} (hk : oUn op x K h) : ∃ v, K v h ∧ ∀ h' (K' : Kont), K' v h' → oUn op x K' h' := by
  unfold oUn at hk
  split at hk
  · exact ⟨_, hk, fun _ _ h => h⟩
  · exact ⟨_, hk, fun _ _ h => h⟩
  · exact hk.elim
theorem oConvert_pure {s d : Option TypeDesc} {x : Value} (hk : oConvert s d x K h) : ∃ v, K v h ∧ ∀ h' (K' : Kont), K' v h' → oConvert s d x K' h' := by
  unfold oConvert at hk
  split at hk
  · exact ⟨_, hk, fun _ _ h => h⟩
  · exact ⟨_, hk, fun _ _ h => h⟩
  · exact hk.elim
theorem oSlice_pure {d : Option TypeDesc} {n : Option Nat} {x : Value} {lo hi : Option Value} (hk : oSlice d n x lo hi K h) : ∃ v, K v h ∧ ∀ h' (K' : Kont), K' v h' → oSlice d n x lo hi K' h' := by
  unfold oSlice at hk
  split at hk
  · split at hk
    · rename_i hl hh
      obtain ⟨h0, h1, h2, hk⟩ := hk
      exact ⟨_, hk, fun _ _ h => by unfold oSlice; simp only [hl, hh]; exact ⟨h0, h1, h2, h⟩⟩
    · exact hk.elim
  · split at hk
    · rename_i hl hh
      obtain ⟨h0, h1, h2, h3, hk⟩ := hk
      exact ⟨_, hk, fun _ _ h => by unfold oSlice; simp only [hl, hh]; exact ⟨h0, h1, h2, h3, h⟩⟩
    · exact hk.elim
  · exact hk.elim
theorem oFieldAddr_pure {off : Option Nat} {x : Value} (hk : oFieldAddr off x K h) : ∃ v, K v h ∧ ∀ h' (K' : Kont), K' v h' → oFieldAddr off x K' h' := by
  unfold oFieldAddr at hk
  split at hk
  · exact ⟨_, hk, fun _ _ h => h⟩
  · exact hk.elim
theorem oField_pure {f : Var × Nat} {x : Value} (hk : oField f x K h) : ∃ v, K v h ∧ ∀ h' (K' : Kont), K' v h' → oField f x K' h' := by
  unfold oField at hk
  split at hk
  · split at hk
    · rename_i v hv
      exact ⟨v, hk, fun _ _ h => by unfold oField; simp only [hv]; exact h⟩
    · exact hk.elim
  · exact hk.elim
theorem oIndexAddr_pure {r : Rowed} {x i : Value} (hk : oIndexAddr r x i K h) : ∃ v, K v h ∧ ∀ h' (K' : Kont), K' v h' → oIndexAddr r x i K' h' := by
  unfold oIndexAddr at hk
  split at hk
  · obtain ⟨h0, h1, hk⟩ := hk
    exact ⟨_, hk, fun _ _ h => ⟨h0, h1, h⟩⟩
  · obtain ⟨h0, h1, hk⟩ := hk
    exact ⟨_, hk, fun _ _ h => ⟨h0, h1, h⟩⟩
  · exact hk.elim
theorem oIndexStr_pure {r : Rowed} {x i : Value} (hk : oIndexStr r x i K h) : ∃ v, K v h ∧ ∀ h' (K' : Kont), K' v h' → oIndexStr r x i K' h' := by
  unfold oIndexStr at hk
  split at hk
  · obtain ⟨h0, hk⟩ := hk
    split at hk
    · rename_i b hb
      exact ⟨_, hk, fun _ _ h => by unfold oIndexStr; simp only [hb]; exact ⟨h0, h⟩⟩
    · exact hk.elim
  · exact hk.elim
theorem oExtract_pure {x : Value} {i : Nat} (hk : oExtract x i K h) : ∃ v, K v h ∧ ∀ h' (K' : Kont), K' v h' → oExtract x i K' h' := by
  unfold oExtract at hk
  split at hk
  · split at hk
    · rename_i v hv
      exact ⟨v, hk, fun _ _ h => by unfold oExtract; simp only [hv]; exact h⟩
    · exact hk.elim
  · exact hk.elim
theorem oBuild_pure {b : Option (Value × List (Nat × Nat))} {parts : List (Nat × Value)} (hk : oBuild b parts K h) : ∃ v, K v h ∧ ∀ h' (K' : Kont), K' v h' → oBuild b parts K' h' := by
  unfold oBuild at hk
  split at hk
  · split at hk
    · rename_i cs hcs
      exact ⟨_, hk, fun _ _ h => by unfold oBuild; simp only [hcs]; exact h⟩
    · exact hk.elim
  · exact hk.elim
theorem oVal_pure {r : Option Value} (hk : oVal r K h) : ∃ v, K v h ∧ ∀ h' (K' : Kont), K' v h' → oVal r K' h' := by
  unfold oVal at hk
  split at hk
  · exact ⟨_, hk, fun _ _ h => h⟩
  · exact hk.elim
theorem oPure_pure {pc : Pure P} {f : Nat} {args : List Value} (hf : pc.kind f = .pure) (hk : oPure pc f args K h) : ∃ v, K v h ∧ ∀ h' (K' : Kont), K' v h' → oPure pc f args K' h' := by
  obtain ⟨v, hv, hk⟩ := hk
  exact ⟨v, hk, fun h' _ h => ⟨v, pc.pure_ok _ _ _ _ hf hv h', h⟩⟩
theorem oPure_read {pc : Pure P} {f : Nat} {args : List Value} (hf : pc.kind f = .read) (hk : oPure pc f args K h) : ∃ v, K v h ∧ ∀ h', Ext h h' → ∀ K' : Kont, K' v h' → oPure pc f args K' h' := by
  obtain ⟨v, hv, hk⟩ := hk
  exact ⟨v, hk, fun h' he _ h => ⟨v, pc.read_ok _ _ _ _ hf hv h' he, h⟩⟩
theorem pure_spec {pc : Pure P} {o : Oper} {ρ : Operand → Value} (hp : kindOf pc o.op = .pure) (hk : opH pc o ρ K h) : ∃ v, K v h ∧ Yields pc o ρ v (fun _ => True) := by
  unfold Yields
  revert hk hp
  unfold kindOf opH
  cases o.op <;> intro hp hk <;> simp only at hp hk ⊢ <;> (try (cases hp; done))
  case move => exact ⟨_, hk, fun _ _ _ h => h⟩
  case assign => exact ⟨_, hk, fun _ _ _ h => h⟩
  case pick => obtain ⟨v, h1, h2⟩ := oPick_pure hk; exact ⟨v, h1, fun h' _ => h2 h'⟩
  case build => obtain ⟨v, h1, h2⟩ := oBuild_pure hk; exact ⟨v, h1, fun h' _ => h2 h'⟩
  case nilCheck => obtain ⟨v, h1, h2⟩ := oNil_pure hk; exact ⟨v, h1, fun h' _ => h2 h'⟩
  case binOp op t x y _ =>
    cases hs : isStructD (P.underlying t) with
    | true => simp only [hs, cond_true] at hk ⊢; obtain ⟨v, h1, h2⟩ := oStruct_pure hk; exact ⟨v, h1, fun h' _ => h2 h'⟩
    | false => simp only [hs, cond_false] at hk ⊢; obtain ⟨v, h1, h2⟩ := oBin_pure hk; exact ⟨v, h1, fun h' _ => h2 h'⟩
  case unOp => obtain ⟨v, h1, h2⟩ := oUn_pure hk; exact ⟨v, h1, fun h' _ => h2 h'⟩
  case convert => obtain ⟨v, h1, h2⟩ := oConvert_pure hk; exact ⟨v, h1, fun h' _ => h2 h'⟩
  case makeFunc => exact ⟨_, hk, fun _ _ _ h => h⟩
  case slice t x lo hi mx =>
    cases mx with
    | none => obtain ⟨v, h1, h2⟩ := oSlice_pure hk; exact ⟨v, h1, fun h' _ => h2 h'⟩
    | some m => exact hk.elim
  case fieldAddr => obtain ⟨v, h1, h2⟩ := oFieldAddr_pure hk; exact ⟨v, h1, fun h' _ => h2 h'⟩
  case field => obtain ⟨v, h1, h2⟩ := oField_pure hk; exact ⟨v, h1, fun h' _ => h2 h'⟩
  case indexAddr => obtain ⟨v, h1, h2⟩ := oIndexAddr_pure hk; exact ⟨v, h1, fun h' _ => h2 h'⟩
  case index => obtain ⟨v, h1, h2⟩ := oIndexStr_pure hk; exact ⟨v, h1, fun h' _ => h2 h'⟩
  case extract => obtain ⟨v, h1, h2⟩ := oExtract_pure hk; exact ⟨v, h1, fun h' _ => h2 h'⟩
  case call c =>
    cases hc : c.callee with
    | invoke r m => rw [hc] at hk; exact hk.elim
    | builtin b =>
      simp only [hc] at hp hk ⊢
      cases b <;> simp only [] at hp <;> (try (cases hp; done))
      case append => cases hf : isFresh pc c <;> rw [hf] at hp <;> cases hp
      all_goals
        have hf : isFresh pc c = false := by unfold isFresh; rw [hc]
        simp only [hf, cond_false] at hk ⊢
        unfold oBuiltin at hk ⊢
        obtain ⟨v, h1, h2⟩ := oVal_pure hk; exact ⟨v, h1, fun h' _ => h2 h'⟩
    | value f =>
      cases f with
      | func g =>
        simp only [hc] at hp hk ⊢
        cases he : enterOk P g with
        | false => rw [he] at hk; exact hk.elim
        | true =>
          rw [he] at hk
          simp only [cond_true, oCall, hp] at hk ⊢
          obtain ⟨v, h1, h2⟩ := oPure_pure hp hk
          exact ⟨v, h1, fun h' _ K' hK' => h2 h' K' hK'⟩
      | tmp t => simp only [hc] at hp; cases hp
      | const v => simp only [hc] at hp; cases hp
      | global g => simp only [hc] at hp; cases hp
end
end Go.Fw

/- Reading operations, new blocks, and any order of a region whose order is drawn. -/
namespace Go.Fw
section
variable {P : Program} {K : Kont} {h : Heap}
theorem cellH_ext {h h' : Heap} {a : Addr} {v : Value} (he : Ext h h') (hv : cellH h a = some v) : cellH h' a = some v := by
  unfold cellH at hv ⊢
  split at hv
  · rename_i c t f hb; rw [he _ _ hb]; exact hv
  · cases hv
theorem readVar_ext {h h' : Heap} {a : Addr} {var : Var} {v : Value} (he : Ext h h') (hv : readVar h a var = some v) : readVar h' a var = some v := by
  cases var with
  | one => exact cellH_ext he hv
  | agg n =>
    simp only [readVar] at hv ⊢
    split at hv
    · rename_i c t f hb; rw [he _ _ hb]; exact hv
    · cases hv
  | bad => cases hv
theorem oLoad_read {var : Var} {x : Value} (hk : oLoad var x K h) : ∃ v, K v h ∧ ∀ h', Ext h h' → ∀ K' : Kont, K' v h' → oLoad var x K' h' := by
  unfold oLoad at hk
  split at hk
  · split at hk
    · rename_i v hv
      exact ⟨v, hk, fun h' he K' hK => by unfold oLoad; simp only [readVar_ext he hv]; exact hK⟩
    · exact hk.elim
  · exact hk.elim
theorem oLookup_read {m : Option (TypeDesc × Value)} {ok : Bool} {x k : Value} (hk : oLookup m ok x k K h) : ∃ v, K v h ∧ ∀ h', Ext h h' → ∀ K' : Kont, K' v h' → oLookup m ok x k K' h' := by
  unfold oLookup at hk
  split at hk
  · exact ⟨_, hk, fun h' he K' hK => hK⟩
  · split at hk
    · rename_i hb
      split at hk
      · rename_i hf
        exact ⟨_, hk, fun h' he K' hK => by unfold oLookup; simp only [he _ _ hb, hf]; exact hK⟩
      · rename_i hf
        exact ⟨_, hk, fun h' he K' hK => by unfold oLookup; simp only [he _ _ hb, hf]; exact hK⟩
      · exact hk.elim
    · exact hk.elim
  · exact hk.elim
theorem oEntry_read {x : Value} (hk : oEntry x K h) : ∃ v, K v h ∧ ∀ h', Ext h h' → ∀ K' : Kont, K' v h' → oEntry x K' h' := by
  unfold oEntry at hk
  split at hk
  · split at hk
    · rename_i hb
      split at hk
      · rename_i hst
        split at hk
        · rename_i hm
          obtain ⟨hc, hk⟩ := hk
          split at hk
          · rename_i hf
            exact ⟨_, hk, fun h' he K' hK => by unfold oEntry; simp only [he _ _ hb, hst, he _ _ hm, hf]; exact ⟨hc, hK⟩⟩
          · exact hk.elim
        · exact hk.elim
      · exact hk.elim
    · exact hk.elim
  · exact hk.elim
theorem oLen_read {d : Option TypeDesc} {x : Value} (hk : oLen d x K h) : ∃ v, K v h ∧ ∀ h', Ext h h' → ∀ K' : Kont, K' v h' → oLen d x K' h' := by
  unfold oLen at hk
  split at hk
  · exact ⟨_, hk, fun h' he K' hK => hK⟩
  · exact ⟨_, hk, fun h' he K' hK => hK⟩
  · exact ⟨_, hk, fun h' he K' hK => hK⟩
  · split at hk
    · rename_i hb
      exact ⟨_, hk, fun h' he K' hK => by unfold oLen; simp only [he _ _ hb]; exact hK⟩
    · exact hk.elim
  · exact hk.elim
theorem oCap_read {d : Option TypeDesc} {x : Value} (hk : oCap d x K h) : ∃ v, K v h ∧ ∀ h', Ext h h' → ∀ K' : Kont, K' v h' → oCap d x K' h' := by
  unfold oCap at hk
  split at hk
  · exact ⟨_, hk, fun h' he K' hK => hK⟩
  · exact hk.elim
theorem read_spec {pc : Pure P} {o : Oper} {ρ : Operand → Value} (hp : kindOf pc o.op = .read) (hk : opH pc o ρ K h) : ∃ v, K v h ∧ Yields pc o ρ v (Ext h) := by
  unfold Yields
  revert hk hp
  unfold kindOf opH
  cases o.op <;> intro hp hk <;> simp only at hp hk ⊢ <;> (try (cases hp; done))
  case load => exact oLoad_read hk
  case lookup => exact oLookup_read hk
  case entry => exact oEntry_read hk
  case call c =>
    cases hc : c.callee with
    | invoke r m => rw [hc] at hk; exact hk.elim
    | builtin b =>
      simp only [hc] at hp hk ⊢
      cases b <;> simp only [] at hp <;> (try (cases hp; done))
      case append => cases hf : isFresh pc c <;> rw [hf] at hp <;> cases hp
      · have hf : isFresh pc c = false := by unfold isFresh; rw [hc]
        simp only [hf, cond_false] at hk ⊢
        unfold oBuiltin at hk ⊢
        split at hk
        case h_2 t x h1 h2 => exact oCap_read hk
        all_goals first
          | (rename_i e; cases e; done)
          | exact hk.elim
          | (rename_i e _ _; cases e; done)
      · have hf : isFresh pc c = false := by unfold isFresh; rw [hc]
        simp only [hf, cond_false] at hk ⊢
        unfold oBuiltin at hk ⊢
        split at hk
        case h_1 t x h1 h2 => exact oLen_read hk
        all_goals first
          | (rename_i e; cases e; done)
          | exact hk.elim
          | (rename_i e _ _; cases e; done)
    | value f =>
      cases f with
      | func g =>
        simp only [hc] at hp hk ⊢
        cases he : enterOk P g with
        | false => rw [he] at hk; exact hk.elim
        | true =>
          rw [he] at hk
          simp only [cond_true, oCall, hp] at hk ⊢
          exact oPure_read hp hk
      | tmp t => simp only [hc] at hp; cases hp
      | const v => simp only [hc] at hp; cases hp
      | global g => simp only [hc] at hp; cases hp
theorem oAppend_mono {b : Option (TypeId × Nat × Nat × Value)} {s x : Value} {K K' : Kont} {h : Heap} (hm : ∀ v h, K v h → K' v h) (hk : oAppend b s x K h) : oAppend b s x K' h := by
  unfold oAppend at hk ⊢
  split at hk
  · rename_i hb hn
    split at hk
    · rename_i hle
      rw [if_pos hle]
      split at hk
      · rename_i hnew
        split at hk
        · rename_i hput
          exact hm _ _ hk
        · exact hk.elim
      · exact hk.elim
    · rename_i hle
      rw [if_neg hle]
      obtain ⟨h1, h2, hk⟩ := hk
      refine ⟨h1, h2, ?_⟩
      split at hk
      · exact fun n hn => hm _ _ (hk n hn)
      · exact hk.elim
  · exact hk.elim
theorem oBuiltin_mono {b : Builtin} {ts : List TypeId} {as : List Value} {K K' : Kont} {h : Heap} (hm : ∀ v h, K v h → K' v h) (hk : oBuiltin P b ts as K h) : oBuiltin P b ts as K' h := by
  unfold oBuiltin at hk ⊢
  split at hk
  · obtain ⟨v, h1, h2⟩ := oLen_read hk; exact h2 h (Ext.refl h) _ (hm _ _ h1)
  · obtain ⟨v, h1, h2⟩ := oCap_read hk; exact h2 h (Ext.refl h) _ (hm _ _ h1)
  · rename_i t t' s x
    cases hc' : ((P.underlying t').isSome && !isIntD (P.underlying t')) with
    | false => rw [hc'] at hk; exact hk.elim
    | true => rw [hc'] at hk; exact oAppend_mono hm hk
  · unfold oCopy at hk ⊢
    split at hk
    · split at hk
      · split at hk
        · exact hm _ _ hk
        · exact hk.elim
      · exact hk.elim
    · exact hk.elim
  · unfold oDelete at hk ⊢
    split at hk
    · exact hm _ _ hk
    · split at hk
      · split at hk
        · exact hm _ _ hk
        · exact hm _ _ hk
        · exact hk.elim
      · exact hk.elim
    · exact hk.elim
  · obtain ⟨v, h1, h2⟩ := oVal_pure hk; exact h2 h _ (hm _ _ h1)
  · obtain ⟨v, h1, h2⟩ := oVal_pure hk; exact h2 h _ (hm _ _ h1)
  · exact hk.elim
theorem tame_spec {pc : Pure P} {o : Oper} {ρ : Operand → Value} (hp : (kindOf pc o.op).tame = true) (hk : opH pc o ρ K h) : opH pc o ρ (fun v h' => K v h' ∧ Ext h h') h := by
  cases hkd : kindOf pc o.op with
  | pure => obtain ⟨v, h1, h2⟩ := pure_spec hkd hk; exact h2 h trivial _ ⟨h1, Ext.refl h⟩
  | read => obtain ⟨v, h1, h2⟩ := read_spec hkd hk; exact h2 h (Ext.refl h) _ ⟨h1, Ext.refl h⟩
  | wild => rw [hkd] at hp; cases hp
  | new =>
    clear hp
    revert hk hkd
    unfold kindOf opH
    cases o.op <;> intro hk hp <;> simp only at hp hk ⊢ <;> (try (cases hp; done))
    case alloc =>
      unfold oAlloc at hk ⊢
      split at hk
      · exact ⟨hk, Ext.push _ _⟩
      · exact hk.elim
    case box => exact ⟨hk, Ext.push _ _⟩
    case buildSlice =>
      unfold oBuildSlice at hk ⊢
      split at hk
      · obtain ⟨h1, hk⟩ := hk
        split at hk
        · rename_i hf
          exact ⟨h1, hk, Ext.push _ _⟩
        · exact hk.elim
      · exact hk.elim
    case makeMap =>
      unfold oMakeMap at hk ⊢
      split at hk
      · exact ⟨hk, Ext.push _ _⟩
      · split at hk
        · exact ⟨hk, Ext.push _ _⟩
        · exact hk.elim
      · exact hk.elim
    case makeSlice =>
      unfold oMakeSlice at hk ⊢
      split at hk
      · obtain ⟨h0, h1, h2, h3, h4, hk⟩ := hk
        exact ⟨h0, h1, h2, h3, h4, hk, Ext.push _ _⟩
      · exact hk.elim
    case range =>
      unfold oRange at hk ⊢
      split at hk
      · exact ⟨hk, Ext.push _ _⟩
      · split at hk
        · rename_i hb
          exact ⟨hk, Ext.push _ _⟩
        · exact hk.elim
      · exact ⟨hk, Ext.push _ _⟩
      · exact hk.elim
    case call c =>
      cases hc : c.callee with
      | invoke r m => rw [hc] at hk; exact hk.elim
      | builtin b =>
        cases b <;> simp only [hc] at hp hk ⊢ <;> (try (cases hp; done))
        case append =>
          cases hf : isFresh pc c with
          | false => rw [hf] at hp; cases hp
          | true =>
            simp only [hf, cond_true] at hk ⊢
            exact oBuiltin_mono (fun v h' hh => ⟨hh, hh.2⟩) hk
      | value f =>
        cases f with
        | func g =>
          simp only [hc] at hp hk ⊢
          cases he : enterOk P g with
          | false => rw [he] at hk; exact hk.elim
          | true =>
            rw [he] at hk
            simp only [cond_true, oCall, hp] at hk ⊢
            obtain ⟨R, hR, hk⟩ := hk
            exact ⟨R, hR, fun v h' hv => ⟨hk v h' hv, pc.new_ext _ _ _ _ hR v h' hv⟩⟩
        | tmp t => simp only [hc] at hp; cases hp
        | const v => simp only [hc] at hp; cases hp
        | global g => simp only [hc] at hp; cases hp
theorem opH_mono {pc : Pure P} {o : Oper} {ρ : Operand → Value} {K K' : Kont} {h : Heap} (hm : ∀ v h, K v h → K' v h) (hk : opH pc o ρ K h) : opH pc o ρ K' h := by
  cases hkd : kindOf pc o.op with
  | pure => obtain ⟨v, h1, h2⟩ := pure_spec hkd hk; exact h2 h trivial _ (hm _ _ h1)
  | read => obtain ⟨v, h1, h2⟩ := read_spec hkd hk; exact h2 h (Ext.refl h) _ (hm _ _ h1)
  | new =>
    revert hk hkd
    unfold kindOf opH
    cases o.op <;> intro hk hp <;> simp only at hp hk ⊢ <;> (try (cases hp; done))
    case alloc =>
      unfold oAlloc at hk ⊢
      split at hk
      · exact hm _ _ hk
      · exact hk.elim
    case box => exact hm _ _ hk
    case buildSlice =>
      unfold oBuildSlice at hk ⊢
      split at hk
      · obtain ⟨h1, hk⟩ := hk
        split at hk
        · exact ⟨h1, hm _ _ hk⟩
        · exact hk.elim
      · exact hk.elim
    case makeMap =>
      unfold oMakeMap at hk ⊢
      split at hk
      · exact hm _ _ hk
      · split at hk
        · exact hm _ _ hk
        · exact hk.elim
      · exact hk.elim
    case makeSlice =>
      unfold oMakeSlice at hk ⊢
      split at hk
      · obtain ⟨h0, h1, h2, h3, h4, hk⟩ := hk
        exact ⟨h0, h1, h2, h3, h4, hm _ _ hk⟩
      · exact hk.elim
    case range =>
      unfold oRange at hk ⊢
      split at hk
      · exact hm _ _ hk
      · split at hk
        · exact hm _ _ hk
        · exact hk.elim
      · exact hm _ _ hk
      · exact hk.elim
    case call c =>
      cases hc : c.callee with
      | invoke r m => rw [hc] at hk; exact hk.elim
      | builtin b =>
        simp only [hc] at hk ⊢
        refine oBuiltin_mono (fun v h' hh => ?_) hk
        revert hh
        cases isFresh pc c
        · exact hm v h'
        · exact fun hh => ⟨hm v h' hh.1, hh.2⟩
      | value f =>
        cases f with
        | func g =>
          simp only [hc] at hp hk ⊢
          cases he : enterOk P g with
          | false => rw [he] at hk; exact hk.elim
          | true =>
            rw [he] at hk
            simp only [cond_true, oCall, hp] at hk ⊢
            obtain ⟨R, hR, hk⟩ := hk
            exact ⟨R, hR, fun v h' hv => hm _ _ (hk v h' hv)⟩
        | tmp t => simp only [hc] at hp; cases hp
        | const v => simp only [hc] at hp; cases hp
        | global g => simp only [hc] at hp; cases hp
  | wild =>
    revert hk hkd
    unfold kindOf opH
    cases o.op <;> intro hk hp <;> simp only at hp hk ⊢ <;> (try (cases hp; done))
    case store =>
      unfold oStore at hk ⊢
      split at hk
      · obtain ⟨h0, h1, hk⟩ := hk
        split at hk
        · exact ⟨h0, h1, hm _ _ hk⟩
        · exact hk.elim
      · exact hk.elim
    case insert =>
      unfold oMapUpdate at hk ⊢
      split at hk
      · split at hk
        · split at hk
          · exact hm _ _ hk
          · exact hm _ _ hk
          · exact hk.elim
        · exact hk.elim
      · exact hk.elim
    case mapUpdate =>
      unfold oMapUpdate at hk ⊢
      split at hk
      · split at hk
        · split at hk
          · exact hm _ _ hk
          · exact hm _ _ hk
          · exact hk.elim
        · exact hk.elim
      · exact hk.elim
    case mapEntry =>
      unfold oMapEntry at hk ⊢
      split at hk
      · split at hk
        · split at hk
          · exact hm _ _ hk
          · exact hm _ _ hk
          · exact hk.elim
        · exact hk.elim
      · exact hk.elim
    case entryStore =>
      unfold oEntryStore at hk ⊢
      split at hk
      · split at hk
        · split at hk
          · exact hm _ _ hk
          · exact hk.elim
        · exact hk.elim
      · exact hk.elim
    case next =>
      unfold oNext at hk ⊢
      split at hk
      · split at hk
        · exact hm _ _ hk
        · split at hk
          · obtain ⟨h0, h1, h2⟩ := hk
            exact ⟨h0, fun e => hm _ _ (h1 e), fun e he hs => hm _ _ (h2 e he hs)⟩
          · exact hk.elim
        · exact hk.elim
      · split at hk
        · split at hk
          · rename_i hlt; rw [if_pos hlt]; exact hm _ _ hk
          · rename_i hlt; rw [if_neg hlt]; exact hm _ _ hk
        · exact hk.elim
      · exact hk.elim
    case call c =>
      cases hc : c.callee with
      | invoke r m => rw [hc] at hk; exact hk.elim
      | builtin b =>
        simp only [hc] at hk ⊢
        refine oBuiltin_mono (fun v h' hh => ?_) hk
        revert hh
        cases isFresh pc c
        · exact hm v h'
        · exact fun hh => ⟨hm v h' hh.1, hh.2⟩
      | value f =>
        have hV : ∀ v : Value, oCallV P v (c.args.toList.map ρ) K h → oCallV P v (c.args.toList.map ρ) K' h := by
          intro v hv
          unfold oCallV at hv ⊢
          split at hv
          · exact ⟨hv.1, hv.2.mono hm⟩
          · exact hv.elim
        cases f with
        | func g =>
          simp only [hc] at hp hk ⊢
          cases he : enterOk P g with
          | false => rw [he] at hk; exact hk.elim
          | true =>
            rw [he] at hk
            simp only [cond_true, oCall, hp] at hk ⊢
            exact FnH.mono hk hm
        | tmp t => simp only [hc] at hk ⊢; exact hV _ hk
        | const v => simp only [hc] at hk ⊢; exact hV _ hk
        | global g => simp only [hc] at hk ⊢; exact hV _ hk
end
end Go.Fw

/- Any order of a region: one order serves. -/
namespace Go.Fw
section
variable {P : Program}
theorem opH_congr {pc : Pure P} {o : Oper} {ρ ρ' : Operand → Value} (he : ∀ x ∈ o.op.operands, ρ x = ρ' x) : opH pc o ρ = opH pc o ρ' := by
  funext K h
  unfold opH
  cases hop : o.op <;> rw [hop] at he <;> simp only [Op.operands] at he <;> (try rfl)
  case move x => simp only [he x (by simp)]
  case assign x => simp only [he x (by simp)]
  case pick c a b => simp only [he c (by simp), he a (by simp), he b (by simp)]
  case box t x => simp only [he x (by simp)]
  case build t parts =>
    have : parts.toList.map (fun p => (p.1, ρ p.2)) = parts.toList.map (fun p => (p.1, ρ' p.2)) := by
      apply List.map_congr_left
      intro p hp
      rw [he p.2 (by simp only [List.mem_toArray, List.mem_map]; exact ⟨p, hp, rfl⟩)]
    simp only [this]
  case buildSlice t n parts =>
    have : parts.toList.map (fun p => (p.1, ρ p.2)) = parts.toList.map (fun p => (p.1, ρ' p.2)) := by
      apply List.map_congr_left
      intro p hp
      rw [he p.2 (by simp only [List.mem_toArray, List.mem_map]; exact ⟨p, hp, rfl⟩)]
    simp only [this]
  case insert t m k x => simp only [he m (by simp), he k (by simp), he x (by simp)]
  case load t a => simp only [he a (by simp)]
  case store t a x => simp only [he a (by simp), he x (by simp)]
  case nilCheck x => simp only [he x (by simp)]
  case binOp op t x y _ => simp only [he x (by simp), he y (by simp)]
  case unOp op t x => simp only [he x (by simp)]
  case convert s d x => simp only [he x (by simp)]
  case makeFunc f first captured =>
    have h1 : first.map ρ = first.map ρ' := by
      apply Array.map_congr_left
      intro x hx
      exact he x (by simp [hx])
    have h2 : captured.map ρ = captured.map ρ' := by
      apply Array.map_congr_left
      intro x hx
      exact he x (by simp [hx])
    simp only [h1, h2]
  case makeMap t r =>
    cases r with
    | none => rfl
    | some x => simp only [Option.map_some, he x (by simp)]
  case makeSlice t l c => simp only [he l (by simp), he c (by simp)]
  case slice t x lo hi mx =>
    cases mx with
    | some m => rfl
    | none =>
      have h1 : lo.map ρ = lo.map ρ' := by cases lo with | none => rfl | some y => simp only [Option.map_some, he y (by simp)]
      have h2 : hi.map ρ = hi.map ρ' := by cases hi with | none => rfl | some y => simp only [Option.map_some, he y (by simp)]
      simp only [h1, h2, he x (by simp)]
  case fieldAddr s x f => simp only [he x (by simp)]
  case field s x f => simp only [he x (by simp)]
  case indexAddr t x i => simp only [he x (by simp), he i (by simp)]
  case index t x i => simp only [he x (by simp), he i (by simp)]
  case lookup t x k ok => simp only [he x (by simp), he k (by simp)]
  case mapUpdate t m k x => simp only [he m (by simp), he k (by simp), he x (by simp)]
  case mapEntry t m k => simp only [he m (by simp), he k (by simp)]
  case entryStore t m s x => simp only [he m (by simp), he s (by simp), he x (by simp)]
  case range t x => simp only [he x (by simp)]
  case next it s => simp only [he it (by simp)]
  case entry it => simp only [he it (by simp)]
  case extract t i => simp only [he t (by simp)]
  case call c =>
    have hargs : c.args.toList.map ρ = c.args.toList.map ρ' := by
      apply List.map_congr_left
      intro x hx
      exact he x (by simp only [Call.operands, Array.mem_append]; exact .inr (Array.mem_toList_iff.1 hx))
    cases hc : c.callee with
    | invoke r m => simp only [hc]
    | builtin b => simp only [hc, hargs]
    | value f =>
      have hf : ρ f = ρ' f := he f (by simp [Call.operands, hc])
      cases f <;> simp only [hc, hargs, hf]

def scope (k : Kind) (h : Heap) : Heap → Prop :=
  match k with
  | .pure => fun _ => True
  | _ => Ext h
def hOp (pc : Pure P) (ops : Array Oper) (i : Nat) (K : Act → Heap → Prop) (a : Act) (h : Heap) : Prop :=
  match ops[i]? with
  | none => K a h
  | some o => if Region.wanted o (yielded ops a.tmps) then opH pc o a.eval (fun v h' => K (a.put o.dst v) h') h else K (a.put o.dst undef) h
theorem hOp_mono {pc : Pure P} {ops : Array Oper} {i : Nat} {K K' : Act → Heap → Prop} {a : Act} {h : Heap} (hm : ∀ a h, K a h → K' a h) (hk : hOp pc ops i K a h) : hOp pc ops i K' a h := by
  unfold hOp at *
  split
  · rename_i e; simp only [e] at hk; exact hm _ _ hk
  · rename_i o e
    simp only [e] at hk
    split
    · rename_i hw; rw [if_pos hw] at hk; exact opH_mono (fun v h' => hm _ _) hk
    · rename_i hw; rw [if_neg hw] at hk; exact hm _ _ hk
def hAny (pc : Pure P) (ops : Array Oper) (Q : Act → Heap → Prop) : Nat → Array Bool → Act → Heap → Prop
  | 0, listed, a, h => Region.ready .any ops listed = [] ∧ Q a h
  | fuel + 1, listed, a, h =>
    (Region.ready .any ops listed = [] → Q a h) ∧ ∀ i ∈ Region.ready .any ops listed, hOp pc ops i (hAny pc ops Q fuel (listed.setIfInBounds i true)) a h

/-- The operation will yield v, whatever the others do first. -/
def YA (pc : Pure P) (ops : Array Oper) (o : Oper) (v : Value) (a : Act) (h : Heap) : Prop :=
  (Region.wanted o (yielded ops a.tmps) = true ∧ Yields pc o a.eval v (scope (kindOf pc o.op) h)) ∨ (Region.wanted o (yielded ops a.tmps) = false ∧ v = undef)
theorem eval_congr_apart {o : Oper} {ops : Array Oper} {a : Act} {dst : Option Tmp} {v : Value} (h : ∀ d, dst = some d → d ∉ o.looksAt ops) : ∀ x ∈ o.op.operands, (a.put dst v).eval x = a.eval x := by
  intro x hx
  exact Act.eval_put fun d hd hxd => h d hd (by
    subst hxd
    exact List.mem_append_left _ (List.mem_filterMap.2 ⟨.tmp d, by simpa using hx, rfl⟩))
theorem hOp_put {pc : Pure P} {ops : Array Oper} {j : Nat} {oi oj : Oper} {v : Value} (hj : ops[j]? = some oj) (hap : oi.apart ops oj = true)
    (hkk : kindOf pc oi.op = .pure ∨ (kindOf pc oj.op).tame = true) {K : Act → Heap → Prop} {a : Act} {h : Heap}
    (hy : YA pc ops oi v a h) (H : hOp pc ops j K (a.put oi.dst v) h) :
    hOp pc ops j (fun a' h' => YA pc ops oi v a' h' ∧ K (a'.put oi.dst v) h') a h := by
  obtain ⟨h1, h2, h3⟩ := Oper.apart_spec hap
  have keep : ∀ (u : Value) (h' : Heap), (kindOf pc oi.op = .pure ∨ Ext h h') → YA pc ops oi v (a.put oj.dst u) h' := by
    intro u h' hs
    unfold YA at hy ⊢
    rw [wanted_put oi a oj.dst u h3]
    refine hy.imp ?_ id
    rintro ⟨hw, hyl⟩
    refine ⟨hw, fun h2 hs2 K' hK' => ?_⟩
    rw [opH_congr (eval_congr_apart h3)]
    refine hyl h2 ?_ K' hK'
    rcases hs with hs | hs
    · rw [hs]; trivial
    · cases hk : kindOf pc oi.op with
      | pure => trivial
      | read => rw [hk] at hs2; exact hs.trans hs2
      | new => rw [hk] at hs2; exact hs.trans hs2
      | wild => rw [hk] at hs2; exact hs.trans hs2
  unfold hOp at *
  simp only [hj] at *
  rw [wanted_put oj a oi.dst v h1] at H
  split
  · rename_i hw
    rw [if_pos hw, opH_congr (eval_congr_apart h1)] at H
    have hfin : opH pc oj a.eval (fun u h' => K ((a.put oi.dst v).put oj.dst u) h' ∧ (kindOf pc oi.op = .pure ∨ Ext h h')) h := by
      rcases hkk with hkk | hkk
      · exact opH_mono (fun u h' hh => ⟨hh, .inl hkk⟩) H
      · exact opH_mono (fun u h' hh => ⟨hh.1, .inr hh.2⟩) (tame_spec hkk H)
    refine opH_mono ?_ hfin
    rintro u h' ⟨hK, hs⟩
    exact ⟨keep u h' hs, by rw [← Act.put_comm a v u h2]; exact hK⟩
  · rename_i hw
    rw [if_neg hw] at H
    exact ⟨keep _ h (.inr (Ext.refl h)), by rw [← Act.put_comm a v undef h2]; exact H⟩
theorem YA.hOp {pc : Pure P} {ops : Array Oper} {i : Nat} {o : Oper} {v : Value} {a : Act} {h : Heap} (hi : ops[i]? = some o) (hy : YA pc ops o v a h) {K : Act → Heap → Prop} (hk : K (a.put o.dst v) h) : hOp pc ops i K a h := by
  unfold Fw.hOp
  simp only [hi]
  rcases hy with ⟨hw, hv⟩ | ⟨hw, rfl⟩
  · rw [if_pos hw]
    refine hv h ?_ _ hk
    cases kindOf pc o.op <;> first
      | exact Ext.refl h
      | trivial
  · rw [if_neg (by rw [hw]; simp)]; exact hk
theorem YA_of_hOp {pc : Pure P} {ops : Array Oper} {i : Nat} {o : Oper} {a : Act} {h : Heap} {K : Act → Heap → Prop} (hi : ops[i]? = some o) (hl : (kindOf pc o.op).light = true) (hk : hOp pc ops i K a h) :
    ∃ v, YA pc ops o v a h ∧ K (a.put o.dst v) h := by
  unfold hOp at hk
  simp only [hi] at hk
  split at hk
  · rename_i hw
    cases hkd : kindOf pc o.op with
    | pure => obtain ⟨v, h1, h2⟩ := pure_spec hkd hk; exact ⟨v, .inl ⟨hw, by rw [hkd]; exact h2⟩, h1⟩
    | read => obtain ⟨v, h1, h2⟩ := read_spec hkd hk; exact ⟨v, .inl ⟨hw, by rw [hkd]; exact h2⟩, h1⟩
    | new => rw [hkd] at hl; cases hl
    | wild => rw [hkd] at hl; cases hl
  · rename_i hw
    exact ⟨undef, .inr ⟨by simpa using hw, rfl⟩, hk⟩
/-- What may come up now may be taken first, if it is light and the others that could come before it are apart from it (W: what waits for it). -/
theorem hAny_first {pc : Pure P} {ops : Array Oper} {Q : Act → Heap → Prop} {i : Nat} {oi : Oper} {v : Value} {W : List Nat} (hi : ops[i]? = some oi)
    (hW : ∀ j ∈ W, ∀ oj, ops[j]? = some oj → ∃ e ∈ oj.after, Region.binds .any e = true ∧ (e.on = i ∨ e.on ∈ W)) :
    ∀ (fuel : Nat) (listed : Array Bool) (a : Act) (h : Heap),
      (∀ j oj, ops[j]? = some oj → j ≠ i → listed.getD j true = false → j ∉ W → oi.apart ops oj = true ∧ (kindOf pc oi.op = .pure ∨ (kindOf pc oj.op).tame = true)) →
      (∀ j ∈ W, listed.getD j false = false) → i ∈ Region.ready .any ops listed → YA pc ops oi v a h →
      hAny pc ops Q fuel (listed.setIfInBounds i true) (a.put oi.dst v) h → hAny pc ops Q (fuel + 1) listed a h := by
  intro fuel
  induction fuel with
  | zero =>
    intro listed a h _ _ hr hy H
    refine ⟨fun h0 => (by rw [h0] at hr; cases hr), fun j hj => ?_⟩
    by_cases hji : j = i
    · subst hji; exact hy.hOp hi H
    · have := ready_mono hj hji
      rw [H.1] at this
      cases this
  | succ fuel ih =>
    intro listed a h hfree hWun hr hy H
    refine ⟨fun h0 => (by rw [h0] at hr; cases hr), fun j hj => ?_⟩
    by_cases hji : j = i
    · subst hji; exact hy.hOp hi H
    · have h1 := H.2 j (ready_mono hj hji)
      obtain ⟨hjun, oj, hoj, hall⟩ := mem_ready.1 hj
      have hjW : j ∉ W := fun hjm => by
        obtain ⟨e, he, hb, hon⟩ := hW j hjm oj hoj
        have h1 := hall e he hb
        rcases hon with heq | hmem
        · have h0 := (mem_ready.1 hr).1
          rw [heq] at h1
          rcases Nat.lt_or_ge i listed.size with h' | h'
          · simp [h'] at h0 h1; rw [h0] at h1; cases h1
          · simp [Array.getElem?_eq_none h'] at h1
        · rw [hWun _ hmem] at h1; cases h1
      obtain ⟨hap, hkk⟩ := hfree j oj hoj hji hjun hjW
      have h2 := hOp_put hoj hap hkk hy h1
      have hfree' : ∀ k ok, ops[k]? = some ok → k ≠ i → (listed.setIfInBounds j true).getD k true = false → k ∉ W → oi.apart ops ok = true ∧ (kindOf pc oi.op = .pure ∨ (kindOf pc ok.op).tame = true) := fun k ok hk hki hun hno => by
        refine hfree k ok hk hki ?_ hno
        by_cases hjk : j = k
        · subst hjk; exact hjun
        · rw [getD_set_ne true hjk] at hun; exact hun
      have hWun' : ∀ k ∈ W, (listed.setIfInBounds j true).getD k false = false := fun k hk => by
        have hjk : j ≠ k := fun e => hjW (e ▸ hk)
        rw [getD_set_ne false hjk]; exact hWun k hk
      refine hOp_mono (fun a' h' h3 => ih (listed.setIfInBounds j true) a' h' hfree' hWun' (ready_mono hr (Ne.symm hji)) h3.1 ?_) h2
      rw [Array.setIfInBounds_comm _ _ hji]
      exact h3.2
/-- What waits for i, through others too. -/
def waitSet (ops : List Oper) (i : Nat) : Nat → List Nat → List Nat
  | j, W => match ops with
    | [] => W
    | o :: r => waitSet r i (j + 1) (cond (o.after.toList.any fun e => Region.binds .any e && (Nat.beq e.on i || W.contains e.on)) (j :: W) W)
def freeK (pc : Pure P) (ops : Array Oper) (listed : Array Bool) (i : Nat) : Bool :=
  match ops[i]? with
  | none => false
  | some oi => (kindOf pc oi.op).light &&
    let W := waitSet ops.toList i 0 []
    (W.all fun j => !listed.getD j false && match ops[j]? with
      | some oj => oj.after.toList.any (fun e => Region.binds .any e && (Nat.beq e.on i || W.contains e.on))
      | none => true) &&
    (List.range ops.size).all fun j => Nat.beq j i || listed.getD j true || W.contains j || match ops[j]? with
      | some oj => oi.apart ops oj && ((match kindOf pc oi.op with | .pure => true | _ => false) || (kindOf pc oj.op).tame)
      | none => true
/-- The orders to be walked: one after the other, or each of two. -/
inductive Plan where
  | done
  | step (i : Nat) (p : Plan)
  | alt (a b : Plan)
def altL : List (Option Plan) → Option Plan
  | [] => none
  | [p] => p
  | p :: q :: r => match p, altL (q :: r) with
    | some a, some b => some (.alt a b)
    | _, _ => none
def planM (pc : Pure P) (ops : Array Oper) : Nat → Array Bool → Option Plan
  | 0, listed => match Region.ready .any ops listed with
    | [] => some .done
    | _ => none
  | fuel + 1, listed =>
    match Region.ready .any ops listed with
    | [] => some .done
    | i :: r => match (i :: r).find? (freeK pc ops listed) with
      | some k => (planM pc ops fuel (listed.setIfInBounds k true)).map fun l => .step k l
      | none => altL ((i :: r).map fun k => (planM pc ops fuel (listed.setIfInBounds k true)).map fun l => .step k l)
def hPlan (pc : Pure P) (ops : Array Oper) (Q : Act → Heap → Prop) : Plan → Act → Heap → Prop
  | .done, a, h => Q a h
  | .step i p, a, h => hOp pc ops i (hPlan pc ops Q p) a h
  | .alt x y, a, h => hPlan pc ops Q x a h ∧ hPlan pc ops Q y a h
theorem altL_spec {pc : Pure P} {ops : Array Oper} {Q : Act → Heap → Prop} {a : Act} {h : Heap} {f : Nat → Option Plan} : ∀ (l : List Nat) (p : Plan), altL (l.map fun k => (f k).map fun q => .step k q) = some p → hPlan pc ops Q p a h →
    ∀ k ∈ l, ∃ q, f k = some q ∧ hOp pc ops k (hPlan pc ops Q q) a h
  | [], _, ha, _, k, hk => by cases hk
  | [x], p, ha, hp, k, hk => by
    simp only [List.mem_singleton] at hk
    subst hk
    simp only [List.map_cons, List.map_nil, altL] at ha
    cases hf : f k with
    | none => rw [hf] at ha; cases ha
    | some q =>
      rw [hf] at ha
      simp only [Option.map_some, Option.some.injEq] at ha
      subst ha
      exact ⟨q, rfl, hp⟩
  | x :: y :: r, p, ha, hp, k, hk => by
    simp only [List.map_cons, altL] at ha
    cases hf : f x with
    | none => rw [hf] at ha; cases ha
    | some q =>
      rw [hf] at ha
      simp only [Option.map_some] at ha
      split at ha
      · rename_i a1 b1 e1 e2
        injection e1 with e1
        injection ha with ha
        subst e1
        subst ha
        obtain ⟨h1, h2⟩ := hp
        rcases List.mem_cons.1 hk with rfl | hk
        · exact ⟨q, hf, h1⟩
        · exact altL_spec (y :: r) b1 (by simpa only [List.map_cons] using e2) h2 k hk
      · cases ha
def hSeq (pc : Pure P) (ops : Array Oper) (Q : Act → Heap → Prop) : List Nat → Act → Heap → Prop
  | [], a, h => Q a h
  | i :: r, a, h => hOp pc ops i (hSeq pc ops Q r) a h
theorem freeK_spec {pc : Pure P} {ops : Array Oper} {listed : Array Bool} {i : Nat} (hf : freeK pc ops listed i = true) : ∃ (oi : Oper) (W : List Nat), ops[i]? = some oi ∧ (kindOf pc oi.op).light = true ∧
    (∀ j ∈ W, ∀ oj : Oper, ops[j]? = some oj → ∃ e ∈ oj.after, Region.binds .any e = true ∧ (e.on = i ∨ e.on ∈ W)) ∧ (∀ j ∈ W, listed.getD j false = false) ∧
    ∀ j oj, ops[j]? = some oj → j ≠ i → listed.getD j true = false → j ∉ W → oi.apart ops oj = true ∧ (kindOf pc oi.op = .pure ∨ (kindOf pc oj.op).tame = true) := by
  unfold freeK at hf
  split at hf
  · cases hf
  · rename_i oi hi
    simp only [Bool.and_eq_true, List.all_eq_true, List.mem_range] at hf
    obtain ⟨hl, hW, hfree⟩ := hf
    refine ⟨oi, waitSet ops.toList i 0 [], hi, hl, fun j hj oj hoj => ?_, fun j hj => ?_, fun j oj hj hne hun hno => ?_⟩
    · have h1 := (hW j hj).2
      rw [hoj] at h1
      obtain ⟨e, he, hb⟩ := List.any_eq_true.1 h1
      simp only [Bool.and_eq_true, Bool.or_eq_true] at hb
      refine ⟨e, Array.mem_toList_iff.1 he, hb.1, ?_⟩
      rcases hb.2 with h2 | h2
      · exact .inl (Nat.eq_of_beq_eq_true h2)
      · exact .inr (by simpa using h2)
    · simpa using (hW j hj).1
    · have h1 := hfree j (Array.getElem?_eq_some_iff.1 hj).1
      have hb : Nat.beq j i = false := by
        cases hb : Nat.beq j i with
        | false => rfl
        | true => exact absurd (Nat.eq_of_beq_eq_true hb) hne
      have hc : (waitSet ops.toList i 0 []).contains j = false := by simpa using hno
      simp only [hj, hb, hun, hc, Bool.or_self, Bool.false_or, Bool.and_eq_true, Bool.or_eq_true] at h1
      refine ⟨h1.1, h1.2.imp (fun h2 => ?_) id⟩
      split at h2
      · assumption
      · cases h2
theorem hAny_of_plan {pc : Pure P} {ops : Array Oper} {Q : Act → Heap → Prop} : ∀ (fuel : Nat) (listed : Array Bool) (a : Act) (h : Heap) (l : Plan), planM pc ops fuel listed = some l →
    hPlan pc ops Q l a h → hAny pc ops Q fuel listed a h := by
  intro fuel
  induction fuel with
  | zero =>
    intro listed a h l ho hs
    unfold planM at ho
    split at ho
    · rename_i hr
      injection ho with ho
      subst ho
      exact ⟨hr, hs⟩
    · cases ho
  | succ fuel ih =>
    intro listed a h l ho hs
    unfold planM at ho
    cases hr : Region.ready .any ops listed with
    | nil =>
      rw [hr] at ho
      injection ho with ho
      subst ho
      refine ⟨fun _ => hs, fun i hi => ?_⟩
      rw [hr] at hi; cases hi
    | cons i r =>
      rw [hr] at ho
      simp only at ho
      cases hf : (i :: r).find? (freeK pc ops listed) with
      | some k =>
        rw [hf] at ho
        simp only at ho
        cases hp : planM pc ops fuel (listed.setIfInBounds k true) with
        | none => rw [hp] at ho; cases ho
        | some l' =>
          rw [hp] at ho
          simp only [Option.map_some, Option.some.injEq] at ho
          subst ho
          have hk := List.find?_some hf
          have hmem : k ∈ Region.ready .any ops listed := by rw [hr]; exact List.mem_of_find?_eq_some hf
          obtain ⟨oi, W, hoi, hl, hW, hWun, hfree⟩ := freeK_spec hk
          simp only [hPlan] at hs
          obtain ⟨v, hy, hs'⟩ := YA_of_hOp hoi hl hs
          exact hAny_first hoi hW fuel listed a h hfree hWun hmem hy (ih _ _ _ _ hp hs')
      | none =>
        rw [hf] at ho
        simp only at ho
        refine ⟨fun h0 => (by rw [h0] at hr; cases hr), fun j hj => ?_⟩
        rw [hr] at hj
        obtain ⟨q, hq, hh⟩ := altL_spec (f := fun k => planM pc ops fuel (listed.setIfInBounds k true)) (i :: r) l ho hs j hj
        exact hOp_mono (fun a' h' hh => ih _ a' h' _ hq hh) hh
theorem wpOp_of_hOp {pc : Pure P} {ops : Array Oper} {Q : Exit → Act → World → Prop} {i : Nat} {K : Act → Heap → Prop} {K' : Act → World → Prop} {a : Act} {w0 w : World} (h0 : Same w0 w)
    (hm : ∀ a w', Same w0 w' → K a w'.heap → K' a w') (hk : hOp pc ops i K a w.heap) : wpOp P ops Q i K' a w := by
  unfold hOp at hk
  unfold wpOp
  split
  · rename_i e; simp only [e] at hk; exact hm _ _ h0 hk
  · rename_i o e
    simp only [e] at hk
    split
    · rename_i hw
      rw [if_pos hw] at hk
      exact .inl (hpX_wp (opH_sound (fun _ => rfl) hk) (fun v w' hs hv => hm _ _ (h0.trans hs) hv))
    · rename_i hw; rw [if_neg hw] at hk; exact hm _ _ h0 hk
theorem wpAny_of_hAny {pc : Pure P} {ops : Array Oper} {Q : Act → Heap → Prop} {Q' : Exit → Act → World → Prop} {w0 : World} (hQ : ∀ a w', Same w0 w' → Q a w'.heap → Q' .normal a w') :
    ∀ (fuel : Nat) (listed : Array Bool) (a : Act) (w : World), Same w0 w → hAny pc ops Q fuel listed a w.heap → wpAny P .any ops Q' fuel listed a w
  | 0, _, _, _, h0, h => ⟨h.1, hQ _ _ h0 h.2⟩
  | fuel + 1, _, _, _, h0, h => ⟨fun hr => hQ _ _ h0 (h.1 hr), fun i hi => wpOp_of_hOp h0 (fun a' w' hs hh => wpAny_of_hAny hQ fuel _ a' w' hs hh) (h.2 i hi)⟩
theorem wpOps_of_hSeq {pc : Pure P} {ops : Array Oper} {Q : Act → Heap → Prop} {Q' : Exit → Act → World → Prop} {w0 : World} (hQ : ∀ a w', Same w0 w' → Q a w'.heap → Q' .normal a w') :
    ∀ (l : List Nat) (a : Act) (w : World), Same w0 w → hSeq pc ops Q l a w.heap → wpOps P ops Q' l a w
  | [], _, _, h0, h => hQ _ _ h0 h
  | i :: r, a, w, h0, h => by
    rw [wpOps_cons]
    exact wpOp_of_hOp h0 (fun a' w' hs hh => wpOps_of_hSeq hQ r a' w' hs hh) h
end
end Go.Fw

/- A function's code, read at the heap: 'wpL', and that a call meets what it says ('fn_of'). -/
namespace Go.Fw

abbrev Env := Nat → Value
def Env.put (e : Env) (d : Option Nat) (v : Value) : Env :=
  match d with
  | none => e
  | some d => fun t => cond (Nat.beq d t) v (e t)
def Env.ev (e : Env) : Operand → Value
  | .tmp t => e t
  | .const v => v
  | .global g => .pointer (some ⟨g, 0, none⟩)
  | .func f => .func (.func f) #[] #[]
abbrev Post := Exit → Env → Heap → Prop

def gval (ops : Array Oper) (env : Env) (j : Nat) : Value :=
  match (ops[j]?).bind (·.dst) with
  | some d => env d
  | none => undef
/-- An operation under a guard. -/
def gop (g : Value) (w : Bool) (F : Kont → Heap → Prop) (K : Kont) (h : Heap) : Prop :=
  match g with
  | .bool b => if b = w then F K h else K undef h
  | _ => K undef h
def stepE {P : Program} (pc : Pure P) (ops : Array Oper) (o : Oper) (K : Env → Heap → Prop) (env : Env) (h : Heap) : Prop :=
  match o.guard with
  | none => opH pc o env.ev (fun v h' => K (env.put o.dst v) h') h
  | some (j, w) => gop (gval ops env j) w (opH pc o env.ev) (fun v h' => K (env.put o.dst v) h') h
def wpSeq {P : Program} (pc : Pure P) (ops : Array Oper) (Q : Env → Heap → Prop) : List Nat → Env → Heap → Prop
  | [], env, h => Q env h
  | i :: r, env, h => match ops[i]? with
    | none => wpSeq pc ops Q r env h
    | some o => stepE pc ops o (wpSeq pc ops Q r) env h
def thenQ (next : Env → Heap → Prop) (Q : Post) : Post
  | .normal, env, h => next env h
  | e, env, h => Q e env h
def inB (id : Nat) (Q : Post) : Post
  | .exit id', env, h => cond (Nat.beq id' id) (Q .normal env h) (Q (.exit id') env h)
  | e, env, h => Q e env h
def oCond (v : Value) (A B : Prop) : Prop :=
  match v with
  | .bool b => if b then A else B
  | _ => False
def LoopH (B : Post → Env → Heap → Prop) (Q : Post) (env : Env) (h : Heap) : Prop :=
  ∃ (I : Nat → Env → Heap → Prop) (n : Nat), I n env h ∧ ∀ n env h, I n env h → B (thenQ (fun env' h' => ∃ m, m < n ∧ I m env' h') Q) env h
def wpPlan {P : Program} (pc : Pure P) (ops : Array Oper) (Q : Env → Heap → Prop) : Plan → Env → Heap → Prop
  | .done, env, h => Q env h
  | .step i p, env, h => match ops[i]? with
    | none => wpPlan pc ops Q p env h
    | some o => stepE pc ops o (wpPlan pc ops Q p) env h
  | .alt x y, env, h => wpPlan pc ops Q x env h ∧ wpPlan pc ops Q y env h
def oPlan (p : Option Plan) (F : Plan → Prop) : Prop :=
  match p with
  | some l => F l
  | none => False
def wpL {P : Program} (pc : Pure P) : Code → Post → Env → Heap → Prop
  | .skip, Q, env, h => Q .normal env h
  | .region _ ops draw, Q, env, h => cond draw
      (oPlan (planM pc ops ops.size (Array.replicate ops.size false)) fun l => wpPlan pc ops (Q .normal) l env h)
      (wpSeq pc ops (Q .normal) (List.range ops.size) env h)
  | .seq a b, Q, env, h => wpL pc a (thenQ (wpL pc b Q) Q) env h
  | .cond c a b, Q, env, h => oCond (env.ev c) (wpL pc a Q env h) (wpL pc b Q env h)
  | .block id c, Q, env, h => wpL pc c (inB id Q) env h
  | .loop c, Q, env, h => LoopH (wpL pc c) Q env h
  | .exit id, Q, env, h => Q (.exit id) env h
  | .ret, Q, env, h => Q .ret env h
  | .label _, Q, env, h => Q .normal env h
  | _, _, _, _ => False
def opsOk (n : Nat) (ops : Array Oper) : Bool := ops.all fun o => match o.dst with | some d => Nat.blt d n | none => true
def codeOk (n : Nat) : Code → Bool
  | .region _ ops _ => opsOk n ops
  | .seq a b | .cond _ a b => codeOk n a && codeOk n b
  | .block _ c | .loop c => codeOk n c
  | _ => true

/-! ### From the environment to the frame -/
def envOf (a : Act) : Env := fun t => a.tmps.getD t undef
structure Good (n : Nat) (a : Act) : Prop where
  size : a.tmps.size = n
  defers : a.defers = []
theorem envOf_ev (a : Act) : a.eval = (envOf a).ev := by
  funext x
  cases x <;> rfl
theorem envOf_put {n : Nat} {a : Act} (hg : Good n a) {d : Option Nat} (hd : ∀ k, d = some k → k < n) (v : Value) : envOf (a.put d v) = (envOf a).put d v := by
  cases d with
  | none => rfl
  | some k =>
    funext t
    have hk : k < a.tmps.size := by rw [hg.size]; exact hd k rfl
    simp only [envOf, Act.put, Env.put]
    cases hb : Nat.beq k t with
    | true =>
      have : k = t := Nat.eq_of_beq_eq_true hb
      subst this
      simp [Array.getD_eq_getD_getElem?, hk]
    | false =>
      have : k ≠ t := Nat.ne_of_beq_eq_false hb
      simp [Array.getD_eq_getD_getElem?, this]
theorem Good.put {n : Nat} {a : Act} (hg : Good n a) (d : Option Nat) (v : Value) : Good n (a.put d v) := by
  cases d with
  | none => exact hg
  | some k => exact ⟨by simp [Act.put, hg.size], hg.defers⟩
theorem wanted_gval {n : Nat} {a : Act} {ops : Array Oper} (hg : Good n a) (ho : opsOk n ops = true) {j : Nat} {w : Bool} {o : Oper} (hgd : o.guard = some (j, w)) :
    Region.wanted o (yielded ops a.tmps) = (match gval ops (envOf a) j with | .bool b => b == w | _ => false) := by
  simp only [Region.wanted, hgd]
  unfold yielded gval
  cases hoj : ops[j]? with
  | none => simp [undef]
  | some oj =>
    simp only [Option.bind_some]
    cases hd : oj.dst with
    | none => simp [undef]
    | some d =>
      have hlt : d < n := by
        have := Array.all_eq_true'.1 ho oj (Array.mem_of_getElem? hoj)
        rw [hd] at this
        simpa [Nat.blt_eq] using this
      have hlt' : d < a.tmps.size := by rw [hg.size]; exact hlt
      simp only [Option.bind_some, envOf, Array.getD_eq_getD_getElem?, Array.getElem?_eq_getElem hlt', Option.getD_some]
      split <;> split <;> simp_all
section
variable {P : Program} {pc : Pure P} {n : Nat}
theorem opsOk_dst {ops : Array Oper} (ho : opsOk n ops = true) {i : Nat} {o : Oper} (hi : ops[i]? = some o) : ∀ k, o.dst = some k → k < n := by
  intro k hk
  have := Array.all_eq_true'.1 ho o (Array.mem_of_getElem? hi)
  rw [hk] at this
  simpa [Nat.blt_eq] using this
theorem hSeq_of_wpSeq {ops : Array Oper} (ho : opsOk n ops = true) {Q : Env → Heap → Prop} : ∀ (l : List Nat) (a : Act) (h : Heap), Good n a → wpSeq pc ops Q l (envOf a) h →
    hSeq pc ops (fun a h => Good n a ∧ Q (envOf a) h) l a h
  | [], a, h, hg, hw => ⟨hg, hw⟩
  | i :: r, a, h, hg, hw => by
    simp only [wpSeq] at hw
    simp only [hSeq, hOp]
    cases hi : ops[i]? with
    | none =>
      rw [hi] at hw
      exact hSeq_of_wpSeq ho r a h hg hw
    | some o =>
      rw [hi] at hw
      simp only [stepE] at hw
      have hd := opsOk_dst ho hi
      have hput : ∀ v h', wpSeq pc ops Q r ((envOf a).put o.dst v) h' → hSeq pc ops (fun a h => Good n a ∧ Q (envOf a) h) r (a.put o.dst v) h' := by
        intro v h' hh
        refine hSeq_of_wpSeq ho r _ h' (hg.put _ _) ?_
        rw [envOf_put hg hd]
        exact hh
      simp only
      cases hgd : o.guard with
      | none =>
        rw [hgd] at hw
        simp only at hw
        rw [if_pos (by simp [Region.wanted, hgd]), envOf_ev]
        exact opH_mono hput hw
      | some g =>
        obtain ⟨j, w⟩ := g
        rw [hgd] at hw
        simp only [gop] at hw
        rw [wanted_gval hg ho hgd]
        split at hw
        · rename_i b hb
          split at hw
          · rename_i hbw
            rw [if_pos (by simpa using hbw), envOf_ev]
            exact opH_mono hput hw
          · rename_i hbw
            rw [if_neg (by simpa using hbw)]
            exact hput _ _ hw
        · rw [if_neg (by simp)]
          exact hput _ _ hw
theorem hPlan_of_wpPlan {ops : Array Oper} (ho : opsOk n ops = true) {Q : Env → Heap → Prop} : ∀ (l : Plan) (a : Act) (h : Heap), Good n a → wpPlan pc ops Q l (envOf a) h →
    hPlan pc ops (fun a h => Good n a ∧ Q (envOf a) h) l a h
  | .done, a, h, hg, hw => ⟨hg, hw⟩
  | .alt x y, a, h, hg, hw => ⟨hPlan_of_wpPlan ho x a h hg hw.1, hPlan_of_wpPlan ho y a h hg hw.2⟩
  | .step i r, a, h, hg, hw => by
    simp only [wpPlan] at hw
    simp only [hPlan, hOp]
    cases hi : ops[i]? with
    | none =>
      rw [hi] at hw
      exact hPlan_of_wpPlan ho r a h hg hw
    | some o =>
      rw [hi] at hw
      simp only [stepE] at hw
      have hd := opsOk_dst ho hi
      have hput : ∀ v h', wpPlan pc ops Q r ((envOf a).put o.dst v) h' → hPlan pc ops (fun a h => Good n a ∧ Q (envOf a) h) r (a.put o.dst v) h' := by
        intro v h' hh
        refine hPlan_of_wpPlan ho r _ h' (hg.put _ _) ?_
        rw [envOf_put hg hd]
        exact hh
      simp only
      cases hgd : o.guard with
      | none =>
        rw [hgd] at hw
        simp only at hw
        rw [if_pos (by simp [Region.wanted, hgd]), envOf_ev]
        exact opH_mono hput hw
      | some g =>
        obtain ⟨j, w⟩ := g
        rw [hgd] at hw
        simp only [gop] at hw
        rw [wanted_gval hg ho hgd]
        split at hw
        · rename_i b hb
          split at hw
          · rename_i hbw
            rw [if_pos (by simpa using hbw), envOf_ev]
            exact opH_mono hput hw
          · rename_i hbw
            rw [if_neg (by simpa using hbw)]
            exact hput _ _ hw
        · rw [if_neg (by simp)]
          exact hput _ _ hw
theorem least {p : Nat → Prop} (h : ∃ n, p n) : ∃ n, p n ∧ ∀ m, p m → n ≤ m := by
  obtain ⟨n, hn⟩ := h
  induction n using Nat.strongRecOn with
  | _ n ih =>
    by_cases hx : ∃ m, m < n ∧ p m
    · obtain ⟨m, hm, hp⟩ := hx; exact ih m hm hp
    · refine ⟨n, hn, fun m hp => ?_⟩
      rcases Nat.lt_or_ge m n with hlt | hge
      · exact absurd ⟨m, hlt, hp⟩ hx
      · exact hge
open Classical in
theorem wp_loop_ix {c : Code} {Q : Exit → Act → World → Prop} {a : Act} {w : World} (I : Nat → Act → World → Prop) (n : Nat) (h₀ : I n a w)
    (round : ∀ n a w, I n a w → c.wp P (Exit.then (fun a' w' => ∃ m, m < n ∧ I m a' w') Q) a w) : (Code.loop c).wp P Q a w := by
  refine wp_loop (fun a w => ∃ n, I n a w) (fun a w => if h : ∃ n, I n a w then Classical.choose (least h) else 0) ⟨n, h₀⟩ ?_
  rintro a w hI
  obtain ⟨h1, h2⟩ := Classical.choose_spec (least hI)
  refine wp_mono (round _ a w h1) ?_
  intro e a' w' hh
  cases e with
  | normal =>
    obtain ⟨m, hm, hi⟩ := hh
    refine ⟨⟨m, hi⟩, ?_⟩
    have hI' : ∃ n, I n a' w' := ⟨m, hi⟩
    rw [dif_pos hI', dif_pos hI]
    exact Nat.lt_of_le_of_lt ((Classical.choose_spec (least hI')).2 m hi) hm
  | _ => exact hh
def lift (n : Nat) (w0 : World) (Q : Post) : Exit → Act → World → Prop := fun e a w => Same w0 w ∧ Good n a ∧ Q e (envOf a) w.heap
theorem wpL_sound (hm : P.follows .mixedOrders = true) {w0 : World} : ∀ (c : Code) (Q : Post) (a : Act) (w : World), codeOk n c = true → Same w0 w → Good n a → wpL pc c Q (envOf a) w.heap → c.wp P (lift n w0 Q) a w := by
  intro c
  induction c with
  | skip => intro Q a w _ hs hg h; exact wp_skip ⟨hs, hg, h⟩
  | region id ops draw =>
    intro Q a w hc hs hg h
    cases draw with
    | false =>
      exact wp_region (wpOps_of_hSeq (pc := pc) (w0 := w0) (fun a' w' hs' hh => ⟨hs', hh.1, hh.2⟩) _ a w hs (hSeq_of_wpSeq hc _ a _ hg h))
    | true =>
      simp only [wpL, cond_true] at h
      cases hp : planM pc ops ops.size (Array.replicate ops.size false) with
      | none => rw [hp] at h; exact h.elim
      | some l =>
        rw [hp] at h
        simp only [oPlan] at h
        refine wp_region_any hm (wpAny_of_hAny (pc := pc) (w0 := w0) (Q := fun a h => Good n a ∧ Q .normal (envOf a) h) (fun a' w' hs' hh => ⟨hs', hh.1, hh.2⟩) _ _ a _ ?_ ?_)
        · exact ⟨hs.os, hs.tape, hs.output⟩
        · exact hAny_of_plan _ _ a _ l hp (hPlan_of_wpPlan hc _ a _ hg h)
  | seq x y ihx ihy =>
    intro Q a w hc hs hg h
    simp only [codeOk, Bool.and_eq_true] at hc
    refine wp_seq (wp_mono (ihx _ a w hc.1 hs hg h) ?_)
    rintro e a' w' ⟨hs', hg', h'⟩
    cases e with
    | normal => exact ihy Q a' w' hc.2 hs' hg' h'
    | _ => exact ⟨hs', hg', h'⟩
  | cond c x y ihx ihy =>
    intro Q a w hc hs hg h
    simp only [codeOk, Bool.and_eq_true] at hc
    simp only [wpL, oCond] at h
    split at h
    · rename_i b hb
      rw [← envOf_ev] at hb
      refine wp_cond hb ?_
      cases b with
      | true => exact ihx Q a w hc.1 hs hg (by simpa using h)
      | false => exact ihy Q a w hc.2 hs hg (by simpa using h)
    · exact h.elim
  | block id c ih =>
    intro Q a w hc hs hg h
    refine wp_block (wp_mono (ih _ a w hc hs hg h) ?_)
    rintro e a' w' ⟨hs', hg', h'⟩
    cases e with
    | exit id' =>
      simp only [inB] at h'
      simp only [Exit.inBlock]
      cases hb : Nat.beq id' id with
      | true =>
        rw [hb] at h'
        rw [if_pos (Nat.eq_of_beq_eq_true hb)]
        exact ⟨hs', hg', h'⟩
      | false =>
        rw [hb] at h'
        rw [if_neg (Nat.ne_of_beq_eq_false hb)]
        exact ⟨hs', hg', h'⟩
    | _ => exact ⟨hs', hg', h'⟩
  | loop c ih =>
    intro Q a w hc hs hg h
    obtain ⟨I, n0, h0, hr⟩ := h
    refine wp_loop_ix (fun k a w => Same w0 w ∧ Good n a ∧ I k (envOf a) w.heap) n0 ⟨hs, hg, h0⟩ ?_
    rintro k a' w' ⟨hs', hg', hI⟩
    refine wp_mono (ih _ a' w' hc hs' hg' (hr _ _ _ hI)) ?_
    rintro e a2 w2 ⟨hs2, hg2, h2⟩
    cases e with
    | normal =>
      obtain ⟨m, hm, hi⟩ := h2
      exact ⟨m, hm, hs2, hg2, hi⟩
    | _ => exact ⟨hs2, hg2, h2⟩
  | exit id => intro Q a w _ hs hg h; exact wp_exit ⟨hs, hg, h⟩
  | ret => intro Q a w _ hs hg h; exact wp_ret ⟨hs, hg, h⟩
  | label l => intro Q a w _ hs hg h; exact wp_label ⟨hs, hg, h⟩
  | rangeFunc f ps as b => intro Q a w _ hs hg h; exact h.elim
  | scope c => intro Q a w _ hs hg h; exact h.elim
  | goto l => intro Q a w _ hs hg h; exact h.elim
  | refuse s => intro Q a w _ hs hg h; exact h.elim

/-! ### The results -/
def resVals (P : Program) (env : Env) (h : Heap) : List ResultVar → Option (List Value)
  | [] => some []
  | .tmp t :: r => match resVals P env h r with
    | some l => some (env t :: l)
    | none => none
  | .cell a t :: r => match env a with
    | .pointer (some ad) => match readVar h ad (varOf P t), resVals P env h r with
      | some v, some l => some (v :: l)
      | _, _ => none
    | _ => none
def pack (l : List Value) : Value :=
  match l with
  | [v] => v
  | l => .tuple l.toArray
def oRet (l : Option (List Value)) (K : Kont) (h : Heap) : Prop :=
  match l with
  | some l => K (pack l) h
  | none => False
def retQ (P : Program) (rs : List ResultVar) (K : Kont) : Post
  | .normal, env, h | .ret, env, h => oRet (resVals P env h rs) K h
  | _, _, _ => False
def isRO {α : Type} : Sem α → Prop
  | .pure _ => True
  | .load _ _ k => ∀ v, isRO (k v)
  | .shape _ k => ∀ s, isRO (k s)
  | .frozen _ k => ∀ b, isRO (k b)
  | .getObj _ k => ∀ o, isRO (k o)
  | .program k => ∀ p, isRO (k p)
  | .mark _ k => isRO k
  | .halt _ => True
  | _ => False
theorem isRO_run {α : Type} (s : Sem α) : isRO s → ∀ (w : World) (a : α) (w' : World), s.run P w = .ok a w' → w' = w := by
  induction s with
  | pure a => intro _ w b w' h; simp only [Sem.run] at h; injection h with _ h; exact h.symm
  | load m a k ih =>
    intro hr w b w' h
    simp only [Sem.run] at h
    split at h
    · exact ih _ (hr _) _ _ _ h
    · split at h
      · exact ih _ (hr _) _ _ _ h
      · cases h
  | store m a v k ih => intro hr; exact hr.elim
  | new o k ih => intro hr; exact hr.elim
  | shape r k ih => intro hr w b w' h; exact ih _ (hr _) _ _ _ h
  | freeze a n k ih => intro hr; exact hr.elim
  | frozen a k ih => intro hr w b w' h; exact ih _ (hr _) _ _ _ h
  | getObj r k ih =>
    intro hr w b w' h
    simp only [Sem.run] at h
    split at h
    · cases h
    · exact ih _ (hr _) _ _ _ h
    · cases h
  | setObj r o k ih => intro hr; exact hr.elim
  | choose q k ih => intro hr; exact hr.elim
  | sys c k ih => intro hr; exact hr.elim
  | program k ih => intro hr w b w' h; exact ih _ (hr _) _ _ _ h
  | mark m k ih => intro hr w b w' h; exact ih hr _ _ _ h
  | halt x => intro _ w b w' h; cases h
theorem isRO_bind {α β : Type} (s : Sem α) (f : α → Sem β) (hs : isRO s) (hf : ∀ a, isRO (f a)) : isRO (s >>= f) := by
  show isRO (s.bind f)
  induction s with
  | pure a => exact hf a
  | load m a k ih => exact fun v => ih v (hs v)
  | store m a v k ih => exact hs.elim
  | new o k ih => exact hs.elim
  | shape r k ih => exact fun v => ih v (hs v)
  | freeze a n k ih => exact hs.elim
  | frozen a k ih => exact fun v => ih v (hs v)
  | getObj r k ih => exact fun v => ih v (hs v)
  | setObj r o k ih => exact hs.elim
  | choose q k ih => exact hs.elim
  | sys c k ih => exact hs.elim
  | program k ih => exact fun v => ih v (hs v)
  | mark m k ih => exact ih hs
  | halt x => trivial
theorem isRO_underlying (t : TypeId) : isRO (underlying t) := isRO_bind _ _ (fun _ => trivial) (fun p => by split <;> trivial)
theorem isRO_typeInfo (t : TypeId) : isRO (typeInfo t) := isRO_bind _ _ (fun _ => trivial) (fun p => by split <;> trivial)
theorem isRO_loadCells (a : Addr) : ∀ (n i : Nat) (b : Array Value), isRO (loadCellsFrom a i n b)
  | 0, _, _ => trivial
  | n + 1, i, _ => isRO_bind _ _ (fun _ => trivial) (fun _ => isRO_loadCells a n (i + 1) _)
theorem isRO_loadVar (t : TypeId) (a : Addr) : isRO (loadVar t a) := by
  unfold loadVar
  refine isRO_bind _ _ ?_ (fun b => ?_)
  · exact isRO_bind _ _ (isRO_underlying t) (fun d => by cases d <;> trivial)
  · split
    · refine isRO_bind _ _ (isRO_bind _ _ (isRO_typeInfo t) (fun _ => trivial)) (fun m => ?_)
      exact isRO_bind _ _ (isRO_loadCells a m 0 #[]) (fun _ => trivial)
    · exact fun _ => trivial
theorem hp_resVals {env : Env} {h : Heap} {f : ResultVar → Sem Value} (hf1 : ∀ t, f (.tmp t) = pure (env t)) (hf2 : ∀ a t ad, env a = .pointer (some ad) → f (.cell a t) = loadVar t ad) :
    ∀ (rs : List ResultVar) (l : List Value), resVals P env h rs = some l → ∀ (K : List Value → Heap → Prop), K l h → hp P (rs.mapM f) K h := by
  intro rs
  induction rs with
  | nil => intro l hl K hk; simp only [resVals] at hl; injection hl with hl; subst hl; simpa [List.mapM_nil, hp_pure] using hk
  | cons r rs ih =>
    intro l hl K hk
    rw [List.mapM_cons]
    cases r with
    | tmp t =>
      simp only [resVals] at hl
      split at hl
      · rename_i l' hl'
        injection hl with hl
        subst hl
        simp only [hp_bind, hf1, hp_pure]
        exact ih l' hl' _ hk
      · cases hl
    | cell a t =>
      simp only [resVals] at hl
      split at hl
      · rename_i ad had
        split at hl
        · rename_i v l' hv hl'
          injection hl with hl
          subst hl
          simp only [hp_bind, hf2 a t ad had, hp_pure]
          refine hp_loadVar hv ?_
          exact ih l' hl' _ hk
        · cases hl
      · cases hl
theorem isRO_mapM {f : ResultVar → Sem Value} (hf : ∀ r, isRO (f r)) : ∀ rs : List ResultVar, isRO (rs.mapM f)
  | [] => trivial
  | r :: rs => by
    rw [List.mapM_cons]
    exact isRO_bind _ _ (hf r) (fun v => isRO_bind _ _ (isRO_mapM hf rs) (fun _ => trivial))
theorem pack_eq (vs : Array Value) : (if h : vs.size = 1 then vs[0] else Value.tuple vs) = pack vs.toList := by
  obtain ⟨l⟩ := vs
  match l with
  | [] => rfl
  | [v] => rfl
  | a :: b :: r => simp [pack]
theorem results_run {fn : Func} {tmps : Array Value} {w : World} {l : List Value} (hl : resVals P (fun t => tmps.getD t undef) w.heap fn.results.toList = some l) :
    (results fn tmps).run P w = .ok (pack l) w := by
  have key : hp P (results fn tmps) (fun v h' => v = pack l) w.heap := by
    unfold results
    rw [hp_bind, Array.mapM_eq_mapM_toList, hp_map]
    refine hp_resVals (env := fun t => tmps.getD t undef) (fun t => rfl) (fun a t ad had => ?_) _ _ hl _ ?_
    · simp only [had]; rfl
    · rw [hp_pure, pack_eq]
  obtain ⟨v, w', hr, _, hv⟩ := hp_run _ w _ key
  have hro : isRO (results fn tmps) := by
    unfold results
    refine isRO_bind _ _ ?_ (fun _ => trivial)
    rw [Array.mapM_eq_mapM_toList]
    show isRO ((fn.results.toList.mapM _) >>= fun a => pure a.toArray)
    refine isRO_bind _ _ (isRO_mapM ?_ _) (fun _ => trivial)
    intro r
    cases r with
    | tmp t => trivial
    | cell a t =>
      refine isRO_bind _ _ ?_ (fun ad => isRO_loadVar t ad)
      generalize tmps.getD a undef = v
      unfold asAddr
      split
      · trivial
      · exact isRO_bind _ _ (fun _ => trivial) (fun p => trivial)
      · trivial
  rw [hr, isRO_run _ hro w v w' hr, hv]
/-- THE BRIDGE: a call of a function meets K, if its code, read at the heap, does. -/
theorem fn_of {f : FuncId} {fn : Func} {c : Code} {args : Array Value} {h : Heap} {K : Kont} (pc : Pure P) (hm : P.follows .mixedOrders = true) (hf : P.funcs[f]? = some fn) (hb : fn.body = some c)
    (hc : codeOk fn.ntmps c = true) (hn : args.size ≤ fn.ntmps) (hw : wpL pc c (retQ P fn.results.toList K) (fun t => args.toList.getD t undef) h) : FnH P f args h K := by
  intro w hwh
  subst hwh
  refine calls_of_wp hf hb ?_
  have henv : envOf { tmps := args ++ Array.replicate (fn.ntmps - args.size) undef, defers := [] } = (fun t => args.toList.getD t undef) := by
    funext t
    simp only [envOf, Array.getD_eq_getD_getElem?, List.getD_eq_getElem?_getD, Array.getElem?_append, Array.getElem?_toList]
    split
    · rfl
    · rename_i hge
      have e : args[t]? = none := Array.getElem?_eq_none (by omega)
      rw [e, Array.getElem?_replicate]
      split <;> rfl
  refine wp_mono (wpL_sound (n := fn.ntmps) hm (w0 := w) c _ _ w hc (Same.refl w) ⟨by simp; omega, rfl⟩ (by rw [henv]; exact hw)) ?_
  rintro e a' w' ⟨hs, hg, hq⟩
  have fin : oRet (resVals P (envOf a') w'.heap fn.results.toList) K w'.heap → a'.defers = [] ∧ ∃ v, (results fn a'.tmps).run P w' = .ok v w' ∧ ∃ u, Ending.returned v = .returned u ∧ Same w w' ∧ K u w'.heap := by
    intro hr
    unfold oRet at hr
    split at hr
    · rename_i l hl
      exact ⟨hg.defers, pack l, results_run hl, pack l, rfl, hs, hr⟩
    · exact hr.elim
  cases e with
  | normal => exact fin hq
  | ret => exact fin hq
  | _ => exact hq.elim
end
end Go.Fw

/- Code in pieces: lists of codes, slots that live on, loops. -/
namespace Go.Fw

abbrev LPost := Exit → List Value → Heap → Prop
def proj (L : List Nat) (q : LPost) : Post := fun e env h => q e (L.map env) h
def thenL (N : List Value → Heap → Prop) (q : LPost) : LPost
  | .normal, vs, h => N vs h
  | e, vs, h => q e vs h
def inBL (id : Nat) (q : LPost) : LPost
  | .exit id', vs, h => cond (Nat.beq id' id) (q .normal vs h) (q (.exit id') vs h)
  | e, vs, h => q e vs h
def flat : Code → List Code
  | .seq a b => flat a ++ flat b
  | c => [c]
/-- A loop, told by a family of relations at its head: each round goes down in the family. -/
def LoopS (B : LPost → List Value → Heap → Prop) (c : LPost) (vs : List Value) (h : Heap) : Prop :=
  ∃ (J : Nat → List Value → Heap → Prop) (n : Nat), J n vs h ∧ ∀ n vs h, J n vs h → B (thenL (fun vs' h' => ∃ m, m < n ∧ J m vs' h') c) vs h
/-- The usual way: a state s, what the slots hold in it, what is true in it, a measure. -/
def NextSt {σ : Type} (enc : σ → List Value) (Inv : σ → Heap → Prop) (μ : σ → Nat) (s : σ) (vs : List Value) (h : Heap) : Prop := ∃ m, m < μ s ∧ ∃ s', vs = enc s' ∧ Inv s' h ∧ μ s' = m
theorem NextSt.mk {σ : Type} {enc : σ → List Value} {Inv : σ → Heap → Prop} {μ : σ → Nat} {s : σ} {vs : List Value} {h : Heap} (s' : σ) (hv : vs = enc s') (hI : Inv s' h) (hlt : μ s' < μ s) : NextSt enc Inv μ s vs h :=
  ⟨μ s', hlt, s', hv, hI, rfl⟩
theorem LoopS.st {B : LPost → List Value → Heap → Prop} {c : LPost} {vs : List Value} {h : Heap} {σ : Type} (enc : σ → List Value) (Inv : σ → Heap → Prop) (μ : σ → Nat) (s0 : σ) (hvs : vs = enc s0) (h0 : Inv s0 h)
    (round : ∀ s h, Inv s h → B (thenL (NextSt enc Inv μ s) c) (enc s) h) : LoopS B c vs h := by
  refine ⟨fun n vs h => ∃ s, vs = enc s ∧ Inv s h ∧ μ s = n, μ s0, ⟨s0, hvs, h0, rfl⟩, ?_⟩
  rintro n vs h ⟨s, rfl, hI, rfl⟩
  exact round s h hI
def Rf (L : List Nat) (c : LPost) (Q : Post) : Prop := ∀ e vs h, c e vs h → ∀ env : Env, L.map env = vs → Q e env h
def RfN (L : List Nat) (N : List Value → Heap → Prop) (M : Env → Heap → Prop) : Prop := ∀ vs h, N vs h → ∀ env : Env, L.map env = vs → M env h

section
variable {P : Program} {pc : Pure P} {L : List Nat}
def wpLs (pc : Pure P) : List Code → Post → Env → Heap → Prop
  | [], Q, env, h => Q .normal env h
  | c :: r, Q, env, h => wpL pc c (thenQ (wpLs pc r Q) Q) env h
theorem wpSeq_mono {ops : Array Oper} {Q Q' : Env → Heap → Prop} (hm : ∀ env h, Q env h → Q' env h) : ∀ (l : List Nat) (env : Env) (h : Heap), wpSeq pc ops Q l env h → wpSeq pc ops Q' l env h
  | [], _, _, hw => hm _ _ hw
  | i :: r, env, h, hw => by
    simp only [wpSeq] at hw ⊢
    split at hw
    · exact wpSeq_mono hm r env h hw
    · rename_i o hi
      simp only [stepE] at hw ⊢
      split at hw
      · exact opH_mono (fun v h' => wpSeq_mono hm r _ h') hw
      · simp only [gop] at hw ⊢
        split at hw
        · split at hw
          · rename_i hb; rw [if_pos hb]; exact opH_mono (fun v h' => wpSeq_mono hm r _ h') hw
          · rename_i hb; rw [if_neg hb]; exact wpSeq_mono hm r _ _ hw
        · exact wpSeq_mono hm r _ _ hw
theorem wpPlan_mono {ops : Array Oper} {Q Q' : Env → Heap → Prop} (hm : ∀ env h, Q env h → Q' env h) : ∀ (l : Plan) (env : Env) (h : Heap), wpPlan pc ops Q l env h → wpPlan pc ops Q' l env h
  | .done, _, _, hw => hm _ _ hw
  | .alt x y, env, h, hw => ⟨wpPlan_mono hm x env h hw.1, wpPlan_mono hm y env h hw.2⟩
  | .step i r, env, h, hw => by
    simp only [wpPlan] at hw ⊢
    split at hw
    · exact wpPlan_mono hm r env h hw
    · rename_i o hi
      simp only [stepE] at hw ⊢
      split at hw
      · exact opH_mono (fun v h' => wpPlan_mono hm r _ h') hw
      · simp only [gop] at hw ⊢
        split at hw
        · split at hw
          · rename_i hb; rw [if_pos hb]; exact opH_mono (fun v h' => wpPlan_mono hm r _ h') hw
          · rename_i hb; rw [if_neg hb]; exact wpPlan_mono hm r _ _ hw
        · exact wpPlan_mono hm r _ _ hw
theorem wpL_mono : ∀ (c : Code) {Q Q' : Post} {env : Env} {h : Heap}, (∀ e env h, Q e env h → Q' e env h) → wpL pc c Q env h → wpL pc c Q' env h := by
  intro c
  induction c with
  | skip => intro Q Q' env h hm hw; exact hm _ _ _ hw
  | region id ops draw =>
    intro Q Q' env h hm hw
    simp only [wpL] at hw ⊢
    cases draw with
    | false => exact wpSeq_mono (hm _) _ _ _ hw
    | true =>
      simp only [cond_true] at hw ⊢
      cases hp : planM pc ops ops.size (Array.replicate ops.size false) with
      | none => rw [hp] at hw; exact hw.elim
      | some l => rw [hp] at hw; exact wpPlan_mono (hm _) _ _ _ hw
  | seq x y ihx ihy =>
    intro Q Q' env h hm hw
    refine ihx ?_ hw
    intro e env h hh
    cases e with
    | normal => exact ihy hm hh
    | _ => exact hm _ _ _ hh
  | cond c x y ihx ihy =>
    intro Q Q' env h hm hw
    simp only [wpL, oCond] at hw ⊢
    split at hw
    · split at hw
      · rename_i hb; rw [if_pos hb]; exact ihx hm hw
      · rename_i hb; rw [if_neg hb]; exact ihy hm hw
    · exact hw
  | block id c ih =>
    intro Q Q' env h hm hw
    refine ih ?_ hw
    intro e env h hh
    cases e with
    | exit id' =>
      simp only [inB] at hh ⊢
      cases hb : Nat.beq id' id with
      | true => rw [hb] at hh; exact hm _ _ _ hh
      | false => rw [hb] at hh; exact hm _ _ _ hh
    | _ => exact hm _ _ _ hh
  | loop c ih =>
    intro Q Q' env h hm hw
    obtain ⟨I, n, h0, hr⟩ := hw
    refine ⟨I, n, h0, fun n env h hI => ih ?_ (hr n env h hI)⟩
    intro e env h hh
    cases e with
    | normal => exact hh
    | _ => exact hm _ _ _ hh
  | exit id => intro Q Q' env h hm hw; exact hm _ _ _ hw
  | ret => intro Q Q' env h hm hw; exact hm _ _ _ hw
  | label l => intro Q Q' env h hm hw; exact hm _ _ _ hw
  | rangeFunc f ps as b => intro Q Q' env h _ hw; exact hw.elim
  | scope c => intro Q Q' env h _ hw; exact hw.elim
  | goto l => intro Q Q' env h _ hw; exact hw.elim
  | refuse s => intro Q Q' env h _ hw; exact hw.elim
theorem wpLs_mono : ∀ (l : List Code) {Q Q' : Post} {env : Env} {h : Heap}, (∀ e env h, Q e env h → Q' e env h) → wpLs pc l Q env h → wpLs pc l Q' env h
  | [], _, _, _, _, hm, hw => hm _ _ _ hw
  | c :: r, Q, Q', env, h, hm, hw => by
    refine wpL_mono c ?_ hw
    intro e env h hh
    cases e with
    | normal => exact wpLs_mono r hm hh
    | _ => exact hm _ _ _ hh
theorem wpLs_append : ∀ (a b : List Code) (Q : Post) (env : Env) (h : Heap), wpLs pc a (thenQ (wpLs pc b Q) Q) env h → wpLs pc (a ++ b) Q env h
  | [], _, _, _, _, hw => hw
  | c :: r, b, Q, env, h, hw => by
    refine wpL_mono c ?_ hw
    intro e env h hh
    cases e with
    | normal => exact wpLs_append r b Q env h hh
    | _ => exact hh
theorem wpL_flat : ∀ (c : Code) (Q : Post) (env : Env) (h : Heap), wpLs pc (flat c) Q env h → wpL pc c Q env h := by
  have one : ∀ (c : Code) (Q : Post) (env : Env) (h : Heap), wpLs pc [c] Q env h → wpL pc c Q env h := by
    intro c Q env h hw
    refine wpL_mono c ?_ hw
    intro e env h hh
    cases e <;> exact hh
  have app : ∀ (a b : List Code) (Q : Post) (env : Env) (h : Heap), wpLs pc (a ++ b) Q env h → wpLs pc a (thenQ (wpLs pc b Q) Q) env h := by
    intro a b Q
    induction a with
    | nil => intro env h hw; exact hw
    | cons c r ih =>
      intro env h hw
      refine wpL_mono c ?_ hw
      intro e env h hh
      cases e with
      | normal => exact ih env h hh
      | _ => exact hh
  intro c
  induction c with
  | seq x y ihx ihy =>
    intro Q env h hw
    refine ihx _ env h (wpLs_mono _ ?_ (app _ _ Q env h hw))
    intro e env h hh
    cases e with
    | normal => exact ihy Q env h hh
    | _ => exact hh
  | _ => intro Q env h hw; exact one _ Q env h hw

theorem Rf.proj (q : LPost) : Rf L q (proj L q) := fun e vs h hc env he => by subst he; exact hc
theorem Rf.then {N : List Value → Heap → Prop} {M : Env → Heap → Prop} {c : LPost} {Q : Post} (hn : RfN L N M) (hc : Rf L c Q) : Rf L (thenL N c) (thenQ M Q) := by
  intro e vs h hh env he
  cases e with
  | normal => exact hn vs h hh env he
  | _ => exact hc _ vs h hh env he
theorem Rf.inB {id : Nat} {c : LPost} {Q : Post} (hc : Rf L c Q) : Rf L (inBL id c) (inB id Q) := by
  intro e vs h hh env he
  cases e with
  | exit id' =>
    simp only [inBL] at hh
    simp only [Fw.inB]
    cases hb : Nat.beq id' id with
    | true => rw [hb] at hh; exact hc _ vs h hh env he
    | false => rw [hb] at hh; exact hc _ vs h hh env he
  | _ => exact hc _ vs h hh env he
/-- A piece without loops, and what follows it. -/
theorem seg_rule {g rest l : List Code} {T N : List Value → Heap → Prop} {c : LPost} {Q : Post} (hl : l = g ++ rest) (ht : ∀ (env : Env) (h : Heap), T (L.map env) h = wpLs pc g (Fw.proj L (thenL N c)) env h)
    (hn : RfN L N (wpLs pc rest Q)) (hc : Rf L c Q) : RfN L T (wpLs pc l Q) := by
  intro vs h hT env he
  subst hl
  subst he
  rw [ht] at hT
  refine wpLs_append _ _ _ _ _ (wpLs_mono _ ?_ hT)
  intro e env2 h2 hh
  exact (Rf.then hn hc) e _ h2 hh env2 rfl
theorem end_rule {N : List Value → Heap → Prop} {Q : Post} {c : LPost} (hc : Rf L c Q) (hN : ∀ vs h, N vs h → c .normal vs h) : RfN L N (wpLs pc [] Q) :=
  fun vs h hh env he => hc _ vs h (hN vs h hh) env he
/-- A block with pieces of its own. -/
theorem block_rule {id : Nat} {b : Code} {rest l : List Code} {T : List Value → Heap → Prop} {Q : Post} (hl : l = .block id b :: rest)
    (hb : RfN L T (wpLs pc (flat b) (inB id (thenQ (wpLs pc rest Q) Q)))) : RfN L T (wpLs pc l Q) := by
  intro vs h hT env he
  subst hl
  exact wpL_flat b _ env h (hb vs h hT env he)
theorem cond_rule {cnd : Operand} {x y : Code} {rest l : List Code} {Tx Ty T : List Value → Heap → Prop} {Q : Post} (hl : l = .cond cnd x y :: rest)
    (ht : ∀ (env : Env) (h : Heap), T (L.map env) h = oCond (env.ev cnd) (Tx (L.map env) h) (Ty (L.map env) h))
    (hx : RfN L Tx (wpLs pc (flat x) (thenQ (wpLs pc rest Q) Q))) (hy : RfN L Ty (wpLs pc (flat y) (thenQ (wpLs pc rest Q) Q))) : RfN L T (wpLs pc l Q) := by
  intro vs h hT env he
  subst hl
  subst he
  rw [ht] at hT
  simp only [oCond] at hT
  simp only [wpLs, wpL, oCond]
  split at hT
  · rename_i b hb
    cases b with
    | true => exact wpL_flat x _ env h (hx _ h (by simpa using hT) env rfl)
    | false => exact wpL_flat y _ env h (hy _ h (by simpa using hT) env rfl)
  · exact hT.elim
/-- A loop, and what follows it. -/
theorem loop_rule {b : Code} {rest l : List Code} {T : List Value → Heap → Prop} {B : LPost → List Value → Heap → Prop} {N : List Value → Heap → Prop} {c : LPost} {Q : Post} (hl : l = .loop b :: rest)
    (ht : ∀ vs h, T vs h → LoopS B (thenL N c) vs h) (hb : ∀ q : LPost, RfN L (B q) (wpLs pc (flat b) (Fw.proj L q)))
    (hn : RfN L N (wpLs pc rest Q)) (hc : Rf L c Q) : RfN L T (wpLs pc l Q) := by
  intro vs h hT env he
  subst hl
  obtain ⟨J, n, h0, hr⟩ := ht vs h hT
  refine ⟨fun n env h => J n (L.map env) h, n, by subst he; exact h0, ?_⟩
  intro n env h hJ
  refine wpL_flat b _ env h (wpLs_mono _ ?_ (hb _ _ h (hr n _ h hJ) env rfl))
  intro e env2 h2 hh
  cases e with
  | normal => exact hh
  | exit i => exact (Rf.then hn hc) (.exit i) (L.map env2) h2 hh env2 rfl
  | goto i => exact (Rf.then hn hc) (.goto i) (L.map env2) h2 hh env2 rfl
  | ret => exact (Rf.then hn hc) .ret (L.map env2) h2 hh env2 rfl
  | panic i => exact (Rf.then hn hc) (.panic i) (L.map env2) h2 hh env2 rfl
  | outgrown => exact (Rf.then hn hc) .outgrown (L.map env2) h2 hh env2 rfl
def envL : List Nat → List Value → Env
  | l :: L, v :: vs, t => cond (Nat.beq l t) v (envL L vs t)
  | _, _, _ => undef
theorem envL_map (env : Env) : ∀ (L : List Nat) (t : Nat), t ∈ L → envL L (L.map env) t = env t
  | [], _, h => by cases h
  | l :: L, t, h => by
    simp only [List.map_cons, envL]
    cases hb : Nat.beq l t with
    | true => rw [Nat.eq_of_beq_eq_true hb]; rfl
    | false =>
      have hne := Nat.ne_of_beq_eq_false hb
      rcases List.mem_cons.1 h with e | e
      · exact absurd e.symm hne
      · exact envL_map env L t e
def resSlot : ResultVar → Nat
  | .tmp t => t
  | .cell a _ => a
def oRes (P : Program) (env : Env) (h : Heap) : List ResultVar → (List Value → Prop) → Prop
  | [], k => k []
  | .tmp t :: r, k => oRes P env h r (fun l => k (env t :: l))
  | .cell a t :: r, k => oLoad (varOf P t) (env a) (fun v _ => oRes P env h r (fun l => k (v :: l))) h
def retL (P : Program) (L : List Nat) (rs : List ResultVar) (K : Kont) : LPost
  | .normal, vs, h | .ret, vs, h => oRes P (envL L vs) h rs (fun l => K (pack l) h)
  | _, _, _ => False
theorem oRes_spec {env : Env} {h : Heap} : ∀ (rs : List ResultVar) (k : List Value → Prop), oRes P env h rs k → ∃ l, resVals P env h rs = some l ∧ k l
  | [], k, hk => ⟨[], rfl, hk⟩
  | .tmp t :: r, k, hk => by
    obtain ⟨l, h1, h2⟩ := oRes_spec r _ hk
    exact ⟨env t :: l, by simp only [resVals, h1], h2⟩
  | .cell a t :: r, k, hk => by
    simp only [oRes, oLoad] at hk
    split at hk
    · rename_i ad had
      split at hk
      · rename_i v hv
        obtain ⟨l, h1, h2⟩ := oRes_spec r _ hk
        exact ⟨v :: l, by simp only [resVals, had, hv, h1], h2⟩
      · exact hk.elim
    · exact hk.elim
theorem resVals_congr {env env' : Env} {h : Heap} : ∀ rs : List ResultVar, (∀ r ∈ rs, env (resSlot r) = env' (resSlot r)) → resVals P env h rs = resVals P env' h rs
  | [], _ => rfl
  | r :: rs, he => by
    have h1 := he r (List.mem_cons_self ..)
    have h2 := resVals_congr (h := h) rs (fun r hr => he r (List.mem_cons_of_mem _ hr))
    cases r with
    | tmp t => simp only [resSlot] at h1; simp only [resVals, h1, h2]
    | cell a t => simp only [resSlot] at h1; simp only [resVals, h1, h2]
theorem Rf.ret {rs : List ResultVar} {K : Kont} (hL : rs.all (fun r => L.contains (resSlot r)) = true) : Rf L (retL P L rs K) (retQ P rs K) := by
  intro e vs h hh env he
  subst he
  have hc : resVals P (envL L (L.map env)) h rs = resVals P env h rs := by
    refine resVals_congr rs (fun r hr => envL_map env L _ ?_)
    have := List.all_eq_true.1 hL r hr
    simpa using this
  have fin : oRes P (envL L (L.map env)) h rs (fun l => K (pack l) h) → oRet (resVals P env h rs) K h := by
    intro ho
    obtain ⟨l, h1, h2⟩ := oRes_spec rs _ ho
    rw [hc] at h1
    rw [h1]
    exact h2
  cases e with
  | normal => exact fin hh
  | ret => exact fin hh
  | _ => exact hh.elim
/-- THE BRIDGE, by pieces. -/
theorem fn_by {f : Nat} {fn : Func} {c : Code} {args : List Value} {h : Heap} {K : Kont} {T : LPost → List Value → Heap → Prop} (pc : Pure P) (hm : P.follows .mixedOrders = true) (hf : P.funcs[f]? = some fn) (hb : fn.body = some c)
    (hc : codeOk fn.ntmps c = true) (hn : Nat.ble args.length fn.ntmps = true) (hL : fn.results.toList.all (fun r => L.contains (resSlot r)) = true)
    (hT : ∀ q : LPost, RfN L (T q) (wpLs pc (flat c) (Fw.proj L q))) (hw : T (retL P L fn.results.toList K) (L.map fun t => args.getD t undef) h) : FnH P f args.toArray h K := by
  refine fn_of (fn := fn) (c := c) pc hm hf hb hc (by simpa using hn) ?_
  refine wpL_flat c _ _ h (wpLs_mono _ ?_ (hT _ _ h hw _ rfl))
  intro e env2 h2 hh
  exact Rf.ret hL e _ h2 hh env2 rfl
/-! ### What the generated texts use -/
def hdB : List Code → Code
  | .block _ b :: _ | .loop b :: _ | .cond _ b _ :: _ => b
  | _ => .skip
def hdC : List Code → Code
  | .cond _ _ b :: _ => b
  | _ => .skip
def hdO : List Code → Operand
  | .cond o _ _ :: _ => o
  | _ => .const undef
theorem seg_rule' (n : Nat) {l : List Code} {T N : List Value → Heap → Prop} {c : LPost} {Q : Post} (ht : ∀ (env : Env) (h : Heap), T (L.map env) h = wpLs pc (l.take n) (Fw.proj L (thenL N c)) env h)
    (hn : RfN L N (wpLs pc (l.drop n) Q)) (hc : Rf L c Q) : RfN L T (wpLs pc l Q) := seg_rule (List.take_append_drop n l).symm ht hn hc
theorem end_rule' {l : List Code} {N : List Value → Heap → Prop} {Q : Post} {c : LPost} (hl : l = []) (hc : Rf L c Q) (hN : ∀ vs h, N vs h → c .normal vs h) : RfN L N (wpLs pc l Q) := by
  subst hl; exact end_rule hc hN
theorem loop_rule' {b : Code} {l : List Code} {T : List Value → Heap → Prop} {B : LPost → List Value → Heap → Prop} {c : LPost} {Q : Post} (hl : l = [.loop b])
    (ht : ∀ vs h, T vs h → LoopS B c vs h) (hb : ∀ q : LPost, RfN L (B q) (wpLs pc (flat b) (Fw.proj L q))) (hc : Rf L c Q) : RfN L T (wpLs pc l Q) := by
  refine loop_rule (rest := []) (N := fun vs h => c .normal vs h) hl (fun vs h hT => ?_) hb (end_rule hc fun _ _ h => h) hc
  have e : thenL (fun vs h => c .normal vs h) c = c := by
    funext e vs h
    cases e <;> rfl
  rw [e]
  exact ht vs h hT
theorem cond_rule' {cnd : Operand} {x y : Code} {rest l : List Code} {Tx Ty T : List Value → Heap → Prop} {Q : Post} (hl : l = .cond cnd x y :: rest)
    (ht : ∀ (env : Env) (h : Heap), T (L.map env) h = oCond (env.ev cnd) (Tx (L.map env) h) (Ty (L.map env) h))
    (hx : RfN L Tx (wpLs pc (flat x) (thenQ (wpLs pc rest Q) Q))) (hy : RfN L Ty (wpLs pc (flat y) (thenQ (wpLs pc rest Q) Q))) : RfN L T (wpLs pc l Q) := cond_rule hl ht hx hy
end
end Go.Fw

/- Laws for walking the pieces: one equation an operation; the simp set is 'go_sem'. -/
namespace Go.Fw

/-! ### Forms that keep the rest of the code closed while it is not reached -/
def oSome (x : Option Value) (K : Value → Prop) : Prop :=
  match x with
  | some v => K v
  | none => False
def oObj (x : Option Obj) (K : Array Value → TypeId → Nat × Nat → Prop) : Prop :=
  match x with
  | some (.cells c t f) => K c t f
  | _ => False
/-- The entries of a map, in order. -/
def mapAt (h : Heap) (r : Nat) : Option (List (Value × Value)) :=
  match h[r]? with
  | some (.map es _) => some (es.toList.map fun e => (e.key, e.val))
  | _ => none
def oMapL (x : Option (List (Value × Value))) (K : List (Value × Value) → Prop) : Prop :=
  match x with
  | some l => K l
  | none => False

@[go_sem] theorem oSome_some {v : Value} {K : Value → Prop} : oSome (some v) K = K v := rfl
@[go_sem] theorem oObj_some {c : Array Value} {t : TypeId} {f : Nat × Nat} {K : Array Value → TypeId → Nat × Nat → Prop} : oObj (some (.cells c t f)) K = K c t f := rfl
@[go_sem] theorem oMapL_some {l : List (Value × Value)} {K : List (Value × Value) → Prop} : oMapL (some l) K = K l := rfl
section
variable {P : Program} {K : Kont} {h : Heap}
@[congr] theorem oSome_congr {x x' : Option Value} {K : Value → Prop} (e : x = x') : oSome x K = oSome x' K := by rw [e]
@[congr] theorem oObj_congr {x x' : Option Obj} {K : Array Value → TypeId → Nat × Nat → Prop} (e : x = x') : oObj x K = oObj x' K := by rw [e]
@[congr] theorem oMapL_congr {x x' : Option (List (Value × Value))} {K : List (Value × Value) → Prop} (e : x = x') : oMapL x K = oMapL x' K := by rw [e]
@[congr] theorem oPick_congr {c c' a a' b b' : Value} (e1 : c = c') (e2 : a = a') (e3 : b = b') : oPick c a b K h = oPick c' a' b' K h := by rw [e1, e2, e3]
@[congr] theorem oAlloc_congr {z z' : Option Value} {t : TypeId} (e1 : z = z') : oAlloc z t K h = oAlloc z' t K h := by rw [e1]
@[congr] theorem oBox_congr {x x' : Value} {t : TypeId} (e1 : x = x') : oBox t x K h = oBox t x' K h := by rw [e1]
@[congr] theorem oBuild_congr {b b' : Option (Value × List (Nat × Nat))} {p p' : List (Nat × Value)} (e1 : b = b') (e2 : p = p') : oBuild b p K h = oBuild b' p' K h := by rw [e1, e2]
@[congr] theorem oBuildSlice_congr {b b' : Option (TypeId × Nat × Nat × Value)} {n : Nat} {p p' : List (Nat × Value)} (e1 : b = b') (e2 : p = p') : oBuildSlice b n p K h = oBuildSlice b' n p' K h := by rw [e1, e2]
@[congr] theorem oLoad_congr {v v' : Var} {x x' : Value} (e1 : v = v') (e2 : x = x') : oLoad v x K h = oLoad v' x' K h := by rw [e1, e2]
@[congr] theorem oStore_congr {v v' : Var} {x x' y y' : Value} (e1 : v = v') (e2 : x = x') (e3 : y = y') : oStore v x y K h = oStore v' x' y' K h := by rw [e1, e2, e3]
@[congr] theorem oNilCheck_congr {x x' : Value} (e2 : x = x') : oNilCheck x K h = oNilCheck x' K h := by rw [e2]
@[congr] theorem oBin_congr {d d' : Option TypeDesc} {op : BinOp} {x x' y y' : Value} (e1 : d = d') (e2 : x = x') (e3 : y = y') : oBin d op x y K h = oBin d' op x' y' K h := by rw [e1, e2, e3]
@[congr] theorem oUn_congr {op : UnOp} {x x' : Value} (e2 : x = x') : oUn op x K h = oUn op x' K h := by rw [e2]
@[congr] theorem oConvert_congr {s s' d d' : Option TypeDesc} {x x' : Value} (e1 : s = s') (e2 : d = d') (e3 : x = x') : oConvert s d x K h = oConvert s' d' x' K h := by rw [e1, e2, e3]
@[congr] theorem oMakeMap_congr {d d' : Option TypeDesc} {r r' : Option Value} (e1 : d = d') (e2 : r = r') : oMakeMap d r K h = oMakeMap d' r' K h := by rw [e1, e2]
@[congr] theorem oMakeSlice_congr {b b' : Option (TypeId × Nat × Nat × Value)} {x x' y y' : Value} (e1 : b = b') (e2 : x = x') (e3 : y = y') : oMakeSlice b x y K h = oMakeSlice b' x' y' K h := by rw [e1, e2, e3]
@[congr] theorem oSlice_congr {d d' : Option TypeDesc} {n n' : Option Nat} {x x' : Value} {lo lo' hi hi' : Option Value} (e1 : d = d') (e2 : n = n') (e3 : x = x') (e4 : lo = lo') (e5 : hi = hi') : oSlice d n x lo hi K h = oSlice d' n' x' lo' hi' K h := by rw [e1, e2, e3, e4, e5]
@[congr] theorem oFieldAddr_congr {o o' : Option Nat} {x x' : Value} (e1 : o = o') (e2 : x = x') : oFieldAddr o x K h = oFieldAddr o' x' K h := by rw [e1, e2]
@[congr] theorem oField_congr {f f' : Var × Nat} {x x' : Value} (e1 : f = f') (e2 : x = x') : oField f x K h = oField f' x' K h := by rw [e1, e2]
@[congr] theorem oIndexAddr_congr {r r' : Rowed} {x x' i i' : Value} (e1 : r = r') (e2 : x = x') (e3 : i = i') : oIndexAddr r x i K h = oIndexAddr r' x' i' K h := by rw [e1, e2, e3]
@[congr] theorem oIndexStr_congr {r r' : Rowed} {x x' i i' : Value} (e1 : r = r') (e2 : x = x') (e3 : i = i') : oIndexStr r x i K h = oIndexStr r' x' i' K h := by rw [e1, e2, e3]
@[congr] theorem oLookup_congr {m m' : Option (TypeDesc × Value)} {ok : Bool} {x x' k k' : Value} (e1 : m = m') (e2 : x = x') (e3 : k = k') : oLookup m ok x k K h = oLookup m' ok x' k' K h := by rw [e1, e2, e3]
@[congr] theorem oMapUpdate_congr {m m' : Option (TypeDesc × Value)} {x x' k k' v v' : Value} (e1 : m = m') (e2 : x = x') (e3 : k = k') (e4 : v = v') : oMapUpdate m x k v K h = oMapUpdate m' x' k' v' K h := by rw [e1, e2, e3, e4]
@[congr] theorem oMapEntry_congr {m m' : Option (TypeDesc × Value)} {x x' k k' : Value} (e1 : m = m') (e2 : x = x') (e3 : k = k') : oMapEntry m x k K h = oMapEntry m' x' k' K h := by rw [e1, e2, e3]
@[congr] theorem oEntryStore_congr {x x' k k' v v' : Value} (e2 : x = x') (e3 : k = k') (e4 : v = v') : oEntryStore x k v K h = oEntryStore x' k' v' K h := by rw [e2, e3, e4]
@[congr] theorem oDelete_congr {m m' : Option (TypeDesc × Value)} {x x' k k' : Value} (e1 : m = m') (e2 : x = x') (e3 : k = k') : oDelete m x k K h = oDelete m' x' k' K h := by rw [e1, e2, e3]
@[congr] theorem oRange_congr {d d' : Option TypeDesc} {x x' : Value} (e1 : d = d') (e2 : x = x') : oRange d x K h = oRange d' x' K h := by rw [e1, e2]
@[congr] theorem oNext_congr {s : Bool} {x x' : Value} (e2 : x = x') : oNext x s K h = oNext x' s K h := by rw [e2]
@[congr] theorem oEntry_congr {x x' : Value} (e2 : x = x') : oEntry x K h = oEntry x' K h := by rw [e2]
@[congr] theorem oExtract_congr {i : Nat} {x x' : Value} (e2 : x = x') : oExtract x i K h = oExtract x' i K h := by rw [e2]
@[congr] theorem oLen_congr {d d' : Option TypeDesc} {x x' : Value} (e1 : d = d') (e2 : x = x') : oLen d x K h = oLen d' x' K h := by rw [e1, e2]
@[congr] theorem oCap_congr {d d' : Option TypeDesc} {x x' : Value} (e1 : d = d') (e2 : x = x') : oCap d x K h = oCap d' x' K h := by rw [e1, e2]
@[congr] theorem oAppend_congr {b b' : Option (TypeId × Nat × Nat × Value)} {x x' y y' : Value} (e1 : b = b') (e2 : x = x') (e3 : y = y') : oAppend b x y K h = oAppend b' x' y' K h := by rw [e1, e2, e3]
@[congr] theorem oCopy_congr {b b' : Option (TypeId × Nat × Nat × Value)} {x x' y y' : Value} (e1 : b = b') (e2 : x = x') (e3 : y = y') : oCopy b x y K h = oCopy b' x' y' K h := by rw [e1, e2, e3]
@[congr] theorem oVal_congr {x x' : Option Value} (e1 : x = x') : oVal x K h = oVal x' K h := by rw [e1]
@[congr] theorem oCallF_congr {f : Nat} {a a' : List Value} (e1 : a = a') : oCallF P f a K h = oCallF P f a' K h := by rw [e1]
@[congr] theorem oCallV_congr {f f' : Value} {a a' : List Value} (e0 : f = f') (e1 : a = a') : oCallV P f a K h = oCallV P f' a' K h := by rw [e0, e1]
@[congr] theorem oPure_congr {pc : Pure P} {f : Nat} {a a' : List Value} (e1 : a = a') : oPure pc f a K h = oPure pc f a' K h := by rw [e1]
@[congr] theorem oCond_congr {x x' : Value} {A B : Prop} (e1 : x = x') : oCond x A B = oCond x' A B := by rw [e1]
@[congr] theorem gop_congr {x x' : Value} {w : Bool} {F : Kont → Heap → Prop} (e1 : x = x') : gop x w F K h = gop x' w F K h := by rw [e1]

/-! ### Ways out -/
@[go_sem] theorem thenL_normal {N : List Value → Heap → Prop} {q : LPost} {vs : List Value} : thenL N q .normal vs h = N vs h := rfl
@[go_sem] theorem thenL_ret {N : List Value → Heap → Prop} {q : LPost} {vs : List Value} : thenL N q .ret vs h = q .ret vs h := rfl
@[go_sem] theorem thenL_exit {N : List Value → Heap → Prop} {q : LPost} {vs : List Value} {i : Nat} : thenL N q (.exit i) vs h = q (.exit i) vs h := rfl
@[go_sem] theorem inBL_normal {q : LPost} {vs : List Value} {i : Nat} : inBL i q .normal vs h = q .normal vs h := rfl
@[go_sem] theorem inBL_ret {q : LPost} {vs : List Value} {i : Nat} : inBL i q .ret vs h = q .ret vs h := rfl
@[go_sem] theorem inBL_same {q : LPost} {vs : List Value} {i : Nat} : inBL i q (.exit i) vs h = q .normal vs h := by simp [inBL]
theorem inBL_other {q : LPost} {vs : List Value} {i j : Nat} (hne : j ≠ i) : inBL i q (.exit j) vs h = q (.exit j) vs h := by
  have : Nat.beq j i = false := by
    cases hb : Nat.beq j i with
    | false => rfl
    | true => exact absurd (Nat.eq_of_beq_eq_true hb) hne
  simp [inBL, this]
/-! ### Heaps -/
theorem get_push_lt {o : Obj} {b : Nat} (hb : b < h.size) : (h.push o)[b]? = h[b]? := by
  rw [Array.getElem?_push_lt hb, Array.getElem?_eq_getElem hb]
theorem get_push_eq {o : Obj} {b : Nat} (hb : b = h.size) : (h.push o)[b]? = some o := by
  subst hb; exact Array.getElem?_push_size
theorem get_set_ne {o : Obj} {b c : Nat} (hb : c ≠ b) : (h.setIfInBounds c o)[b]? = h[b]? := by
  rw [Array.getElem?_setIfInBounds, if_neg hb]
theorem get_set_eq {o : Obj} {b c : Nat} (hc : c = b) (hb : b < h.size) : (h.setIfInBounds c o)[b]? = some o := by
  subst hc; rw [Array.getElem?_setIfInBounds, if_pos rfl, if_pos hb]
@[go_sem] theorem size_push' {o : Obj} : (h.push o).size = h.size + 1 := Array.size_push ..
@[go_sem] theorem size_set' {o : Obj} {b : Nat} : (h.setIfInBounds b o).size = h.size := Array.size_setIfInBounds ..
theorem lt_of_get {b : Nat} {o : Obj} (hb : h[b]? = some o) : b < h.size := by
  rcases Nat.lt_or_ge b h.size with hlt | hge
  · exact hlt
  · rw [Array.getElem?_eq_none hge] at hb; cases hb
theorem addr_add (b o n : Nat) : Addr.add ⟨b, o, none⟩ n = ⟨b, o + n, none⟩ := by
  unfold Addr.add; split
  · rename_i e; subst e; rfl
  · rfl
/-! ### Values -/
@[go_sem] theorem pick_true {a b : Value} : oPick (.bool true) a b K h = K a h := rfl
@[go_sem] theorem pick_false {a b : Value} : oPick (.bool false) a b K h = K b h := rfl
@[go_sem] theorem cond_true' {A B : Prop} : oCond (.bool true) A B = A := rfl
@[go_sem] theorem cond_false' {A B : Prop} : oCond (.bool false) A B = B := rfl
theorem cond_cases {t : Bool} {A B : Prop} (ha : t = true → A) (hb : t = false → B) : oCond (.bool t) A B := by
  cases t
  · exact hb rfl
  · exact ha rfl
@[go_sem] theorem gop_tt {F : Kont → Heap → Prop} : gop (.bool true) true F K h = F K h := rfl
@[go_sem] theorem gop_ff {F : Kont → Heap → Prop} : gop (.bool false) false F K h = F K h := rfl
@[go_sem] theorem gop_tf {F : Kont → Heap → Prop} : gop (.bool true) false F K h = K undef h := rfl
@[go_sem] theorem gop_ft {F : Kont → Heap → Prop} : gop (.bool false) true F K h = K undef h := rfl
@[go_sem] theorem gop_undef {w : Bool} {F : Kont → Heap → Prop} : gop undef w F K h = K undef h := rfl
theorem gop_cases {t w : Bool} {F : Kont → Heap → Prop} (h1 : t = w → F K h) (h2 : t = (!w) → K undef h) : gop (.bool t) w F K h := by
  cases t <;> cases w <;> first | exact h1 rfl | exact h2 rfl
@[go_sem] theorem nil_ptr {a : Addr} : oNilCheck (.pointer (some a)) K h = K (.pointer (some a)) h := rfl
@[go_sem] theorem un_not {b : Bool} : oUn .not (.bool b) K h = K (.bool (!b)) h := rfl
@[go_sem] theorem un_neg {k : IntKind} {n : Int} : oUn .neg (.int k n) K h = K (.int k (k.wrap (0 - n))) h := rfl
@[go_sem] theorem extract_0 {a : Value} {l : List Value} : oExtract (.tuple ⟨a :: l⟩) 0 K h = K a h := rfl
@[go_sem] theorem extract_1 {a b : Value} {l : List Value} : oExtract (.tuple ⟨a :: b :: l⟩) 1 K h = K b h := rfl
@[go_sem] theorem extract_2 {a b c : Value} {l : List Value} : oExtract (.tuple ⟨a :: b :: c :: l⟩) 2 K h = K c h := rfl
@[go_sem] theorem fieldAddr_some {b o n : Nat} : oFieldAddr (some n) (.pointer (some ⟨b, o, none⟩)) K h = K (.pointer (some ⟨b, o + n, none⟩)) h := by
  show K (.pointer (some (Addr.add ⟨b, o, none⟩ n))) h = _
  rw [addr_add]
@[go_sem] theorem oVal_some {v : Value} : oVal (some v) K h = K v h := rfl
@[go_sem] theorem minI_2 {k k' : IntKind} {a b : Int} : minI [.int k a, .int k' b] = some (.int k (if b < a then b else a)) := rfl
@[go_sem] theorem maxI_2 {k k' : IntKind} {a b : Int} : maxI [.int k a, .int k' b] = some (.int k (if b > a then b else a)) := rfl
@[go_sem] theorem minS_2 {a b : ByteArray} : minI [.string a, .string b] = some (.string (if lessB a b || decide (a = b) then a else b)) := rfl
/-! ### Integers -/
section
variable {d : Option TypeDesc} {a b : Int} {k : IntKind}
@[go_sem] theorem bin_lss : oBin d .lss (.int k a) (.int k b) K h = K (.bool (decide (a < b))) h := by simp [oBin, binV, binI]
@[go_sem] theorem bin_leq : oBin d .leq (.int k a) (.int k b) K h = K (.bool (decide (a ≤ b))) h := by simp [oBin, binV, binI]
@[go_sem] theorem bin_gtr : oBin d .gtr (.int k a) (.int k b) K h = K (.bool (decide (b < a))) h := by simp [oBin, binV, binI]
@[go_sem] theorem bin_geq : oBin d .geq (.int k a) (.int k b) K h = K (.bool (decide (b ≤ a))) h := by simp [oBin, binV, binI]
@[go_sem] theorem bin_eql : oBin d .eql (.int k a) (.int k b) K h = K (.bool (decide (a = b))) h := by simp [oBin, binV, binI]
@[go_sem] theorem bin_neq : oBin d .neq (.int k a) (.int k b) K h = K (.bool (!decide (a = b))) h := by simp [oBin, binV, binI]
theorem bin_add_in (h1 : -9223372036854775808 ≤ a + b) (h2 : a + b ≤ 9223372036854775807) : oBin d .add (.int .i64 a) (.int .i64 b) K h = K (.int .i64 (a + b)) h := by
  simp [oBin, binV, binI, IntWalk.i64_in _ ⟨h1, h2⟩]
theorem bin_sub_in (h1 : -9223372036854775808 ≤ a - b) (h2 : a - b ≤ 9223372036854775807) : oBin d .sub (.int .i64 a) (.int .i64 b) K h = K (.int .i64 (a - b)) h := by
  simp [oBin, binV, binI, IntWalk.i64_in _ ⟨h1, h2⟩]
theorem bin_add : oBin d .add (.int .i64 a) (.int .i64 b) K h = K (.int .i64 (IntKind.i64.wrap (a + b))) h := by simp [oBin, binV, binI]
theorem bin_sub : oBin d .sub (.int .i64 a) (.int .i64 b) K h = K (.int .i64 (IntKind.i64.wrap (a - b))) h := by simp [oBin, binV, binI]
theorem bin_mul : oBin d .mul (.int .i64 a) (.int .i64 b) K h = K (.int .i64 (IntKind.i64.wrap (a * b))) h := by simp [oBin, binV, binI]
@[go_sem] theorem bin_rem (hb : b ≠ 0) : oBin d .rem (.int k a) (.int k b) K h = K (.int k (a.tmod b)) h := by simp [oBin, binV, binI, hb]
@[go_sem] theorem bin_quo (hb : b ≠ 0) : oBin d .quo (.int k a) (.int k b) K h = K (.int k (k.wrap (a.tdiv b))) h := by simp [oBin, binV, binI, hb]
end
/-! ### Strings -/
section
variable {d : Option TypeDesc} {a b : ByteArray}
@[go_sem] theorem sbin_eql : oBin d .eql (.string a) (.string b) K h = K (.bool (decide (a = b))) h := by simp [oBin, binV, binS]
@[go_sem] theorem sbin_neq : oBin d .neq (.string a) (.string b) K h = K (.bool (!decide (a = b))) h := by simp [oBin, binV, binS]
@[go_sem] theorem sbin_lss : oBin d .lss (.string a) (.string b) K h = K (.bool (lessB a b)) h := by simp [oBin, binV, binS]
@[go_sem] theorem sbin_leq : oBin d .leq (.string a) (.string b) K h = K (.bool (lessB a b || decide (a = b))) h := by simp [oBin, binV, binS]
@[go_sem] theorem sbin_gtr : oBin d .gtr (.string a) (.string b) K h = K (.bool (!(lessB a b || decide (a = b)))) h := by simp [oBin, binV, binS]
@[go_sem] theorem sbin_geq : oBin d .geq (.string a) (.string b) K h = K (.bool (!lessB a b)) h := by simp [oBin, binV, binS]
@[go_sem] theorem len_str : oLen (some .string) (.string a) K h = K (.int .i64 a.size) h := rfl
end
/-! ### Others compared with nil -/
@[go_sem] theorem map_eq_nil {k e : TypeId} {a : Option Nat} : oBin (some (.map k e)) .eql (.map a) (.map none) K h = K (.bool a.isNone) h := by
  cases a <;> simp [oBin, binV, eqV]
@[go_sem] theorem map_ne_nil {k e : TypeId} {a : Option Nat} : oBin (some (.map k e)) .neq (.map a) (.map none) K h = K (.bool (!a.isNone)) h := by
  cases a <;> simp [oBin, binV, eqV]
@[go_sem] theorem ptr_eq_nil {e : TypeId} {a : Option Addr} : oBin (some (.pointer e)) .eql (.pointer a) (.pointer none) K h = K (.bool a.isNone) h := by
  cases a <;> simp [oBin, binV, eqV]
@[go_sem] theorem ptr_ne_nil {e : TypeId} {a : Option Addr} : oBin (some (.pointer e)) .neq (.pointer a) (.pointer none) K h = K (.bool (!a.isNone)) h := by
  cases a <;> simp [oBin, binV, eqV]
@[go_sem] theorem slice_eq_nil {e : TypeId} {a : Option Addr} {n c : Nat} : oBin (some (.slice e)) .eql (.slice a n c) (.slice none 0 0) K h = K (.bool a.isNone) h := by
  cases a <;> simp [oBin, binV, eqV]
@[go_sem] theorem bool_eql {a b : Bool} : oBin (some .bool) .eql (.bool a) (.bool b) K h = K (.bool (a == b)) h := by simp [oBin, binV, eqV]
@[go_sem] theorem bool_neq {a b : Bool} : oBin (some .bool) .neq (.bool a) (.bool b) K h = K (.bool (!(a == b))) h := by simp [oBin, binV, eqV]
/-! ### Memory -/
def rowAt (h : Heap) (b : Nat) : Option (Array Value) :=
  match h[b]? with
  | some (.cells c _ _) => some c
  | _ => none
def cellAt (h : Heap) (b o : Nat) : Option Value := (rowAt h b).bind (·[o]?)
def oRow (x : Option (Array Value)) (K : Array Value → Prop) : Prop :=
  match x with
  | some c => K c
  | none => False
@[go_sem] theorem oRow_some {c : Array Value} {K : Array Value → Prop} : oRow (some c) K = K c := rfl
@[congr] theorem oRow_congr {x x' : Option (Array Value)} {K : Array Value → Prop} (e : x = x') : oRow x K = oRow x' K := by rw [e]
@[go_sem] theorem load_one {b o : Nat} : oLoad .one (.pointer (some ⟨b, o, none⟩)) K h = oSome (cellAt h b o) (fun v => K v h) := by
  simp only [oLoad, readVar, cellH, cellAt, rowAt]
  cases h[b]? with
  | none => rfl
  | some x => cases x <;> rfl
theorem load_agg {b o n : Nat} : oLoad (.agg n) (.pointer (some ⟨b, o, none⟩)) K h = oRow (rowAt h b) (fun c => o + n ≤ c.size ∧ K (.agg (c.extract o (o + n))) h) := by
  simp only [oLoad, readVar, rowAt]
  cases h[b]? with
  | none => rfl
  | some x =>
    cases x <;> try rfl
    rename_i c t f
    simp only [oRow, Option.isNone_none, Bool.true_and, Nat.ble_eq]
    by_cases hc : o + n ≤ c.size <;> simp [hc]
theorem rowAt_of {b : Nat} {c : Array Value} {t : TypeId} {f : Nat × Nat} (hb : h[b]? = some (.cells c t f)) : rowAt h b = some c := by simp only [rowAt, hb]
theorem cellAt_of {b : Nat} {c : Array Value} {t : TypeId} {f : Nat × Nat} (hb : h[b]? = some (.cells c t f)) (o : Nat) : cellAt h b o = c[o]? := by simp only [cellAt, rowAt, hb, Option.bind_some]
theorem rowAt_push_lt {o : Obj} {b : Nat} (hb : b < h.size) : rowAt (h.push o) b = rowAt h b := by simp only [rowAt, get_push_lt hb]
theorem rowAt_push_eq {b : Nat} {c : Array Value} {t : TypeId} {f : Nat × Nat} (hb : b = h.size) : rowAt (h.push (.cells c t f)) b = some c := by simp only [rowAt, get_push_eq hb]
theorem rowAt_set_ne {o : Obj} {b c : Nat} (hb : c ≠ b) : rowAt (h.setIfInBounds c o) b = rowAt h b := by simp only [rowAt, get_set_ne hb]
theorem rowAt_set_eq {b c : Nat} {cs : Array Value} {t : TypeId} {f : Nat × Nat} (hc : c = b) (hb : b < h.size) : rowAt (h.setIfInBounds c (.cells cs t f)) b = some cs := by simp only [rowAt, get_set_eq hc hb]
theorem cellAt_push_lt {o : Obj} {b i : Nat} (hb : b < h.size) : cellAt (h.push o) b i = cellAt h b i := by simp only [cellAt, rowAt_push_lt hb]
theorem cellAt_push_eq {b i : Nat} {c : Array Value} {t : TypeId} {f : Nat × Nat} (hb : b = h.size) : cellAt (h.push (.cells c t f)) b i = c[i]? := by simp only [cellAt, rowAt_push_eq hb, Option.bind_some]
theorem cellAt_set_ne {o : Obj} {b c i : Nat} (hb : c ≠ b) : cellAt (h.setIfInBounds c o) b i = cellAt h b i := by simp only [cellAt, rowAt_set_ne hb]
theorem cellAt_set_eq {b c i : Nat} {cs : Array Value} {t : TypeId} {f : Nat × Nat} (hc : c = b) (hb : b < h.size) : cellAt (h.setIfInBounds c (.cells cs t f)) b i = cs[i]? := by simp only [cellAt, rowAt_set_eq hc hb, Option.bind_some]
theorem lt_of_row {b : Nat} {c : Array Value} (hb : rowAt h b = some c) : b < h.size := by
  unfold rowAt at hb
  split at hb
  · rename_i e; exact lt_of_get e
  · cases hb
theorem lt_of_cell {b o : Nat} {v : Value} (hb : cellAt h b o = some v) : b < h.size := by
  unfold cellAt at hb
  cases hr : rowAt h b with
  | none => rw [hr] at hb; cases hb
  | some c => exact lt_of_row hr
theorem cellAt_congr {h h' : Heap} {b : Nat} (hb : h'[b]? = h[b]?) (o : Nat) : cellAt h' b o = cellAt h b o := by simp only [cellAt, rowAt, hb]
/-- A struct read cell by cell. -/
theorem load_cells {b o n : Nat} (vs : List Value) (hn : vs.length = n) (h0 : 0 < n) (hc : ∀ j, j < n → cellAt h b (o + j) = vs[j]?) (hk : K (.agg vs.toArray) h) : oLoad (.agg n) (.pointer (some ⟨b, o, none⟩)) K h := by
  rw [load_agg]
  unfold cellAt at hc
  cases hr : rowAt h b with
  | none =>
    have := hc 0 h0
    rw [hr, List.getElem?_eq_getElem (by omega)] at this
    cases this
  | some c =>
    simp only [hr, Option.bind_some] at hc
    have hlast := hc (n - 1) (by omega)
    rw [List.getElem?_eq_getElem (by omega)] at hlast
    have hlt : o + (n - 1) < c.size := (Array.getElem?_eq_some_iff.1 hlast).1
    refine ⟨by omega, ?_⟩
    have e : c.extract o (o + n) = vs.toArray := by
      apply Array.ext'
      apply List.ext_getElem?
      intro j
      by_cases hj : j < n
      · rw [Array.getElem?_toList, Array.getElem?_extract, if_pos (by omega), hc j hj]
      · rw [List.getElem?_eq_none (by simp; omega), List.getElem?_eq_none (by simp; omega)]
    rw [e]; exact hk
theorem store_one' {b o : Nat} {c : Array Value} {t : TypeId} {v : Value} (hb : h[b]? = some (.cells c t (0, 0))) (ho : o < c.size) (hv : oneC v = true)
    (hk : K undef (h.setIfInBounds b (.cells (c.setIfInBounds o v) t (0, 0)))) : oStore .one (.pointer (some ⟨b, o, none⟩)) v K h := by
  have hc : v.cells = #[v] := by cases v <;> first | rfl | (simp [oneC] at hv)
  have hle : o + 1 ≤ c.size := ho
  simpa [oStore, Var.good, Var.size, hc, storeH, hb, hle, hv, wrCells] using hk
/-- A store asks that the block be written freely. -/
def oWr (x : Option Obj) (K : Array Value → TypeId → Prop) : Prop :=
  match x with
  | some (.cells c t (0, 0)) => K c t
  | _ => False
@[go_sem] theorem oWr_some {c : Array Value} {t : TypeId} {K : Array Value → TypeId → Prop} : oWr (some (.cells c t (0, 0))) K = K c t := rfl
@[congr] theorem oWr_congr {x x' : Option Obj} {K : Array Value → TypeId → Prop} (e : x = x') : oWr x K = oWr x' K := by rw [e]
theorem oWr_elim {x : Option Obj} {K : Array Value → TypeId → Prop} (hk : oWr x K) : ∃ c t, x = some (.cells c t (0, 0)) ∧ K c t := by
  unfold oWr at hk
  split at hk
  · exact ⟨_, _, rfl, hk⟩
  · exact hk.elim
theorem store_one {b o : Nat} {v : Value} (hk : oWr h[b]? (fun c t => o < c.size ∧ oneC v = true ∧ K undef (h.setIfInBounds b (.cells (c.setIfInBounds o v) t (0, 0))))) :
    oStore .one (.pointer (some ⟨b, o, none⟩)) v K h := by
  obtain ⟨c, t, hb, ho, hv, hk⟩ := oWr_elim hk
  exact store_one' hb ho hv hk
theorem wrCells_all : ∀ (vs : List Value) (pre : List Value) (c : List Value), c.length = vs.length → wrCells ⟨pre ++ c⟩ pre.length vs = ⟨pre ++ vs⟩
  | [], pre, c, hl => by
    have : c = [] := List.eq_nil_of_length_eq_zero hl
    subst this; rfl
  | v :: r, pre, c, hl => by
    match c, hl with
    | x :: c', hl =>
      simp only [wrCells]
      have h1 : (⟨pre ++ x :: c'⟩ : Array Value).setIfInBounds pre.length v = ⟨(pre ++ [v]) ++ c'⟩ := by
        apply Array.ext'
        simp
      rw [h1, show pre.length + 1 = (pre ++ [v]).length from by simp, wrCells_all r (pre ++ [v]) c' (by simpa using hl)]
      simp
theorem store_all' {b n : Nat} {c x : Array Value} {t : TypeId} (hb : h[b]? = some (.cells c t (0, 0))) (hc : c.size = n) (hx : x.size = n) (h1 : x.toList.all oneC = true) :
    oStore (.agg n) (.pointer (some ⟨b, 0, none⟩)) (.agg x) K h = K undef (h.setIfInBounds b (.cells x t (0, 0))) := by
  have hw : wrCells c 0 x.toList = x := by
    have := wrCells_all x.toList [] c.toList (by simp [hc, hx])
    simpa using this
  have hs : storeH h ⟨b, 0, none⟩ x.toList = some (h.setIfInBounds b (.cells x t (0, 0))) := by
    have hle : Nat.ble (0 + x.toList.length) c.size = true := by simp [hc, hx]
    simp only [storeH, hb, hle, h1, Option.isNone_none, Bool.and_self, if_true, hw]
  simp only [oStore, Value.cells, hs, Var.good, Var.size, hx, true_and]
theorem store_all {b n : Nat} {x : Array Value} (hk : oWr h[b]? (fun c t => c.size = n ∧ x.size = n ∧ x.toList.all oneC = true ∧ K undef (h.setIfInBounds b (.cells x t (0, 0))))) :
    oStore (.agg n) (.pointer (some ⟨b, 0, none⟩)) (.agg x) K h := by
  obtain ⟨c, t, hb, hc, hx, h1, hk⟩ := oWr_elim hk
  rw [store_all' hb hc hx h1]
  exact hk
theorem alloc_some {z : Value} {t : TypeId} : oAlloc (some z) t K h = K (.pointer (some ⟨h.size, 0, none⟩)) (h.push (.cells z.cells t)) := rfl
theorem box_agg {x : Array Value} {t : TypeId} : oBox t (.agg x) K h = K (.pointer (some ⟨h.size, 0, none⟩)) (h.push (.cells x t)) := rfl
@[go_sem] theorem makeMap_none {d : Option TypeDesc} : oMakeMap d none K h = K (.map (some h.size)) (h.push (.map #[] 0)) := rfl
@[go_sem] theorem makeMap_some {k e : TypeId} {q : IntKind} {n : Int} : oMakeMap (some (.map k e)) (some (.int q n)) K h = K (.map (some h.size)) (h.push (.map #[] 0)) := rfl
@[go_sem] theorem cells_agg {x : Array Value} : (Value.agg x).cells = x := rfl
@[go_sem] theorem oneC_int {k : IntKind} {n : Int} : oneC (.int k n) = true := rfl
@[go_sem] theorem oneC_bool {b : Bool} : oneC (.bool b) = true := rfl
@[go_sem] theorem oneC_string {s : ByteArray} : oneC (.string s) = true := rfl
@[go_sem] theorem oneC_pointer {a : Option Addr} : oneC (.pointer a) = true := rfl
@[go_sem] theorem oneC_slice {a : Option Addr} {n c : Nat} : oneC (.slice a n c) = true := rfl
@[go_sem] theorem oneC_map {a : Option Nat} : oneC (.map a) = true := rfl
@[go_sem] theorem oneC_func {f : Go.Fn} {a b : Array Value} : oneC (.func f a b) = true := rfl
/-! ### Slices -/
@[go_sem] theorem len_slice {e : TypeId} {a : Option Addr} {n c : Nat} : oLen (some (.slice e)) (.slice a n c) K h = K (.int .i64 n) h := rfl
@[go_sem] theorem cap_slice {e : TypeId} {a : Option Addr} {n c : Nat} : oCap (some (.slice e)) (.slice a n c) K h = K (.int .i64 c) h := rfl
theorem index_slice {b o n len cap : Nat} {k : IntKind} {i : Int} (h0 : 0 ≤ i) (h1 : i < len) : oIndexAddr (.slice n) (.slice (some ⟨b, o, none⟩) len cap) (.int k i) K h = K (.pointer (some ⟨b, o + i.toNat * n, none⟩)) h := by
  simp [oIndexAddr, h0, h1, addr_add]
@[go_sem] theorem callF {f : Nat} {args : List Value} : oCallF P f args K h = FnH P f args.toArray h K := rfl
end
end Go.Fw

/- Slices that read as rows of cells. -/
namespace Go.Fw

/-- The slice value v holds these rows, of sz cells each, in a block that meets S. -/
def RowsR (S : Nat → Prop) (h : Heap) (v : Value) (sz : Nat) (rows : List (List Value)) : Prop :=
  ∃ (a : Option Addr) (cap : Nat), v = .slice a rows.length cap ∧ rows.length ≤ cap ∧ (∀ r ∈ rows, r.length = sz) ∧
    (0 < rows.length → ∃ b o, a = some ⟨b, o, none⟩ ∧ S b ∧ ∀ i j, i < rows.length → j < sz → cellAt h b (o + i * sz + j) = (rows[i]?).bind (·[j]?))
section
variable {S S' : Nat → Prop} {h h' : Heap} {v : Value} {sz : Nat} {rows : List (List Value)}
theorem RowsR.keep (hr : RowsR S h v sz rows) (hk : ∀ b, S b → h'[b]? = h[b]?) : RowsR S h' v sz rows := by
  obtain ⟨a, cap, hv, hc, hl, hx⟩ := hr
  refine ⟨a, cap, hv, hc, hl, fun h0 => ?_⟩
  obtain ⟨b, o, ha, hs, hcell⟩ := hx h0
  exact ⟨b, o, ha, hs, fun i j hi hj => by rw [cellAt_congr (hk b hs)]; exact hcell i j hi hj⟩
theorem RowsR.weaken (hr : RowsR S h v sz rows) (hk : ∀ b, S b → S' b) : RowsR S' h v sz rows := by
  obtain ⟨a, cap, hv, hc, hl, hx⟩ := hr
  refine ⟨a, cap, hv, hc, hl, fun h0 => ?_⟩
  obtain ⟨b, o, ha, hs, hcell⟩ := hx h0
  exact ⟨b, o, ha, hk b hs, hcell⟩
theorem RowsR.nil : RowsR S h (.slice none 0 0) sz [] := ⟨none, 0, rfl, Nat.le_refl _, by simp, fun h0 => absurd h0 (Nat.lt_irrefl 0)⟩
theorem RowsR.val (hr : RowsR S h v sz rows) : ∃ a cap, v = .slice a rows.length cap := by
  obtain ⟨a, cap, hv, _⟩ := hr
  exact ⟨a, cap, hv⟩
/-- Where it lies, once there is a row. -/
theorem RowsR.at_ (hr : RowsR S h v sz rows) {k : Nat} (hk : k < rows.length) : ∃ b o cap, v = .slice (some ⟨b, o, none⟩) rows.length cap ∧ S b ∧
    ∀ i j, i < rows.length → j < sz → cellAt h b (o + i * sz + j) = (rows[i]?).bind (·[j]?) := by
  obtain ⟨a, cap, hv, _, _, hx⟩ := hr
  obtain ⟨b, o, ha, hs, hcell⟩ := hx (by omega)
  subst ha
  exact ⟨b, o, cap, hv, hs, hcell⟩
theorem RowsR.len (hr : RowsR S h v sz rows) {r : List Value} (hm : r ∈ rows) : r.length = sz := by
  obtain ⟨a, cap, hv, hc, hl, _⟩ := hr
  exact hl r hm
end
/-- A slice of strings. -/
def strRow (s : ByteArray) : List Value := [.string s]
abbrev Strs (S : Nat → Prop) (h : Heap) (v : Value) (l : List ByteArray) : Prop := RowsR S h v 1 (l.map strRow)
theorem Strs.val {S : Nat → Prop} {h : Heap} {v : Value} {l : List ByteArray} (hr : Strs S h v l) : ∃ a cap, v = .slice a l.length cap := by
  obtain ⟨a, cap, e⟩ := RowsR.val hr
  exact ⟨a, cap, by simpa using e⟩
theorem Strs.at_ {S : Nat → Prop} {h : Heap} {v : Value} {l : List ByteArray} (hr : Strs S h v l) {k : Nat} (hk : k < l.length) : ∃ b o cap, v = .slice (some ⟨b, o, none⟩) l.length cap ∧ S b ∧
    ∀ i (hi : i < l.length), cellAt h b (o + i) = some (.string l[i]) := by
  obtain ⟨b, o, cap, hv, hs, hc⟩ := RowsR.at_ hr (k := k) (by simpa using hk)
  refine ⟨b, o, cap, by simpa using hv, hs, fun i hi => ?_⟩
  have := hc i 0 (by simpa using hi) (by omega)
  simpa [strRow, hi] using this
end Go.Fw

/- Maps as lists of pairs. -/
namespace Go.Fw

def findV (d : TypeDesc) (k : Value) : List (Value × Value) → Option (Option Value)
  | [] => some none
  | (k', v) :: r => match Instr.sameNow d k k' with
    | some true => some (some v)
    | some false => findV d k r
    | none => none
def setFirst (d : TypeDesc) (k v : Value) : List (Value × Value) → List (Value × Value)
  | [] => []
  | (k', v') :: r => match Instr.sameNow d k k' with
    | some true => (k, v) :: r
    | _ => (k', v') :: setFirst d k v r
def delFirst (d : TypeDesc) (k : Value) : List (Value × Value) → List (Value × Value)
  | [] => []
  | (k', v') :: r => match Instr.sameNow d k k' with
    | some true => r
    | _ => (k', v') :: delFirst d k r
def putV (d : TypeDesc) (k v : Value) (l : List (Value × Value)) : List (Value × Value) :=
  match findV d k l with
  | some none => l ++ [(k, v)]
  | some (some _) => setFirst d k v l
  | none => l
def delV (d : TypeDesc) (k : Value) (l : List (Value × Value)) : List (Value × Value) :=
  match findV d k l with
  | some (some _) => delFirst d k l
  | _ => l
def kv (e : MapEntry) : Value × Value := (e.key, e.val)
/-- The heap behind m[k] = v. -/
def mapPut (d : TypeDesc) (h : Heap) (r : Nat) (k v : Value) : Heap :=
  match h[r]? with
  | some (.map es clock) => match Instr.findNow d k es.toList 0 with
    | some (some (i, _)) => h.setIfInBounds r (.map (es.modify i fun e => { e with key := k, val := v }) clock)
    | some none => h.setIfInBounds r (.map (es.push { key := k, val := v, born := clock }) (clock + 1))
    | none => h
  | _ => h
def mapDel (d : TypeDesc) (h : Heap) (r : Nat) (k : Value) : Heap :=
  match h[r]? with
  | some (.map es clock) => match Instr.findNow d k es.toList 0 with
    | some (some (i, _)) => h.setIfInBounds r (.map (es.eraseIdxIfInBounds i) clock)
    | _ => h
  | _ => h
def bornsOk (es : Array MapEntry) (clock : Nat) : Prop := (∀ e ∈ es.toList, e.born < clock) ∧ (es.toList.map (·.born)).Nodup
def bornOk (h : Heap) (r : Nat) : Prop := ∃ es clock, h[r]? = some (.map es clock) ∧ bornsOk es clock

theorem findNow_kv (d : TypeDesc) (k : Value) : ∀ (es : List MapEntry) (n : Nat),
    Instr.findNow d k es n = none ∧ findV d k (es.map kv) = none ∨
    Instr.findNow d k es n = some none ∧ findV d k (es.map kv) = some none ∨
    ∃ i v, Instr.findNow d k es n = some (some (n + i, v)) ∧ findV d k (es.map kv) = some (some v) ∧ i < es.length ∧
      (∀ v', setFirst d k v' (es.map kv) = (es.modify i fun e => { e with key := k, val := v' }).map kv) ∧ delFirst d k (es.map kv) = (es.eraseIdx i).map kv
  | [], n => .inr (.inl ⟨rfl, rfl⟩)
  | e :: r, n => by
    simp only [Instr.findNow, List.map_cons, kv, findV]
    cases hs : Instr.sameNow d k e.key with
    | none => exact .inl ⟨rfl, rfl⟩
    | some b =>
      cases b with
      | true =>
        refine .inr (.inr ⟨0, e.val, rfl, rfl, by simp, fun v' => ?_, ?_⟩)
        · simp [setFirst, hs, kv]
        · simp only [delFirst, hs, List.eraseIdx_zero, List.tail_cons]
      | false =>
        rcases findNow_kv d k r (n + 1) with ⟨h1, h2⟩ | ⟨h1, h2⟩ | ⟨i, v, h1, h2, h3, h4, h5⟩
        · exact .inl ⟨h1, h2⟩
        · exact .inr (.inl ⟨h1, h2⟩)
        · refine .inr (.inr ⟨i + 1, v, ?_, h2, by simpa using h3, fun v' => ?_, ?_⟩)
          · simp only [h1]
            rw [Nat.add_assoc, Nat.add_comm 1 i]
          · simp only [setFirst, hs]
            have := h4 v'
            simp only [List.modify_succ_cons, List.map_cons]
            exact congrArg _ this
          · simp only [delFirst, hs, List.eraseIdx_cons_succ, List.map_cons]
            exact congrArg _ h5

def oFind (x : Option (Option Value)) (F : Option Value → Prop) : Prop :=
  match x with
  | some y => F y
  | none => False
@[go_sem] theorem oFind_some {y : Option Value} {F : Option Value → Prop} : oFind (some y) F = F y := rfl
@[congr] theorem oFind_congr {x x' : Option (Option Value)} {F : Option Value → Prop} (e : x = x') : oFind x F = oFind x' F := by rw [e]
section
variable {K : Kont} {h : Heap} {d : TypeDesc} {z k v : Value} {r b : Nat} {ok : Bool}
theorem mapAt_def {es : Array MapEntry} {clock : Nat} (hr : h[r]? = some (.map es clock)) : mapAt h r = some (es.toList.map kv) := by simp only [mapAt, hr]; rfl
@[go_sem] theorem lookup_nil {m : TypeDesc × Value} : oLookup (some m) ok (.map none) k K h = K (lk ok m.2 false) h := rfl
theorem lookup_some : oLookup (some (d, z)) ok (.map (some r)) k K h = oMapL (mapAt h r) (fun l => oFind (findV d k l) (fun x => K (lk ok (x.getD z) x.isSome) h)) := by
  unfold oLookup mapAt
  cases hr : h[r]? with
  | none => simp only [hr, oMapL]
  | some o =>
    cases o <;> try (simp only [hr, oMapL]; done)
    rename_i es clock
    have hkv : (es.toList.map fun e => (e.key, e.val)) = es.toList.map kv := rfl
    simp only [hr, oMapL, hkv]
    rcases findNow_kv d k es.toList 0 with ⟨h1, h2⟩ | ⟨h1, h2⟩ | ⟨i, v, h1, h2, _⟩ <;> simp only [h1, h2, oFind] <;> rfl
theorem update_some : oMapUpdate (some (d, z)) (.map (some r)) k v K h = oMapL (mapAt h r) (fun l => oFind (findV d k l) (fun _ => K undef (mapPut d h r k v))) := by
  unfold oMapUpdate mapPut mapAt
  cases hr : h[r]? with
  | none => simp only [hr, oMapL]
  | some o =>
    cases o <;> try (simp only [hr, oMapL]; done)
    rename_i es clock
    have hkv : (es.toList.map fun e => (e.key, e.val)) = es.toList.map kv := rfl
    simp only [hr, oMapL, hkv]
    rcases findNow_kv d k es.toList 0 with ⟨h1, h2⟩ | ⟨h1, h2⟩ | ⟨i, v', h1, h2, _⟩ <;> simp only [h1, h2, oFind] <;> rfl
@[go_sem] theorem delete_nil {m : TypeDesc × Value} : oDelete (some m) (.map none) k K h = K (.tuple #[]) h := rfl
theorem delete_some : oDelete (some (d, z)) (.map (some r)) k K h = oMapL (mapAt h r) (fun l => oFind (findV d k l) (fun _ => K (.tuple #[]) (mapDel d h r k))) := by
  unfold oDelete mapDel mapAt
  cases hr : h[r]? with
  | none => simp only [hr, oMapL]
  | some o =>
    cases o <;> try (simp only [hr, oMapL]; done)
    rename_i es clock
    have hkv : (es.toList.map fun e => (e.key, e.val)) = es.toList.map kv := rfl
    simp only [hr, oMapL, hkv]
    rcases findNow_kv d k es.toList 0 with ⟨h1, h2⟩ | ⟨h1, h2⟩ | ⟨i, v', h1, h2, _⟩ <;> simp only [h1, h2, oFind] <;> rfl
@[go_sem] theorem len_map_nil {a e : TypeId} : oLen (some (.map a e)) (.map none) K h = K (.int .i64 0) h := rfl
theorem len_map {a e : TypeId} : oLen (some (.map a e)) (.map (some r)) K h = oMapL (mapAt h r) (fun l => K (.int .i64 l.length) h) := by
  unfold oLen mapAt
  cases hr : h[r]? with
  | none => simp only [hr, oMapL]
  | some o =>
    cases o <;> try (simp only [hr, oMapL]; done)
    rename_i es clock
    simp only [hr, oMapL, List.length_map, Array.length_toList]
theorem size_put : (mapPut d h r k v).size = h.size := by
  unfold mapPut
  split
  · split <;> first | rfl | exact size_set'
  · rfl
theorem size_del : (mapDel d h r k).size = h.size := by
  unfold mapDel
  split
  · split <;> first | rfl | exact size_set'
  · rfl
theorem get_put_ne (hb : r ≠ b) : (mapPut d h r k v)[b]? = h[b]? := by
  unfold mapPut
  split
  · split <;> first | rfl | exact get_set_ne hb
  · rfl
theorem get_del_ne (hb : r ≠ b) : (mapDel d h r k)[b]? = h[b]? := by
  unfold mapDel
  split
  · split <;> first | rfl | exact get_set_ne hb
  · rfl
theorem mapAt_congr {h h' : Heap} (e : h'[b]? = h[b]?) : mapAt h' b = mapAt h b := by simp only [mapAt, e]
theorem rowAt_congr {h h' : Heap} (e : h'[b]? = h[b]?) : rowAt h' b = rowAt h b := by simp only [rowAt, e]
theorem mapAt_push_lt {o : Obj} (hb : b < h.size) : mapAt (h.push o) b = mapAt h b := mapAt_congr (get_push_lt hb)
theorem mapAt_push_map (hb : b = h.size) : mapAt (h.push (.map #[] 0)) b = some [] := by simp only [mapAt, get_push_eq hb]; rfl
theorem mapAt_set_ne {o : Obj} {c : Nat} (hb : c ≠ b) : mapAt (h.setIfInBounds c o) b = mapAt h b := mapAt_congr (get_set_ne hb)
theorem mapAt_put_ne (hb : r ≠ b) : mapAt (mapPut d h r k v) b = mapAt h b := mapAt_congr (get_put_ne hb)
theorem mapAt_del_ne (hb : r ≠ b) : mapAt (mapDel d h r k) b = mapAt h b := mapAt_congr (get_del_ne hb)
theorem rowAt_put : rowAt (mapPut d h r k v) b = rowAt h b := by
  by_cases hb : r = b
  · subst hb
    unfold mapPut
    cases hr : h[r]? with
    | none => rfl
    | some o =>
      cases o <;> try rfl
      rename_i es clock
      have hlt := lt_of_get hr
      simp only
      split <;> simp only [rowAt, hr, get_set_eq rfl hlt]
  · exact rowAt_congr (get_put_ne hb)
theorem rowAt_del : rowAt (mapDel d h r k) b = rowAt h b := by
  by_cases hb : r = b
  · subst hb
    unfold mapDel
    cases hr : h[r]? with
    | none => rfl
    | some o =>
      cases o <;> try rfl
      rename_i es clock
      have hlt := lt_of_get hr
      simp only
      split <;> simp only [rowAt, hr, get_set_eq rfl hlt]
  · exact rowAt_congr (get_del_ne hb)
theorem cellAt_put {i : Nat} : cellAt (mapPut d h r k v) b i = cellAt h b i := by simp only [cellAt, rowAt_put]
theorem cellAt_del {i : Nat} : cellAt (mapDel d h r k) b i = cellAt h b i := by simp only [cellAt, rowAt_del]
theorem mapAt_some {l : List (Value × Value)} (hm : mapAt h r = some l) : ∃ es clock, h[r]? = some (.map es clock) ∧ l = es.toList.map kv := by
  unfold mapAt at hm
  split at hm
  · rename_i es clock hr
    injection hm with hm
    exact ⟨es, clock, hr, hm.symm⟩
  · cases hm
theorem mapAt_lt {l : List (Value × Value)} (hm : mapAt h r = some l) : r < h.size := by
  obtain ⟨es, clock, hr, _⟩ := mapAt_some hm
  exact lt_of_get hr
theorem mapAt_put_eq {l : List (Value × Value)} (hm : mapAt h r = some l) : mapAt (mapPut d h r k v) r = some (putV d k v l) := by
  obtain ⟨es, clock, hr, rfl⟩ := mapAt_some hm
  have hlt := lt_of_get hr
  unfold mapPut putV
  rw [hr]
  simp only
  rcases findNow_kv d k es.toList 0 with ⟨h1, h2⟩ | ⟨h1, h2⟩ | ⟨i, v', h1, h2, h3, h4, _⟩
  · rw [h1, h2]; exact hm
  · rw [h1, h2]
    simp only
    rw [mapAt_def (get_set_eq rfl hlt)]
    simp [kv]
  · rw [h1, h2]
    simp only
    rw [mapAt_def (get_set_eq rfl hlt), h4 v, Nat.zero_add]
    simp
theorem mapAt_del_eq {l : List (Value × Value)} (hm : mapAt h r = some l) : mapAt (mapDel d h r k) r = some (delV d k l) := by
  obtain ⟨es, clock, hr, rfl⟩ := mapAt_some hm
  have hlt := lt_of_get hr
  unfold mapDel delV
  rw [hr]
  simp only
  rcases findNow_kv d k es.toList 0 with ⟨h1, h2⟩ | ⟨h1, h2⟩ | ⟨i, v', h1, h2, h3, _, h5⟩
  · rw [h1, h2]; exact hm
  · rw [h1, h2]; exact hm
  · rw [h1, h2]
    simp only
    rw [mapAt_def (get_set_eq rfl hlt), h5, Nat.zero_add]
    simp only [Array.toList_eraseIdxIfInBounds]
theorem bornOk_congr {h h' : Heap} (e : h'[r]? = h[r]?) (hb : bornOk h r) : bornOk h' r := by
  obtain ⟨es, clock, hr, ho⟩ := hb
  exact ⟨es, clock, e.trans hr, ho⟩
theorem bornOk_new (hb : b = h.size) : bornOk (h.push (.map #[] 0)) b := ⟨#[], 0, get_push_eq hb, by simp [bornsOk]⟩
theorem modify_borns (f : MapEntry → MapEntry) (hf : ∀ e, (f e).born = e.born) : ∀ (es : List MapEntry) (i : Nat), (es.modify i f).map (·.born) = es.map (·.born)
  | [], i => by simp
  | e :: r, 0 => by simp [hf]
  | e :: r, i + 1 => by simp [List.modify_succ_cons, modify_borns f hf r i]
theorem bornOk_put (hb : bornOk h r) : bornOk (mapPut d h r k v) r := by
  obtain ⟨es, clock, hr, h1, h2⟩ := hb
  have hlt := lt_of_get hr
  unfold mapPut
  rw [hr]
  simp only
  split
  · rename_i i v' hf
    refine ⟨_, _, get_set_eq rfl hlt, ?_⟩
    have he : ((es.modify i fun e => { e with key := k, val := v }).toList.map (·.born)) = es.toList.map (·.born) := by
      rw [Array.toList_modify]
      exact modify_borns (fun e => { e with key := k, val := v }) (fun _ => rfl) _ _
    refine ⟨fun e hm => ?_, by rw [he]; exact h2⟩
    have : e.born ∈ (es.modify i fun e => { e with key := k, val := v }).toList.map (·.born) := List.mem_map.2 ⟨e, hm, rfl⟩
    rw [he] at this
    obtain ⟨e', hm', heq⟩ := List.mem_map.1 this
    rw [← heq]; exact h1 e' hm'
  · refine ⟨_, _, get_set_eq rfl hlt, fun e hm => ?_, ?_⟩
    · simp only [Array.toList_push, List.mem_append, List.mem_singleton] at hm
      rcases hm with hm | hm
      · exact Nat.lt_succ_of_lt (h1 e hm)
      · rw [hm]; exact Nat.lt_succ_self _
    · simp only [Array.toList_push, List.map_append, List.map_cons, List.map_nil]
      rw [List.nodup_append]
      refine ⟨h2, by simp, fun a ha b hb' => ?_⟩
      simp only [List.mem_singleton] at hb'
      obtain ⟨e, hm, rfl⟩ := List.mem_map.1 ha
      have := h1 e hm
      omega
  · exact ⟨es, clock, hr, h1, h2⟩
theorem bornOk_del (hb : bornOk h r) : bornOk (mapDel d h r k) r := by
  obtain ⟨es, clock, hr, h1, h2⟩ := hb
  have hlt := lt_of_get hr
  unfold mapDel
  rw [hr]
  simp only
  split
  · rename_i i v' hf
    refine ⟨_, _, get_set_eq rfl hlt, fun e hm => ?_, ?_⟩
    · rw [Array.toList_eraseIdxIfInBounds] at hm
      exact h1 e ((List.eraseIdx_sublist _ _).subset hm)
    · rw [Array.toList_eraseIdxIfInBounds]
      exact ((List.eraseIdx_sublist _ _).map _).nodup h2
  · exact ⟨es, clock, hr, h1, h2⟩
end

/-! ### Keys that are strings, or ints -/
section
variable {α β : Type} [DecidableEq α]
def alGet : List (α × β) → α → Option β
  | [], _ => none
  | (a, b) :: r, x => if x = a then some b else alGet r x
def alSet : List (α × β) → α → β → List (α × β)
  | [], _, _ => []
  | (a, b) :: r, x, y => if x = a then (x, y) :: r else (a, b) :: alSet r x y
def alPut (l : List (α × β)) (x : α) (y : β) : List (α × β) := if (alGet l x).isSome then alSet l x y else l ++ [(x, y)]
def alDel : List (α × β) → α → List (α × β)
  | [], _ => []
  | (a, b) :: r, x => if x = a then r else (a, b) :: alDel r x
end
def encL {α : Type} (e : α → Value) (l : List (α × Value)) : List (Value × Value) := l.map fun p => (e p.1, p.2)
section
variable {α : Type} [DecidableEq α] {e : α → Value} {d : TypeDesc} (hs : ∀ a b, Instr.sameNow d (e a) (e b) = some (decide (a = b)))
include hs
theorem findV_enc (x : α) : ∀ l : List (α × Value), findV d (e x) (encL e l) = some (alGet l x)
  | [] => rfl
  | (a, b) :: r => by
    simp only [encL, List.map_cons, findV, hs, alGet]
    by_cases hx : x = a
    · simp [hx]
    · simp only [hx, decide_false, if_false]
      exact findV_enc x r
theorem setFirst_enc (x : α) (y : Value) : ∀ l : List (α × Value), setFirst d (e x) y (encL e l) = encL e (alSet l x y)
  | [] => rfl
  | (a, b) :: r => by
    simp only [encL, List.map_cons, setFirst, hs, alSet]
    by_cases hx : x = a
    · simp [hx]
    · simp only [hx, decide_false, if_false, List.map_cons]
      exact congrArg _ (setFirst_enc x y r)
theorem delFirst_enc (x : α) : ∀ l : List (α × Value), delFirst d (e x) (encL e l) = encL e (alDel l x)
  | [] => rfl
  | (a, b) :: r => by
    simp only [encL, List.map_cons, delFirst, hs, alDel]
    by_cases hx : x = a
    · simp [hx]
    · simp only [hx, decide_false, if_false, List.map_cons]
      exact congrArg _ (delFirst_enc x r)
theorem putV_enc (x : α) (y : Value) (l : List (α × Value)) : putV d (e x) y (encL e l) = encL e (alPut l x y) := by
  unfold putV alPut
  rw [findV_enc hs]
  cases alGet l x with
  | none => simp [encL]
  | some b => simp [setFirst_enc hs]
theorem delV_enc (x : α) (l : List (α × Value)) : delV d (e x) (encL e l) = encL e (alDel l x) := by
  unfold delV
  rw [findV_enc hs]
  cases hg : alGet l x with
  | none =>
    simp only
    congr 1
    clear hs
    induction l with
    | nil => rfl
    | cons p r ih =>
      obtain ⟨a, b⟩ := p
      simp only [alGet] at hg
      split at hg
      · cases hg
      · rename_i hx
        simp only [alDel, if_neg hx]
        rw [← ih hg]
  | some b => simp [delFirst_enc hs]
end
def encS (l : List (ByteArray × Value)) : List (Value × Value) := encL .string l
def encI (l : List (Int × Value)) : List (Value × Value) := encL (.int .i64) l
theorem same_str (a b : ByteArray) : Instr.sameNow .string (.string a) (.string b) = some (decide (a = b)) := by
  simp only [Instr.sameNow]
  congr 1
  rw [Bool.eq_iff_iff, bytes_beq', decide_eq_true_eq]
theorem same_int (a b : Int) : Instr.sameNow (.int .i64) (.int .i64 a) (.int .i64 b) = some (decide (a = b)) := by
  simp only [Instr.sameNow, if_true]
  congr 1
@[go_sem] theorem findV_S {x : ByteArray} {l : List (ByteArray × Value)} : findV .string (.string x) (encS l) = some (alGet l x) := findV_enc same_str x l
@[go_sem] theorem findV_I {x : Int} {l : List (Int × Value)} : findV (.int .i64) (.int .i64 x) (encI l) = some (alGet l x) := findV_enc same_int x l
@[go_sem] theorem putV_S {x : ByteArray} {y : Value} {l : List (ByteArray × Value)} : putV .string (.string x) y (encS l) = encS (alPut l x y) := putV_enc same_str x y l
@[go_sem] theorem putV_I {x : Int} {y : Value} {l : List (Int × Value)} : putV (.int .i64) (.int .i64 x) y (encI l) = encI (alPut l x y) := putV_enc same_int x y l
@[go_sem] theorem delV_S {x : ByteArray} {l : List (ByteArray × Value)} : delV .string (.string x) (encS l) = encS (alDel l x) := delV_enc same_str x l
@[go_sem] theorem delV_I {x : Int} {l : List (Int × Value)} : delV (.int .i64) (.int .i64 x) (encI l) = encI (alDel l x) := delV_enc same_int x l
@[go_sem] theorem lk_true {v : Value} {b : Bool} : lk true v b = .tuple #[v, .bool b] := rfl
@[go_sem] theorem lk_false {v : Value} {b : Bool} : lk false v b = v := rfl
end Go.Fw
