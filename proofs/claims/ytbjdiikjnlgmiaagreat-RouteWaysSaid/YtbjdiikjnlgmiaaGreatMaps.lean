/- Maps as lists of pairs, in the order of their entries: what lookup, mapUpdate, len and make do. Over any program. -/
import Derived.Test.YtbjdiikjnlgmiaaGreatKit
namespace Go.Proofs.YtbjdiikjnlgmiaaGreat
open Go.RowKit Go.Shelf

/-- What is asked of a map's key type: how a key of Lean's type α stands as a value. -/
structure KeyAt {α : Type} [DecidableEq α] (P : Program) (K : TypeId) (ek : α → Value) : Prop where
  check : ∀ (empty : Bool) (a : α) (w : World), (Instr.checkKey empty 10000 K (ek a)).run P w = .ok () w
  desc : ∃ d, P.underlying K = some d ∧ ((∀ a b, Instr.sameNow d (ek a) (ek b) = some (decide (a = b))) ∨
    ((∀ a b, Instr.sameNow d (ek a) (ek b) = none) ∧ ∀ a b w, (Op.equal K (ek a) (ek b)).run P w = .ok (decide (a = b)) w))
  bits : ∀ a, Instr.sameBits 10000 (ek a) (ek a) = true

section
variable {α β : Type} [DecidableEq α] {P : Program} {K : TypeId} {ek : α → Value}

theorem findNow_run {d : TypeDesc} (h : ∀ a b, Instr.sameNow d (ek a) (ek b) = some (decide (a = b))) (a : α) : ∀ (es : List MapEntry) (l : List α) (i : Nat), es.map (·.key) = l.map ek →
    Instr.findNow d (ek a) es i = some ((l.findIdx? fun b => decide (a = b)).map fun j => (i + j, (es.getD j default).val))
  | [], [], i, _ => rfl
  | e :: es, [], i, h0 => by simp at h0
  | [], b :: l, i, h0 => by simp at h0
  | e :: es, b :: l, i, h0 => by
    simp only [List.map_cons, List.cons.injEq] at h0
    obtain ⟨h1, h2⟩ := h0
    simp only [Instr.findNow, h1, h, List.findIdx?_cons]
    by_cases hab : a = b
    · simp [hab]
    · simp only [hab, decide_false, findNow_run h a es l (i + 1) h2]
      cases hf : l.findIdx? (fun b => decide (a = b)) <;> simp [Nat.add_assoc, Nat.add_comm 1]

theorem findAsking_run (h : ∀ a b w, (Op.equal K (ek a) (ek b)).run P w = .ok (decide (a = b)) w) (a : α) (w : World) : ∀ (es : List MapEntry) (l : List α) (i : Nat), es.map (·.key) = l.map ek →
    (Instr.findAsking K (ek a) es i).run P w = .ok ((l.findIdx? fun b => decide (a = b)).map fun j => (i + j, (es.getD j default).val)) w
  | [], [], i, _ => rfl
  | e :: es, [], i, h0 => by simp at h0
  | [], b :: l, i, h0 => by simp at h0
  | e :: es, b :: l, i, h0 => by
    simp only [List.map_cons, List.cons.injEq] at h0
    obtain ⟨h1, h2⟩ := h0
    simp only [Instr.findAsking, h1, Sem.run_bind, h, Result.andThen_ok, List.findIdx?_cons]
    by_cases hab : a = b
    · simp [hab]
    · simp only [hab, decide_false, Bool.false_eq_true, if_false, findAsking_run h a w es l (i + 1) h2]
      cases hf : l.findIdx? (fun b => decide (a = b)) <;> simp [Nat.add_assoc, Nat.add_comm 1]

theorem KeyAt.find (H : KeyAt P K ek) (a : α) (w : World) (es : List MapEntry) (l : List α) (h0 : es.map (·.key) = l.map ek) :
    (Instr.findKey K (ek a) es).run P w = .ok ((l.findIdx? fun b => decide (a = b)).map fun j => (j, (es.getD j default).val)) w := by
  obtain ⟨d, hd, h | ⟨h, h'⟩⟩ := H.desc
  · have := findNow_run h a es l 0 h0
    simp only [Nat.zero_add] at this
    simp [Instr.findKey, run_underlying hd, this]
  · have := findAsking_run h' a w es l 0 h0
    simp only [Nat.zero_add] at this
    cases es with
    | nil =>
      have : l = [] := by cases l with
        | nil => rfl
        | cons b l => simp at h0
      subst this
      simp [Instr.findKey, run_underlying hd, Instr.findNow]
    | cons e es =>
      cases l with
      | nil => simp at h0
      | cons b l =>
        have hn : Instr.findNow d (ek a) (e :: es) 0 = none := by
          simp only [List.map_cons, List.cons.injEq] at h0
          simp [Instr.findNow, h0.1, h]
        simp [Instr.findKey, run_underlying hd, hn, this]

theorem run_getMap {w : World} {m : Nat} {es : Array MapEntry} {clock : Nat} (h : w.heap[m]? = some (.map es clock)) : (getObj m).run P w = .ok (.map es clock) w := by
  simp [getObj, Sem.run, h]

/-- The world with another object in block m. -/
def mset (w : World) (m : Nat) (o : Obj) : World := { w with heap := w.heap.setIfInBounds m o }

theorem run_setMap {w : World} {m : Nat} {es : Array MapEntry} {clock : Nat} (h : w.heap[m]? = some (.map es clock)) (o : Obj) : (setObj m o).run P w = .ok () (mset w m o) := by
  simp [setObj, Sem.run, h, mset]

/-- Block m is a map that holds just the pairs of l, each key once, in this order; the stamps of its entries differ and lie below the clock. -/
def MapIs (ek : α → Value) (ev : β → Value) (w : World) (m : Nat) (l : List (α × β)) : Prop :=
  ∃ es clock, w.heap[m]? = some (.map es clock) ∧ es.toList.map (·.key) = l.map (fun x => ek x.1) ∧ es.toList.map (·.val) = l.map (fun x => ev x.2) ∧
    (l.map (·.1)).Nodup ∧ (es.toList.map (·.born)).Nodup ∧ ∀ e ∈ es.toList, e.born < clock

variable {ev : β → Value} {w : World} {m : Nat} {l : List (α × β)}

end
section
variable {α β : Type} {P : Program} {K : TypeId} {ek : α → Value} {ev : β → Value} {w : World} {m : Nat} {l : List (α × β)}
theorem MapIs.lt (h : MapIs ek ev w m l) : m < w.heap.size := by
  obtain ⟨es, clock, hb, _⟩ := h
  exact (Array.getElem?_eq_some_iff.1 hb).1
end
section
variable {α β : Type} [DecidableEq α] {P : Program} {K : TypeId} {ek : α → Value} {ev : β → Value} {w : World} {m : Nat} {l : List (α × β)}

end
section
variable {α β : Type} {P : Program} {K : TypeId} {ek : α → Value} {ev : β → Value} {w : World} {m : Nat} {l : List (α × β)}
theorem MapIs.below {B : Nat} {w' : World} (h : MapIs ek ev w m l) (hb : Below B w w') (hm : m < B) : MapIs ek ev w' m l := by
  obtain ⟨es, clock, h0, r⟩ := h
  exact ⟨es, clock, (hb.block m hm).trans h0, r⟩
end
section
variable {α β : Type} [DecidableEq α] {P : Program} {K : TypeId} {ek : α → Value} {ev : β → Value} {w : World} {m : Nat} {l : List (α × β)}

end
section
variable {α β : Type} {P : Program} {K : TypeId} {ek : α → Value} {ev : β → Value} {w : World} {m : Nat} {l : List (α × β)}
theorem MapIs.block {w' : World} (h : MapIs ek ev w m l) (hb : w'.heap[m]? = w.heap[m]?) : MapIs ek ev w' m l := by
  obtain ⟨es, clock, h0, r⟩ := h
  exact ⟨es, clock, hb.trans h0, r⟩
end
section
variable {α β : Type} [DecidableEq α] {P : Program} {K : TypeId} {ek : α → Value} {ev : β → Value} {w : World} {m : Nat} {l : List (α × β)}

end
section
variable {α β : Type} {P : Program} {K : TypeId} {ek : α → Value} {ev : β → Value} {w : World} {m : Nat} {l : List (α × β)}
theorem MapIs.made (w : World) : MapIs ek ev (w.alloc (.map #[] 0)) w.heap.size [] :=
  ⟨#[], 0, (MapKept.heap_alloc w _).1, by simp, by simp, by simp, by simp, by simp⟩
end
section
variable {α β : Type} [DecidableEq α] {P : Program} {K : TypeId} {ek : α → Value} {ev : β → Value} {w : World} {m : Nat} {l : List (α × β)}

/-- The pair of a key. -/
def lookupK (a : α) (l : List (α × β)) : Option β := (l.find? fun x => decide (a = x.1)).map (·.2)

theorem findIdx_lookup (a : α) (l : List (α × β)) :
    ((l.map (·.1)).findIdx? fun b => decide (a = b)) = l.findIdx? fun x => decide (a = x.1) := by
  induction l with
  | nil => rfl
  | cons x l ih => simp only [List.map_cons, List.findIdx?_cons, ih]

theorem lookup_some {a : α} {l : List (α × β)} {j : Nat} (h : (l.findIdx? fun x => decide (a = x.1)) = some j) : ∃ x, l[j]? = some x ∧ x.1 = a ∧ lookupK a l = some x.2 := by
  induction l generalizing j with
  | nil => simp at h
  | cons y l ih =>
    rw [List.findIdx?_cons] at h
    by_cases hy : a = y.1
    · simp only [hy, decide_true, if_true, Option.some.injEq] at h
      subst h
      exact ⟨y, rfl, hy.symm, by simp [lookupK, hy]⟩
    · simp only [hy, decide_false, Bool.false_eq_true, if_false, Option.map_eq_some_iff] at h
      obtain ⟨i, hi, rfl⟩ := h
      obtain ⟨x, hx, hxa, hl⟩ := ih hi
      refine ⟨x, by simpa using hx, hxa, ?_⟩
      unfold lookupK at hl ⊢
      rw [List.find?_cons_of_neg (by simpa using hy)]
      exact hl

theorem lookup_none {a : α} {l : List (α × β)} (h : (l.findIdx? fun x => decide (a = x.1)) = none) : lookupK a l = none := by
  unfold lookupK
  rw [List.findIdx?_eq_none_iff] at h
  rw [List.find?_eq_none.2 (fun x hx => by have := h x hx; simpa using this)]
  rfl

end
section
variable {α β : Type} {P : Program} {K : TypeId} {ek : α → Value} {ev : β → Value} {w : World} {m : Nat} {l : List (α × β)}
theorem getD_val {es : Array MapEntry} {j : Nat} {x : α × β} (hv : es.toList.map (·.val) = l.map (fun x => ev x.2)) (hx : l[j]? = some x) : (es.toList.getD j default).val = ev x.2 := by
  have : (es.toList.map (·.val))[j]? = some (ev x.2) := by rw [hv, List.getElem?_map, hx]; rfl
  rw [List.getElem?_map] at this
  obtain ⟨e, he, hev⟩ := Option.map_eq_some_iff.1 this
  rw [List.getD_eq_getElem?_getD, he]
  exact hev
end
section
variable {α β : Type} [DecidableEq α] {P : Program} {K : TypeId} {ek : α → Value} {ev : β → Value} {w : World} {m : Nat} {l : List (α × β)}

/-- 'v, ok := m[k]'. -/
theorem MapIs.lookupOk (h : MapIs ek ev w m l) (H : KeyAt P K ek) {T E : TypeId} (hT : P.underlying T = some (.map K E)) {z : Value} (hz : (zeroValue E).run P w = .ok z w) (a : α) :
    (Instr.lookup T (.map (some m)) (ek a) true).run P w = .ok (.tuple #[((lookupK a l).map ev).getD z, .bool (lookupK a l).isSome]) w := by
  obtain ⟨es, clock, hb, hk, hv, _⟩ := h
  have hf := H.find a w es.toList (l.map (·.1)) (by rw [hk, List.map_map]; rfl)
  rw [findIdx_lookup] at hf
  unfold Instr.lookup
  simp only [Sem.run_bind, run_underlying hT, Result.andThen_ok, run_getMap hb, Sem.run_pure, H.check, hf]
  cases hi : l.findIdx? fun x => decide (a = x.1) with
  | none => simp [lookup_none hi, hz]
  | some j =>
    obtain ⟨x, hx, hxa, hl⟩ := lookup_some hi
    simp only [Option.map_some, Sem.run_pure, Result.andThen_ok, if_true, hl, Option.getD_some, Option.isSome_some]
    rw [getD_val hv hx]
    rfl

/-- 'm[k]'. -/
theorem MapIs.lookup (h : MapIs ek ev w m l) (H : KeyAt P K ek) {T E : TypeId} (hT : P.underlying T = some (.map K E)) {z : Value} (hz : (zeroValue E).run P w = .ok z w) (a : α) :
    (Instr.lookup T (.map (some m)) (ek a) false).run P w = .ok (((lookupK a l).map ev).getD z) w := by
  obtain ⟨es, clock, hb, hk, hv, _⟩ := h
  have hf := H.find a w es.toList (l.map (·.1)) (by rw [hk, List.map_map]; rfl)
  rw [findIdx_lookup] at hf
  unfold Instr.lookup
  simp only [Sem.run_bind, run_underlying hT, Result.andThen_ok, run_getMap hb, Sem.run_pure, H.check, hf]
  cases hi : l.findIdx? fun x => decide (a = x.1) with
  | none => simp [lookup_none hi, hz]
  | some j =>
    obtain ⟨x, hx, hxa, hl⟩ := lookup_some hi
    simp only [Option.map_some, Sem.run_pure, Result.andThen_ok, hl, Option.getD_some]
    rw [getD_val hv hx]
    rfl

end
section
variable {α β : Type} {P : Program} {K : TypeId} {ek : α → Value} {ev : β → Value} {w : World} {m : Nat} {l : List (α × β)}
/-- 'len(m)'. -/
theorem MapIs.len (h : MapIs ek ev w m l) {T E ty : TypeId} (hT : P.underlying T = some (.map K E)) :
    (Builtin.len_ #[T] ty #[.map (some m)]).run P w = .ok (.int .i64 l.length) w := by
  obtain ⟨es, clock, hb, hk, _⟩ := h
  have hl : es.size = l.length := by have := congrArg List.length hk; simpa using this
  simp [Builtin.len_, run_underlying hT, run_getMap hb, goInt, hl]
end
section
variable {α β : Type} [DecidableEq α] {P : Program} {K : TypeId} {ek : α → Value} {ev : β → Value} {w : World} {m : Nat} {l : List (α × β)}

theorem Below_mset {B : Nat} {a w : World} (h : Below B a w) {m : Nat} (hm : B ≤ m) (o : Obj) : Below B a (mset w m o) :=
  h.trans ⟨rfl, rfl, rfl, by simp [mset], fun k hk => by
    show (w.heap.setIfInBounds m o)[k]? = _
    rw [Array.getElem?_setIfInBounds, if_neg (by omega)]⟩

theorem mset_heap_other (w : World) (m k : Nat) (o : Obj) (hk : k ≠ m) : (mset w m o).heap[k]? = w.heap[k]? := by
  show (w.heap.setIfInBounds m o)[k]? = _
  rw [Array.getElem?_setIfInBounds, if_neg (by omega)]

theorem mset_size (w : World) (m : Nat) (o : Obj) : (mset w m o).heap.size = w.heap.size := by simp [mset]

end
section
variable {α β : Type} {P : Program} {K : TypeId} {ek : α → Value} {ev : β → Value} {w : World} {m : Nat} {l : List (α × β)}
theorem SlAt_mset {γ : Type} {enc : γ → List Value} {k : Nat} {A : Option Addr} {L : List γ} (h : SlAt w enc k A L) (hm : MapIs ek ev w m l) (o : Obj) : SlAt (mset w m o) enc k A L := by
  rcases h with h | ⟨b, q, hA, hlt, h⟩
  · exact .inl h
  · refine .inr ⟨b, q, hA, by rw [mset_size]; exact hlt, fun i x hx j v hv => ?_⟩
    have hc := h i x hx j v hv
    have hne : b ≠ m := by
      rintro rfl
      obtain ⟨es, clock, hb, _⟩ := hm
      simp [World.cell?, hb] at hc
    rw [← hc]
    exact World.cell?_of_block (a := ⟨b, _, none⟩) (mset_heap_other _ _ _ _ hne)
end
section
variable {α β : Type} [DecidableEq α] {P : Program} {K : TypeId} {ek : α → Value} {ev : β → Value} {w : World} {m : Nat} {l : List (α × β)}

theorem Blk_mset {g : Nat} {t : TypeId} {cs : Array Value} (h : Blk w g t cs) (hne : g ≠ m) (o : Obj) : Blk (mset w m o) g t cs :=
  (mset_heap_other _ _ _ _ hne).trans h

/-- A pair put into a list of pairs: in its key's place, or behind all. -/
def putK (a : α) (b : β) (l : List (α × β)) : List (α × β) :=
  match l.findIdx? fun x => decide (a = x.1) with
  | some j => l.set j (a, b)
  | none => l ++ [(a, b)]

/-- 'm[k] = v'. -/
theorem MapIs.update (h : MapIs ek ev w m l) (H : KeyAt P K ek) {T E : TypeId} (hT : P.underlying T = some (.map K E)) (a : α) (b : β) :
    ∃ o, (∀ W : World, W.heap[m]? = w.heap[m]? → (Instr.mapUpdate T (.map (some m)) (ek a) (ev b)).run P W = .ok () (mset W m o) ∧ MapIs ek ev (mset W m o) m (putK a b l)) := by
  suffices H' : ∃ o, (∀ W : World, W.heap[m]? = w.heap[m]? → (Instr.mapUpdate T (.map (some m)) (ek a) (ev b)).run P W = .ok () (mset W m o)) ∧ MapIs ek ev (mset w m o) m (putK a b l) by
    obtain ⟨o, h1, h2⟩ := H'
    refine ⟨o, fun W hW => ⟨h1 W hW, h2.block ?_⟩⟩
    have hlt := h.lt
    have hlt' : m < W.heap.size := by
      rw [Array.getElem?_eq_getElem hlt] at hW
      exact (Array.getElem?_eq_some_iff.1 hW).1
    show (W.heap.setIfInBounds m o)[m]? = (w.heap.setIfInBounds m o)[m]?
    rw [Array.getElem?_setIfInBounds, Array.getElem?_setIfInBounds, if_pos rfl, if_pos rfl, if_pos hlt, if_pos hlt']
  have hlt := h.lt
  obtain ⟨es, clock, hb, hk, hv, hnd, hbn, hbc⟩ := h
  have hlen : es.size = l.length := by have := congrArg List.length hk; simpa using this
  have hf := fun W => H.find a W es.toList (l.map (·.1)) (by rw [hk, List.map_map]; rfl)
  rw [findIdx_lookup] at hf
  have hnew : ∀ o, (mset w m o).heap[m]? = some o := fun o => by
    show (w.heap.setIfInBounds m o)[m]? = _
    rw [Array.getElem?_setIfInBounds, if_pos rfl, if_pos hlt]
  have hset : ∀ W : World, W.heap[m]? = w.heap[m]? → ∀ o, (setObj m o).run P W = .ok () (mset W m o) := fun W hW => run_setMap (hW.trans hb)
  have hget : ∀ W : World, W.heap[m]? = w.heap[m]? → (getObj m).run P W = .ok (.map es clock) W := fun W hW => run_getMap (hW.trans hb)
  unfold putK
  cases hi : l.findIdx? fun x => decide (a = x.1) with
  | none =>
    refine ⟨.map (es.push { key := ek a, val := ev b, born := clock }) (clock + 1), ?_, _, _, hnew _, ?_, ?_, ?_, ?_, ?_⟩
    · intro W hW
      unfold Instr.mapUpdate
      simp only [Sem.run_bind, run_underlying hT, Result.andThen_ok, hget W hW, H.check, hf, hi, Option.map_none]
      exact hset W hW _
    · simp [hk]
    · simp [hv]
    · rw [List.map_append, List.nodup_append]
      refine ⟨hnd, by simp, ?_⟩
      intro x hx y hy
      simp only [List.map_cons, List.map_nil, List.mem_singleton] at hy
      subst hy
      obtain ⟨z, hz, rfl⟩ := List.mem_map.1 hx
      rw [List.findIdx?_eq_none_iff] at hi
      have := hi z hz
      simp only [decide_eq_false_iff_not] at this
      exact fun e => this e.symm
    · simp only [Array.toList_push, List.map_append, List.map_cons, List.map_nil]
      rw [List.nodup_append]
      refine ⟨hbn, by simp, ?_⟩
      intro x hx y hy
      simp only [List.mem_singleton] at hy
      subst hy
      obtain ⟨e, he, rfl⟩ := List.mem_map.1 hx
      exact Nat.ne_of_lt (hbc e he)
    · intro e he
      simp only [Array.toList_push, List.mem_append, List.mem_singleton] at he
      rcases he with he | rfl
      · exact Nat.lt_succ_of_lt (hbc e he)
      · exact Nat.lt_succ_self _
  | some j =>
    obtain ⟨x, hx, hxa, hl⟩ := lookup_some hi
    have hj : j < l.length := (List.getElem?_eq_some_iff.1 hx).1
    have hkj : (es.toList.map (·.key))[j]? = some (ek a) := by rw [hk, List.getElem?_map, hx, ← hxa]; rfl
    have hje : j < es.size := by omega
    have hkey : ((es[j]?).map (·.key)).getD (ek a) = ek a := by
      rw [List.getElem?_map, Array.getElem?_toList] at hkj
      rw [hkj]; rfl
    refine ⟨.map (es.modify j fun e => { e with key := ek a, val := ev b }) clock, ?_, _, _, hnew _, ?_, ?_, ?_, ?_, ?_⟩
    · intro W hW
      unfold Instr.mapUpdate
      simp only [Sem.run_bind, run_underlying hT, Result.andThen_ok, hget W hW, H.check, hf, hi, Option.map_some, hkey, Instr.keyThatStays, H.bits, if_true, Sem.run_pure]
      exact hset W hW _
    · apply List.ext_getElem?
      intro i
      simp only [List.getElem?_map, Array.getElem?_toList, Array.getElem?_modify, List.getElem?_set]
      have hki : (es[i]?).map (·.key) = (l[i]?).map fun x => ek x.1 := by
        have := congrArg (fun z => z[i]?) hk
        simpa [List.getElem?_map] using this
      by_cases hij : j = i
      · subst hij
        simp [hj, Array.getElem?_eq_getElem hje]
      · simp only [hij, if_false]
        exact hki
    · apply List.ext_getElem?
      intro i
      simp only [List.getElem?_map, Array.getElem?_toList, Array.getElem?_modify, List.getElem?_set]
      have hvi : (es[i]?).map (·.val) = (l[i]?).map fun x => ev x.2 := by
        have := congrArg (fun z => z[i]?) hv
        simpa [List.getElem?_map] using this
      by_cases hij : j = i
      · subst hij
        simp [hj, Array.getElem?_eq_getElem hje]
      · simp only [hij, if_false]
        exact hvi
    · have : (l.set j (a, b)).map (·.1) = l.map (·.1) := by
        apply List.ext_getElem?
        intro i
        simp only [List.getElem?_map, List.getElem?_set]
        by_cases hij : j = i
        · subst hij
          rw [if_pos rfl, if_pos hj, hx]
          simp [hxa]
        · rw [if_neg hij]
      rw [this]
      exact hnd
    · have : (es.modify j fun e => { e with key := ek a, val := ev b }).toList.map (·.born) = es.toList.map (·.born) := by
        apply List.ext_getElem?
        intro i
        simp only [List.getElem?_map, Array.getElem?_toList, Array.getElem?_modify]
        by_cases hij : j = i
        · subst hij
          simp [Array.getElem?_eq_getElem hje]
        · simp [hij]
      rw [this]
      exact hbn
    · intro e he
      obtain ⟨i, hi', hie⟩ := List.mem_iff_getElem.1 he
      have hi2 : (es.modify j fun e => { e with key := ek a, val := ev b })[i]? = some e := by
        rw [← Array.getElem?_toList, List.getElem?_eq_getElem hi', hie]
      rw [Array.getElem?_modify] at hi2
      by_cases hij : j = i
      · subst hij
        rw [if_pos rfl] at hi2
        obtain ⟨e', he', rfl⟩ := Option.map_eq_some_iff.1 hi2
        exact hbc e' (by rw [← Array.mem_def]; exact Array.mem_of_getElem? he')
      · rw [if_neg hij] at hi2
        exact hbc e (by rw [← Array.mem_def]; exact Array.mem_of_getElem? hi2)
end
end Go.Proofs.YtbjdiikjnlgmiaaGreat
