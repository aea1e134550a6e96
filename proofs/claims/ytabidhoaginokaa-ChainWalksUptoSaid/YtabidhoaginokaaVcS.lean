/-
  BLOCKS, FRAMES OF THE HEAP, SLICES: what is there, what is kept, what append does.
-/
import Derived.Test.YtabidhoaginokaaVcN
namespace Go.Proofs.Ytabidhoaginokaa.Vc
open Go
set_option linter.unusedVariables false
set_option linter.unusedSimpArgs false

section
variable {h h' h1 h2 : Heap}

theorem lt_of_get {r : Nat} {o : Obj} (x : h[r]? = some o) : r < h.size := by
  rcases Nat.lt_or_ge r h.size with g | g
  · exact g
  · rw [Array.getElem?_eq_none g] at x; cases x
theorem get_push_lt {o : Obj} {r : Nat} (hr : r < h.size) : (h.push o)[r]? = h[r]? := by
  rw [Array.getElem?_push, if_neg (by omega)]
theorem get_push_eq {o : Obj} : (h.push o)[h.size]? = some o := by simp
theorem cell_of {b : Nat} {cs : Array Value} {t : TypeId} {fz : Nat × Nat} (hb : h[b]? = some (.cells cs t fz)) (i : Nat) : cellH h ⟨b, i, none⟩ = cs[i]? := by simp [cellH, hb]
theorem frozen_of {b : Nat} {cs : Array Value} {t : TypeId} (hb : h[b]? = some (.cells cs t (0, 0))) (i : Nat) : frozenH h ⟨b, i, none⟩ = false := by simp [frozenH, hb]
theorem setCell_size (a : Addr) (v : Value) : (setCellH h a v).size = h.size := by simp [setCellH]
theorem setCell_ne {b i r : Nat} {v : Value} (hr : r ≠ b) : (setCellH h ⟨b, i, none⟩ v)[r]? = h[r]? := by
  unfold setCellH; rw [Array.getElem?_modify, if_neg (by simpa using Ne.symm hr)]
theorem setCell_eq {b i : Nat} {v : Value} {cs : Array Value} {t : TypeId} {fz : Nat × Nat} (hb : h[b]? = some (.cells cs t fz)) : (setCellH h ⟨b, i, none⟩ v)[b]? = some (.cells (cs.setIfInBounds i v) t fz) := by
  obtain ⟨lo, hi⟩ := fz
  unfold setCellH; rw [Array.getElem?_modify, if_pos rfl, hb]; simp
theorem setObj_ne {l r : Nat} {o : Obj} (hr : r ≠ l) : (h.setIfInBounds l o)[r]? = h[r]? := by
  rw [Array.getElem?_setIfInBounds, if_neg (Ne.symm hr)]
theorem setObj_eq {l : Nat} {o : Obj} (hl : l < h.size) : (h.setIfInBounds l o)[l]? = some o := by
  rw [Array.getElem?_setIfInBounds, if_pos rfl, if_pos hl]

/-- What is kept: every block that was there, but those named. -/
structure Kept (S : List Nat) (h h' : Heap) : Prop where
  size : h.size ≤ h'.size
  get : ∀ r, r < h.size → r ∉ S → h'[r]? = h[r]?
theorem Kept.refl (S : List Nat) (h : Heap) : Kept S h h := ⟨Nat.le_refl _, fun _ _ _ => rfl⟩
theorem Kept.of {S S' : List Nat} (k : Kept S' h h') (hs : ∀ r ∈ S', r < h.size → r ∈ S) : Kept S h h' :=
  ⟨k.size, fun r hr hn => k.get r hr fun hm => hn (hs r hm hr)⟩
theorem Kept.trans {S S' : List Nat} (k : Kept S h h1) (k' : Kept S' h1 h2) (hs : ∀ r ∈ S', r < h.size → r ∈ S) : Kept S h h2 :=
  ⟨Nat.le_trans k.size k'.size, fun r hr hn => (k'.get r (Nat.lt_of_lt_of_le hr k.size) fun hm => hn (hs r hm hr)).trans (k.get r hr hn)⟩
theorem Kept.push (o : Obj) : Kept [] h (h.push o) := ⟨by simp, fun r hr _ => get_push_lt hr⟩
theorem Kept.setCell (b i : Nat) (v : Value) : Kept [b] h (setCellH h ⟨b, i, none⟩ v) := ⟨by rw [setCell_size]; exact Nat.le_refl _, fun r _ hn => setCell_ne (by simpa using hn)⟩
theorem Kept.setObj (l : Nat) (o : Obj) : Kept [l] h (h.setIfInBounds l o) := ⟨by simp, fun r _ hn => setObj_ne (by simpa using hn)⟩
theorem Kept.some {S : List Nat} (k : Kept S h h') {r : Nat} {o : Obj} (x : h[r]? = some o) (hn : r ∉ S) : h'[r]? = some o := by
  rw [k.get r (lt_of_get x) hn]; exact x

/-! ### Slices -/
/-- The cells that a slice shows. -/
def SlC (h : Heap) (e : TypeId) (k : Nat) (p : Option Addr) (n c : Nat) (vs : List Value) : Prop :=
  n ≤ c ∧ vs.length = n * k ∧ (match p with
    | none => c = 0
    | some a => a.spot = none ∧ ∃ (cs : Array Value) (fz : TypeId × Nat × Nat), h[a.block]? = some (.cells cs fz.1 fz.2) ∧ a.off + c * k ≤ cs.size ∧ ∀ i, i < n * k → cs[a.off + i]? = vs[i]?)
/-- It may be written. -/
def Free (h : Heap) (p : Option Addr) : Prop := ∀ a, p = some a → ∃ cs e, h[a.block]? = some (.cells cs e (0, 0))

theorem SlC.nil (h : Heap) (e : TypeId) (k : Nat) : SlC h e k none 0 0 [] := ⟨Nat.le_refl _, by simp, rfl⟩
theorem SlC.len {e : TypeId} {k : Nat} {p : Option Addr} {n c : Nat} {vs : List Value} (s : SlC h e k p n c vs) : vs.length = n * k := s.2.1
theorem SlC.kept {S : List Nat} {e : TypeId} {k : Nat} {p : Option Addr} {n c : Nat} {vs : List Value} (s : SlC h e k p n c vs) (kp : Kept S h h') (hp : ∀ a, p = some a → a.block ∉ S) : SlC h' e k p n c vs := by
  obtain ⟨h1, h2, h3⟩ := s
  refine ⟨h1, h2, ?_⟩
  cases p with
  | none => exact h3
  | some a =>
    obtain ⟨sp, cs, fz, hb, hc, hv⟩ := h3
    exact ⟨sp, cs, fz, kp.some hb (hp a rfl), hc, hv⟩
theorem SlC.lt {e : TypeId} {k : Nat} {p : Option Addr} {n c : Nat} {vs : List Value} (s : SlC h e k p n c vs) : ∀ a, p = some a → a.block < h.size := by
  rintro a rfl
  obtain ⟨sp, cs, fz, hb, hc, hv⟩ := s.2.2
  exact lt_of_get hb
theorem Free.kept {S : List Nat} {p : Option Addr} (f : Free h p) (kp : Kept S h h') (hp : ∀ a, p = some a → a.block ∉ S) : Free h' p := by
  intro a ha
  obtain ⟨cs, e, hb⟩ := f a ha
  exact ⟨cs, e, kp.some hb (hp a ha)⟩
theorem Free.none : Free h none := fun a ha => by cases ha
theorem SlC.ptr {e : TypeId} {k : Nat} {p : Option Addr} {n c : Nat} {vs : List Value} (s : SlC h e k p n c vs) (hn : 0 < n) : ∃ b o, p = some ⟨b, o, none⟩ := by
  obtain ⟨h1, h2, h3⟩ := s
  cases p with
  | none => simp only at h3; omega
  | some a =>
    obtain ⟨b, o, sp⟩ := a
    obtain ⟨rfl, _⟩ := h3
    exact ⟨b, o, rfl⟩
theorem SlC.cell {e : TypeId} {k b o : Nat} {n c : Nat} {vs : List Value} (s : SlC h e k (some ⟨b, o, none⟩) n c vs) {i : Nat} (hi : i < n * k) : cellH h ⟨b, o + i, none⟩ = vs[i]? := by
  obtain ⟨h1, h2, sp, cs, fz, hb, hc, hv⟩ := s
  rw [cell_of hb]; exact hv i hi

/-- Cells written in a row. -/
def putCells (h : Heap) (b o : Nat) : List Value → Heap
  | [] => h
  | v :: vs => putCells (setCellH h ⟨b, o, none⟩ v) b (o + 1) vs
theorem putCells_kept (b : Nat) : ∀ (vs : List Value) (h : Heap) (o : Nat), Kept [b] h (putCells h b o vs)
  | [], h, o => .refl _ _
  | v :: vs, h, o => (Kept.setCell b o v).trans (putCells_kept b vs _ (o + 1)) fun r hr _ => hr
def setRow (cs : Array Value) (o : Nat) : List Value → Array Value
  | [] => cs
  | v :: vs => setRow (cs.setIfInBounds o v) (o + 1) vs
theorem setRow_size : ∀ (vs : List Value) (cs : Array Value) (o : Nat), (setRow cs o vs).size = cs.size
  | [], cs, o => rfl
  | v :: vs, cs, o => by simp [setRow, setRow_size vs]
theorem setRow_get : ∀ (vs : List Value) (cs : Array Value) (o j : Nat), o + vs.length ≤ cs.size → (setRow cs o vs)[j]? = if o ≤ j ∧ j < o + vs.length then vs[j - o]? else cs[j]?
  | [], cs, o, j, hl => by simp only [setRow, List.length_nil, Nat.add_zero]; rw [if_neg (by omega)]
  | v :: vs, cs, o, j, hl => by
    simp only [List.length_cons] at hl
    simp only [setRow]
    rw [setRow_get vs _ _ _ (by simp; omega), Array.getElem?_setIfInBounds]
    simp only [List.length_cons]
    by_cases e : j = o
    · subst e
      rw [if_neg (by omega), if_pos rfl, if_pos (by omega), if_pos (by omega)]
      simp
    · by_cases g : o + 1 ≤ j ∧ j < o + 1 + vs.length
      · rw [if_pos g, if_pos (by omega)]
        obtain ⟨m, hm⟩ : ∃ m, j - o = m + 1 := ⟨j - o - 1, by omega⟩
        rw [hm, List.getElem?_cons_succ]
        congr 1; omega
      · rw [if_neg g, if_neg (by omega), if_neg (by omega)]
theorem putCells_eq {b : Nat} {t : TypeId} {fz : Nat × Nat} : ∀ (vs : List Value) {h : Heap} (o : Nat) {cs : Array Value}, h[b]? = some (.cells cs t fz) → (putCells h b o vs)[b]? = some (.cells (setRow cs o vs) t fz)
  | [], h, o, cs, hb => hb
  | v :: vs, h, o, cs, hb => putCells_eq vs (o + 1) (setCell_eq hb)
theorem putCells_size : ∀ (vs : List Value) (h : Heap) (b o : Nat), (putCells h b o vs).size = h.size
  | [], h, b, o => rfl
  | v :: vs, h, b, o => by rw [putCells, putCells_size vs, setCell_size]

theorem put_storeL {b : Nat} {t : TypeId} {K : Heap → Prop} : ∀ (vs : List Value) {h : Heap} (o i : Nat) {cs : Array Value}, h[b]? = some (.cells cs t (0, 0)) → o + i + vs.length ≤ cs.size → (∀ v ∈ vs, cellV v = true) → K (putCells h b (o + i) vs) → storeL b o vs i h K
  | [], h, o, i, cs, hb, hl, hv, k => k
  | v :: vs, h, o, i, cs, hb, hl, hv, k => by
    simp only [List.length_cons] at hl
    unfold storeL
    rw [addO_eq]
    refine ⟨?_, frozen_of hb _, Guard.intro (hv v (by simp)) ?_⟩
    · rw [cell_of hb]
      exact ⟨cs[o + i], by simp⟩
    · rintro h' rfl
      exact put_storeL vs o (i + 1) (setCell_eq hb) (by simp; omega) (fun v hv' => hv v (by simp [hv'])) k

variable {P : Program}
theorem semH_choose {q : Question} {J : Nat → Heap → Prop} (hq : q.forced = false) (x : ∀ t, J (q.cut t) h) : semH P (choose q) h J := by
  unfold choose
  simp only [semH, hq]
  exact x
theorem semH_mark {m : Mark} {J : Unit → Heap → Prop} (x : J () h) : semH P (mark m) h J := x
theorem semH_askRoom {n : Nat} {J : Unit → Heap → Prop} (x : J () h) : semH P (askRoom n) h J := by
  unfold askRoom; split
  · exact x
  · exact x
theorem firstCells_sem {e : TypeId} {k : Nat} {p : Option Addr} {n c : Nat} {vs : List Value} (s : SlC h e k p n c vs) {m : Nat} (hm : m = n) {J : Array Value → Heap → Prop} (x : J vs.toArray h) : semH P (Builtin.firstCells k m (.slice p n c)) h J := by
  subst hm
  cases p with
  | none =>
    have : vs = [] := by
      have := s.2.2; simp only at this
      have h1 := s.1; have h2 := s.2.1
      have : m = 0 := by omega
      subst this; simpa using h2
    subst this; exact x
  | some a =>
    obtain ⟨b, o, sp⟩ := a
    have hsp := s.2.2.1
    simp only at hsp
    subst hsp
    unfold Builtin.firstCells loadCells
    exact loadCellsFrom_sem (m * k) 0 #[] vs J s.len (fun j hj => by rw [Nat.zero_add]; exact s.cell hj) (by simpa using x)

theorem growBy_le (need : Nat) : ∀ (r c : Nat), Builtin.growBy need r c ≤ c + (need + (need + 768) / 4)
  | 0, c => by unfold Builtin.growBy; exact Nat.le_add_right _ _
  | r + 1, c => by
    unfold Builtin.growBy
    split
    · exact Nat.le_add_right _ _
    · rename_i hc
      have key : ∀ (r c' : Nat), c' ≤ need + (need + 768) / 4 → Builtin.growBy need r c' ≤ need + (need + 768) / 4 := by
        intro r
        induction r with
        | zero => intro c' h; unfold Builtin.growBy; exact h
        | succ r ih =>
          intro c' h
          unfold Builtin.growBy
          split
          · exact h
          · exact ih _ (by omega)
      have := key r (c + (c + 768) / 4) (by omega)
      exact Nat.le_trans this (Nat.le_add_left _ _)
theorem cap_le (need old : Nat) (ho : old < need) : Builtin.nextslicecap need old ≤ 4 * need + 768 := by
  have g := growBy_le need 4 old
  unfold Builtin.nextslicecap
  split
  · omega
  · split
    · omega
    · exact Nat.le_trans g (by omega)
end
end Go.Proofs.Ytabidhoaginokaa.Vc
