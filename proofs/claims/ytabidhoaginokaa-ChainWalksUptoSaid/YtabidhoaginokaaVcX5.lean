/-
  THE DOCUMENT's OWN ROW OF VERSIONS: Done, Next, Same.
-/
import Derived.Test.YtabidhoaginokaaVcX4
namespace Go.Proofs.Ytabidhoaginokaa
open Go Go.Proofs Go.Proofs.Ytabidhoaginokaa.Vc
set_option linter.unusedVariables false
set_option linter.unusedSimpArgs false
set_option maxRecDepth 100000

/-! ### Done -/
abbrev ActV := Bool × Int × ByteArray
/-- What an act makes of a row. -/
def DoneR (l : List Ver) (a : ActV) (l' : List Ver) : Prop :=
  (a.1 = true ∧ ∃ i, Cut l a.2.1 i ∧ l' = l.drop (i - 1)) ∨ (a.1 = false ∧ Refused l a.2.1 ∧ l' = l) ∨ (a.1 = false ∧ ¬ Refused l a.2.1 ∧ l' = l ++ [(a.2.1, a.2.2)])
theorem DoneR.unique {l : List Ver} {a : ActV} {x y : List Ver} (hx : DoneR l a x) (hy : DoneR l a y) : x = y := by
  rcases hx with ⟨h1, i, c1, rfl⟩ | ⟨h1, r1, rfl⟩ | ⟨h1, r1, rfl⟩ <;> rcases hy with ⟨h2, j, c2, rfl⟩ | ⟨h2, r2, rfl⟩ | ⟨h2, r2, rfl⟩ <;> first
    | rfl
    | (rw [c1.unique c2]; done)
    | exact absurd r1 r2
    | exact absurd r2 r1
    | exact absurd (h1.symm.trans h2) (by simp)
abbrev actCells (a : ActV) : List Value := [.bool a.1, .int .i64 a.2.1, .string a.2.2]

theorem call29 {h : Heap} {p : Option Addr} {n c : Nat} {l : List Ver} {a : ActV} {Q : Value → Heap → Prop} (r : RowAt h p n c l) (hn : n < 2 ^ 24)
    (k : ∀ h' p' n' c' l', Kept [] h h' → DoneR l a l' → RowAt h' p' n' c' l' → n' ≤ n + 1 → (p' = p ∨ ∀ b, p' = some b → h.size ≤ b.block) → Q (.slice p' n' c') h') :
    CallH Try.prog 29 #[.slice p n c, .agg #[.bool a.1, .int .i64 a.2.1, .string a.2.2]] h Q := by
  refine call_of_fn (M := M29) (args := [_, _]) Try.func29 rfl rfl (Nat.le_of_ble_eq_true rfl) ?_
  rw [vc29]
  intro h1 hh
  have k1 : Kept [] h h1 := hh ▸ Kept.push _
  have hb : h1[h.size]? = some (.cells #[.bool a.1, .int .i64 a.2.1, .string a.2.2] 34 (0, 0)) := by rw [hh]; exact get_push_eq
  have r1 := r.kept k1 (by simp)
  refine ⟨a.1, by rw [cell_of hb]; rfl, ?_⟩
  have lift : ∀ {p' : Option Addr}, (p' = p ∨ ∀ b, p' = some b → h1.size ≤ b.block) → (p' = p ∨ ∀ b, p' = some b → h.size ≤ b.block) := by
    intro p' hor
    rcases hor with e | g
    · exact .inl e
    · exact .inr fun b hb' => Nat.le_trans k1.size (g b hb')
  refine BIf.intro (fun e => ?_) (fun e => ?_)
  · refine ⟨a.2.1, by rw [cell_of hb]; rfl, ?_⟩
    obtain ⟨i, cc⟩ := Cut.exists_of r.rise a.2.1
    refine call43 r1 (by omega) cc fun h2 p' n' c' k2 r2 hor => ⟨_, _, _, _, rfl, ?_⟩
    refine k h2 p' n' c' _ (k1.trans k2 (by simp)) (.inl ⟨e, i, cc, rfl⟩) r2 ?_ (lift hor)
    have e1 := r2.row.len
    have e2 := r.row.len
    simp only [List.length_drop] at e1
    omega
  · refine ⟨a.2.1, by rw [cell_of hb]; rfl, a.2.2, by rw [cell_of hb]; rfl, ?_⟩
    refine call44 r1 (by omega) (fun hr => ⟨_, _, _, _, rfl, ?_⟩) (fun hnr h2 p' c' k2 r2 f2 nw => ⟨_, _, _, _, rfl, ?_⟩)
    · exact k h1 p n c l k1 (.inr (.inl ⟨e, hr, rfl⟩)) r1 (by omega) (.inl rfl)
    · exact k h2 p' _ c' _ (k1.trans k2 (by simp)) (.inr (.inr ⟨e, hnr, rfl⟩)) r2 (Nat.le_refl _) (lift (.inr nw))

/-! ### Next -/
theorem loop32 {p : Option Addr} {n c q : Nat} {l : List Ver} {m : Int} {ds : List Deferred} {K : Exit → Fr → List Deferred → Heap → Prop} (hr : Rising l) {i : Nat} (cc : Cut l m i) (hn : n ≤ 2 ^ 26) {h : Heap} (hs : VerS h 36 p n c l)
    (k : ∀ x7, K (.exit 0) (FrL 46 [(0, .slice p n c), (1, .int .i64 m), (4, .pointer (some ⟨q, 0, none⟩)), (6, .int .i64 (if i < n then (i : Int) else -1)), (7, .int .i64 x7)]) ds h) :
    ∀ (fuel k' : Nat), k' ≤ n → n - k' < fuel →
      LoopN (dn Try.prog M32 none (codeAt (bodyC Try.f32) [1, 1, 0, 1, 0, 0])) fuel (FrL 46 [(0, .slice p n c), (1, .int .i64 m), (4, .pointer (some ⟨q, 0, none⟩)), (6, .int .i64 (if i < k' then (i : Int) else -1)), (7, .int .i64 (k' : Nat))]) ds h K
  | 0, k', hk, hf => by omega
  | fuel + 1, k', hk, hf => by
    rw [loopN_succ, vc32_110100]
    have hlen := hs.len
    have hle := cc.le
    refine BIf.intro (fun e => ?_) (fun e => ?_)
    · have e : (k' : Int) < n := by simpa using e
      have next := loop32 (q := q) hr cc hn hs k fuel (k' + 1) (by omega) (by omega)
      refine rdN hs (by omega) fun v hv => ?_
      rw [incr k' (by omega)]
      refine BIf.intro (fun e1 => ?_) (fun e1 => ?_)
      · have e1 : v.1 > m := by simpa using e1
        have hki : i ≤ k' := by
          apply Classical.byContradiction; intro g
          have := cc.low k' (by omega) v hv; omega
        by_cases g : i < k'
        · rw [if_pos g]
          refine BIf.neg (by simp) ?_
          refine rdN hs (by omega) fun v' hv' => ?_
          rw [hv] at hv'; cases hv'
          refine rdN hs (by omega) fun u hu => ?_
          have hlt := hr.lt (i := i) (j := k') g hu hv
          refine BIf.neg (by simp; omega) ?_
          rw [if_pos (by omega)] at next
          rw [kl_normal]; exact next
        · have : i = k' := by omega
          subst this
          rw [if_neg g]
          refine BIf.pos (by simp) ?_
          rw [if_pos (by omega)] at next
          rw [kl_normal]; exact next
      · have e1 : ¬ v.1 > m := by intro g; simp [g] at e1
        have hki : k' < i := by
          apply Classical.byContradiction; intro g
          exact e1 (cc.high k' (by omega) v hv)
        rw [if_neg (by omega)]
        rw [if_neg (by omega)] at next
        rw [kl_normal]; exact next
    · have e : ¬ (k' : Int) < n := by simpa using e
      have : k' = n := by omega
      subst this
      rw [kl_exit]
      exact k _
/-- Two cells of a block of one's own, stored. -/
theorem store2 {h : Heap} {q : Nat} {t : TypeId} {a b : Value} {x : Int} {s : ByteArray} (hq : h[q]? = some (.cells #[a, b] t (0, 0))) {R : Heap → Prop}
    (k : ∀ h', Kept [q] h h' → h'[q]? = some (.cells #[.int .i64 x, .string s] t (0, 0)) → R h') :
    (∃ (u : Value), cellH h { block := q, off := 0 : Addr } = some u) ∧ frozenH h { block := q, off := 0 : Addr } = false ∧ ∀ (h' : Heap), h' = setCellH h { block := q, off := 0 : Addr } (Value.int IntKind.i64 x) → (∃ (u : Value), cellH h' { block := q, off := 0 + 1 : Addr } = some u) ∧ frozenH h' { block := q, off := 0 + 1 : Addr } = false ∧
      ∀ (h'_1 : Heap), h'_1 = setCellH h' { block := q, off := 0 + 1 : Addr } (Value.string s) → R h'_1 := by
  refine ⟨⟨_, by rw [cell_of hq]; rfl⟩, frozen_of hq 0, fun h1 hh => ?_⟩
  have hq1 : h1[q]? = some (.cells #[.int .i64 x, b] t (0, 0)) := by rw [hh, setCell_eq hq]; rfl
  refine ⟨⟨_, by rw [cell_of hq1]; rfl⟩, frozen_of hq1 1, fun h2 hh2 => ?_⟩
  refine k h2 ?_ ?_
  · exact (hh ▸ Kept.setCell q 0 _ : Kept [q] h h1).trans (hh2 ▸ Kept.setCell q _ _ : Kept [q] h1 h2) (fun r hr _ => hr)
  · rw [hh2, setCell_eq hq1]; rfl
theorem call32 {h : Heap} {p : Option Addr} {n c : Nat} {l : List Ver} {m : Int} {Q : Value → Heap → Prop} (hs : VerS h 36 p n c l) (hr : Rising l) (hn : n ≤ 2 ^ 26) {i : Nat} (cc : Cut l m i)
    (k0 : i = n → ∀ h', Kept [] h h' → Q (.tuple #[.agg #[.int .i64 0, .string ⟨#[]⟩], .bool false]) h')
    (k1 : ∀ v, l[i]? = some v → ∀ h', Kept [] h h' → Q (.tuple #[.agg #[.int .i64 v.1, .string v.2], .bool true]) h') : CallH Try.prog 32 #[.slice p n c, .int .i64 m] h Q := by
  refine call_of_fn (M := M32) (args := [_, _]) Try.func32 rfl rfl (Nat.le_of_ble_eq_true rfl) ?_
  rw [vc32]
  intro h1 hh
  have kp : Kept [] h h1 := hh ▸ Kept.push _
  have hb : h1[h.size]? = some (.cells #[.int .i64 0, .string ⟨#[]⟩] 36 (0, 0)) := by rw [hh]; exact get_push_eq
  have hs1 : VerS h1 36 p n c l := SlC.kept hs kp (by simp)
  have hlen := hs.len
  have hle := cc.le
  have := loop32 (q := h.size) (K := blockK 0 (seqK (dn Try.prog M32 none (codeAt (bodyC Try.f32) [1, 1, 1])) (exitH Try.prog Try.f32 Q))) (ds := []) hr cc hn hs1 (fun x7 => by
    rw [kx_exit, ks_normal, vc32_111]
    by_cases g : i < n
    · rw [if_pos g]
      refine BIf.neg (by simp) ?_
      refine rdNS hs1 g fun v hv => ?_
      refine store2 hb fun h2 k2 hb2 => ?_
      rw [ret32]
      refine ⟨v.1, by rw [cell_of hb2]; rfl, v.2, by rw [cell_of hb2]; rfl, ?_⟩
      exact k1 v hv h2 (kp.trans k2 fun r hr hlt => by simp at hr; omega)
    · rw [if_neg g]
      refine BIf.pos (by simp) ?_
      refine store2 hb fun h2 k2 hb2 => ?_
      rw [ret32]
      refine ⟨0, by rw [cell_of hb2]; rfl, ⟨#[]⟩, by rw [cell_of hb2]; rfl, ?_⟩
      exact k0 (by omega) h2 (kp.trans k2 fun r hr hlt => by simp at hr; omega)) (n + 1) 0 (by omega) (by omega)
  rw [if_neg (by omega)] at this
  exact loop_of _ this
end Go.Proofs.Ytabidhoaginokaa
