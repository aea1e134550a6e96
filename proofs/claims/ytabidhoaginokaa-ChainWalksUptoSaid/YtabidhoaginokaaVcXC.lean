/-
  ChainWalks: what its three walks keep.
-/
import Derived.Test.YtabidhoaginokaaVcXB
import Derived.Test.YtabidhoaginokaaV1
namespace Go.Proofs.Ytabidhoaginokaa
open Go Go.Proofs Go.Proofs.Ytabidhoaginokaa.Vc
set_option linter.unusedVariables false
set_option linter.unusedSimpArgs false
set_option maxRecDepth 100000

theorem Run.len {acts : List ActV} {stop : Int} {l out want behind : List Ver} {last : Int} (r : Run acts stop l last out want behind) : out.length ≤ want.length := by
  induction r with
  | done c => exact Nat.le_refl _
  | stop c hv ha e => simp
  | step c hv ha e r ih => simp at ih; omega
theorem Run.at_end {acts : List ActV} {stop : Int} {l out want behind : List Ver} {last : Int} (r : Run acts stop l last out want behind) (c : Cut l last l.length) : want = out ∧ behind = l := by
  cases r with
  | done _ => exact ⟨rfl, rfl⟩
  | stop c' hv ha e => have := c.unique c'; subst this; simp at hv
  | step c' hv ha e r => have := c.unique c'; subst this; simp at hv
theorem Run.next {acts : List ActV} {stop : Int} {l l' out want behind : List Ver} {last : Int} {k : Nat} {v : Ver} (r : Run acts stop l last out want behind) (c : Cut l last k) (hv : l[k]? = some v) (ha : ActAt acts out.length l l') :
    (((out.length + 1 : Nat) : Int) = stop ∧ want = out ++ [v] ∧ behind = l') ∨ (((out.length + 1 : Nat) : Int) ≠ stop ∧ Run acts stop l' v.1 (out ++ [v]) want behind) := by
  cases r with
  | done c' => have := c.unique c'; subst this; simp at hv
  | stop c' hv' ha' e =>
    have := c.unique c'; subst this
    rw [hv] at hv'; cases hv'
    exact .inl ⟨e, rfl, ha'.unique ha⟩
  | step c' hv' ha' e r =>
    have := c.unique c'; subst this
    rw [hv] at hv'; cases hv'
    have := ha'.unique ha; subst this
    exact .inr ⟨e, r⟩

/-- What is so while the first walk goes on: W: all that may be written of what was there. -/
structure WalkI (h0 : Heap) (W : List Nat) (c : Nat) (p0 : Option Addr) (q12 L n1 : Nat) (acts : List ActV) (stop : Int) (want behind : List Ver) (r : Loop) (m : Nat) (last : Int) (h : Heap) : Prop where
  kept : Kept W h0 h
  lrec : h[L]? = some (.loop r)
  chain : ∃ (p : Option Addr) (n cap : Nat) (l : List Ver) (k : Nat) (po : Option Addr) (co : Nat) (got : List Ver), ChainAt h c p n cap l ∧ (p = p0 ∨ New h0.size p) ∧ h[q12]? = some (.cells #[.slice po got.length co] 24 (0, 0)) ∧ VerS h 36 po got.length co got ∧ Free h po ∧ New h0.size po ∧
    (∀ x ∈ blk po, x ∉ blk p) ∧ Run acts stop l last got want behind ∧ Cut l last k ∧ m = 2 * (n1 - got.length) + (n - k) ∧ n + (n1 - got.length) ≤ 2 ^ 22 ∧ got.length ≤ n1 + k
structure WalkD (h0 : Heap) (W : List Nat) (c : Nat) (p0 : Option Addr) (q12 L : Nat) (want behind : List Ver) (h : Heap) : Prop where
  kept : Kept W h0 h
  lrec : ∃ r, h[L]? = some (.loop r) ∧ r.state ≠ .busy ∧ (r.pending = none ∨ r.pending = some (.exit 0))
  chain : ∃ (p : Option Addr) (n cap : Nat), ChainAt h c p n cap behind ∧ (p = p0 ∨ New h0.size p) ∧ n ≤ 2 ^ 22
  got : ∃ (po : Option Addr) (co : Nat), h[q12]? = some (.cells #[.slice po want.length co] 24 (0, 0)) ∧ VerS h 36 po want.length co want ∧ New h0.size po ∧ want.length ≤ 2 ^ 23
abbrev fr1 (q4 q5 q6 q7 q9 q10 q11 q12 : Nat) (v37 : Value) : Fr := FrL 115 [(4, .pointer (some ⟨q4, 0, none⟩)), (5, .pointer (some ⟨q5, 0, none⟩)), (6, .pointer (some ⟨q6, 0, none⟩)), (7, .pointer (some ⟨q7, 0, none⟩)), (9, .pointer (some ⟨q9, 0, none⟩)), (10, .pointer (some ⟨q10, 0, none⟩)), (11, .pointer (some ⟨q11, 0, none⟩)), (12, .pointer (some ⟨q12, 0, none⟩)), (37, v37)]

/-- The part behind the act: the version is laid behind what was got; on, or out. -/
theorem after1 {l q5 q6 q7 q9 q10 q11 q12 : Nat} {x13 : Int} {s14 : ByteArray} {ds : List Deferred} {h : Heap} {K : Exit → Fr → List Deferred → Heap → Prop} {got : List Ver} {po pw : Option Addr} {co cw nw : Nat} {stop : Int}
    (b12 : h[q12]? = some (.cells #[.slice po got.length co] 24 (0, 0))) (so : VerS h 36 po got.length co got) (fo : Free h po) (hg : got.length < 2 ^ 25) (b5 : h[q5]? = some (.cells #[.int .i64 stop] 3 (0, 0))) (b10 : h[q10]? = some (.cells #[.slice pw nw cw] 24 (0, 0)))
    (n12 : q12 ∉ blk po) (n5 : q5 ∉ blk po) (n10 : q10 ∉ blk po) (d5 : q5 ≠ q12) (d10 : q10 ≠ q12)
    (k : ∀ h' po' co', Kept (q12 :: blk po) h h' → h'[q12]? = some (.cells #[.slice po' (got.length + 1) co'] 24 (0, 0)) → VerS h' 36 po' (got.length + 1) co' (got ++ [(x13, s14)]) → Free h' po' → (po' = po ∨ New h.size po') → q12 ∉ blk po' →
      BIf (((got.length + 1 : Nat) : Int) == stop || decide (((got.length + 1 : Nat) : Int) > (nw : Int))) (K (.exit 0) (FrL 115 [(6, .pointer (some ⟨q6, 0, none⟩)), (7, .pointer (some ⟨q7, 0, none⟩)), (9, .pointer (some ⟨q9, 0, none⟩)), (10, .pointer (some ⟨q10, 0, none⟩)), (11, .pointer (some ⟨q11, 0, none⟩)), (12, .pointer (some ⟨q12, 0, none⟩))]) ds h')
        (K .normal (FrL 115 [(6, .pointer (some ⟨q6, 0, none⟩)), (7, .pointer (some ⟨q7, 0, none⟩)), (9, .pointer (some ⟨q9, 0, none⟩)), (10, .pointer (some ⟨q10, 0, none⟩)), (11, .pointer (some ⟨q11, 0, none⟩)), (12, .pointer (some ⟨q12, 0, none⟩))]) ds h')) :
    dn Try.prog M3 (some l) (codeAt (bodyC Try.f3) [1, 1, 1, 1, 1, 1, 1, 0, 1, 0, 1, 0, 1]) (FrL 115 [(5, .pointer (some ⟨q5, 0, none⟩)), (6, .pointer (some ⟨q6, 0, none⟩)), (7, .pointer (some ⟨q7, 0, none⟩)), (9, .pointer (some ⟨q9, 0, none⟩)), (10, .pointer (some ⟨q10, 0, none⟩)), (11, .pointer (some ⟨q11, 0, none⟩)), (12, .pointer (some ⟨q12, 0, none⟩)), (13, .int .i64 x13), (14, .string s14)]) ds h K := by
  rw [vc3_1111111010101]
  refine ⟨po, got.length, co, by rw [cell_of b12]; rfl, ?_⟩
  refine push36 so fo hg fun h1 po' co' k1 s1 f1 hor => ⟨_, _, _, rfl, ?_⟩
  have b12' := k1.some b12 n12
  have n12' : q12 ∉ blk po' := by
    rcases hor with e | g
    · rw [e]; exact n12
    · intro hm; have := New.mem g _ hm; have := lt_of_get b12; omega
  refine ⟨⟨_, by rw [cell_of b12']; rfl⟩, frozen_of b12' 0, fun h2 hh2 => ?_⟩
  have k2 : Kept [q12] h1 h2 := hh2 ▸ Kept.setCell _ _ _
  have c12 : h2[q12]? = some (.cells #[.slice po' (got.length + 1) co'] 24 (0, 0)) := by rw [hh2, setCell_eq b12']; rfl
  have kk : Kept (q12 :: blk po) h h2 := (k1.of (S := q12 :: blk po) (fun x hx _ => List.mem_cons_of_mem _ hx)).trans k2 (fun x hx _ => by simp at hx; simp [hx])
  have k' := k h2 po' co' kk c12 (SlC.kept s1 k2 fun a ha hm => n12' (by simp at hm; exact mem_blk.2 ⟨a, ha, hm⟩)) (f1.kept k2 fun a ha hm => n12' (by simp at hm; exact mem_blk.2 ⟨a, ha, hm⟩)) hor n12'
  have c5 := kk.some b5 (by simp [n5, d5])
  have c10 := kk.some b10 (by simp [n10, d10])
  refine ⟨po', _, co', by rw [cell_of c12]; rfl, stop, by rw [cell_of c5]; rfl, ?_⟩
  refine BIf.intro (fun e => ?_) (fun e => ?_)
  · rw [e] at k'; exact k'
  · refine ⟨po', _, co', by rw [cell_of c12]; rfl, pw, nw, cw, by rw [cell_of c10]; rfl, ?_⟩
    rw [e, Bool.false_or] at k'; exact k'
/-- The same, where no act was done. -/
theorem after1b {l q4 q5 q6 q7 q9 q10 q11 q12 : Nat} {x13 : Int} {s14 : ByteArray} {ds : List Deferred} {h : Heap} {K : Exit → Fr → List Deferred → Heap → Prop} {got : List Ver} {po pw : Option Addr} {co cw nw : Nat} {stop : Int}
    (b12 : h[q12]? = some (.cells #[.slice po got.length co] 24 (0, 0))) (so : VerS h 36 po got.length co got) (fo : Free h po) (hg : got.length < 2 ^ 25) (b5 : h[q5]? = some (.cells #[.int .i64 stop] 3 (0, 0))) (b10 : h[q10]? = some (.cells #[.slice pw nw cw] 24 (0, 0)))
    (n12 : q12 ∉ blk po) (n5 : q5 ∉ blk po) (n10 : q10 ∉ blk po) (d5 : q5 ≠ q12) (d10 : q10 ≠ q12)
    (k : ∀ h' po' co', Kept (q12 :: blk po) h h' → h'[q12]? = some (.cells #[.slice po' (got.length + 1) co'] 24 (0, 0)) → VerS h' 36 po' (got.length + 1) co' (got ++ [(x13, s14)]) → Free h' po' → (po' = po ∨ New h.size po') → q12 ∉ blk po' →
      BIf (((got.length + 1 : Nat) : Int) == stop || decide (((got.length + 1 : Nat) : Int) > (nw : Int))) (K (.exit 0) (FrL 115 [(6, .pointer (some ⟨q6, 0, none⟩)), (7, .pointer (some ⟨q7, 0, none⟩)), (9, .pointer (some ⟨q9, 0, none⟩)), (10, .pointer (some ⟨q10, 0, none⟩)), (11, .pointer (some ⟨q11, 0, none⟩)), (12, .pointer (some ⟨q12, 0, none⟩))]) ds h')
        (K .normal (FrL 115 [(6, .pointer (some ⟨q6, 0, none⟩)), (7, .pointer (some ⟨q7, 0, none⟩)), (9, .pointer (some ⟨q9, 0, none⟩)), (10, .pointer (some ⟨q10, 0, none⟩)), (11, .pointer (some ⟨q11, 0, none⟩)), (12, .pointer (some ⟨q12, 0, none⟩))]) ds h')) :
    dn Try.prog M3 (some l) (codeAt (bodyC Try.f3) [1, 1, 1, 1, 1, 1, 1, 0, 1, 0, 1, 0, 1]) (FrL 115 [(4, .pointer (some ⟨q4, 0, none⟩)), (5, .pointer (some ⟨q5, 0, none⟩)), (6, .pointer (some ⟨q6, 0, none⟩)), (7, .pointer (some ⟨q7, 0, none⟩)), (9, .pointer (some ⟨q9, 0, none⟩)), (10, .pointer (some ⟨q10, 0, none⟩)), (11, .pointer (some ⟨q11, 0, none⟩)), (12, .pointer (some ⟨q12, 0, none⟩)), (13, .int .i64 x13), (14, .string s14)]) ds h K := by
  rw [vc3_1111111010101b]
  refine ⟨po, got.length, co, by rw [cell_of b12]; rfl, ?_⟩
  refine push36 so fo hg fun h1 po' co' k1 s1 f1 hor => ⟨_, _, _, rfl, ?_⟩
  have b12' := k1.some b12 n12
  have n12' : q12 ∉ blk po' := by
    rcases hor with e | g
    · rw [e]; exact n12
    · intro hm; have := New.mem g _ hm; have := lt_of_get b12; omega
  refine ⟨⟨_, by rw [cell_of b12']; rfl⟩, frozen_of b12' 0, fun h2 hh2 => ?_⟩
  have k2 : Kept [q12] h1 h2 := hh2 ▸ Kept.setCell _ _ _
  have c12 : h2[q12]? = some (.cells #[.slice po' (got.length + 1) co'] 24 (0, 0)) := by rw [hh2, setCell_eq b12']; rfl
  have kk : Kept (q12 :: blk po) h h2 := (k1.of (S := q12 :: blk po) (fun x hx _ => List.mem_cons_of_mem _ hx)).trans k2 (fun x hx _ => by simp at hx; simp [hx])
  have k' := k h2 po' co' kk c12 (SlC.kept s1 k2 fun a ha hm => n12' (by simp at hm; exact mem_blk.2 ⟨a, ha, hm⟩)) (f1.kept k2 fun a ha hm => n12' (by simp at hm; exact mem_blk.2 ⟨a, ha, hm⟩)) hor n12'
  have c5 := kk.some b5 (by simp [n5, d5])
  have c10 := kk.some b10 (by simp [n10, d10])
  refine ⟨po', _, co', by rw [cell_of c12]; rfl, stop, by rw [cell_of c5]; rfl, ?_⟩
  refine BIf.intro (fun e => ?_) (fun e => ?_)
  · rw [e] at k'; exact k'
  · refine ⟨po', _, co', by rw [cell_of c12]; rfl, pw, nw, cw, by rw [cell_of c10]; rfl, ?_⟩
    rw [e, Bool.false_or] at k'; exact k'

theorem walk1 {h0 : Heap} {c : Nat} {p0 p1 pw : Option Addr} {n1 c1 cw : Nat} {acts : List ActV} {stop : Int} {want behind : List Ver} {q4 q5 q6 q7 q9 q10 q11 q12 q B L : Nat} {r : Loop} {v37 : Value} {W : List Nat}
    (hW : W = q12 :: L :: c :: blk p0) (hn1 : n1 ≤ 2 ^ 20)
    (b4 : h0[q4]? = some (.cells #[.slice p1 n1 c1] 22 (0, 0))) (sa : ActS h0 p1 n1 c1 acts) (b5 : h0[q5]? = some (.cells #[.int .i64 stop] 3 (0, 0))) (b7 : h0[q7]? = some (.cells #[.pointer (some ⟨c, 0, none⟩)] 23 (0, 0)))
    (b10 : h0[q10]? = some (.cells #[.slice pw want.length cw] 24 (0, 0))) (bq : h0[q]? = some (.cells #[.pointer (some ⟨c, 0, none⟩)] 23 (0, 0))) (l12 : q12 < h0.size) (lL : L < h0.size) (lc : c < h0.size)
    (w4 : q4 ∉ W) (w5 : q5 ∉ W) (w7 : q7 ∉ W) (w10 : q10 ∉ W) (wq : q ∉ W) (wa : ∀ x ∈ blk p1, x ∉ W) (d : q12 ≠ L ∧ q12 ≠ c ∧ L ≠ c) (d0 : ∀ x ∈ blk p0, x ≠ q12 ∧ x ≠ L)
    (hl0 : ∀ x ∈ blk p0, x < h0.size)
    (hr : LoopIs r (fr1 q4 q5 q6 q7 q9 q10 q11 q12 v37) #[38, 39] (codeAt (bodyC Try.f3) [1, 1, 1, 1, 1, 1, 1, 0, 1, 0, 0]) (codeAt (bodyC Try.f3) [1, 1, 1, 1, 1, 1, 1, 0, 1, 0, 1]) B) :
    Walkable c q L (WalkI h0 W c p0 q12 L n1 acts stop want behind r) (WalkD h0 W c p0 q12 L want behind) where
  cell := fun m last h I => by rw [cell_of (I.kept.some bq wq)]; rfl
  chain := fun m last h I => by
    obtain ⟨p, n, cap, l, k, po, co, got, C, _⟩ := I.chain
    exact ⟨p, n, cap, l, C⟩
  stab := fun m last h h' I kp => by
    obtain ⟨p, n, cap, l, k, po, co, got, C, hp, b12, so, fo, no, ap, rn, cc, hm, hN, hk⟩ := I.chain
    exact ⟨I.kept.trans kp (by simp), kp.some I.lrec (by simp), p, n, cap, l, k, po, co, got, C.kept kp (by simp) (by simp), hp, kp.some b12 (by simp), SlC.kept so kp (by simp), fo.kept kp (by simp), no, ap, rn, cc, hm, hN, hk⟩
  done := fun m last h p' n' cap' l' I C cc => by
    obtain ⟨p, n, cap, l, k, po, co, got, C0, hp, b12, so, fo, no, ap, rn, cc0, hm, hN, hk⟩ := I.chain
    have e1 := C.obj.symm.trans C0.obj
    have e2 : p' = p ∧ n' = n ∧ cap' = cap := by
      simp only [Option.some.injEq, Obj.cells.injEq] at e1
      simpa using congrArg Array.toList e1.1
    obtain ⟨rfl, rfl, rfl⟩ := e2
    have el : l' = l := same_row C.row C0.row
    subst el
    obtain ⟨rfl, rfl⟩ := rn.at_end cc
    have := cc0.le; have := C.len
    exact ⟨I.kept, ⟨r, I.lrec, by rw [hr.state]; simp, .inl hr.pending⟩, ⟨p', n', cap', C, hp, by omega⟩, ⟨po, co, b12, so, no, by omega⟩⟩
  round := fun m last h v k p' n' cap' l' I C cc hv => by
    obtain ⟨p, n, cap, l, k0, po, co, got, C0, hp, b12, so, fo, no, ap, rn, cc0, hm, hN, hk⟩ := I.chain
    have e1 := C.obj.symm.trans C0.obj
    have e2 : p' = p ∧ n' = n ∧ cap' = cap := by
      simp only [Option.some.injEq, Obj.cells.injEq] at e1
      simpa using congrArg Array.toList e1.1
    obtain ⟨rfl, rfl, rfl⟩ := e2
    have el : l' = l := same_row C.row C0.row
    subst el
    have hkk := cc0.unique cc
    subst hkk
    have hlen := C.len
    have hal := sa.len
    have hkn : k0 < n' := by rw [← hlen]; exact (List.getElem?_eq_some_iff.1 hv).1
    refine round_of_dn (M := M3) (args := [_, _]) I.lrec hr.params hr.assign hr.body hr.tmps rfl (by kernel_rfl) ?_
    have hfr : putArgs (fr1 q4 q5 q6 q7 q9 q10 q11 q12 v37) [38, 39] [.int .i64 v.1, .string v.2] =
        FrL 115 [(4, .pointer (some ⟨q4, 0, none⟩)), (5, .pointer (some ⟨q5, 0, none⟩)), (6, .pointer (some ⟨q6, 0, none⟩)), (7, .pointer (some ⟨q7, 0, none⟩)), (9, .pointer (some ⟨q9, 0, none⟩)), (10, .pointer (some ⟨q10, 0, none⟩)), (11, .pointer (some ⟨q11, 0, none⟩)), (12, .pointer (some ⟨q12, 0, none⟩)), (37, v37), (38, .int .i64 v.1), (39, .string v.2)] := by kernel_rfl
    show dn _ _ _ _ (putArgs _ [38, 39] _) _ _ _
    rw [hfr, vc3_11111110100]
    have lLh := lt_of_get I.lrec
    refine ⟨r, I.lrec, hr.state, ?_⟩
    have kL := Kept.setObj (h := h) L (.loop { r with state := .busy })
    have hrec1 : (h.setIfInBounds L (.loop { r with state := .busy }))[L]? = some (.loop { r with state := .busy }) := setObj_eq lLh
    have sz1 : (h.setIfInBounds L (.loop { r with state := .busy })).size = h.size := by simp
    generalize hh1 : h.setIfInBounds L (.loop { r with state := .busy }) = h1 at kL hrec1 sz1 ⊢
    rw [vc3_11111110101]
    have hsz := I.kept.size
    have K1 : Kept W h0 h1 := I.kept.trans kL fun x hx _ => by simp at hx; simp [hW, hx]
    have pL : ∀ x ∈ blk p', x ≠ L ∧ x ≠ q12 := by
      rcases hp with e | g
      · rw [e]; exact fun x hx => ⟨(d0 x hx).2, (d0 x hx).1⟩
      · intro x hx; have := New.mem g x hx; omega
    have oL : ∀ x ∈ blk po, x ≠ L ∧ x ≠ q12 ∧ x ≠ c ∧ h0.size ≤ x := fun x hx => by have := no.mem x hx; omega
    have C1 : ChainAt h1 c p' n' cap' l' := C.kept kL (by simp; omega) fun x hx hm' => by have := (pL x hx).1; simp at hm'; exact this hm'
    have so1 : VerS h1 36 po got.length co got := SlC.kept so kL fun a ha hm' => (oL _ (mem_blk.2 ⟨a, ha, rfl⟩)).1 (by simpa using hm')
    have fo1 := fo.kept kL fun a ha hm' => (oL _ (mem_blk.2 ⟨a, ha, rfl⟩)).1 (by simpa using hm')
    have b121 := kL.some b12 (by simp; omega)
    have hca := cut_above cc
    have hcn := cut_above (cut_next C.rise cc hv)
    -- what comes of it all
    have fin : ∀ (h2 h3 : Heap) (p2 po3 : Option Addr) (n2 cap2 co3 : Nat) (l2 : List Ver), Kept W h0 h2 → ChainAt h2 c p2 n2 cap2 l2 → (p2 = p0 ∨ New h0.size p2) → (∀ x ∈ blk po, x ∉ blk p2) → h2[L]? = some (.loop { r with state := .busy }) → ActAt acts got.length l' l2 →
        n2 + (n1 - (got.length + 1)) ≤ 2 ^ 22 → (∀ k', Cut l2 v.1 k' → 2 * (n1 - (got.length + 1)) + (n2 - k') < m ∧ got.length + 1 ≤ n1 + k') →
        Kept (q12 :: blk po) h2 h3 → h3[q12]? = some (.cells #[.slice po3 (got.length + 1) co3] 24 (0, 0)) → VerS h3 36 po3 (got.length + 1) co3 (got ++ [(v.1, v.2)]) → Free h3 po3 → (po3 = po ∨ New h2.size po3) → q12 ∉ blk po3 →
        BIf (((got.length + 1 : Nat) : Int) == stop || decide (((got.length + 1 : Nat) : Int) > (want.length : Int)))
          (blockK 1 (roundK L fun r' h' => (r' = .bool true ∧ ∃ m', m' < m ∧ WalkI h0 W c p0 q12 L n1 acts stop want behind r m' v.1 h') ∨ (r' = .bool false ∧ WalkD h0 W c p0 q12 L want behind h')) (.exit 0) (FrL 115 [(6, .pointer (some ⟨q6, 0, none⟩)), (7, .pointer (some ⟨q7, 0, none⟩)), (9, .pointer (some ⟨q9, 0, none⟩)), (10, .pointer (some ⟨q10, 0, none⟩)), (11, .pointer (some ⟨q11, 0, none⟩)), (12, .pointer (some ⟨q12, 0, none⟩))]) [] h3)
          (blockK 1 (roundK L fun r' h' => (r' = .bool true ∧ ∃ m', m' < m ∧ WalkI h0 W c p0 q12 L n1 acts stop want behind r m' v.1 h') ∨ (r' = .bool false ∧ WalkD h0 W c p0 q12 L want behind h')) .normal (FrL 115 [(6, .pointer (some ⟨q6, 0, none⟩)), (7, .pointer (some ⟨q7, 0, none⟩)), (9, .pointer (some ⟨q9, 0, none⟩)), (10, .pointer (some ⟨q10, 0, none⟩)), (11, .pointer (some ⟨q11, 0, none⟩)), (12, .pointer (some ⟨q12, 0, none⟩))]) [] h3) := by
      intro h2 h3 p2 po3 n2 cap2 co3 l2 K2 C2 hp2 ap2 lr2 hact hb2 hfu K3 c12 s3 f3 hor n12
      have nx := rn.next cc hv hact
      have hl1 : (got ++ [(v.1, v.2)]).length = got.length + 1 := by simp
      have sz2 := K2.size
      have K3L : h3[L]? = some (.loop { r with state := .busy }) := K3.some lr2 (by
        intro hm'
        rcases List.mem_cons.1 hm' with e | g
        · omega
        · exact (oL _ g).1 rfl)
      have lL3 := lt_of_get K3L
      have npo3 : New h0.size po3 := by
        rcases hor with e | g
        · rw [e]; exact no
        · exact fun a ha => by have := g a ha; omega
      have p2L : ∀ x ∈ blk p2, x ≠ L ∧ x ≠ q12 := by
        rcases hp2 with e | g
        · rw [e]; exact fun x hx => ⟨(d0 x hx).2, (d0 x hx).1⟩
        · intro x hx; have := New.mem g x hx; omega
      have o3L : ∀ x ∈ blk po3, x ≠ L ∧ x ≠ q12 ∧ x ≠ c := fun x hx => by have := npo3.mem x hx; omega
      have ap3 : ∀ x ∈ blk po3, x ∉ blk p2 := by
        rcases hor with e | g
        · rw [e]; exact ap2
        · intro x hx hm'; have := New.mem g x hx; have := C2.row.blk_lt x hm'; omega
      have C3 : ChainAt h3 c p2 n2 cap2 l2 := C2.kept K3 (by
        intro hm'
        rcases List.mem_cons.1 hm' with e | g
        · omega
        · exact (oL _ g).2.2.1 rfl) (by
        intro x hx hm'
        rcases List.mem_cons.1 hm' with e | g
        · exact (p2L x hx).2 e
        · exact ap2 x g hx)
      have K03 : Kept W h0 h3 := K2.trans K3 fun x hx hlt => by
        rcases List.mem_cons.1 hx with e | g
        · rw [hW, e]; simp
        · have := (oL x g).2.2.2; omega
      have fit : ∀ o : Obj, Kept W h0 (h3.setIfInBounds L o) ∧ ChainAt (h3.setIfInBounds L o) c p2 n2 cap2 l2 ∧ (h3.setIfInBounds L o)[q12]? = some (.cells #[.slice po3 (got.length + 1) co3] 24 (0, 0)) ∧ VerS (h3.setIfInBounds L o) 36 po3 (got.length + 1) co3 (got ++ [(v.1, v.2)]) ∧ Free (h3.setIfInBounds L o) po3 := by
        intro o
        have k4 := Kept.setObj (h := h3) L o
        refine ⟨K03.trans k4 (fun x hx _ => by simp at hx; simp [hW, hx]), C3.kept k4 (by simp; omega) (fun x hx hm' => (p2L x hx).1 (by simpa using hm')), k4.some c12 (by simp; omega), SlC.kept s3 k4 (fun a ha hm' => (o3L _ (mem_blk.2 ⟨a, ha, rfl⟩)).1 (by simpa using hm')), f3.kept k4 (fun a ha hm' => (o3L _ (mem_blk.2 ⟨a, ha, rfl⟩)).1 (by simpa using hm'))⟩
      refine BIf.intro (fun e => ?_) (fun e => ?_)
      · rw [kx_exit_ne rfl]
        refine ⟨_, K3L, .inr ⟨rfl, ?_⟩⟩
        obtain ⟨g1, g2, g3, g4, g5⟩ := fit (.loop { ({ r with state := .busy } : Loop) with state := .done, pending := some (.exit 0) })
        rcases nx with ⟨e', rfl, rfl⟩ | ⟨e', rn'⟩
        · exact ⟨g1, ⟨_, setObj_eq lL3, by simp, .inr rfl⟩, ⟨p2, n2, cap2, g2, hp2, by omega⟩, ⟨po3, co3, by rw [hl1]; exact g3, by rw [hl1]; exact g4, npo3, by rw [hl1]; omega⟩⟩
        · exfalso
          have := rn'.len
          rw [hl1] at this
          simp only [Bool.or_eq_true, beq_iff_eq, decide_eq_true_eq] at e
          rcases e with e | e
          · exact e' e
          · omega
      · rw [kx_normal]
        refine ⟨_, K3L, .inl ⟨rfl, ?_⟩⟩
        obtain ⟨g1, g2, g3, g4, g5⟩ := fit (.loop { ({ r with state := .busy } : Loop) with state := .ready, pending := none })
        rcases nx with ⟨e', _, _⟩ | ⟨e', rn'⟩
        · exfalso
          rw [e'] at e; simp at e
        · obtain ⟨k', cc'⟩ := Cut.exists_of C2.rise v.1
          obtain ⟨f1, f2⟩ := hfu k' cc'
          have hreq : ({ ({ r with state := .busy } : Loop) with state := .ready, pending := none } : Loop) = r := by
            have h1 := hr.state; have h2 := hr.pending
            cases r; simp_all
          refine ⟨_, f1, g1, by rw [setObj_eq lL3, hreq], p2, n2, cap2, l2, k', po3, co3, got ++ [(v.1, v.2)], g2, hp2, by rw [hl1]; exact g3, by rw [hl1]; exact g4, g5, npo3, ap3, rn', cc', by rw [hl1], by rw [hl1]; exact hb2, by rw [hl1]; exact f2⟩
    have c4 := K1.some b4 w4
    have c7 := K1.some b7 w7
    have s1a : ActS h1 p1 n1 c1 acts := SlC.kept sa K1 fun a ha => wa _ (mem_blk.2 ⟨a, ha, rfl⟩)
    have lt5 := lt_of_get b5
    have lt10 := lt_of_get b10
    have n12 : q12 ∉ blk po := fun hm' => (oL _ hm').2.1 rfl
    have n5 : q5 ∉ blk po := fun hm' => by have := (oL _ hm').2.2.2; omega
    have n10 : q10 ∉ blk po := fun hm' => by have := (oL _ hm').2.2.2; omega
    have d5 : q5 ≠ q12 := by rintro rfl; exact w5 (by rw [hW]; simp)
    have d10 : q10 ≠ q12 := by rintro rfl; exact w10 (by rw [hW]; simp)
    refine ⟨po, got.length, co, by rw [cell_of b121]; rfl, p1, n1, c1, by rw [cell_of c4]; rfl, ?_⟩
    refine BIf.intro (fun e => ?_) (fun e => ?_)
    · have e : (got.length : Int) < n1 := by simpa using e
      refine ⟨_, by rw [cell_of c7]; rfl, p1, n1, c1, by rw [cell_of c4]; rfl, po, got.length, co, by rw [cell_of b121]; rfl, ?_⟩
      refine rdA s1a (by omega) fun a ha => ?_
      refine call9 (a := a) C1 (by omega) fun h2 p2 n2 cap2 l2 k2 d2 C2 hle hor2 => ?_
      have K2 : Kept W h0 h2 := K1.trans k2 fun x hx hlt => by
        rcases List.mem_cons.1 hx with e | g
        · rw [hW, e]; simp
        · rcases hp with e | g'
          · rw [hW, ← e]; simp [g]
          · have := New.mem g' x g; omega
      have q12n : q12 ∉ c :: blk p' := by
        intro hm'
        rcases List.mem_cons.1 hm' with e | g
        · omega
        · exact (pL _ g).2 rfl
      have Ln : L ∉ c :: blk p' := by
        intro hm'
        rcases List.mem_cons.1 hm' with e | g
        · omega
        · exact (pL _ g).1 rfl
      have pon : ∀ x ∈ blk po, x ∉ c :: blk p' := by
        intro x hx hm'
        rcases List.mem_cons.1 hm' with e | g
        · exact (oL x hx).2.2.1 e
        · exact ap x hx g
      have hp2 : p2 = p0 ∨ New h0.size p2 := by
        rcases hor2 with e | g
        · rw [e]; exact hp
        · exact .inr fun b hb => by have := g b hb; omega
      have ap2 : ∀ x ∈ blk po, x ∉ blk p2 := by
        rcases hor2 with e | g
        · rw [e]; exact ap
        · intro x hx hm'; have := New.mem g x hm'; have := so1.blk_lt x hx; omega
      refine after1 (k2.some b121 q12n) (SlC.kept so1 k2 fun b hb => pon _ (mem_blk.2 ⟨b, hb, rfl⟩)) (fo1.kept k2 fun b hb => pon _ (mem_blk.2 ⟨b, hb, rfl⟩)) (by omega) (K2.some b5 w5) (K2.some b10 w10) n12 n5 n10 d5 d10 fun h3 po3 co3 k3 c12 s3 f3 hor3 n12' => ?_
      refine fin h2 h3 p2 po3 n2 cap2 co3 l2 K2 C2 hp2 ap2 (k2.some hrec1 Ln) (.inl ⟨a, ha, d2⟩) (by omega) (fun k' cc' => ?_) k3 c12 s3 f3 hor3 n12'
      have h1 := cut_above cc'
      have h2 := above_done (m := v.1) d2
      have h3 := C2.len
      exact ⟨by omega, by omega⟩
    · have e : ¬ (got.length : Int) < n1 := by simpa using e
      refine after1b b121 so1 fo1 (by omega) (K1.some b5 w5) (K1.some b10 w10) n12 n5 n10 d5 d10 fun h3 po3 co3 k3 c12 s3 f3 hor3 n12' => ?_
      refine fin h1 h3 p' po3 n' cap' co3 l' K1 C1 hp ap hrec1 (.inr ⟨by omega, rfl⟩) (by omega) (fun k' cc' => ?_) k3 c12 s3 f3 hor3 n12'
      have := cc'.unique (cut_next C.rise cc hv)
      exact ⟨by omega, by omega⟩
end Go.Proofs.Ytabidhoaginokaa
