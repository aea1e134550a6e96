/-
  Walk: what the document says a walk gives.
-/
import Derived.Test.YtabidhoaginokaaVcX8
import Derived.Test.YtabidhoaginokaaV2
namespace Go.Proofs.Ytabidhoaginokaa
open Go Go.Proofs Go.Proofs.Ytabidhoaginokaa.Vc
set_option linter.unusedVariables false
set_option linter.unusedSimpArgs false
set_option maxRecDepth 100000

/-- What is done at step i. -/
def ActAt (acts : List ActV) (i : Nat) (l l' : List Ver) : Prop := (∃ a, acts[i]? = some a ∧ DoneR l a l') ∨ (acts.length ≤ i ∧ l' = l)
theorem ActAt.unique {acts : List ActV} {i : Nat} {l x y : List Ver} (hx : ActAt acts i l x) (hy : ActAt acts i l y) : x = y := by
  rcases hx with ⟨a, h1, d1⟩ | ⟨h1, rfl⟩ <;> rcases hy with ⟨b, h2, d2⟩ | ⟨h2, rfl⟩
  · rw [h1] at h2; cases h2; exact d1.unique d2
  · have := (List.getElem?_eq_some_iff.1 h1).1; omega
  · have := (List.getElem?_eq_some_iff.1 h2).1; omega
  · rfl
/-- From a row, the number given last and what was given: all that will have been given, and the row then. -/
inductive Run (acts : List ActV) (stop : Int) : List Ver → Int → List Ver → List Ver → List Ver → Prop
  | done {l : List Ver} {last : Int} {out : List Ver} : Cut l last l.length → Run acts stop l last out out l
  | stop {l l' : List Ver} {last : Int} {out : List Ver} {k : Nat} {v : Ver} : Cut l last k → l[k]? = some v → ActAt acts out.length l l' → ((out.length + 1 : Nat) : Int) = stop → Run acts stop l last out (out ++ [v]) l'
  | step {l l' : List Ver} {last : Int} {out want behind : List Ver} {k : Nat} {v : Ver} : Cut l last k → l[k]? = some v → ActAt acts out.length l l' → ((out.length + 1 : Nat) : Int) ≠ stop → Run acts stop l' v.1 (out ++ [v]) want behind → Run acts stop l last out want behind

def above (l : List Ver) (m : Int) : Nat := l.countP fun v => decide (m < v.1)
theorem cut_above {l : List Ver} {m : Int} {i : Nat} (c : Cut l m i) : l.length - i = above l m := by
  have e : l = l.take i ++ l.drop i := (List.take_append_drop i l).symm
  unfold above
  rw [e, List.countP_append]
  have h1 : (l.take i).countP (fun v => decide (m < v.1)) = 0 := by
    rw [List.countP_eq_zero]
    intro v hv
    obtain ⟨j, hj, rfl⟩ := List.mem_iff_getElem.1 hv
    have hj' : j < i := by simp at hj; omega
    have hjl : j < l.length := by simp at hj; omega
    have := c.low j hj' l[j] (List.getElem?_eq_getElem hjl)
    rw [List.getElem_take]
    simp; omega
  have h2 : (l.drop i).countP (fun v => decide (m < v.1)) = (l.drop i).length := by
    rw [List.countP_eq_length]
    intro v hv
    obtain ⟨j, hj, rfl⟩ := List.mem_iff_getElem.1 hv
    have := c.high (i + j) (by omega) (l.drop i)[j] (by rw [List.getElem?_eq_getElem (by simp at hj; omega)]; simp)
    simpa using this
  rw [h1, h2, ← e]; simp
theorem cut_next {l : List Ver} {m : Int} {k : Nat} {v : Ver} (r : Rising l) (c : Cut l m k) (hv : l[k]? = some v) : Cut l v.1 (k + 1) := by
  have hk := (List.getElem?_eq_some_iff.1 hv).1
  refine ⟨hk, fun j hj u hu => ?_, fun j hj u hu => r.lt (by omega) hv hu⟩
  rcases Nat.lt_or_ge j k with g | g
  · have := r.lt g hu hv; omega
  · have : j = k := by omega
    subst this; rw [hv] at hu; cases hu; omega
theorem above_done {l l' : List Ver} {a : ActV} {m : Int} (d : DoneR l a l') : above l' m ≤ above l m + 1 := by
  unfold above
  rcases d with ⟨h1, i, c1, rfl⟩ | ⟨h1, r1, rfl⟩ | ⟨h1, r1, rfl⟩
  · have := List.Sublist.countP_le (p := fun v : Ver => decide (m < v.1)) (List.drop_sublist (i - 1) l); omega
  · omega
  · rw [List.countP_append]
    have : List.countP (fun v : Ver => decide (m < v.1)) [(a.2.1, a.2.2)] ≤ 1 := List.countP_le_length
    omega

set_option maxHeartbeats 4000000 in
theorem loop8 {p1 pr0 : Option Addr} {n1 c1 : Nat} {acts : List ActV} {stop : Int} {ds : List Deferred} {K : Exit → Fr → List Deferred → Heap → Prop} (hn1 : n1 ≤ 2 ^ 20) {h0 : Heap} (hs0 : ActS h0 p1 n1 c1 acts) :
    ∀ (fuel : Nat) (h : Heap) (p : Option Addr) (n c : Nat) (l : List Ver) (po : Option Addr) (co : Nat) (out : List Ver) (last : Int) (k : Nat), Kept [] h0 h → RowAt h p n c l → VerS h 36 po out.length co out → Free h po → New h0.size po → (∀ r ∈ blk p, r ∉ blk po) → (p = pr0 ∨ New h0.size p) → Cut l last k →
      2 * (n1 - out.length) + (n - k) < fuel → n + (n1 - out.length) ≤ 2 ^ 22 → out.length ≤ n1 + k →
      (∀ want behind h' pw cw pb nb cb, Run acts stop l last out want behind → Kept [] h0 h' → VerS h' 36 pw want.length cw want → RowAt h' pb nb cb behind → New h0.size pw → (pb = pr0 ∨ New h0.size pb) → K .ret (FrL 56 [(6, .slice pw want.length cw), (7, .slice pb nb cb)]) ds h') →
      LoopN (dn Try.prog M8 none (codeAt (bodyC Try.f8) [1, 1, 1, 0, 1, 0, 0])) fuel (FrL 56 [(0, .slice p n c), (1, .slice p1 n1 c1), (2, .int .i64 stop), (8, .slice po out.length co), (9, .int .i64 last), (10, .int .i64 (out.length : Nat))]) ds h K
  | 0, h, p, n, c, l, po, co, out, last, k, kp, r, so, fo, no, hap, hp0, cc, hf, hN, hb, Kk => by omega
  | fuel + 1, h, p, n, c, l, po, co, out, last, k, kp, r, so, fo, no, hap, hp0, cc, hf, hN, hb, Kk => by
    rw [loopN_succ, vc8_1110100]
    have hlen := r.row.len
    have hle := cc.le
    have hw : IntKind.wrap IntKind.i64 ((n : Int) + (n1 : Int)) = ((n + n1 : Nat) : Int) := by rw [wrapI _ (by omega) (by omega)]; omega
    rw [hw]
    refine BIf.pos (by simp; omega) ?_
    refine call32 r.row r.rise (by omega) cc (fun e h1 k1 => ⟨_, _, _, rfl, ?_⟩) (fun v hv h1 k1 => ⟨_, _, _, rfl, ?_⟩)
    · -- no more
      intro h2 hh2
      have k2 : Kept [] h1 h2 := hh2 ▸ Kept.push _
      have hb2 : h2[h1.size]? = some (.cells #[.int .i64 0, .string ⟨#[]⟩] 36 (0, 0)) := by rw [hh2]; exact get_push_eq
      refine store2 hb2 fun h3 k3 hb3 => ?_
      refine BIf.pos rfl ?_
      rw [kl_ret]
      have kk : Kept [] h h3 := (k1.trans k2 (by simp)).trans k3 fun x hx hlt => by simp at hx; have := k1.size; omega
      refine Kk out l h3 po co p n c ?_ (kp.trans kk (by simp)) (SlC.kept so kk (by simp)) (r.kept kk (by simp)) no hp0
      refine Run.done ?_
      rw [hlen, ← e]; exact cc
    · intro h2 hh2
      have k2 : Kept [] h1 h2 := hh2 ▸ Kept.push _
      have hb2 : h2[h1.size]? = some (.cells #[.int .i64 0, .string ⟨#[]⟩] 36 (0, 0)) := by rw [hh2]; exact get_push_eq
      refine store2 hb2 fun h3 k3 hb3 => ?_
      refine BIf.neg rfl ?_
      have kk : Kept [] h h3 := (k1.trans k2 (by simp)).trans k3 fun x hx hlt => by simp at hx; have := k1.size; omega
      have hkn : k < n := by rw [← hlen]; exact (List.getElem?_eq_some_iff.1 hv).1
      have so3 : VerS h3 36 po out.length co out := SlC.kept so kk (by simp)
      have fo3 := fo.kept kk (by simp)
      refine ⟨v.1, by rw [cell_of hb3]; rfl, v.2, by rw [cell_of hb3]; rfl, ?_⟩
      refine push36 so3 fo3 (by omega) fun h4 po' co' k4 so4 fo4 hor4 => ⟨_, _, _, rfl, ?_⟩
      have hpol : ∀ x ∈ blk po, x < h.size := so.blk_lt
      have hb4 : h4[h1.size]? = some (.cells #[.int .i64 v.1, .string v.2] 36 (0, 0)) := k4.some hb3 fun hm => by have := hpol _ hm; have := k1.size; omega
      refine ⟨v.1, by rw [cell_of hb4]; rfl, ?_⟩
      have kk4 : Kept (blk po) h h4 := (kk.of (S := blk po) (by simp)).trans k4 fun x hx _ => hx
      have kp4 : Kept [] h0 h4 := kp.trans kk4 fun x hx hlt => by have := no.mem x hx; omega
      have r4 : RowAt h4 p n c l := r.kept kk4 hap
      have no4 : New h0.size po' := by
        rcases hor4 with e | g
        · rw [e]; exact no
        · exact fun a ha => by have := g a ha; have := kk.size; have := kp.size; omega
      have hap4 : ∀ x ∈ blk p, x ∉ blk po' := by
        rcases hor4 with e | g
        · rw [e]; exact hap
        · intro x hx hm; have := New.mem g x hm; have := r.row.blk_lt x hx; have := kk.size; omega
      have hs4 : ActS h4 p1 n1 c1 acts := SlC.kept hs0 kp4 (by simp)
      have hal := hs4.len
      have hl1 : (out ++ [(v.1, v.2)]).length = out.length + 1 := by simp
      -- what comes behind the act
      have rest : ∀ (h5 : Heap) (p' : Option Addr) (n' c' : Nat) (l' : List Ver), Kept [] h4 h5 → ActAt acts out.length l l' → RowAt h5 p' n' c' l' → (p' = p ∨ ∀ b, p' = some b → h4.size ≤ b.block) → n' + (n1 - (out.length + 1)) ≤ 2 ^ 22 →
          (∀ k', Cut l' v.1 k' → 2 * (n1 - (out.length + 1)) + (n' - k') < fuel ∧ out.length + 1 ≤ n1 + k') →
          dn Try.prog M8 none (codeAt (bodyC Try.f8) [1, 1, 1, 0, 1, 0, 0, 1, 0, 0, 1, 1, 1, 1, 1]) (FrL 56 [(0, .slice p' n' c'), (1, .slice p1 n1 c1), (2, .int .i64 stop), (8, .slice po' (out.length + 1) co'), (9, .int .i64 v.1), (10, .int .i64 (out.length : Nat))]) ds h5
            (blockK 1 (seqK (dn Try.prog M8 none (codeAt (bodyC Try.f8) [1, 1, 1, 0, 1, 0, 0, 1, 1])) (loopK (dn Try.prog M8 none (codeAt (bodyC Try.f8) [1, 1, 1, 0, 1, 0, 0])) fuel K))) := by
        intro h5 p' n' c' l' k5 hact r5 hor5 hN5 hfu
        rw [vc8_111010010011111]
        have hp0' : p' = pr0 ∨ New h0.size p' := by
          rcases hor5 with e | g
          · rw [e]; exact hp0
          · exact .inr fun b hb => Nat.le_trans kp4.size (g b hb)
        have so5 : VerS h5 36 po' (out.length + 1) co' (out ++ [(v.1, v.2)]) := SlC.kept so4 k5 (by simp)
        refine BIf.intro (fun e => ?_) (fun e => ?_)
        · have e : ((out.length + 1 : Nat) : Int) = stop := by simpa using e
          rw [kx_ret, ks_ret, kl_ret]
          have := Kk (out ++ [(v.1, v.2)]) l' h5 po' co' p' n' c' (Run.stop cc hv hact e) (kp4.trans k5 (by simp)) (by rw [hl1]; exact so5) r5 no4 hp0'
          rw [hl1] at this; exact this
        · have e : ((out.length + 1 : Nat) : Int) ≠ stop := by intro g; simp [← g] at e
          rw [kx_normal, ks_normal, vc8_111010011, incr _ (by omega), kl_normal]
          obtain ⟨k', cc'⟩ := Cut.exists_of r5.rise v.1
          obtain ⟨f1, f2⟩ := hfu k' cc'
          have := loop8 (stop := stop) (K := K) (ds := ds) hn1 hs0 fuel h5 p' n' c' l' po' co' (out ++ [(v.1, v.2)]) v.1 k' (kp4.trans k5 (by simp)) r5 (by rw [hl1]; exact so5) (fo4.kept k5 (by simp)) no4 ?_ hp0' cc' (by rw [hl1]; exact f1) (by rw [hl1]; exact hN5) (by rw [hl1]; exact f2)
            (fun want behind h' pw cw pb nb cb hrun kq sq rq nw nb' => Kk want behind h' pw cw pb nb cb (Run.step cc hv hact e hrun) kq sq rq nw nb')
          · rw [hl1] at this; exact this
          · rcases hor5 with e | g
            · rw [e]; exact hap4
            · intro x hx hm; have := New.mem g x hx; have := so4.blk_lt x hm; omega
      have hca := cut_above cc
      have hnx := cut_next r.rise cc hv
      have hcn := cut_above hnx
      refine BIf.intro (fun e => ?_) (fun e => ?_)
      · have e : (out.length : Int) < n1 := by simpa using e
        refine rdA hs4 (by omega) fun a ha => ?_
        refine call29 (a := a) r4 (by omega) fun h5 p' n' c' l' k5 d5 r5 hle5 hor5 => ⟨_, _, _, rfl, ?_⟩
        refine rest h5 p' n' c' l' k5 (.inl ⟨a, ha, d5⟩) r5 hor5 (by omega) fun k' cc' => ?_
        have h1 := cut_above cc'
        have h2 := above_done (m := v.1) d5
        have h3 := r5.row.len
        exact ⟨by omega, by omega⟩
      · have e : ¬ (out.length : Int) < n1 := by simpa using e
        refine rest h4 p n c l (.refl _ _) (.inr ⟨by omega, rfl⟩) r4 (.inl rfl) (by omega) fun k' cc' => ?_
        have := cc'.unique hnx
        exact ⟨by omega, by omega⟩

theorem call8 {h : Heap} {p p1 : Option Addr} {n c n1 c1 : Nat} {l : List Ver} {acts : List ActV} {stop : Int} {Q : Value → Heap → Prop} (hn : n ≤ 2 ^ 21) (hn1 : n1 ≤ 2 ^ 20) (r : RowAt h p n c l) (hs : ActS h p1 n1 c1 acts)
    (k : ∀ want behind h' pw cw pb nb cb, Run acts stop l (-1) [] want behind → Kept [] h h' → VerS h' 36 pw want.length cw want → RowAt h' pb nb cb behind → New h.size pw → (pb = p ∨ New h.size pb) → Q (.tuple #[.slice pw want.length cw, .slice pb nb cb]) h') :
    CallH Try.prog 8 #[.slice p n c, .slice p1 n1 c1, .int .i64 stop] h Q := by
  refine call_of_fn (M := M8) (args := [_, _, _]) Try.func8 rfl rfl (Nat.le_of_ble_eq_true rfl) ?_
  rw [vc8]
  obtain ⟨k0, cc⟩ := Cut.exists_of r.rise (-1)
  refine loop_of _ (loop8 (ds := []) hn1 hs (2 * n1 + n + 1) h p n c l none 0 [] (-1) k0 (.refl _ _) r (SlC.nil _ _ _) Free.none (by simp [New]) (by simp [blk]) (.inl rfl) cc (by simp; omega) (by simp; omega) (by simp) fun want behind h' pw cw pb nb cb hrun kq sq rq nw nb' => ?_)
  rw [kx_ret, ks_ret, ret8]
  exact k want behind h' pw cw pb nb cb hrun kq sq rq nw nb'
end Go.Proofs.Ytabidhoaginokaa
