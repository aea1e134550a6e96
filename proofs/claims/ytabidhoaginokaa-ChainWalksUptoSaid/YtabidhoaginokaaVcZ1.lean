/-
  For every input of bulk at most 1048576 ChainWalks returns true and leaves its arguments as they were; no other condition.
-/
import Derived.Test.YtabidhoaginokaaVcXF
import Derived.Test.YtabidhoaginokaaVcRB
namespace Go.Proofs.Ytabidhoaginokaa
open Go Go.Proofs Go.Proofs.Ytabidhoaginokaa.Vc Go.ChangeShapes Go.WideShapes Go.ChangeAt Go.RowKit Go.Deep
set_option linter.unusedVariables false
set_option linter.unusedSimpArgs false
set_option maxRecDepth 100000

theorem acells_map (f : Nat → ActV) : ∀ l : List Nat, acells (l.map f) = l.flatMap fun i => [.bool (f i).1, .int .i64 (f i).2.1, .string (f i).2.2]
  | [] => rfl
  | x :: r => by simp only [List.map_cons, acells, acells_map f r, List.flatMap_cons]; rfl
theorem acts_of {H : Type} {enc : TypeId × Value → H} {W : World} {base : Nat} {v : Value} {d : DataW H} {ps : List MemPlace} (hval : Value.okWide Try.prog W .any base 22 v) (h : DataW.Trod enc Try.prog W 0 (fun _ => true) true 22 v d ps) (hb : Rows.uptoBulk d ≤ 2 ^ 20) :
    ∃ (p : Option Addr) (n c : Nat) (l : List ActV), v = .slice p n c ∧ ActS W.heap p n c l ∧ n ≤ 2 ^ 20 := by
  have hc34 : Try.prog.cellsOf 34 = 3 := by kernel_rfl
  have hc4 : Try.prog.cellsOf 4 = 1 := by kernel_rfl
  have hc3 : Try.prog.cellsOf 3 = 1 := by kernel_rfl
  have hc9 : Try.prog.cellsOf 9 = 1 := by kernel_rfl
  obtain ⟨p, n, c, vs, m, rfl, s, hd⟩ := read_slice Try.underlying22 (by rw [hc34]; omega) hval h
  rw [hc34] at s hd
  rcases hd with ⟨rfl, rfl⟩ | ⟨D, rest, rfl, hD⟩
  · have : vs = [] := by simpa using s.len
    subst this
    exact ⟨p, 0, c, [], rfl, s, Nat.zero_le _⟩
  · have hn : n ≤ 2 ^ 20 := by
      have h1 := bulk_elems ((List.range n).map D) rest
      have h2 := bulk_len ((List.range n).map D)
      simp only [List.length_map, List.length_range] at h2
      omega
    obtain ⟨f, hf⟩ := choose_lt (α := ActV) (p := fun i a => (vs.drop (i * 3)).take 3 = [.bool a.1, .int .i64 a.2.1, .string a.2.2]) (n := n) fun i hi => by
      obtain ⟨pl, h1⟩ := hD i hi
      obtain ⟨y0, y1, y2, m', e, hl, g0, g1, g2⟩ := trod_struct3 Try.underlying34 h1
      simp only [hc4, hc3, hc9] at g0 g1 g2
      obtain ⟨b, e0, _⟩ := DataW.trod_bool Try.underlying4 g0
      obtain ⟨x, e1, _⟩ := DataW.trod_int Try.underlying3 g1
      obtain ⟨t, e2, _⟩ := DataW.trod_string Try.underlying9 g2
      rw [hc34] at hl
      refine ⟨(b, x, t), ?_⟩
      generalize (vs.drop (i * 3)).take 3 = cs at hl e0 e1 e2
      match cs, hl with
      | [u0, u1, u2], _ =>
        simp at e0 e1 e2
        simp [e0, e1, e2]
    refine ⟨p, n, c, (List.range n).map f, rfl, ?_, hn⟩
    unfold ActS
    rw [acells_map]
    have := rows_eq (g := fun i => [Value.bool (f i).1, .int .i64 (f i).2.1, .string (f i).2.2]) n vs s.len hf
    rw [← this]; exact s

theorem own3 : ownKnob Try.prog.godebug = none := by kernel_rfl
theorem laidOut3 : laidOutB Try.prog = true := by kernel_rfl

set_option maxRecDepth 100000 in
theorem lifted3 (os : Os) (started : os.Started) (H : Type) (enc : TypeId × Value → H) (F : Stop.Interp) :
    ReturnsInHanded {} Try.checked os 3 .any ((Rows.OpenSpec.upto Rows.chainWalksSpec).pre6 enc Try.prog Try.f3 Rows.chainWalksUptoRow.domain false) (((Rows.OpenSpec.upto Rows.chainWalksSpec).at F).post enc Try.prog Try.f3 false true false false) := by
  refine returnsInHanded_of_cond (C := Try.checked) (s := Rows.OpenSpec.upto Rows.chainWalksSpec) (k := Rows.uptoSmall) rfl own3 started (by kernel_rfl) Try.func3
    (OpenSpec.witness (enc := enc) (C := Try.checked) (s := Rows.OpenSpec.upto Rows.chainWalksSpec) (k := Rows.uptoSmall) rfl false ⟨#[], #[.slice none 0 0, .slice none 0 0, .int .i64 0], []⟩ 8 (by kernel_rfl) (by kernel_rfl) (by kernel_rfl)
      (x := ([.nil, .nil, .lit (.int .i64 0)], [], [])) (by kernel_rfl) rfl (by kernel_rfl)) ?_
  intro W base args ds gs before hval0 hW _ hk _
  have hval : ∀ (j : Nat) t v, Try.f3.params[j]? = some t → args[j]? = some v → Value.okWide Try.prog W .any base t v := hval0
  have hW' := hW
  obtain ⟨p, q, hA0, hV, rfl, hfz, hnd⟩ := hW
  have hA : DataW.TrodAll enc Try.prog W 0 (fun _ => true) true Try.f3.params.toList args.toList ds p := hA0
  rw [Try.params3] at hA hval
  obtain ⟨v0, vs0, d0, ds0, p0, q0, hargs, rfl, rfl, h0, r0⟩ := trodAll_cons hA
  obtain ⟨v1, vs1, d1, ds1, p1, q1, rfl, rfl, rfl, h1, r1⟩ := trodAll_cons r0
  obtain ⟨v2, vs2, d2, ds2, p2, q2, rfl, rfl, rfl, h2, r2⟩ := trodAll_cons r1
  obtain ⟨rfl, rfl, rfl⟩ := trodAll_nil r2
  obtain rfl : args = #[v0, v1, v2] := by cases args; simp_all
  obtain ⟨rfl, rfl⟩ := trodVars_none hV
  have hb := bulk_bound hk
  simp only [List.append_nil] at hb
  have b0 := bulk_part (d := d0) (l := [d0, d1, d2]) (by simp)
  have b1 := bulk_part (d := d1) (l := [d0, d1, d2]) (by simp)
  obtain ⟨a0, n0, c0, l0, rfl, s0, hn0⟩ := acts_of (hval 0 22 v0 rfl rfl) h0 (by omega)
  obtain ⟨a1, n1, c1, l1, rfl, s1, hn1⟩ := acts_of (hval 1 22 v1 rfl rfl) h1 (by omega)
  obtain ⟨stop, rfl, rfl, rfl, w2⟩ := open_int Try.underlying3 (hval 2 3 v2 rfl rfl) h2
  refine (calls_of_callH (f := 3) (by kernel_rfl) (call3 (Q := fun v h' => v = .bool true ∧ Kept [] W.heap h') hn0 hn1 s0 s1 fun h' kp => ⟨rfl, kp⟩)).mono fun e W' ⟨v, he, ⟨hv, kp⟩, o⟩ => ?_
  subst hv
  refine ⟨_, he, law_post laidOut3 (tb := 4) ?_ rfl (by kernel_rfl) Try.underlying4 hW' (fun _ => rfl) kp o⟩
  rw [Try.params3]
  intro t ht
  simp at ht
  rcases ht with rfl | rfl
  · exact ⟨by kernel_rfl, of_decide_eq_true (by kernel_rfl)⟩
  · exact ⟨by kernel_rfl, of_decide_eq_true (by kernel_rfl)⟩

theorem chainWalks_holds : Rows.ChainWalksUptoSaid :=
  OpenClaim.holds_of_cond 3 Try.f3 rfl rfl rfl rfl rfl rfl rfl ⟨rfl, rfl, rfl, rfl, rfl⟩ rfl rfl rfl rfl rfl (by kernel_rfl) Try.func3 (by kernel_rfl)
    (of_decide_eq_true (by kernel_rfl)) (by unfold Func.isWrapper; first | (rw [if_pos (by decide +kernel)]; kernel_rfl) | (rw [if_neg (by decide +kernel)]; exact ⟨rfl, rfl⟩))
    (fun os started H enc _ F => lifted3 os started H enc F)
#print axioms chainWalks_holds
end Go.Proofs.Ytabidhoaginokaa
