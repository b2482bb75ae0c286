/- quartolaw09.MarkLists returns true: the walk. -/
import Derived.Test.YtibmnkdeepmabaaKnown9
import Derived.Test.YtibmnkdeepmabaaRef9d
import Derived.Test.YtibmnkdeepmabaaLaw9Sets
import Derived.Test.YtibmnkdeepmabaaOpenM
namespace Go.Proofs.Ytibmnkdeepmabaa
open Go.RowKit

set_option maxHeartbeats 8000000 in
set_option maxRecDepth 100000 in
theorem lawMarkLists_any (v : Value) (l : List Mk) (f t : Int) (w : World) (h : Sl mkE w v l) (_hd : ∀ m, m ∈ l → m.wf) (hl : l.length * 24 ≤ 140737488355328) (_hf : -9223372036854775808 ≤ f) (_hf' : f ≤ 9223372036854775807) (_ht : -9223372036854775808 ≤ t) (_ht' : t ≤ 9223372036854775807) :
    Calls Try.prog 6 #[v, .int .i64 f, .int .i64 t] w fun e w' => e = .returned (.bool true) ∧ Below w.heap.size w w' := by
  obtain ⟨A0, cap0, hv0, -, h30, -⟩ := id h
  unfold maxLen at h30
  have cO := fun w x h => own9_any x l w h hl
  have cT := fun w x y h k => same9_any x y l l w h k
  rw [sameM_refl] at cT
  have H := Lib.hid h; have CO := Lib.hid cO; have CT := Lib.hid cT
  clear cO cT h hl
  subst hv0
  by_cases q : 2000 < l.length
  · have qi : (2000 : Int) < (l.length : Int) := by omega
    clear CO CT H
    go_enter Try.func6, Try.ntmps6
    go_wp2_with fail
    refine (known9_any _).mono ?_
    rintro e w1 ⟨rfl, hb⟩
    go_wp2
    go_ret
    exact ⟨rfl, hb⟩
  · have qi : ¬ (2000 : Int) < (l.length : Int) := by omega
    have hle : (Go.Proofs.Ytibmnkdeepmabaa.inR f t l).length ≤ 2000 := Nat.le_trans (List.length_filter_le _ _) (by omega)
    have CB := Lib.hid (fun w x h => between_any x l f t w h (by omega) (sortAll (inR f t l) (by omega)))
    have CR := Lib.hid (fun w x h => refBetween_any x l f t w h (by omega))
    generalize inR f t l = F at *
    go_enter Try.func6, Try.ntmps6
    go_wp2_with fail
    refine (CO.out _ _ H.out).mono ?_
    rintro e w1 ⟨x0, rfl, ho, hb⟩
    have X1 := Lib.hid (Sl.of_own ho); have H1 := Lib.hid (H.out.ext hb); have B1 := Lib.hid hb
    clear ho hb H CO
    go_wp2_with fail
    refine (CB.out _ _ X1.out).mono ?_
    rintro e w2 ⟨x1, S, rfl, hs, hG, hb⟩
    obtain ⟨AG, cG, rfl⟩ := own_form w2 (own_zero hG)
    have hmx := own_max hG
    have HG2 := Lib.hid (⟨hG⟩ : OwnM w1.heap.size (.slice AG F.length cG) F.length S w2)
    have HS := Lib.hid hs; have BW2 := Lib.hid hb; have H2 := Lib.hid (H1.out.ext hb)
    clear hG hs hb CB
    go_wp2_with fail
    refine (CR.out _ _ H2.out).mono ?_
    rintro e w3 ⟨x2, S2, rfl, hs2, hR, hb⟩
    obtain rfl := Stab.uniq HS.out hs2
    have HR3 := Lib.hid (Sl.of_own hR); have HG3 := Lib.hid (HG2.out.ext hb); have BW3 := Lib.hid (BW2.out.trans (hb.mono BW2.out.size))
    clear hs2 hR hb HG2 BW2 H2 CR HS
    have cS := fun w x y h k => same9_any x y S S w h k
    rw [sameM_refl] at cS
    have CS := Lib.hid cS; clear cS
    go_wp2_with fail
    refine (CS.out _ _ _ HG3.out.sl HR3.out).mono ?_
    rintro e w4 ⟨rfl, hb⟩
    have HG4 := Lib.hid (HG3.out.ext hb); have BW := Lib.hid (BW3.out.trans (hb.mono BW3.out.size))
    have HBASE := Lib.hid (Nat.le_refl w1.heap.size)
    clear hb HG3 BW3 CS HR3
    generalize F.length = n at *
    go_wp2_with fail
    go_loopw [9] (fun y ws => ∃ (k : Nat) (L2 : List Mk), k ≤ n ∧ y = .int .i64 k ∧ Hid (OwnM w1.heap.size (.slice AG n cG) n L2 ws) ∧ Hid (Below w1.heap.size w1 ws)) (fun y _ => n - (intOf y).toNat)
    case atStart => exact ⟨0, _, by omega, rfl, HG4, BW⟩
    case round =>
      obtain ⟨k, L2, hk, rfl, hG, hBs⟩ := hrel
      by_cases hlt : k < n
      · obtain ⟨g, c', hv, hgB, -⟩ := hG.out.own.form (by omega)
        obtain ⟨rfl, rfl⟩ : AG = some ⟨g, 0, none⟩ ∧ cG = c' := by injection hv with e1 e2 e3; exact ⟨e1, e3⟩
        obtain ⟨mo, g0, g1, g2, fz⟩ := hG.out.at hlt
        have hki : (k : Int) < ((n : Nat) : Int) := by omega
        have HP := Lib.hid (hG.out.put k ⟨77, 0, 0⟩)
        have HQ := Lib.hid (below_put hBs.out (Nat.le_trans HBASE.out hgB) k (.int .u32 77) (.int .i64 (0)) (.int .u8 0))
        clear hv hG hBs
        go_wp2_with fail
        go_roundw
        case rel => exact ⟨k + 1, _, by omega, by go_num, HP, HQ⟩
        case measure => simp [intOf]; omega
      · -- done
        have BZ := Lib.hid (Hid.out hBs)
        clear hG hBs
        go_wp2_with fail
        refine (CT.out _ _ _ (X1.out.ext BZ.out) (H1.out.ext BZ.out)).mono ?_
        rintro e wz ⟨rfl, hb⟩
        have BZ2 := Lib.hid (B1.out.trans ((BZ.out.trans (hb.mono BZ.out.size)).mono B1.out.size))
        clear hb BZ
        go_wp2_with fail
        refine (known9_any _).mono ?_
        rintro e wk ⟨rfl, hb⟩
        go_wp2
        go_ret
        exact ⟨rfl, BZ2.out.trans (hb.mono BZ2.out.size)⟩

end Go.Proofs.Ytibmnkdeepmabaa

namespace Go.Proofs.Ytibmnkdeepmabaa
open Go.RowKit Go.WideShapes Go.ChangeShapes Go.ChangeAt Go.ChangeMaps Go.Deep

set_option maxRecDepth 100000 in
theorem markLists_lifted (os : Os) (started : os.Started) (H : Type) (enc : TypeId × Value → H) :
    ReturnsInHanded {} Try.checked os 6 .any (Rows.markListsSpec.pre6 enc Try.prog Try.f6 Rows.markListsRow.domain false) (Rows.markListsSpec.post enc Try.prog Try.f6 false true false false) := by
  refine returnsInHanded_of_change_sized (C := Try.checked) ownNone started (by kernel_rfl) Try.func6
    (ChangeSpec.witness6 (enc := enc) (C := Try.checked) false ⟨#[], #[.slice none 0 0, .int .i64 0, .int .i64 0], []⟩ 8 (by kernel_rfl) (by kernel_rfl) (by kernel_rfl) (by kernel_rfl)) ?_
  intro W base args ds gs before hval0 hW _ hsz0 _
  have hsz : (DataW.weightsEach Try.prog (Try.f6.params.toList ++ Rows.markListsSpec.plain.varTypes Try.prog) (ds ++ gs)).all (· ≤ reachBytes) = true := hsz0
  clear hsz0
  have hval : ∀ (j : Nat) t v, Try.f6.params[j]? = some t → args[j]? = some v → Value.okWide Try.prog W .any base t v := hval0
  have hW' := hW
  obtain ⟨p, q, hA0, hV, rfl, -, -⟩ := hW
  have hA : DataW.TrodAll enc Try.prog W 0 (fun _ => true) true Try.f6.params.toList args.toList ds p := hA0
  rw [Try.params6] at hA hval hsz
  obtain ⟨v0, vs0, d0, ds0, p0, q0, hargs, rfl, rfl, h0, r0⟩ := trodAll_cons hA
  obtain ⟨v1, vs1, d1, ds1, p1, q1, rfl, rfl, rfl, h1, r1⟩ := trodAll_cons r0
  obtain ⟨v2, vs2, d2, ds2, p2, q2, rfl, rfl, rfl, h2, r2⟩ := trodAll_cons r1
  obtain ⟨rfl, rfl, rfl⟩ := trodAll_nil r2
  obtain rfl : args = #[v0, v1, v2] := by cases args; simp_all
  obtain ⟨rfl, rfl⟩ := trodVars_none hV
  clear hA0 hval0 hA
  simp only [List.append_nil] at hW' hsz
  obtain ⟨n1, rfl, rfl, rfl, wn1⟩ := open_int Try.underlying3 (hval 1 3 v1 rfl rfl) h1
  obtain ⟨n2, rfl, rfl, rfl, wn2⟩ := open_int Try.underlying3 (hval 2 3 v2 rfl rfl) h2
  simp only [List.append_nil] at hW'
  have hlt0 : ∀ x ∈ p0, x.block < W.heap.size := fun x hx => hW'.lt x (by first | exact hx | exact List.mem_append_left _ hx | exact List.mem_append_right _ hx | simp [hx])
  obtain ⟨l0, hl0, hwf0, hd0⟩ := open_marks (fun _ => rfl) (hval 0 22 v0 rfl rfl) h0
  have hlen0 : l0.length * 24 ≤ 140737488355328 := by
    rcases hd0 with ⟨-, rfl⟩ | ⟨el, sp, e, e'⟩
    · simp
    · have := sized_slice hsz (j := 0) (t := 22) (e := 32) rfl (by rw [e]; rfl) Try.underlying22
      rw [bytesMark, Nat.add_mul, e'] at this
      unfold reachBytes at this
      omega
  have hc := lawMarkLists_any v0 l0 n1 n2 W hl0 hwf0 hlen0 (wf_i64 wn1).1 (wf_i64 wn1).2 (wf_i64 wn2).1 (wf_i64 wn2).2
  refine hc.mono fun e W' ⟨he, hb⟩ => ?_
  subst he
  refine ⟨_, rfl, post_true rfl hW' rfl rfl rfl rfl (fun sp hsp => ?_) hb⟩
  rw [Try.params6]
  have := trodAll_cons_mk (enc := enc) (w := W') (base := 0) (spare := sp) (held := true) (trod_kept (sp := sp) (by kernel_rfl) (of_decide_eq_true (by kernel_rfl)) h0 hb hlt0 (fun x hx => hsp x (by first | exact hx | exact List.mem_append_left _ hx | exact List.mem_append_right _ hx | simp [hx]))) (trodAll_cons_mk (shut_int Try.underlying3 wn1) (trodAll_cons_mk (shut_int Try.underlying3 wn2) trodAll_mk0))
  simpa only [List.append_nil, List.nil_append] using this

set_option maxHeartbeats 40000000 in
theorem markLists_over : Rows.markListsRow.holds Try.pinned (OpenSpec.ofChange Rows.markListsSpec) :=
  OpenClaim.holds_of_wide 6 Try.f6 rfl rfl rfl rfl rfl rfl rfl ⟨rfl, rfl, rfl, rfl, rfl⟩ rfl rfl rfl rfl rfl (by as_aux_lemma => kernel_rfl) Try.func6
    (by
      unfold joinedFacts
      repeat' (with_reducible refine Bool.and_eq_true_iff.2 ⟨?_, ?_⟩)
      all_goals (as_aux_lemma => kernel_rfl))
    (of_decide_eq_true (by as_aux_lemma => kernel_rfl)) (by unfold Func.isWrapper; first | (rw [if_pos (by decide +kernel)]; kernel_rfl) | (rw [if_neg (by decide +kernel)]; exact ⟨rfl, rfl⟩))
    (fun os started H enc _ => markLists_lifted os started H enc)

theorem markLists_proved : Rows.MarkListsSaid := markLists_over

end Go.Proofs.Ytibmnkdeepmabaa
