/- quartoref04.Invert: the inverse in normal form, or the error. -/
import Derived.Test.YtpbnciioeiohlaaRef4b
namespace Go.Proofs.Ytpbnciioeiohlaa
open Go.RowKit

set_option maxHeartbeats 8000000 in
set_option maxRecDepth 100000 in
theorem refInvert_any (s : List UInt8) (v : Value) (l : List Pc) (w : World) (hs : s.length ≤ 9223372036854775807) (h : Sl pcE w v l) (hd : ∀ p, p ∈ l → p.wf) :
    Calls Try.prog 30 #[.string ⟨s.toArray⟩, v] w fun e w' => ∃ v', e = .returned (.tuple #[v', .int .i64 (fitE s l)]) ∧ w'.ownsRow w.heap.size 38 3 v' (inverseS s l).length (pcE.flat (inverseS s l)) ∧ Below w.heap.size w w' := by
  have hl := refFits_any s v l w hs h hd
  by_cases h0 : fitE s l = 0
  · have hf : inverseS s l = formS (invGo s l) := by simp [inverseS, h0]
    have hp := (pfit_of h0).2
    have hie := inv_err h0
    rw [h0] at hl
    obtain ⟨A, cap, hv, h2, h3, -⟩ := id h
    have Hh := Lib.hid h; clear h
    subst hv
    unfold maxLen at h3
    have hlen := hp.len
    obtain ⟨i0, hi, hz0, hz1, hz2⟩ := info_parts infoPiece
    have Hf := Lib.hid hf; have Hl := Lib.hid hl; have H0 := Lib.hid h0; have Hp := Lib.hid hp; have Hie := Lib.hid hie
    clear hf hl h0 hp hie hd
    go_enter Try.func30, Try.ntmps30
    go_wp2_with fail
    refine (Hl.out).mono ?_
    rintro e w1 ⟨rfl, hb1⟩
    have hs1 := hb1.size
    have Hb1 := Lib.hid hb1; clear hb1
    go_wp2_with fail
    go_loopw [7, 8, 9] (fun vo va i wr => ∃ (k m : Nat) (back : List Pc) (A4 : Option Addr) (c4 : Nat), k ≤ l.length ∧ i = .int .i64 k ∧ va = .int .i64 m ∧ Hid ((m : Int) = (sizesS (l.take k)).1) ∧ vo = .slice A4 back.length c4 ∧ Hid (invSt s (l.take k) = ⟨s.drop m, back⟩) ∧ Hid (wr.ownsRow w1.heap.size 38 3 (.slice A4 back.length c4) back.length (pcE.flat back)) ∧ Hid (Below w1.heap.size w1 wr)) (fun _ _ i _ => l.length - (intOf i).toNat)
    case atStart => exact ⟨0, 0, [], none, 0, by omega, rfl, rfl, Lib.hid (by simp [sizesS]), rfl, Lib.hid rfl, Lib.hid (World.ownsRow_nil _ _ _ _), Lib.hid (Below.refl _ _)⟩
    case round =>
      obtain ⟨k, m, back, A4, c4, hk, rfl, rfl, hm, rfl, hE, hO, hbel⟩ := hrel
      have hbl : back.length ≤ k := by
        have := invSt_len s (l.take k)
        rw [hE.out] at this
        dsimp only at this
        rw [this, List.length_take]
        omega
      have hsz := hbel.out.size
      by_cases hlt : k < l.length
      · obtain ⟨b, off, cap', hv, hb, hcells⟩ := Hh.out.pcB hlt
        obtain ⟨rfl, rfl⟩ : A = some ⟨b, off, none⟩ ∧ cap = cap' := by injection hv with e1 e2 e3; exact ⟨e1, e3⟩
        obtain ⟨q1, q2, q3⟩ := Hp.out.val l[k] (List.getElem_mem hlt)
        have hn0 := Pc.n_nonneg q1
        have Hq0 := Lib.hid (show l[k].k = 2 → l[k].n = 0 from fun e => by
          rcases Pc.valid_cases q1 with ⟨x, _⟩ | ⟨x, _⟩ | ⟨_, _, x⟩
          · omega
          · omega
          · first | exact x | exact x.1 | simp_all)
        have Hsn := Lib.hid (invSt_snoc s l k hlt)
        obtain ⟨g5, g6⟩ := Hp.out.at_ k
        obtain ⟨-, g8⟩ := Hp.out.at_ (k + 1)
        have hst := sizes_step hlt
        have hm' : ((m : Int) + l[k].n) = (sizesS (l.take (k + 1))).1 := by rw [hst, hm.out]
        rw [hst] at g8
        have hsm := Hp.out.small
        rw [← hm.out] at g6
        have g8' : (m : Int) + l[k].n ≤ s.length := by rw [hm.out]; exact g8
        obtain ⟨c0, c1, c2⟩ := hcells _ (Hb1.out.trans (hbel.out.mono hs1))
        have HC := Lib.hid hcells
        have Hm' := Lib.hid hm'
        have hbw : b < wr.heap.size := Nat.lt_of_lt_of_le hb (Nat.le_trans hs1 hbel.out.size)
        clear hv hcells q1 g5 g8 hst hm'
        generalize l[k] = p at *
        obtain ⟨pk, pn, pt⟩ := p
        dsimp only at q2 q3 hn0 g8' c0 c1 c2
        obtain ⟨q, rfl⟩ := Int.eq_ofNat_of_zero_le hn0
        have g9 : m + q ≤ s.length := by omega
        have g10 : m + q ≤ 1048576 := by omega
        clear g6 g8'
        have hx1 : (⟨s.toArray⟩ : ByteArray).extract m (m + q) = ⟨((s.drop m).take q).toArray⟩ := by rw [ext_str, List.drop_take]; congr 4; omega
        by_cases hk2 : (pk == 2) = true
        · have e : pk = 2 := by simpa using hk2
          have e0 : (q : Int) = 0 := Hq0.out e
          have He0 := Lib.hid (show q = 0 by omega); have He := Lib.hid e
          clear e e0
          have Est := Lib.hid (show invStep ⟨s.drop m, back⟩ ⟨pk, q, pt⟩ = ⟨s.drop (m + q), back ++ [⟨3, pt.length, []⟩]⟩ by
            simp [invStep, invP, He.out, He0.out])
          go_wp2_with (at_builtin; refine Hid.out ?_)
          refine Lib.hid ?_
          refine wpListB_append _ rfl (.tmp 36) (.tmp 44) 22 22 rfl w1.heap.size (by simp; omega) 38 i0 _ 3 32 Try.underlying22 hi hz0 hz1 hz2 rfl (by decide) _ _ _ rfl (hO.out.alloc _) _ 1 _ rfl (src_one pcE Try.underlying22 (off := 0) ⟨3, pt.length, []⟩ _ ?_) ?_ ?_ ?_
          · exact new_cells _ _ _
          · unfold maxLen; omega
          · omega
          intro A8 c8 w8 hown8 hg8 _ _
          have Hb8 := Lib.hid ((hbel.out.alloc hsz _).grown hg8 (by simp; omega) (fun g hg => (hO.out.lt g hg).1))
          have Ho8 := Lib.hid hown8
          obtain ⟨d0, d1, d2⟩ := HC.out _ (Hb1.out.trans (Hb8.out.mono hs1))
          have hbw8 : b < w8.heap.size := by have := Hb8.out.size; omega
          clear hown8 hg8 c0 c1 c2
          go_wp2
          go_roundw
          case rel => exact ⟨k + 1, m + q, back ++ [⟨3, pt.length, []⟩], A8, c8, by omega, by go_num, by go_num, Lib.hid (by rw [← Hm'.out]; simp), by simp, Lib.hid (by rw [Hsn.out, hE.out, Est.out]), Lib.hid (by rw [List.length_append, pcE.flat_append]; exact Ho8.out), Hb8⟩
          case measure => simp [intOf]; omega
        · have hk2' : (pk == 2) = false := by simpa using hk2
          have e2 : pk ≠ 2 := by simpa using hk2
          have E2 := Lib.hid e2
          clear hk2 e2
          by_cases hk3 : (pk == 3) = true
          · have E3 := Lib.hid (show pk = 3 by simpa using hk3)
            have Est := Lib.hid (show invStep ⟨s.drop m, back⟩ ⟨pk, q, pt⟩ = ⟨s.drop (m + q), back ++ [⟨2, 0, (s.drop m).take q⟩]⟩ by
              simp [invStep, invP, E3.out, List.drop_drop])
            go_wp2_with (at_builtin; refine Hid.out ?_)
            refine Lib.hid ?_
            refine wpListB_append _ rfl (.tmp 48) (.tmp 60) 22 22 rfl w1.heap.size (by simp; omega) 38 i0 _ 3 32 Try.underlying22 hi hz0 hz1 hz2 rfl (by decide) _ _ _ rfl (hO.out.alloc _) _ 1 _ rfl (src_one pcE Try.underlying22 (off := 0) ⟨2, 0, (s.drop m).take q⟩ _ ?_) ?_ ?_ ?_
            · exact new_cells _ _ _
            · unfold maxLen; omega
            · omega
            intro A8 c8 w8 hown8 hg8 _ _
            have Hb8 := Lib.hid ((hbel.out.alloc hsz _).grown hg8 (by simp; omega) (fun g hg => (hO.out.lt g hg).1))
            have Ho8 := Lib.hid hown8
            obtain ⟨d0, d1, d2⟩ := HC.out _ (Hb1.out.trans (Hb8.out.mono hs1))
            have hbw8 : b < w8.heap.size := by have := Hb8.out.size; omega
            clear hown8 hg8 c0 c1 c2
            go_wp2
            go_roundw
            case rel => exact ⟨k + 1, m + q, back ++ [⟨2, 0, (s.drop m).take q⟩], A8, c8, by omega, by go_num, by go_num, Lib.hid (by rw [← Hm'.out]; simp), by simp, Lib.hid (by rw [Hsn.out, hE.out, Est.out]), Lib.hid (by rw [List.length_append, pcE.flat_append]; exact Ho8.out), Hb8⟩
            case measure => simp [intOf]; omega
          · have hk3' : (pk == 3) = false := by simpa using hk3
            have E3 := Lib.hid (show pk ≠ 3 by simpa using hk3)
            clear hk3
            have Est := Lib.hid (show invStep ⟨s.drop m, back⟩ ⟨pk, q, pt⟩ = ⟨s.drop (m + q), back ++ [⟨pk, q, pt⟩]⟩ by
              simp [invStep, invP, E2.out, E3.out, List.drop_drop])
            go_wp2_with (at_builtin; refine Hid.out ?_)
            refine Lib.hid ?_
            refine wpListB_append _ rfl (.tmp 27) (.tmp 32) 22 22 rfl w1.heap.size (by simp; omega) 38 i0 _ 3 32 Try.underlying22 hi hz0 hz1 hz2 rfl (by decide) _ _ _ rfl (hO.out.alloc _) _ 1 _ rfl (src_one pcE Try.underlying22 (off := 0) ⟨pk, q, pt⟩ _ ?_) ?_ ?_ ?_
            · exact new_cells _ _ _
            · unfold maxLen; omega
            · omega
            intro A8 c8 w8 hown8 hg8 _ _
            have Hb8 := Lib.hid ((hbel.out.alloc hsz _).grown hg8 (by simp; omega) (fun g hg => (hO.out.lt g hg).1))
            have Ho8 := Lib.hid hown8
            obtain ⟨d0, d1, d2⟩ := HC.out _ (Hb1.out.trans (Hb8.out.mono hs1))
            have hbw8 : b < w8.heap.size := by have := Hb8.out.size; omega
            clear hown8 hg8 c0 c1 c2
            go_wp2
            go_roundw
            case rel => exact ⟨k + 1, m + q, back ++ [⟨pk, q, pt⟩], A8, c8, by omega, by go_num, by go_num, Lib.hid (by rw [← Hm'.out]; simp), by simp, Lib.hid (by rw [Hsn.out, hE.out, Est.out]), Lib.hid (by rw [List.length_append, pcE.flat_append]; exact Ho8.out), Hb8⟩
            case measure => simp [intOf]; omega
      · have hkl : l.take k = l := List.take_of_length_le (by omega)
        have hbk : back = invGo s l := by
          have := invSt_eq s l
          rw [← hkl, hE.out] at this
          rw [hkl] at this
          exact this
        subst hbk
        clear hkl
        have hsl := Sl.of_own (own_zero hO.out)
        have Hsl := Lib.hid hsl; clear hsl
        go_wp2_with fail
        refine (refForm_any _ _ _ Hsl.out (formPre_of_lens Hie.out) (valid_of_err Hie.out)).mono ?_
        rintro e w2 ⟨v2, rfl, ho2, hb2⟩
        go_wp2
        go_ret2
        refine ⟨v2, by rw [H0.out]; rfl, by rw [Hf.out]; exact own_base (own_zero ho2) (fun g hg => Nat.le_trans (Nat.le_trans hs1 hsz) (ho2.lt g hg).1), Hb1.out.trans ((hbel.out.mono hs1).trans (hb2.mono (Nat.le_trans hs1 hsz)))⟩
  · have hf : inverseS s l = [] := by simp [inverseS, h0]
    have h1' : (fitE s l != 0) = true := by simpa using h0
    generalize fitE s l = E at *
    have Hf := Lib.hid hf; have Hl := Lib.hid hl
    clear hf hl h0
    go_enter Try.func30, Try.ntmps30
    go_wp2_with fail
    refine (Hl.out).mono ?_
    rintro e w1 ⟨rfl, hb1⟩
    go_wp2
    go_ret2
    exact ⟨_, rfl, by rw [Hf.out]; exact World.ownsRow_nil _ _ _ _, hb1⟩

end Go.Proofs.Ytpbnciioeiohlaa
