/- apply.Invert and quartoref04.Invert: what they return. Condition: the pieces and the string read as values of their types. -/
import Derived.Test.YtibmnkdeepmabaaRef4a
namespace Go.Proofs.Ytibmnkdeepmabaa
open Go.RowKit

def invP (sub : List UInt8) (p : Pc) : Pc := if p.k = 2 then ⟨3, p.t.length, []⟩ else if p.k = 3 then ⟨2, 0, sub⟩ else p
def invGo : List UInt8 → List Pc → List Pc
  | _, [] => []
  | s, p :: r => invP (s.take p.n.toNat) p :: invGo (s.drop p.n.toNat) r
structure ISt where
  rem : List UInt8
  back : List Pc
def invStep (st : ISt) (p : Pc) : ISt := ⟨st.rem.drop p.n.toNat, st.back ++ [invP (st.rem.take p.n.toNat) p]⟩
def invSt (s : List UInt8) (l : List Pc) : ISt := l.foldl invStep ⟨s, []⟩
def inverseS (s : List UInt8) (l : List Pc) : List Pc := if fitE s l = 0 then formS (invGo s l) else []

theorem invSt_back (l : List Pc) : ∀ (s : List UInt8) (b : List Pc), (l.foldl invStep ⟨s, b⟩).back = b ++ invGo s l := by
  induction l with
  | nil => intro s b; simp [invGo]
  | cons p r ih =>
    intro s b
    rw [List.foldl_cons]
    show (r.foldl invStep ⟨s.drop p.n.toNat, b ++ [invP (s.take p.n.toNat) p]⟩).back = _
    rw [ih]
    simp [invGo]
theorem invSt_eq (s : List UInt8) (l : List Pc) : (invSt s l).back = invGo s l := by
  have := invSt_back l s []
  simpa [invSt] using this
theorem invSt_snoc (s : List UInt8) (l : List Pc) (k : Nat) (h : k < l.length) : invSt s (l.take (k + 1)) = invStep (invSt s (l.take k)) l[k] := by
  unfold invSt
  rw [List.take_succ_eq_append_getElem h, List.foldl_append]
  rfl
theorem invSt_len (s : List UInt8) (l : List Pc) : (invSt s l).back.length = l.length := by
  rw [invSt_eq]
  induction l generalizing s with
  | nil => rfl
  | cons p r ih => simp [invGo, ih]
theorem invSt_rem {s : List UInt8} {l : List Pc} (h : PFit s l) : ∀ k, k ≤ l.length → (invSt s (l.take k)).rem = s.drop (sizesS (l.take k)).1.toNat
  | 0, _ => by simp [invSt, sizesS]
  | k + 1, hk => by
    have i1 := invSt_rem h k (by omega)
    have hn := Pc.n_nonneg (h.val l[k] (List.getElem_mem (by omega))).1
    obtain ⟨s1, s2⟩ := h.at_ k
    rw [invSt_snoc s l k (by omega), sizes_step (l := l) (k := k) (by omega)]
    unfold invStep
    rw [i1]
    dsimp only
    rw [List.drop_drop]
    congr 1
    omega

theorem inv_lens : ∀ (l : List Pc) (s : List UInt8) (a b : Int), (lensFrom a b l).2.2 = 0 → l.foldl addN 0 ≤ s.length → lensFrom b a (invGo s l) = ((lensFrom a b l).2.1, (lensFrom a b l).1, 0)
  | [], s, a, b, _, _ => rfl
  | p :: r, s, a, b, h, hs => by
    have hfold : ∀ (l : List Pc) (x : Int), l.foldl addN x = x + l.foldl addN 0 := by
      intro l
      induction l with
      | nil => intro x; simp
      | cons q l ih => intro x; rw [List.foldl_cons, List.foldl_cons, ih, ih (addN 0 q)]; unfold addN; omega
    by_cases hv : p.valid = true
    · by_cases hl : 1048576 - a < p.inn ∨ 1048576 - b < p.out
      · rw [lensFrom_long a b p r hv hl] at h; cases h
      · have e := lensFrom_step a b p r hv (by omega) (by omega)
        rw [e] at h ⊢
        have hok := (lensFrom_ok r _ _ h (by obtain ⟨i1, i2⟩ := Pc.sz_of_valid hv; omega) (by obtain ⟨i1, i2⟩ := Pc.sz_of_valid hv; omega)).2.1
        have hr0 : 0 ≤ r.foldl addN 0 := addN_mono r 0 (fun q hq => Pc.n_nonneg (hok q hq).1)
        have hn0 := Pc.n_nonneg hv
        rw [List.foldl_cons, hfold] at hs
        have ha : addN 0 p = p.n := by unfold addN; omega
        rw [ha] at hs
        have hlen : (s.take p.n.toNat).length = p.n.toNat := by rw [List.length_take]; omega
        have hq : (invP (s.take p.n.toNat) p).valid = true ∧ (invP (s.take p.n.toNat) p).inn = p.out ∧ (invP (s.take p.n.toNat) p).out = p.inn := by
          unfold invP
          rcases Pc.valid_cases hv with ⟨x, y, z⟩ | ⟨x, y, z⟩ | ⟨x, y, z⟩
          · rw [if_neg (by omega), if_neg (by omega)]
            exact ⟨hv, by simp [Pc.inn, Pc.out, x], by simp [Pc.inn, Pc.out, x]⟩
          · rw [if_neg (by omega), if_pos x]
            have hne : s.take p.n.toNat ≠ [] := fun e => by rw [e] at hlen; simp at hlen; omega
            refine ⟨by simp [Pc.valid, hne], by simp [Pc.inn, Pc.out, x], ?_⟩
            simp only [Pc.inn, Pc.out, x, hlen]
            simp
            omega
          · rw [if_pos x]
            have hp := List.length_pos_iff.2 z
            refine ⟨by simp [Pc.valid]; omega, by simp [Pc.inn, Pc.out, x], by simp [Pc.inn, Pc.out, x]⟩
        show lensFrom b a (invP (s.take p.n.toNat) p :: invGo (s.drop p.n.toNat) r) = _
        rw [lensFrom_step b a _ _ hq.1 (by rw [hq.2.1]; omega) (by rw [hq.2.2]; omega), hq.2.1, hq.2.2]
        exact inv_lens r _ _ _ h (by rw [List.length_drop]; omega)
    · rw [lensFrom_bad a b p r (by simpa using hv)] at h; cases h

theorem invGo_len (s : List UInt8) (l : List Pc) : (invGo s l).length = l.length := by rw [← invSt_eq, invSt_len]

theorem inv_lens2 {s : List UInt8} {l : List Pc} (h : fitE s l = 0) : lens (invGo s l) = ((lens l).2.1, (lens l).1, 0) := by
  obtain ⟨h0, hf⟩ := pfit_of h
  have hl := (lens_ok h0).1
  have e1 : lens l = lensFrom 0 0 l := by unfold lens; rw [if_neg (by omega)]
  have e2 : lens (invGo s l) = lensFrom 0 0 (invGo s l) := by unfold lens; rw [if_neg (by rw [invGo_len]; omega)]
  rw [e2, e1]
  refine inv_lens l s 0 0 (by rw [← e1]; exact h0) ?_
  have := hf.sum
  unfold sizesS at this
  dsimp only at this
  omega

theorem inv_err {s : List UInt8} {l : List Pc} (h : fitE s l = 0) : errL (invGo s l) = 0 := by
  unfold errL
  rw [inv_lens2 h]

theorem wf_of_err {l : List Pc} (h : errL l = 0) : ∀ p, p ∈ l → p.wf := by
  intro p hp
  obtain ⟨_, _, h3, _⟩ := lens_ok h
  obtain ⟨a, b, c⟩ := h3 p hp
  obtain ⟨d, e, f⟩ := Pc.n_of_valid a b c
  have hk : p.k = 1 ∨ p.k = 3 ∨ p.k = 2 := by
    rcases Pc.valid_cases a with ⟨x, _⟩ | ⟨x, _⟩ | ⟨x, _⟩
    · exact .inl x
    · exact .inr (.inl x)
    · exact .inr (.inr x)
  exact ⟨by omega, by omega, by omega, by omega, by omega⟩

theorem new_cells2 {α : Type} {E : Enc α} (w : World) (o : Obj) (x : α) (t : TypeId) : ∀ j u, (E.cells x)[j]? = some u → ((w.alloc o).alloc (.cells (E.cells x).toArray t)).cell? ⟨w.heap.size + 1, 0 + j, none⟩ = some u := by
  intro j u hu
  have := new_cells (w.alloc o) x t j u hu
  rwa [World.size_alloc] at this

set_option maxHeartbeats 4000000 in
set_option maxRecDepth 100000 in
theorem invert_any (s : List UInt8) (v : Value) (l : List Pc) (w : World) (hs : s.length ≤ 9223372036854775807) (h : Sl pcE w v l) (hd : ∀ p, p ∈ l → p.wf) :
    Calls Try.prog 29 #[.string ⟨s.toArray⟩, v] w fun e w' => ∃ v', e = .returned (.tuple #[v', .int .i64 (fitE s l)]) ∧ w'.ownsRow w.heap.size 53 3 v' (inverseS s l).length (pcE.flat (inverseS s l)) ∧ Below w.heap.size w w' := by
  have hl := fits_any s v l w hs h hd
  by_cases h0 : fitE s l = 0
  · have hf : inverseS s l = formS (invGo s l) := by simp [inverseS, h0]
    have hp := (pfit_of h0).2
    have hie := inv_err h0
    rw [h0] at hl
    obtain ⟨A, cap, hv, h2, h3, -⟩ := id h
    have Hh := Lib.hid h; clear h
    subst hv
    unfold maxLen at h3
    have hlen := hp.len
    obtain ⟨i0, hi, hz0, hz1, hz2⟩ := info_parts infoPiece
    have Hf := Lib.hid hf; have Hl := Lib.hid hl; have H0 := Lib.hid h0; have Hp := Lib.hid hp; have Hie := Lib.hid hie
    clear hf hl h0 hp hie hd
    go_enter Try.func29, Try.ntmps29
    go_wp2_with fail
    refine (Hl.out).mono ?_
    rintro e w1 ⟨rfl, hb1⟩
    have hs1 := hb1.size
    have Hb1 := Lib.hid hb1; clear hb1
    go_wp2_with fail
    go_loopw [0, 4, 17] (fun vs vo i wr => ∃ (k : Nat) (rem : List UInt8) (back : List Pc) (A4 : Option Addr) (c4 : Nat), k ≤ l.length ∧ i = .int .i64 k ∧ vs = .string ⟨rem.toArray⟩ ∧ vo = .slice A4 back.length c4 ∧ Hid (invSt s (l.take k) = ⟨rem, back⟩) ∧ Hid (wr.ownsRow w1.heap.size 53 3 (.slice A4 back.length c4) back.length (pcE.flat back)) ∧ Hid (Below w1.heap.size w1 wr)) (fun _ _ i _ => l.length - (intOf i).toNat)
    case atStart => exact ⟨0, s, [], none, 0, by omega, rfl, rfl, rfl, Lib.hid rfl, Lib.hid (World.ownsRow_nil _ _ _ _), Lib.hid (Below.refl _ _)⟩
    case round =>
      obtain ⟨k, rem, back, A4, c4, hk, rfl, rfl, rfl, hE, hO, hbel⟩ := hrel
      have hbl : back.length ≤ k := by
        have := invSt_len s (l.take k)
        rw [hE.out] at this
        dsimp only at this
        rw [this, List.length_take]
        omega
      have hsz := hbel.out.size
      by_cases hlt : k < l.length
      · obtain ⟨b, off, cap', hv, hb, hcells⟩ := Hh.out.pcB hlt
        obtain ⟨rfl, rfl⟩ : A = some ⟨b, off, none⟩ ∧ cap = cap' := by injection hv with e1 e2 e3; exact ⟨e1, e3⟩
        obtain ⟨q1, q2, q3⟩ := Hp.out.val l[k] (List.getElem_mem hlt)
        have hn0 := Pc.n_nonneg q1
        have Hq0 := Lib.hid (show l[k].k = 2 → l[k].n = 0 from fun e => by
          rcases Pc.valid_cases q1 with ⟨x, _⟩ | ⟨x, _⟩ | ⟨_, _, x⟩
          · omega
          · omega
          · first | exact x | exact x.1 | simp_all)
        have Hsn := Lib.hid (invSt_snoc s l k hlt)
        have hrm := invSt_rem Hp.out k hk
        rw [hE.out] at hrm
        dsimp only at hrm
        obtain ⟨g5, g6⟩ := Hp.out.at_ k
        obtain ⟨-, g8⟩ := Hp.out.at_ (k + 1)
        have hst := sizes_step hlt
        rw [hst] at g8
        have hsm := Hp.out.small
        have hrl : l[k].n ≤ rem.length := by rw [hrm, List.length_drop]; omega
        have hrl2 : rem.length ≤ 1048576 := by rw [hrm, List.length_drop]; omega
        obtain ⟨c0, c1, c2⟩ := hcells _ (Hb1.out.trans (hbel.out.mono hs1))
        have hbw : b < wr.heap.size := Nat.lt_of_lt_of_le hb (Nat.le_trans hs1 hbel.out.size)
        clear hv hcells q1 hrm g5 g6 g8 hst hsm
        generalize l[k] = p at *
        obtain ⟨pk, pn, pt⟩ := p
        dsimp only at q2 q3 hn0 hrl c0 c1 c2
        obtain ⟨q, rfl⟩ := Int.eq_ofNat_of_zero_le hn0
        have hx1 : (⟨rem.toArray⟩ : ByteArray).extract 0 q = ⟨(rem.take q).toArray⟩ := by rw [ext_str]; simp
        have hx2 : (⟨rem.toArray⟩ : ByteArray).extract q rem.length = ⟨(rem.drop q).toArray⟩ := by rw [ext_str]; simp
        by_cases hk2 : (pk == 2) = true
        · have Est := Lib.hid (show invStep ⟨rem, back⟩ ⟨pk, q, pt⟩ = ⟨rem, back ++ [⟨3, pt.length, []⟩]⟩ by
            have e : pk = 2 := by simpa using hk2
            have e0 : (q : Int) = 0 := Hq0.out e
            have e0' : q = 0 := by omega
            subst e0'
            simp [invStep, invP, e])
          go_wp2_with (
            at_builtin
            refine wpListB_append _ rfl (.tmp 29) (.tmp 34) 39 39 rfl w1.heap.size (by simp; omega) 53 i0 _ 3 32 Try.underlying39 hi hz0 hz1 hz2 rfl (by decide) _ _ _ rfl ((hO.out.alloc _).alloc _) _ 1 _ rfl (src_one pcE Try.underlying39 (off := 0) ⟨3, pt.length, []⟩ _ ?_) ?_ ?_ ?_
            · exact new_cells2 _ _ _ _
            · unfold maxLen; omega
            · omega
            intro A8 c8 w8 hown8 hg8 hat8 _
            have Hb8 := Lib.hid (((hbel.out.alloc hsz _).alloc (by simp; omega) _).grown hg8 (by simp; omega) (fun g hg => (hO.out.lt g hg).1))
            have Ho8 := Lib.hid hown8
            obtain ⟨d0, d1, d2, d3⟩ := boxAt wr ⟨pk, q, pt⟩ 53 ((Fr.alloc (fun k => some k = (Value.slice A4 back.length c4).ownBlock) _ _).trans (Fr.of_grown hg8)) (fun e => by have := (hO.out.lt _ e.symm).2; omega)
            dsimp only at d0 d1 d2
            clear hown8 hg8 hat8)
          go_roundw
          case rel => exact ⟨k + 1, rem, back ++ [⟨3, pt.length, []⟩], A8, c8, by omega, by go_num, by simp, by simp, Lib.hid (by rw [Hsn.out, hE.out, Est.out]), Lib.hid (by rw [List.length_append, pcE.flat_append]; exact Ho8.out), Hb8⟩
          case measure => simp [intOf]; omega
        · have hk2' : (pk == 2) = false := by simpa using hk2
          have e2 : pk ≠ 2 := by simpa using hk2
          clear hk2
          by_cases hk3 : (pk == 3) = true
          · have Est := Lib.hid (show invStep ⟨rem, back⟩ ⟨pk, q, pt⟩ = ⟨rem.drop q, back ++ [⟨2, 0, rem.take q⟩]⟩ by
              have e : pk = 3 := by simpa using hk3
              simp [invStep, invP, e])
            clear e2
            go_wp2_with (
              at_builtin
              refine wpListB_append _ rfl (.tmp 38) (.tmp 44) 39 39 rfl w1.heap.size (by simp; omega) 53 i0 _ 3 32 Try.underlying39 hi hz0 hz1 hz2 rfl (by decide) _ _ _ rfl ((hO.out.alloc _).alloc _) _ 1 _ rfl (src_one pcE Try.underlying39 (off := 0) ⟨2, 0, rem.take q⟩ _ ?_) ?_ ?_ ?_
              · exact new_cells2 _ _ _ _
              · unfold maxLen; omega
              · omega
              intro A8 c8 w8 hown8 hg8 hat8 _
              have Hb8 := Lib.hid (((hbel.out.alloc hsz _).alloc (by simp; omega) _).grown hg8 (by simp; omega) (fun g hg => (hO.out.lt g hg).1))
              have Ho8 := Lib.hid hown8
              obtain ⟨d0, d1, d2, d3⟩ := boxAt wr ⟨pk, q, pt⟩ 53 ((Fr.alloc (fun k => some k = (Value.slice A4 back.length c4).ownBlock) _ _).trans (Fr.of_grown hg8)) (fun e => by have := (hO.out.lt _ e.symm).2; omega)
              dsimp only at d0 d1 d2
              clear hown8 hg8 hat8)
            go_roundw
            case rel => exact ⟨k + 1, rem.drop q, back ++ [⟨2, 0, rem.take q⟩], A8, c8, by omega, by go_num, by simp, by simp, Lib.hid (by rw [Hsn.out, hE.out, Est.out]), Lib.hid (by rw [List.length_append, pcE.flat_append]; exact Ho8.out), Hb8⟩
            case measure => simp [intOf]; omega
          · have hk3' : (pk == 3) = false := by simpa using hk3
            have Est := Lib.hid (show invStep ⟨rem, back⟩ ⟨pk, q, pt⟩ = ⟨rem.drop q, back ++ [⟨pk, q, pt⟩]⟩ by
              have e : pk ≠ 3 := by simpa using hk3
              simp [invStep, invP, e, e2])
            clear e2 hk3
            go_wp2_with (
              at_builtin
              refine wpListB_append _ rfl (.tmp 23) (.tmp 25) 39 39 rfl w1.heap.size (by simp; omega) 53 i0 _ 3 32 Try.underlying39 hi hz0 hz1 hz2 rfl (by decide) _ _ _ rfl ((hO.out.alloc _).alloc _) _ 1 _ rfl (src_one pcE Try.underlying39 (off := 0) ⟨pk, q, pt⟩ _ ?_) ?_ ?_ ?_
              · exact new_cells2 _ _ _ _
              · unfold maxLen; omega
              · omega
              intro A8 c8 w8 hown8 hg8 hat8 _
              have Hb8 := Lib.hid (((hbel.out.alloc hsz _).alloc (by simp; omega) _).grown hg8 (by simp; omega) (fun g hg => (hO.out.lt g hg).1))
              have Ho8 := Lib.hid hown8
              obtain ⟨d0, d1, d2, d3⟩ := boxAt wr ⟨pk, q, pt⟩ 53 ((Fr.alloc (fun k => some k = (Value.slice A4 back.length c4).ownBlock) _ _).trans (Fr.of_grown hg8)) (fun e => by have := (hO.out.lt _ e.symm).2; omega)
              dsimp only at d0 d1 d2
              clear hown8 hg8 hat8)
            go_roundw
            case rel => exact ⟨k + 1, rem.drop q, back ++ [⟨pk, q, pt⟩], A8, c8, by omega, by go_num, by simp, by simp, Lib.hid (by rw [Hsn.out, hE.out, Est.out]), Lib.hid (by rw [List.length_append, pcE.flat_append]; exact Ho8.out), Hb8⟩
            case measure => simp [intOf]; omega
      · have hkl : l.take k = l := List.take_of_length_le (by omega)
        have hbk : back = invGo s l := by
          have := invSt_eq s l
          rw [← hkl, hE.out] at this
          rw [hkl] at this
          exact this
        subst hbk
        clear hkl
        have hn := normalize_any _ _ wr (Sl.of_own hO.out) (wf_of_err Hie.out)
        rw [Hie.out] at hn
        have Hn := Lib.hid hn; clear hn
        go_wp2_with fail
        refine (Hn.out).mono ?_
        rintro e w2 ⟨v2, rfl, ho2, hb2⟩
        go_wp2
        go_ret2
        have hnf : normS (invGo s l) = formS (invGo s l) := by simp [normS, Hie.out]
        rw [hnf] at ho2
        refine ⟨v2, by rw [H0.out]; rfl, by rw [Hf.out]; exact own_base (own_zero ho2) (fun g hg => Nat.le_trans (Nat.le_trans hs1 hsz) (ho2.lt g hg).1), Hb1.out.trans ((hbel.out.mono hs1).trans (hb2.mono (Nat.le_trans hs1 hsz)))⟩
  · have hf : inverseS s l = [] := by simp [inverseS, h0]
    have h1' : (fitE s l != 0) = true := by simpa using h0
    generalize fitE s l = E at *
    have Hf := Lib.hid hf; have Hl := Lib.hid hl
    clear hf hl h0
    go_enter Try.func29, Try.ntmps29
    go_wp2_with fail
    refine (Hl.out).mono ?_
    rintro e w1 ⟨rfl, hb1⟩
    go_wp2
    go_ret2
    exact ⟨_, rfl, by rw [Hf.out]; exact World.ownsRow_nil _ _ _ _, hb1⟩

end Go.Proofs.Ytibmnkdeepmabaa
