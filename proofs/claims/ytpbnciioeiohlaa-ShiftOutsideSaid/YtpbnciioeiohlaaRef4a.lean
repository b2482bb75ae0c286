/- quartoref03.Lengths, Normalize, quartoref04.fits, Parts, Apply, Removed, Inserted: what they return. Condition: the pieces and the string read as values of their types. -/
import Derived.Test.YtpbnciioeiohlaaApply1
namespace Go.Proofs.Ytpbnciioeiohlaa
open Go.RowKit

set_option maxHeartbeats 1000000 in
theorem refLengths_any (v : Value) (l : List Pc) (w : World) (h : Sl pcE w v l) (hd : ∀ p, p ∈ l → p.wf) :
    Calls Try.prog 72 #[v] w fun e w' => e = .returned (lensV l) ∧ Below w.heap.size w w' := by
  have hc := refCheck_any v l w h hd
  rw [show (lens l).2.2 = errL l from rfl] at hc
  by_cases h0 : errL l = 0
  · have hv : lensV l = .tuple #[.int .i64 (sizesS l).1, .int .i64 (sizesS l).2, .int .i64 0] := by
      obtain ⟨_, b, _⟩ := lens_ok h0
      simp [lensV, b]
    rw [h0] at hc
    have Hv := Lib.hid hv; have Hc := Lib.hid hc; have H0 := Lib.hid h0
    clear hv hc h0
    go_enter Try.func72, Try.ntmps72
    go_wp2_with fail
    refine (Hc.out).mono ?_
    rintro e w1 ⟨rfl, hb1⟩
    go_wp2_with fail
    refine (refSizes_any v l w1 (h.ext hb1) (formPre_of_lens H0.out)).mono ?_
    rintro e w2 ⟨rfl, hb2⟩
    go_wp2
    all_goals (first | go_ret3 | (go_quiet (fail); go_wp2; go_ret3))
    all_goals first | exact ⟨by rw [Hv.out]; rfl, hb1.trans (hb2.mono hb1.size)⟩ | exact ⟨by rw [Hv.out]; rfl, below_drewN (hb1.trans (hb2.mono hb1.size)) _⟩
  · have hv : lensV l = .tuple #[.int .i64 0, .int .i64 0, .int .i64 (errL l)] := by
      have := lens_err (l := l) h0
      unfold lensV
      rw [this]
      rfl
    have h1' : (errL l != 0) = true := by simpa using h0
    have Hv := Lib.hid hv; have Hc := Lib.hid hc
    clear hv hc h0
    go_enter Try.func72, Try.ntmps72
    go_wp2_with fail
    refine (Hc.out).mono ?_
    rintro e w1 ⟨rfl, hb1⟩
    go_wp2
    go_ret3
    exact ⟨by rw [Hv.out]; rfl, hb1⟩

set_option maxHeartbeats 1000000 in
theorem refFits_any (s : List UInt8) (v : Value) (l : List Pc) (w : World) (_hs : s.length ≤ 9223372036854775807) (h : Sl pcE w v l) (hd : ∀ p, p ∈ l → p.wf) :
    Calls Try.prog 59 #[.string ⟨s.toArray⟩, v] w fun e w' => e = .returned (.int .i64 (fitE s l)) ∧ Below w.heap.size w w' := by
  have hl := refLengths_any v l w h hd
  unfold lensV at hl
  rw [show (lens l).2.2 = errL l from rfl] at hl
  by_cases h0 : errL l = 0
  · by_cases h1 : (lens l).1 = s.length
    · have hf : fitE s l = 0 := by simp [fitE, h0, h1]
      rw [h0, h1] at hl
      have Hf := Lib.hid hf; have Hl := Lib.hid hl
      clear hf hl h0 h1
      go_enter Try.func59, Try.ntmps59
      go_wp2_with fail
      refine (Hl.out).mono ?_
      rintro e w1 ⟨rfl, hb1⟩
      go_wp2
      go_ret
      exact ⟨by rw [Hf.out]; rfl, hb1⟩
    · have hf : fitE s l = 21 := by simp [fitE, h0, h1]
      have h1' : ((lens l).1 != (s.length : Int)) = true := by simpa using h1
      rw [h0] at hl
      generalize (lens l).1 = L at *
      have Hf := Lib.hid hf; have Hl := Lib.hid hl
      clear hf hl h0 h1
      go_enter Try.func59, Try.ntmps59
      go_wp2_with fail
      refine (Hl.out).mono ?_
      rintro e w1 ⟨rfl, hb1⟩
      go_wp2
      go_ret
      exact ⟨by rw [Hf.out]; rfl, hb1⟩
  · have hf : fitE s l = errL l := by simp [fitE, h0]
    have h1' : (errL l == 0) = false := by simpa using h0
    generalize errL l = E at *
    have Hf := Lib.hid hf; have Hl := Lib.hid hl
    clear hf hl h0
    go_enter Try.func59, Try.ntmps59
    go_wp2_with fail
    refine (Hl.out).mono ?_
    rintro e w1 ⟨rfl, hb1⟩
    go_wp2
    go_ret
    exact ⟨by rw [Hf.out]; rfl, hb1⟩

/-- two values share no row -/
def apartV (v u : Value) : Prop := ∀ g, v.ownBlock = some g → u.ownBlock ≠ some g
theorem apartV.symm {v u : Value} (h : apartV v u) : apartV u v := fun g hg e => h g e hg
theorem apartV.nil (u : Value) : apartV (.slice none 0 0) u := fun _ h => by cases h
theorem own_apart {w w' : World} {B : Nat} {e : TypeId} {size n : Nat} {v u : Value} {xs : List Value} (h : w.ownsRow B e size u n xs) (hg : w.grownBy w' v.ownBlock) (ha : apartV v u) : w'.ownsRow B e size u n xs := by
  refine h.kept hg ?_
  cases hu : u.ownBlock with
  | none => exact .inl rfl
  | some g => exact .inr fun e => ha g e.symm hu
theorem apartV.grown {w : World} {B : Nat} {e : TypeId} {size n : Nat} {v v' u : Value} {xs : List Value} (h : apartV v u) (hu : w.ownsRow B e size u n xs) (hat : v'.ownBlock = v.ownBlock ∨ v'.ownBlock = some w.heap.size) : apartV v' u := fun g hg e => by
  rcases hat with k | k
  · exact h g (k ▸ hg) e
  · rw [k] at hg
    injection hg with hg
    have := (hu.lt g e).2
    omega

theorem own_bytes {w : World} {B n n' c : Nat} {A : Option Addr} {xs : List Value} {l : List UInt8} (h : w.ownsRow B 5 1 (.slice A n c) n' xs) (hn : n = l.length) (hn' : n' = l.length) (hx : xs = bc l) : w.ownsRow B 5 1 (.slice A l.length c) l.length (bc l) := by
  subst hn hn' hx
  exact h
theorem apart_len {A : Option Addr} {n n' c : Nat} {u : Value} (h : apartV (.slice A n c) u) (hn : n = n') : apartV (.slice A n' c) u := hn ▸ h
theorem apart_len2 {A : Option Addr} {n n' c : Nat} {u : Value} (h : apartV u (.slice A n c)) (hn : n = n') : apartV u (.slice A n' c) := hn ▸ h
theorem bytes_size (l : List UInt8) : (⟨l.toArray⟩ : ByteArray).size = l.length := by simp [ByteArray.size]
theorem bytes_cells (l : List UInt8) : byteCells ⟨l.toArray⟩ = bc l := rfl
theorem bc_append (a b : List UInt8) : bc (a ++ b) = bc a ++ bc b := Lib.byteCells_append a b

theorem refStep {s : List UInt8} {st : PSt} {pk : Int} {q : Nat} {t : List UInt8} {m : Nat} (hv : (⟨pk, (q : Int), t⟩ : Pc).valid = true) (hs : st.s = s.drop m) :
    (pk = 1 → (partStep st ⟨pk, q, t⟩).out = st.out ++ t ++ ((s.take (m + q)).drop m) ∧ (partStep st ⟨pk, q, t⟩).gone = st.gone) ∧ (pk ≠ 1 → (partStep st ⟨pk, q, t⟩).out = st.out ++ t ∧ (partStep st ⟨pk, q, t⟩).gone = st.gone ++ ((s.take (m + q)).drop m)) := by
  have e : (s.take (m + q)).drop m = (s.drop m).take q := by rw [List.drop_take]; congr 1; omega
  rw [e]
  unfold partStep
  rcases Pc.valid_cases hv with ⟨x, _, z⟩ | ⟨x, _, z⟩ | ⟨x, y, z⟩
  · dsimp only at x z ⊢
    subst z
    exact ⟨fun _ => by simp [x, hs], fun h => absurd x h⟩
  · dsimp only at x z ⊢
    subst z
    exact ⟨fun h => by omega, fun _ => by simp [x, hs]⟩
  · dsimp only at x y ⊢
    have hq : q = 0 := by omega
    subst hq
    exact ⟨fun h => by omega, fun _ => by simp [x]⟩

set_option maxHeartbeats 4000000 in
set_option maxRecDepth 100000 in
theorem refParts_any (s : List UInt8) (v : Value) (l : List Pc) (w : World) (h : Sl pcE w v l) (hd : PFit s l) :
    Calls Try.prog 60 #[.string ⟨s.toArray⟩, v] w fun e w' => e = .returned (.tuple #[.string ⟨(partSt s l).out.toArray⟩, .string ⟨(partSt s l).gone.toArray⟩]) ∧ Below w.heap.size w w' := by
  obtain ⟨A, cap, hv, h2, h3, -⟩ := id h
  have Hh := Lib.hid h; clear h
  subst hv
  unfold maxLen at h3
  have hlen := hd.len
  have Hd := Lib.hid hd; clear hd
  obtain ⟨j0, hj, jz0, jz1, jz2⟩ := info_parts infoByte
  go_enter Try.func60, Try.ntmps60
  go_wp2_with fail
  go_loopw [6, 7, 8, 9] (fun vo vg a i wr => ∃ (k m : Nat) (out gone : List UInt8) (A6 A7 : Option Addr) (c6 c7 : Nat), k ≤ l.length ∧ i = .int .i64 k ∧ a = .int .i64 m ∧ vo = .slice A6 out.length c6 ∧ vg = .slice A7 gone.length c7 ∧
     Hid ((sizesS (l.take k)).1 = m ∧ (partSt s (l.take k)).out = out ∧ (partSt s (l.take k)).gone = gone) ∧
     Hid (wr.ownsRow w.heap.size 5 1 (.slice A6 out.length c6) out.length (bc out)) ∧
     Hid (wr.ownsRow w.heap.size 5 1 (.slice A7 gone.length c7) gone.length (bc gone)) ∧
     Hid (apartV (.slice A6 out.length c6) (.slice A7 gone.length c7)) ∧ Hid (Below w.heap.size w wr)) (fun _ _ _ i _ => l.length - (intOf i).toNat)
  case atStart => exact ⟨0, 0, [], [], none, none, 0, 0, by omega, rfl, rfl, rfl, rfl, Lib.hid ⟨rfl, rfl, rfl⟩, Lib.hid (World.ownsRow_nil _ _ _ _), Lib.hid (World.ownsRow_nil _ _ _ _), Lib.hid (apartV.nil _), Lib.hid (Below.refl _ _)⟩
  case round =>
    obtain ⟨k, m, out, gone, A6, A7, c6, c7, hk, rfl, rfl, rfl, rfl, hE, ho, hg, hn, hbel⟩ := hrel
    obtain ⟨g1, g2, g3, -⟩ := Hd.out.bd (d := 1048576) (fun p hp => (Hd.out.val p hp).2) k hk
    obtain ⟨-, g6⟩ := Hd.out.at_ k
    have g7 := Hd.out.small
    rw [hE.out.1] at g1 g6
    rw [hE.out.2.1] at g2
    rw [hE.out.2.2] at g3
    have G1 := Lib.hid g1; clear g1
    by_cases hlt : k < l.length
    · obtain ⟨b, off, cap', hv, hb, hcells⟩ := Hh.out.pcB hlt
      obtain ⟨rfl, rfl⟩ : A = some ⟨b, off, none⟩ ∧ cap = cap' := by injection hv with e1 e2 e3; exact ⟨e1, e3⟩
      obtain ⟨q1, q2, q3⟩ := Hd.out.val l[k] (List.getElem_mem hlt)
      have Hsn := Lib.hid (partSt_snoc s l k hlt)
      have hn0 := Pc.n_nonneg q1
      have hst := sizes_step hlt
      obtain ⟨-, g8⟩ := Hd.out.at_ (k + 1)
      rw [hst, hE.out.1] at g8
      have Hst := Lib.hid hst; clear hst
      have Hcells := Lib.hid hcells
      have Q1 := Lib.hid q1
      clear hv hcells q1
      generalize l[k] = p at *
      obtain ⟨pk, pn, pt⟩ := p
      dsimp only at q2 q3 hn0 g8
      obtain ⟨q, rfl⟩ := Int.eq_ofNat_of_zero_le hn0
      obtain ⟨c0, c1, c2⟩ := Hcells.out _ hbel.out
      have Hrs := Lib.hid (refStep (st := partSt s (l.take k)) (m := m) Q1.out G1.out)
      dsimp only at c0 c1 c2
      by_cases hk1 : (pk == 1) = true
      · have e1 : pk = 1 := by simpa using hk1
        have r1 := Hrs.out.1 e1
        have R1 := Lib.hid r1; clear r1 e1
        go_wp2_with (first
          | (at_builtin
             refine wpListB_append _ rfl (.tmp 16) (.tmp 21) 79 9 rfl w.heap.size hbel.out.size 5 j0 _ 1 1 Try.underlying79 hj jz0 jz1 jz2 rfl (by decide) _ _ _ rfl ho.out _ _ _ rfl (Src.ofString _ Try.underlying9 ⟨pt.toArray⟩) ?_ ?_ ?_
             · simp [ByteArray.size, maxLen]; omega
             · simp [ByteArray.size]; omega
             intro A8 c8 w8 hown8 hg8 hat8 _
             have Hb8 := Lib.hid (hbel.out.grown hg8 hbel.out.size (fun g hg => (ho.out.lt g hg).1))
             have Hg8 := Lib.hid (own_apart hg.out hg8 hn.out)
             have Ha8 := Lib.hid (hn.out.grown hg.out hat8)
             have Ho8 := Lib.hid hown8
             obtain ⟨d0, d1, d2⟩ := Hcells.out _ Hb8.out
             dsimp only at d0 d1 d2
             clear hown8 hg8 hat8 c0 c1 c2)
          | (at_builtin
             refine wpListB_append _ rfl (.tmp 29) (.tmp 39) 79 9 rfl w.heap.size Hb8.out.size 5 j0 _ 1 1 Try.underlying79 hj jz0 jz1 jz2 rfl (by decide) _ _ _ rfl Ho8.out _ _ _ rfl (Src.ofString _ Try.underlying9 (ByteArray.extract ⟨s.toArray⟩ m (m + q))) ?_ ?_ ?_
             · rw [ext_str]; simp [ByteArray.size, maxLen]; omega
             · rw [ext_str]; simp [ByteArray.size]; omega
             intro A9 c9 w9 hown9 hg9 hat9 _
             have Hb9 := Lib.hid (Hb8.out.grown hg9 Hb8.out.size (fun g hg => (Ho8.out.lt g hg).1))
             have Hg9 := Lib.hid (own_apart Hg8.out hg9 Ha8.out)
             have Ha9 := Lib.hid (Ha8.out.grown Hg8.out hat9)
             have Ho9 := Lib.hid hown9
             obtain ⟨f0, f1, f2⟩ := Hcells.out _ Hb9.out
             dsimp only at f0 f1 f2
             clear hown9 hg9 hat9 d0 d1 d2))
        go_roundw
        case rel =>
          refine ⟨k + 1, m + q, out ++ pt ++ (s.take (m + q)).drop m, gone, A9, A7, c9, c7, by omega, by go_num, by go_num, by simp <;> omega, by simp <;> omega, Lib.hid ⟨?_, ?_, ?_⟩, Lib.hid ?_, Lib.hid ?_, Lib.hid ?_, Hb9⟩
          · rw [Hst.out, hE.out.1]; simp
          · rw [Hsn.out, R1.out.1, hE.out.2.1]
          · rw [Hsn.out, R1.out.2, hE.out.2.2]
          · refine own_bytes Ho9.out ?_ ?_ ?_
            · rw [ext_str, bytes_size, bytes_size, List.length_append, List.length_append]
            · rw [ext_str, bytes_size, bytes_size, List.length_append, List.length_append]
            · rw [ext_str, bytes_cells, bytes_cells, bc_append, bc_append]
          · exact Hg9.out
          · refine apart_len Ha9.out ?_
            rw [ext_str, bytes_size, bytes_size, List.length_append, List.length_append]
        case measure => simp [intOf]; omega
      · have e1 : pk ≠ 1 := by simpa using hk1
        have hk1' : (pk == 1) = false := by simpa using hk1
        have r1 := Hrs.out.2 e1
        have R1 := Lib.hid r1; clear r1 e1 hk1
        go_wp2_with (first
          | (at_builtin
             refine wpListB_append _ rfl (.tmp 16) (.tmp 21) 79 9 rfl w.heap.size hbel.out.size 5 j0 _ 1 1 Try.underlying79 hj jz0 jz1 jz2 rfl (by decide) _ _ _ rfl ho.out _ _ _ rfl (Src.ofString _ Try.underlying9 ⟨pt.toArray⟩) ?_ ?_ ?_
             · simp [ByteArray.size, maxLen]; omega
             · simp [ByteArray.size]; omega
             intro A8 c8 w8 hown8 hg8 hat8 _
             have Hb8 := Lib.hid (hbel.out.grown hg8 hbel.out.size (fun g hg => (ho.out.lt g hg).1))
             have Hg8 := Lib.hid (own_apart hg.out hg8 hn.out)
             have Ha8 := Lib.hid (hn.out.grown hg.out hat8)
             have Ho8 := Lib.hid hown8
             obtain ⟨d0, d1, d2⟩ := Hcells.out _ Hb8.out
             dsimp only at d0 d1 d2
             clear hown8 hg8 hat8 c0 c1 c2)
          | (at_builtin
             refine wpListB_append _ rfl (.tmp 41) (.tmp 51) 79 9 rfl w.heap.size Hb8.out.size 5 j0 _ 1 1 Try.underlying79 hj jz0 jz1 jz2 rfl (by decide) _ _ _ rfl Hg8.out _ _ _ rfl (Src.ofString _ Try.underlying9 (ByteArray.extract ⟨s.toArray⟩ m (m + q))) ?_ ?_ ?_
             · rw [ext_str]; simp [ByteArray.size, maxLen]; omega
             · rw [ext_str]; simp [ByteArray.size]; omega
             intro A9 c9 w9 hown9 hg9 hat9 _
             have Hb9 := Lib.hid (Hb8.out.grown hg9 Hb8.out.size (fun g hg => (Hg8.out.lt g hg).1))
             have Ho9 := Lib.hid (own_apart Ho8.out hg9 Ha8.out.symm)
             have Ha9 := Lib.hid ((Ha8.out.symm.grown Ho8.out hat9).symm)
             have Hg9 := Lib.hid hown9
             obtain ⟨f0, f1, f2⟩ := Hcells.out _ Hb9.out
             dsimp only at f0 f1 f2
             clear hown9 hg9 hat9 d0 d1 d2))
        go_roundw
        case rel =>
          refine ⟨k + 1, m + q, out ++ pt, gone ++ (s.take (m + q)).drop m, A8, A9, c8, c9, by omega, by go_num, by go_num, by simp <;> omega, by simp <;> omega, Lib.hid ⟨?_, ?_, ?_⟩, Lib.hid ?_, Lib.hid ?_, Lib.hid ?_, Hb9⟩
          · rw [Hst.out, hE.out.1]; simp
          · rw [Hsn.out, R1.out.1, hE.out.2.1]
          · rw [Hsn.out, R1.out.2, hE.out.2.2]
          · refine own_bytes Ho9.out ?_ ?_ ?_
            · rw [bytes_size, List.length_append]
            · rw [bytes_size, List.length_append]
            · rw [bytes_cells, bc_append]
          · refine own_bytes Hg9.out ?_ ?_ ?_
            · rw [ext_str, bytes_size, List.length_append]
            · rw [ext_str, bytes_size, List.length_append]
            · rw [ext_str, bytes_cells, bc_append]
          · refine apart_len2 (apart_len Ha9.out ?_) ?_
            · rw [bytes_size, List.length_append]
            · rw [ext_str, bytes_size, List.length_append]
        case measure => simp [intOf]; omega
    · have hkl : l.take k = l := List.take_of_length_le (by omega)
      obtain ⟨e1, e2, e3⟩ := hE.out
      rw [hkl] at e2 e3
      subst e2 e3
      have hc1 := own_str (w := wr.drew) (l := (partSt s l).out) ho.out
      have hc2 := own_str (w := wr.drew) (l := (partSt s l).gone) hg.out
      clear hkl e1
      go_wp2
      go_region
      all_goals (go_wp2; go_ret2; exact ⟨rfl, hbel.out.drew⟩)

set_option maxHeartbeats 1000000 in
theorem refApply_any (s : List UInt8) (v : Value) (l : List Pc) (w : World) (hs : s.length ≤ 9223372036854775807) (h : Sl pcE w v l) (hd : ∀ p, p ∈ l → p.wf) :
    Calls Try.prog 23 #[.string ⟨s.toArray⟩, v] w fun e w' => e = .returned (.tuple #[.string ⟨(applyS s l).toArray⟩, .int .i64 (fitE s l)]) ∧ Below w.heap.size w w' := by
  have hl := refFits_any s v l w hs h hd
  by_cases h0 : fitE s l = 0
  · have hf : applyS s l = (partSt s l).out := by simp [applyS, h0]
    have hp := (pfit_of h0).2
    rw [h0] at hl
    have Hf := Lib.hid hf; have Hl := Lib.hid hl; have H0 := Lib.hid h0; have Hp := Lib.hid hp
    clear hf hl h0 hp
    go_enter Try.func23, Try.ntmps23
    go_wp2_with fail
    refine (Hl.out).mono ?_
    rintro e w1 ⟨rfl, hb1⟩
    go_wp2_with fail
    refine (refParts_any s v l w1 (h.ext hb1) Hp.out).mono ?_
    rintro e w2 ⟨rfl, hb2⟩
    go_wp2
    go_ret2
    exact ⟨by rw [Hf.out, H0.out]; rfl, hb1.trans (hb2.mono hb1.size)⟩
  · have hf : applyS s l = [] := by simp [applyS, h0]
    have h1' : (fitE s l != 0) = true := by simpa using h0
    generalize fitE s l = E at *
    have Hf := Lib.hid hf; have Hl := Lib.hid hl
    clear hf hl h0
    go_enter Try.func23, Try.ntmps23
    go_wp2_with fail
    refine (Hl.out).mono ?_
    rintro e w1 ⟨rfl, hb1⟩
    go_wp2
    go_ret2
    exact ⟨by rw [Hf.out]; rfl, hb1⟩

set_option maxHeartbeats 1000000 in
theorem refRemoved_any (s : List UInt8) (v : Value) (l : List Pc) (w : World) (hs : s.length ≤ 9223372036854775807) (h : Sl pcE w v l) (hd : ∀ p, p ∈ l → p.wf) :
    Calls Try.prog 25 #[.string ⟨s.toArray⟩, v] w fun e w' => e = .returned (.tuple #[.string ⟨(removedS s l).toArray⟩, .int .i64 (fitE s l)]) ∧ Below w.heap.size w w' := by
  have hl := refFits_any s v l w hs h hd
  by_cases h0 : fitE s l = 0
  · have hf : removedS s l = (partSt s l).gone := by simp [removedS, h0]
    have hp := (pfit_of h0).2
    rw [h0] at hl
    have Hf := Lib.hid hf; have Hl := Lib.hid hl; have H0 := Lib.hid h0; have Hp := Lib.hid hp
    clear hf hl h0 hp
    go_enter Try.func25, Try.ntmps25
    go_wp2_with fail
    refine (Hl.out).mono ?_
    rintro e w1 ⟨rfl, hb1⟩
    go_wp2_with fail
    refine (refParts_any s v l w1 (h.ext hb1) Hp.out).mono ?_
    rintro e w2 ⟨rfl, hb2⟩
    go_wp2
    go_ret2
    exact ⟨by rw [Hf.out, H0.out]; rfl, hb1.trans (hb2.mono hb1.size)⟩
  · have hf : removedS s l = [] := by simp [removedS, h0]
    have h1' : (fitE s l != 0) = true := by simpa using h0
    generalize fitE s l = E at *
    have Hf := Lib.hid hf; have Hl := Lib.hid hl
    clear hf hl h0
    go_enter Try.func25, Try.ntmps25
    go_wp2_with fail
    refine (Hl.out).mono ?_
    rintro e w1 ⟨rfl, hb1⟩
    go_wp2
    go_ret2
    exact ⟨by rw [Hf.out]; rfl, hb1⟩

set_option maxHeartbeats 2000000 in
set_option maxRecDepth 100000 in
theorem refInserted_any (v : Value) (l : List Pc) (w : World) (h : Sl pcE w v l) (hd : ∀ p, p ∈ l → p.wf) :
    Calls Try.prog 29 #[v] w fun e w' => e = .returned (.tuple #[.string ⟨(insertedS l).toArray⟩, .int .i64 (errL l)]) ∧ Below w.heap.size w w' := by
  have hc := refCheck_any v l w h hd
  rw [show (lens l).2.2 = errL l from rfl] at hc
  by_cases h0 : errL l = 0
  · have hf : insertedS l = insS l := by simp [insertedS, h0]
    obtain ⟨hd1, hd2⟩ := formPre_of_lens h0
    obtain ⟨j0, hj, jz0, jz1, jz2⟩ := info_parts infoByte
    rw [h0] at hc
    obtain ⟨A, cap, hv, h2, h3, -⟩ := id h
    have Hh := Lib.hid h; clear h
    subst hv
    unfold maxLen at h3
    have Hf := Lib.hid hf; have Hc := Lib.hid hc; have H0 := Lib.hid h0; have Hd2 := Lib.hid hd2
    clear hf hc h0 hd2 hd
    go_enter Try.func29, Try.ntmps29
    go_wp2_with fail
    refine (Hc.out).mono ?_
    rintro e w1 ⟨rfl, hb1⟩
    have hs1 := hb1.size
    have Hb1 := Lib.hid hb1; clear hb1
    go_wp2_with fail
    go_loopw [5, 6] (fun vo i wr => ∃ (k : Nat) (t : List UInt8) (A5 : Option Addr) (c5 : Nat), k ≤ l.length ∧ i = .int .i64 k ∧ vo = .slice A5 t.length c5 ∧ Hid (insS (l.take k) = t) ∧ Hid (wr.ownsRow w1.heap.size 5 1 (.slice A5 t.length c5) t.length (bc t)) ∧ Hid (Below w1.heap.size w1 wr)) (fun _ i _ => l.length - (intOf i).toNat)
    case atStart => exact ⟨0, [], none, 0, by omega, rfl, rfl, Lib.hid rfl, Lib.hid (World.ownsRow_nil _ _ _ _), Lib.hid (Below.refl _ _)⟩
    case round =>
      obtain ⟨k, t, A5, c5, hk, rfl, rfl, hT, hO, hbel⟩ := hrel
      have hbd := insS_bd (l := l.take k) (d := 1048576) (fun p hp => (Hd2.out p (List.mem_of_mem_take hp)).2.2)
      rw [List.length_take, Nat.min_eq_left hk, hT.out] at hbd
      by_cases hlt : k < l.length
      · obtain ⟨b, off, cap', hv, hb, hcells⟩ := Hh.out.pcB hlt
        obtain ⟨rfl, rfl⟩ : A = some ⟨b, off, none⟩ ∧ cap = cap' := by injection hv with e1 e2 e3; exact ⟨e1, e3⟩
        obtain ⟨q1, q2, q3⟩ := Hd2.out l[k] (List.getElem_mem hlt)
        obtain ⟨c0, c1, c2⟩ := hcells _ (Hb1.out.trans (hbel.out.mono hs1))
        have Hsn := Lib.hid (insS_snoc l k hlt)
        clear hv hcells
        generalize l[k] = p at *
        go_wp2_with (
          at_builtin
          refine wpListB_append _ rfl (.tmp 18) (.tmp 23) 79 9 rfl w1.heap.size hbel.out.size 5 j0 _ 1 1 Try.underlying79 hj jz0 jz1 jz2 rfl (by decide) _ _ _ rfl hO.out _ _ _ rfl (Src.ofString _ Try.underlying9 ⟨p.t.toArray⟩) ?_ ?_ ?_
          · simp [ByteArray.size, maxLen]; omega
          · simp [ByteArray.size]; omega
          intro A8 c8 w8 hown8 hg8 hat8 _
          have Hb8 := Lib.hid (hbel.out.grown hg8 hbel.out.size (fun g hg => (hO.out.lt g hg).1))
          have Ho8 := Lib.hid hown8
          clear hown8 hg8 hat8)
        go_roundw
        case rel =>
          refine ⟨k + 1, t ++ p.t, A8, c8, by omega, by go_num, by simp, Lib.hid (by rw [Hsn.out, hT.out]), Lib.hid ?_, Hb8⟩
          refine own_bytes Ho8.out ?_ ?_ ?_
          · rw [bytes_size, List.length_append]
          · rw [bytes_size, List.length_append]
          · rw [bytes_cells, bc_append]
        case measure => simp [intOf]; omega
      · have hkl : l.take k = l := List.take_of_length_le (by omega)
        have hT2 := hT.out
        rw [hkl] at hT2
        subst hT2
        have hcv := own_str hO.out
        clear hkl
        go_wp2
        go_ret2
        exact ⟨by rw [Hf.out, H0.out]; rfl, Hb1.out.trans (hbel.out.mono hs1)⟩
  · have hf : insertedS l = [] := by simp [insertedS, h0]
    have h1' : (errL l != 0) = true := by simpa using h0
    generalize errL l = E at *
    have Hf := Lib.hid hf; have Hc := Lib.hid hc
    clear hf hc h0
    go_enter Try.func29, Try.ntmps29
    go_wp2_with fail
    refine (Hc.out).mono ?_
    rintro e w1 ⟨rfl, hb1⟩
    go_wp2
    go_ret2
    exact ⟨by rw [Hf.out]; rfl, hb1⟩

end Go.Proofs.Ytpbnciioeiohlaa
