/- delta.Normalize, apply.fits, Apply, Removed, Inserted and their references: what they return. Condition: the pieces and the string read as values of their types. -/
import Derived.Test.YtpbnciioeiohlaaParts2
namespace Go.Proofs.Ytpbnciioeiohlaa
open Go.RowKit

def errL (l : List Pc) : Int := (lens l).2.2
def normS (l : List Pc) : List Pc := if errL l = 0 then formS l else []
def fitE (s : List UInt8) (l : List Pc) : Int := if errL l = 0 then (if (lens l).1 = s.length then 0 else 21) else errL l
def insS (l : List Pc) : List UInt8 := l.flatMap Pc.t
def insertedS (l : List Pc) : List UInt8 := if errL l = 0 then insS l else []
def applyS (s : List UInt8) (l : List Pc) : List UInt8 := if fitE s l = 0 then (partSt s l).out else []
def removedS (s : List UInt8) (l : List Pc) : List UInt8 := if fitE s l = 0 then (partSt s l).gone else []

theorem pfit_of {s : List UInt8} {l : List Pc} (h : fitE s l = 0) : errL l = 0 ∧ PFit s l := by
  unfold fitE at h
  split at h
  · rename_i h0
    split at h
    · rename_i h1
      obtain ⟨a, b, c, d1, d2, d3, d4⟩ := lens_ok h0
      refine ⟨h0, ⟨by omega, fun p hp => ?_, ?_, ?_⟩⟩
      · obtain ⟨x, y, z⟩ := c p hp
        exact ⟨x, (Pc.n_of_valid x y z).2⟩
      · rw [b] at h1; exact h1
      · rw [b] at h1; simp at h1; omega
    · cases h
  · rename_i h0; exact absurd h h0

theorem errL_cases (l : List Pc) : errL l = 0 ∨ errL l = 2 ∨ errL l = 5 := by
  have key : ∀ (l : List Pc) (a b : Int), (lensFrom a b l).2.2 = 0 ∨ (lensFrom a b l).2.2 = 2 ∨ (lensFrom a b l).2.2 = 5 := by
    intro l
    induction l with
    | nil => intro a b; exact .inl rfl
    | cons p r ih =>
      intro a b
      by_cases hv : p.valid = true
      · by_cases hl : 1048576 - a < p.inn ∨ 1048576 - b < p.out
        · rw [lensFrom_long a b p r hv hl]; exact .inr (.inr rfl)
        · rw [lensFrom_step a b p r hv (by omega) (by omega)]; exact ih _ _
      · rw [lensFrom_bad a b p r (by simpa using hv)]; exact .inr (.inl rfl)
  unfold errL lens
  split
  · exact .inr (.inr rfl)
  · exact key l 0 0

set_option maxHeartbeats 1000000 in
theorem normalize_any (v : Value) (l : List Pc) (w : World) (h : Sl pcE w v l) (hd : ∀ p, p ∈ l → p.wf) :
    Calls Try.prog 36 #[v] w fun e w' => ∃ v', e = .returned (.tuple #[v', .int .i64 (errL l)]) ∧ w'.ownsRow w.heap.size 38 3 v' (normS l).length (pcE.flat (normS l)) ∧ Below w.heap.size w w' := by
  by_cases h0 : errL l = 0
  · have hn : normS l = formS l := by simp [normS, h0]
    have Hn := Lib.hid hn; clear hn
    have H0 := Lib.hid h0
    have hc := check_any v l w h hd
    rw [show (lens l).2.2 = 0 from h0] at hc
    clear h0
    have Hc := Lib.hid hc; clear hc
    go_enter Try.func36, Try.ntmps36
    go_wp2_with fail
    refine (Hc.out).mono ?_
    rintro e w1 ⟨rfl, hb1⟩
    go_wp2_with fail
    refine (form_any v l w1 (h.ext hb1) (formPre_of_lens H0.out)).mono ?_
    rintro e w2 ⟨v2, rfl, ho, hb2⟩
    go_wp2
    go_ret2
    exact ⟨v2, by rw [H0.out]; rfl, by rw [Hn.out]; exact own_base (own_zero ho) (fun g hg => Nat.le_trans hb1.size (ho.lt g hg).1), hb1.trans (hb2.mono hb1.size)⟩
  · have hn : normS l = [] := by simp [normS, h0]
    have Hn := Lib.hid hn; clear hn
    have hb : (errL l != 0) = true := by simpa using h0
    have hc := check_any v l w h hd
    rw [show (lens l).2.2 = errL l from rfl] at hc
    have Hc := Lib.hid hc; clear hc h0
    go_enter Try.func36, Try.ntmps36
    go_wp2_with fail
    refine (Hc.out).mono ?_
    rintro e w1 ⟨rfl, hb1⟩
    go_wp2
    go_ret2
    exact ⟨_, rfl, by rw [Hn.out]; exact World.ownsRow_nil _ _ _ _, hb1⟩

set_option maxHeartbeats 1000000 in
theorem fits_any (s : List UInt8) (v : Value) (l : List Pc) (w : World) (_hs : s.length ≤ 9223372036854775807) (h : Sl pcE w v l) (hd : ∀ p, p ∈ l → p.wf) :
    Calls Try.prog 57 #[.string ⟨s.toArray⟩, v] w fun e w' => e = .returned (.int .i64 (fitE s l)) ∧ Below w.heap.size w w' := by
  have hl := lengths_any v l w h hd
  unfold lensV at hl
  rw [show (lens l).2.2 = errL l from rfl] at hl
  by_cases h0 : errL l = 0
  · by_cases h1 : (lens l).1 = s.length
    · have hf : fitE s l = 0 := by simp [fitE, h0, h1]
      rw [h0, h1] at hl
      have Hf := Lib.hid hf; have Hl := Lib.hid hl
      clear hf hl h0 h1
      go_enter Try.func57, Try.ntmps57
      go_wp2_with fail
      refine (Hl.out).mono ?_
      rintro e w1 ⟨rfl, hb1⟩
      go_wp2
      go_ret
      exact ⟨by rw [Hf.out]; rfl, hb1⟩
    · have hf : fitE s l = 21 := by simp [fitE, h0, h1]
      have h1' : ((lens l).1 != (s.length : Int)) = true := by simpa using h1
      rw [h0] at hl
      generalize (lens l).1 = L at *
      have Hf := Lib.hid hf; have Hl := Lib.hid hl
      clear hf hl h0 h1
      go_enter Try.func57, Try.ntmps57
      go_wp2_with fail
      refine (Hl.out).mono ?_
      rintro e w1 ⟨rfl, hb1⟩
      go_wp2
      go_ret
      exact ⟨by rw [Hf.out]; rfl, hb1⟩
  · have hf : fitE s l = errL l := by simp [fitE, h0]
    have h1' : (errL l == 0) = false := by simpa using h0
    generalize errL l = E at *
    have Hf := Lib.hid hf; have Hl := Lib.hid hl
    clear hf hl h0
    go_enter Try.func57, Try.ntmps57
    go_wp2_with fail
    refine (Hl.out).mono ?_
    rintro e w1 ⟨rfl, hb1⟩
    go_wp2
    go_ret
    exact ⟨by rw [Hf.out]; rfl, hb1⟩

set_option maxHeartbeats 1000000 in
theorem apply_any (s : List UInt8) (v : Value) (l : List Pc) (w : World) (hs : s.length ≤ 9223372036854775807) (h : Sl pcE w v l) (hd : ∀ p, p ∈ l → p.wf) :
    Calls Try.prog 22 #[.string ⟨s.toArray⟩, v] w fun e w' => e = .returned (.tuple #[.string ⟨(applyS s l).toArray⟩, .int .i64 (fitE s l)]) ∧ Below w.heap.size w w' := by
  have hl := fits_any s v l w hs h hd
  by_cases h0 : fitE s l = 0
  · have hf : applyS s l = (partSt s l).out := by simp [applyS, h0]
    have hp := (pfit_of h0).2
    rw [h0] at hl
    have Hf := Lib.hid hf; have Hl := Lib.hid hl; have H0 := Lib.hid h0; have Hp := Lib.hid hp
    clear hf hl h0 hp
    go_enter Try.func22, Try.ntmps22
    go_wp2_with fail
    refine (Hl.out).mono ?_
    rintro e w1 ⟨rfl, hb1⟩
    go_wp2_with fail
    refine (parts_any s v l w1 (h.ext hb1) Hp.out).mono ?_
    rintro e w2 ⟨rfl, hb2⟩
    go_wp2
    go_ret2
    exact ⟨by rw [Hf.out, H0.out]; rfl, hb1.trans (hb2.mono hb1.size)⟩
  · have hf : applyS s l = [] := by simp [applyS, h0]
    have h1' : (fitE s l != 0) = true := by simpa using h0
    generalize fitE s l = E at *
    have Hf := Lib.hid hf; have Hl := Lib.hid hl
    clear hf hl h0
    go_enter Try.func22, Try.ntmps22
    go_wp2_with fail
    refine (Hl.out).mono ?_
    rintro e w1 ⟨rfl, hb1⟩
    go_wp2
    go_ret2
    exact ⟨by rw [Hf.out]; rfl, hb1⟩

set_option maxHeartbeats 1000000 in
theorem removed_any (s : List UInt8) (v : Value) (l : List Pc) (w : World) (hs : s.length ≤ 9223372036854775807) (h : Sl pcE w v l) (hd : ∀ p, p ∈ l → p.wf) :
    Calls Try.prog 24 #[.string ⟨s.toArray⟩, v] w fun e w' => e = .returned (.tuple #[.string ⟨(removedS s l).toArray⟩, .int .i64 (fitE s l)]) ∧ Below w.heap.size w w' := by
  have hl := fits_any s v l w hs h hd
  by_cases h0 : fitE s l = 0
  · have hf : removedS s l = (partSt s l).gone := by simp [removedS, h0]
    have hp := (pfit_of h0).2
    rw [h0] at hl
    have Hf := Lib.hid hf; have Hl := Lib.hid hl; have H0 := Lib.hid h0; have Hp := Lib.hid hp
    clear hf hl h0 hp
    go_enter Try.func24, Try.ntmps24
    go_wp2_with fail
    refine (Hl.out).mono ?_
    rintro e w1 ⟨rfl, hb1⟩
    go_wp2_with fail
    refine (parts_any s v l w1 (h.ext hb1) Hp.out).mono ?_
    rintro e w2 ⟨rfl, hb2⟩
    go_wp2
    go_ret2
    exact ⟨by rw [Hf.out, H0.out]; rfl, hb1.trans (hb2.mono hb1.size)⟩
  · have hf : removedS s l = [] := by simp [removedS, h0]
    have h1' : (fitE s l != 0) = true := by simpa using h0
    generalize fitE s l = E at *
    have Hf := Lib.hid hf; have Hl := Lib.hid hl
    clear hf hl h0
    go_enter Try.func24, Try.ntmps24
    go_wp2_with fail
    refine (Hl.out).mono ?_
    rintro e w1 ⟨rfl, hb1⟩
    go_wp2
    go_ret2
    exact ⟨by rw [Hf.out]; rfl, hb1⟩

theorem insS_snoc (l : List Pc) (k : Nat) (h : k < l.length) : insS (l.take (k + 1)) = insS (l.take k) ++ l[k].t := by
  unfold insS
  rw [List.take_succ_eq_append_getElem h, List.flatMap_append]
  simp

theorem insS_bd {l : List Pc} {d : Nat} (h : ∀ p ∈ l, p.t.length ≤ d) : (insS l).length ≤ l.length * d := by
  induction l with
  | nil => simp [insS]
  | cons p l ih =>
    have h1 := ih (fun q hq => h q (by simp [hq]))
    have h2 := h p (by simp)
    unfold insS at h1 ⊢
    rw [List.flatMap_cons, List.length_append, List.length_cons, Nat.succ_mul]
    omega

set_option maxHeartbeats 1000000 in
theorem inserted_any (v : Value) (l : List Pc) (w : World) (h : Sl pcE w v l) (hd : ∀ p, p ∈ l → p.wf) :
    Calls Try.prog 28 #[v] w fun e w' => e = .returned (.tuple #[.string ⟨(insertedS l).toArray⟩, .int .i64 (errL l)]) ∧ Below w.heap.size w w' := by
  have hc := check_any v l w h hd
  rw [show (lens l).2.2 = errL l from rfl] at hc
  by_cases h0 : errL l = 0
  · have hf : insertedS l = insS l := by simp [insertedS, h0]
    obtain ⟨hd1, hd2⟩ := formPre_of_lens h0
    rw [h0] at hc
    obtain ⟨A, cap, hv, h2, h3, -⟩ := id h
    have Hh := Lib.hid h; clear h
    subst hv
    unfold maxLen at h3
    have Hf := Lib.hid hf; have Hc := Lib.hid hc; have H0 := Lib.hid h0; have Hd2 := Lib.hid hd2
    clear hf hc h0 hd2 hd
    go_enter Try.func28, Try.ntmps28
    go_wp2_with fail
    refine (Hc.out).mono ?_
    rintro e w1 ⟨rfl, hb1⟩
    have hs1 := hb1.size
    have Hb1 := Lib.hid hb1; clear hb1
    go_wp2_with fail
    go_loopw [15] (fun i wr => ∃ (k : Nat) (row : Option Nat), k ≤ l.length ∧ i = .int .i64 k ∧ Hid (Bd wr w1.heap.size row (insS (l.take k))) ∧ Hid (∀ g, row = some g → w1.heap.size ≤ g) ∧ Hid (Below w1.heap.size w1 wr)) (fun i _ => l.length - (intOf i).toNat)
    case atStart => exact ⟨0, none, by omega, rfl, Lib.hid (Bd.new w1), Lib.hid (fun _ h => by cases h), Lib.hid ((Below.refl _ _).alloc (Nat.le_refl _) _)⟩
    case round =>
      obtain ⟨k, row, hk, rfl, hB, hR, hbel⟩ := hrel
      have hbd := insS_bd (l := l.take k) (d := 1048576) (fun p hp => (Hd2.out p (List.mem_of_mem_take hp)).2.2)
      rw [List.length_take, Nat.min_eq_left hk] at hbd
      by_cases hlt : k < l.length
      · obtain ⟨b, off, cap', hv, hb, hcells⟩ := Hh.out.pcB hlt
        obtain ⟨rfl, rfl⟩ : A = some ⟨b, off, none⟩ ∧ cap = cap' := by injection hv with e1 e2 e3; exact ⟨e1, e3⟩
        obtain ⟨q1, q2, q3⟩ := Hd2.out l[k] (List.getElem_mem hlt)
        obtain ⟨c0, c1, c2⟩ := hcells _ (Hb1.out.trans (hbel.out.mono hs1))
        have Hsn := Lib.hid (insS_snoc l k hlt)
        have hbw : b < wr.heap.size := Nat.lt_of_lt_of_le hb (Nat.le_trans hs1 hbel.out.size)
        clear hv hcells
        generalize l[k] = p at *
        go_wp2_with fail
        refine (writeString_any w1.heap.size row (insS (l.take k)) p.t _ (hB.out.keep (Fr.alloc (fun _ => False) wr _) (fun h => h) (fun _ _ h => h)) (by omega)).mono ?_
        rintro e w2 ⟨rfl, ⟨row', hB', hr'⟩, hf'⟩
        have hz := hbel.out.size
        have HB' := Lib.hid hB'; have Hr' := Lib.hid hr'; have Hf' := Lib.hid hf'
        clear hB' hr' hf'
        go_wp2
        go_roundw
        case rel =>
          refine ⟨k + 1, row', by omega, by go_num, Lib.hid (by rw [Hsn.out]; exact HB'.out), Lib.hid (new_row Hr'.out hR.out (by simp; omega)), Lib.hid ((hbel.out.alloc hz _).trans (Hf'.out.below (by simp; omega) (fun j hj => ?_)))⟩
          rcases hj with hj | hj
          · omega
          · exact hR.out j hj.symm
        case measure => simp [intOf]; omega
      · have hkl : l.take k = l := List.take_of_length_le (by omega)
        have hP := hB.out
        rw [hkl] at hP
        have HP := Lib.hid hP
        clear hkl hP
        go_wp2_with fail
        refine (bdString_any _ row _ wr HP.out).mono ?_
        rintro e w2 ⟨rfl, f1⟩
        go_wp2
        go_ret2
        exact ⟨by rw [Hf.out, H0.out]; rfl, Hb1.out.trans ((hbel.out.mono hs1).trans ((f1.below (B := w1.heap.size) hbel.out.size (fun j hj => hR.out j hj.symm)).mono hs1))⟩
  · have hf : insertedS l = [] := by simp [insertedS, h0]
    have h1' : (errL l != 0) = true := by simpa using h0
    generalize errL l = E at *
    have Hf := Lib.hid hf; have Hc := Lib.hid hc
    clear hf hc h0
    go_enter Try.func28, Try.ntmps28
    go_wp2_with fail
    refine (Hc.out).mono ?_
    rintro e w1 ⟨rfl, hb1⟩
    go_wp2
    go_ret2
    exact ⟨by rw [Hf.out]; rfl, hb1⟩

end Go.Proofs.Ytpbnciioeiohlaa
