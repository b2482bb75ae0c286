/- delta.Normalize, apply.fits, Apply, Removed, Inserted and their references: what they return. Condition: the pieces and the string read as values of their types. -/
import Derived.Test.YtibmnkdeepmabaaParts2
namespace Go.Proofs.Ytibmnkdeepmabaa
open Go.RowKit

def errL (l : List Pc) : Int := (lens l).2.2
def normS (l : List Pc) : List Pc := if errL l = 0 then formS l else []
def fitE (s : List UInt8) (l : List Pc) : Int := if errL l = 0 then (if (lens l).1 = s.length then 0 else 21) else errL l
def insS (l : List Pc) : List UInt8 := l.flatMap Pc.t
def insertedS (l : List Pc) : List UInt8 := if errL l = 0 then insS l else []
def applyS (s : List UInt8) (l : List Pc) : List UInt8 := if fitE s l = 0 then (partSt s l).out else []
def removedS (s : List UInt8) (l : List Pc) : List UInt8 := if fitE s l = 0 then (partSt s l).gone else []

theorem pfit_of {s : List UInt8} {l : List Pc} (h : fitE s l = 0) : errL l = 0 ∧ PFit s l := by
  unfold fitE at h
  split at h
  · rename_i h0
    split at h
    · rename_i h1
      obtain ⟨a, b, c, d1, d2, d3, d4⟩ := lens_ok h0
      refine ⟨h0, ⟨by omega, fun p hp => ?_, ?_, ?_⟩⟩
      · obtain ⟨x, y, z⟩ := c p hp
        exact ⟨x, (Pc.n_of_valid x y z).2⟩
      · rw [b] at h1; exact h1
      · rw [b] at h1; simp at h1; omega
    · cases h
  · rename_i h0; exact absurd h h0

theorem errL_cases (l : List Pc) : errL l = 0 ∨ errL l = 2 ∨ errL l = 5 := by
  have key : ∀ (l : List Pc) (a b : Int), (lensFrom a b l).2.2 = 0 ∨ (lensFrom a b l).2.2 = 2 ∨ (lensFrom a b l).2.2 = 5 := by
    intro l
    induction l with
    | nil => intro a b; exact .inl rfl
    | cons p r ih =>
      intro a b
      by_cases hv : p.valid = true
      · by_cases hl : 1048576 - a < p.inn ∨ 1048576 - b < p.out
        · rw [lensFrom_long a b p r hv hl]; exact .inr (.inr rfl)
        · rw [lensFrom_step a b p r hv (by omega) (by omega)]; exact ih _ _
      · rw [lensFrom_bad a b p r (by simpa using hv)]; exact .inr (.inl rfl)
  unfold errL lens
  split
  · exact .inr (.inr rfl)
  · exact key l 0 0

set_option maxHeartbeats 1000000 in
theorem normalize_any (v : Value) (l : List Pc) (w : World) (h : Sl pcE w v l) (hd : ∀ p, p ∈ l → p.wf) :
    Calls Try.prog 50 #[v] w fun e w' => ∃ v', e = .returned (.tuple #[v', .int .i64 (errL l)]) ∧ w'.ownsRow w.heap.size 53 3 v' (normS l).length (pcE.flat (normS l)) ∧ Below w.heap.size w w' := by
  by_cases h0 : errL l = 0
  · have hn : normS l = formS l := by simp [normS, h0]
    have Hn := Lib.hid hn; clear hn
    have H0 := Lib.hid h0
    have hc := check_any v l w h hd
    rw [show (lens l).2.2 = 0 from h0] at hc
    clear h0
    have Hc := Lib.hid hc; clear hc
    go_enter Try.func50, Try.ntmps50
    go_wp2_with fail
    refine (Hc.out).mono ?_
    rintro e w1 ⟨rfl, hb1⟩
    go_wp2_with fail
    refine (form_any v l w1 (h.ext hb1) (formPre_of_lens H0.out)).mono ?_
    rintro e w2 ⟨v2, rfl, ho, hb2⟩
    go_wp2
    go_ret2
    exact ⟨v2, by rw [H0.out]; rfl, by rw [Hn.out]; exact own_base (own_zero ho) (fun g hg => Nat.le_trans hb1.size (ho.lt g hg).1), hb1.trans (hb2.mono hb1.size)⟩
  · have hn : normS l = [] := by simp [normS, h0]
    have Hn := Lib.hid hn; clear hn
    have hb : (errL l != 0) = true := by simpa using h0
    have hc := check_any v l w h hd
    rw [show (lens l).2.2 = errL l from rfl] at hc
    have Hc := Lib.hid hc; clear hc h0
    go_enter Try.func50, Try.ntmps50
    go_wp2_with fail
    refine (Hc.out).mono ?_
    rintro e w1 ⟨rfl, hb1⟩
    go_wp2
    go_ret2
    exact ⟨_, rfl, by rw [Hn.out]; exact World.ownsRow_nil _ _ _ _, hb1⟩

set_option maxHeartbeats 1000000 in
theorem fits_any (s : List UInt8) (v : Value) (l : List Pc) (w : World) (_hs : s.length ≤ 9223372036854775807) (h : Sl pcE w v l) (hd : ∀ p, p ∈ l → p.wf) :
    Calls Try.prog 49 #[.string ⟨s.toArray⟩, v] w fun e w' => e = .returned (.int .i64 (fitE s l)) ∧ Below w.heap.size w w' := by
  have hl := lengths_any v l w h hd
  unfold lensV at hl
  rw [show (lens l).2.2 = errL l from rfl] at hl
  by_cases h0 : errL l = 0
  · by_cases h1 : (lens l).1 = s.length
    · have hf : fitE s l = 0 := by simp [fitE, h0, h1]
      rw [h0, h1] at hl
      have Hf := Lib.hid hf; have Hl := Lib.hid hl
      clear hf hl h0 h1
      go_enter Try.func49, Try.ntmps49
      go_wp2_with fail
      refine (Hl.out).mono ?_
      rintro e w1 ⟨rfl, hb1⟩
      go_wp2
      go_ret
      exact ⟨by rw [Hf.out]; rfl, hb1⟩
    · have hf : fitE s l = 21 := by simp [fitE, h0, h1]
      have h1' : ((lens l).1 != (s.length : Int)) = true := by simpa using h1
      rw [h0] at hl
      generalize (lens l).1 = L at *
      have Hf := Lib.hid hf; have Hl := Lib.hid hl
      clear hf hl h0 h1
      go_enter Try.func49, Try.ntmps49
      go_wp2_with fail
      refine (Hl.out).mono ?_
      rintro e w1 ⟨rfl, hb1⟩
      go_wp2
      go_ret
      exact ⟨by rw [Hf.out]; rfl, hb1⟩
  · have hf : fitE s l = errL l := by simp [fitE, h0]
    have h1' : (errL l == 0) = false := by simpa using h0
    generalize errL l = E at *
    have Hf := Lib.hid hf; have Hl := Lib.hid hl
    clear hf hl h0
    go_enter Try.func49, Try.ntmps49
    go_wp2_with fail
    refine (Hl.out).mono ?_
    rintro e w1 ⟨rfl, hb1⟩
    go_wp2
    go_ret
    exact ⟨by rw [Hf.out]; rfl, hb1⟩

theorem insS_snoc (l : List Pc) (k : Nat) (h : k < l.length) : insS (l.take (k + 1)) = insS (l.take k) ++ l[k].t := by
  unfold insS
  rw [List.take_succ_eq_append_getElem h, List.flatMap_append]
  simp

theorem insS_bd {l : List Pc} {d : Nat} (h : ∀ p ∈ l, p.t.length ≤ d) : (insS l).length ≤ l.length * d := by
  induction l with
  | nil => simp [insS]
  | cons p l ih =>
    have h1 := ih (fun q hq => h q (by simp [hq]))
    have h2 := h p (by simp)
    unfold insS at h1 ⊢
    rw [List.flatMap_cons, List.length_append, List.length_cons, Nat.succ_mul]
    omega

end Go.Proofs.Ytibmnkdeepmabaa
