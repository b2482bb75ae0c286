/- delta.form: it returns the normal form of its pieces, in memory of its own. -/
import Derived.Test.YtdlbjfgpfjcpaaaBuilder
import Derived.Test.YtdlbjfgpfjcpaaaDelta1
import Derived.Deep.RegionLaw
namespace Go.Proofs.Ytdlbjfgpfjcpaaa
open Go.RowKit

/-- a variable with a block of its own -/
def Var (w : World) (b : Nat) (t : TypeId) (v : Value) : Prop := w.heap[b]? = some (.cells #[v] t (0, 0))
theorem Var.cell {w : World} {b : Nat} {t : TypeId} {v : Value} (h : Var w b t v) : w.cell? ⟨b, 0, none⟩ = some v := by rw [Lib.cell_of_heap h]; rfl
theorem Var.frozen {w : World} {b : Nat} {t : TypeId} {v : Value} (h : Var w b t v) : w.frozen? ⟨b, 0, none⟩ = false := Lib.frozen_of_heap h 0
theorem Var.lt {w : World} {b : Nat} {t : TypeId} {v : Value} (h : Var w b t v) : b < w.heap.size := heap_lt h
theorem Var.keep {w w' : World} {b : Nat} {t : TypeId} {v : Value} {T : Nat → Prop} (h : Var w b t v) (hf : Fr T w w') (h1 : ¬ T b) : Var w' b t v := (hf.block b h.lt h1).trans h
theorem Var.set {w : World} {b : Nat} {t : TypeId} {v : Value} (h : Var w b t v) (u : Value) : Var (w.setCell ⟨b, 0, none⟩ u) b t u := by
  unfold Var at h ⊢
  simp [World.setCell, Array.getElem?_modify, h]
theorem Var.new (w : World) (t : TypeId) (v : Value) : Var (w.alloc (.cells #[v] t)) w.heap.size t v := heap_alloc_new w _

theorem ty_ne {w : World} {a b : Nat} {c d : Array Value} {t u : TypeId} {f g : Nat × Nat} (h : w.heap[a]? = some (.cells c t f)) (k : w.heap[b]? = some (.cells d u g)) (hn : t ≠ u) : a ≠ b := by
  rintro rfl
  rw [h] at k
  injection k with k
  injection k with _ k
  exact hn k

theorem own_block {w : World} {e : TypeId} {size n : Nat} {v : Value} {xs : List Value} {g : Nat} (h : w.ownsRow 0 e size v n xs) (hg : v.ownBlock = some g) : ∃ cur, w.heap[g]? = some (.cells cur e (0, 0)) := by
  rcases h.2 with ⟨rfl, _⟩ | ⟨g', cap, cur, rfl, _, hg', _⟩
  · simp [Value.ownBlock] at hg
  · simp [Value.ownBlock] at hg; subst hg; exact ⟨cur, hg'⟩

theorem own_keep {w w' : World} {e : TypeId} {size n : Nat} {v : Value} {xs : List Value} {T : Nat → Prop} (h : w.ownsRow 0 e size v n xs) (hf : Fr T w w') (hd : ∀ g, v.ownBlock = some g → ¬ T g) : w'.ownsRow 0 e size v n xs := by
  refine ⟨h.1, ?_⟩
  rcases h.2 with h0 | ⟨g, cap, cur, rfl, hb, hg, rest⟩
  · exact .inl h0
  · exact .inr ⟨g, cap, cur, rfl, hb, (hf.block g (heap_lt hg) (hd g rfl)).trans hg, rest⟩

theorem infoPiece : (Try.prog.info? 31).map (fun i => (i.zero, i.size, i.bytes)) = some (some (.agg #[.int .u8 0, .int .i64 0, .string ⟨#[]⟩]), 3, 32) := by kernel_rfl

theorem new_cells {α : Type} {E : Enc α} (w : World) (x : α) (t : TypeId) : ∀ j u, (E.cells x)[j]? = some u → (w.alloc (.cells (E.cells x).toArray t)).cell? ⟨w.heap.size, 0 + j, none⟩ = some u := by
  intro j u hu
  rw [Lib.cell_of_heap (heap_alloc_new w _), Nat.zero_add]
  simpa using hu

/-- the three variables of form: the pieces written so far (in the block ro), the text (in rt) and the number of bytes that wait -/
structure FmS (w : World) (bO bT bG : Nat) (ro rt : Option Nat) (out : List Pc) (text : List UInt8) (gone : Int) : Prop where
  o : ∃ v, Var w bO 22 v ∧ w.ownsRow 0 31 3 v out.length (pcE.flat out) ∧ v.ownBlock = ro
  t : Bd w bT rt text
  g : Var w bG 3 (.int .i64 gone)

/-- what belongs to the three -/
def fsOf (bO bT bG : Nat) (ro rt : Option Nat) (k : Nat) : Prop := k = bO ∨ k = bT ∨ k = bG ∨ some k = ro ∨ some k = rt

theorem FmS.keep {w w' : World} {bO bT bG : Nat} {ro rt : Option Nat} {out : List Pc} {text : List UInt8} {gone : Int} {T : Nat → Prop} (h : FmS w bO bT bG ro rt out text gone) (hf : Fr T w w') (hd : ∀ k, fsOf bO bT bG ro rt k → ¬ T k) : FmS w' bO bT bG ro rt out text gone := by
  obtain ⟨⟨v, h1, h2, h3⟩, h4, h5⟩ := h
  refine ⟨⟨v, h1.keep hf (hd _ (.inl rfl)), own_keep h2 hf (fun g hg => hd g (.inr (.inr (.inr (.inl (by rw [← hg, h3])))))), h3⟩, h4.keep hf (hd _ (.inr (.inl rfl))) (fun g hg => hd g (.inr (.inr (.inr (.inr hg.symm))))), h5.keep hf (hd _ (.inr (.inr (.inl rfl))))⟩

theorem FmS.lt {w : World} {bO bT bG : Nat} {ro rt : Option Nat} {out : List Pc} {text : List UInt8} {gone : Int} (h : FmS w bO bT bG ro rt out text gone) : ∀ k, fsOf bO bT bG ro rt k → k < w.heap.size := by
  obtain ⟨⟨v, h1, h2, h3⟩, h4, h5⟩ := h
  rintro k (rfl | rfl | rfl | hk | hk)
  · exact h1.lt
  · exact h4.lt
  · exact h5.lt
  · exact (h2.lt k (h3.trans hk.symm)).2
  · exact h4.row_lt k hk.symm

/-- what flush writes -/
def flushed (out : List Pc) (text : List UInt8) (gone : Int) : List Pc :=
  let o := if text = [] then out else out ++ [⟨2, 0, text⟩]
  if 0 < gone then o ++ [⟨3, gone, []⟩] else o

theorem own_at_lt {w : World} {e : TypeId} {size n : Nat} {v : Value} {xs : List Value} (h : w.ownsRow 0 e size v n xs) {g : Nat} (hg : v.ownBlock = some g) : g < w.heap.size := (h.lt g hg).2

/-- behind the append of the text's piece and its store into 'out' -/
theorem flush1 {w w1 w2 : World} {bO bT bG : Nat} {ro rt : Option Nat} {out : List Pc} {text : List UInt8} {gone : Int} {o : Obj} {v V2 : Value} {x : Pc}
    (h : FmS w bO bT bG ro rt out text gone) (hv : Var w bO 22 v) (how : w.ownsRow 0 31 3 v out.length (pcE.flat out)) (hro : v.ownBlock = ro)
    (hf : Fr (fun k => some k = rt) w w1) (hg : (w1.alloc o).grownBy w2 v.ownBlock) (hat : V2.ownBlock = v.ownBlock ∨ ∃ g, V2.ownBlock = some g ∧ w1.heap.size ≤ g)
    (hown2 : w2.ownsRow 0 31 3 V2 (out.length + 1) (pcE.flat out ++ pcE.flat [x])) :
    (∃ p u, (w2.setCell ⟨bO, 0, none⟩ V2).heap[bT]? = some (.cells #[p, u] 114 (0, 0))) ∧
    ∀ w4, Bd w4 bT none [] → Fr (· = bT) (w2.setCell ⟨bO, 0, none⟩ V2) w4 → FmS w4 bO bT bG V2.ownBlock none (out ++ [x]) [] gone ∧ Fr (fsOf bO bT bG ro rt) w w4 ∧ ∀ k, fsOf bO bT bG V2.ownBlock none k → fsOf bO bT bG ro rt k ∨ w.heap.size ≤ k := by
  obtain ⟨_, h4, h5⟩ := h
  obtain ⟨p, u, _, hB, hrow⟩ := id h4
  have hTO : bT ≠ bO := ty_ne hB hv (by decide)
  have hTG : bT ≠ bG := ty_ne hB h5 (by decide)
  have hGO : bG ≠ bO := ty_ne h5 hv (by decide)
  have hrt : ∀ k, some k = rt → k ≠ bO ∧ k ≠ bG ∧ k ≠ bT := fun k hk => by
    obtain ⟨cur, hc⟩ := h4.row_block k hk.symm
    exact ⟨ty_ne hc hv (by decide), ty_ne hc h5 (by decide), ty_ne hc hB (by decide)⟩
  have hvr : ∀ k, some k = v.ownBlock → k ≠ bO ∧ k ≠ bG ∧ k ≠ bT := fun k hk => by
    obtain ⟨cur, hc⟩ := own_block how hk.symm
    exact ⟨ty_ne hc hv (by decide), ty_ne hc h5 (by decide), ty_ne hc hB (by decide)⟩
  have f1 : Fr (fun k => some k = rt ∨ some k = v.ownBlock) w w2 :=
    ((hf.mono fun i _ hi => .inl hi).trans (Fr.alloc _ w1 o)).trans ((Fr.of_grown hg).mono fun i _ hi => .inr hi)
  have f2 : Fr (fun k => some k = rt ∨ some k = v.ownBlock ∨ k = bO) w (w2.setCell ⟨bO, 0, none⟩ V2) :=
    (f1.mono fun i _ hi => by rcases hi with hi | hi; exact .inl hi; exact .inr (.inl hi)).trans (Fr.setCell _ w2 ⟨bO, 0, none⟩ V2 (.inr (.inr rfl)))
  have hVO : Var w2 bO 22 v := hv.keep f1 (fun e => by rcases e with e | e; exact (hrt _ e).1 rfl; exact (hvr _ e).1 rfl)
  refine ⟨⟨p, u, (f2.block bT (heap_lt hB) ?_).trans hB⟩, fun w4 hb4 hf4 => ?_⟩
  · rintro (e | e | e)
    · exact (hrt _ e).2.2 rfl
    · exact (hvr _ e).2.2 rfl
    · exact hTO e
  have hV2O : ∀ g, V2.ownBlock = some g → g ≠ bO ∧ g ≠ bG ∧ g ≠ bT := fun g hg' => by
    obtain ⟨cur, hc⟩ := own_block hown2 hg'
    have hG2 : Var w2 bG 3 (.int .i64 gone) := h5.keep f1 (fun e => by rcases e with e | e; exact (hrt _ e).2.1 rfl; exact (hvr _ e).2.1 rfl)
    have hB2 := (f1.block bT (heap_lt hB) (fun e => by rcases e with e | e; exact (hrt _ e).2.2 rfl; exact (hvr _ e).2.2 rfl)).trans hB
    exact ⟨ty_ne hc hVO (by decide), ty_ne hc hG2 (by decide), ty_ne hc hB2 (by decide)⟩
  refine ⟨⟨⟨V2, (hVO.set V2).keep hf4 (fun e => hTO e.symm), ?_, rfl⟩, hb4, ?_⟩, ?_, ?_⟩
  · have e1 : pcE.flat (out ++ [x]) = pcE.flat out ++ pcE.flat [x] := pcE.flat_append out [x]
    rw [e1, List.length_append]
    exact own_keep (own_keep hown2 (Fr.setCell (· = bO) w2 ⟨bO, 0, none⟩ V2 rfl) (fun g hg' => (hV2O g hg').1)) hf4 (fun g hg' => (hV2O g hg').2.2)
  · refine (h5.keep f2 ?_).keep hf4 (fun e => hTG e.symm)
    rintro (e | e | e)
    · exact (hrt _ e).2.1 rfl
    · exact (hvr _ e).2.1 rfl
    · exact hGO e
  · refine (f2.mono fun i _ hi => ?_).trans (hf4.mono fun i _ hi => .inr (.inl hi))
    rcases hi with hi | hi | hi
    · exact .inr (.inr (.inr (.inr hi)))
    · exact .inr (.inr (.inr (.inl (hi.trans hro))))
    · exact .inl hi
  · rintro k (hk | hk | hk | hk | hk)
    · exact .inl (.inl hk)
    · exact .inl (.inr (.inl hk))
    · exact .inl (.inr (.inr (.inl hk)))
    · rcases hat with e | ⟨g, e, hg'⟩
      · exact .inl (.inr (.inr (.inr (.inl (hk.trans (e.trans hro))))))
      · rw [e] at hk
        injection hk with hk
        exact .inr (by have := hf.size; omega)
    · cases hk

/-- behind the append of the deletion's piece, its store into 'out', and that of 0 into 'gone' -/
theorem flush2 {w w2 : World} {bO bT bG : Nat} {ro rt : Option Nat} {out : List Pc} {text : List UInt8} {gone : Int} {o : Obj} {v V2 : Value} {x : Pc}
    (h : FmS w bO bT bG ro rt out text gone) (hv : Var w bO 22 v) (how : w.ownsRow 0 31 3 v out.length (pcE.flat out)) (hro : v.ownBlock = ro)
    (hg : (w.alloc o).grownBy w2 v.ownBlock) (hat : V2.ownBlock = v.ownBlock ∨ ∃ g, V2.ownBlock = some g ∧ w.heap.size ≤ g)
    (hown2 : w2.ownsRow 0 31 3 V2 (out.length + 1) (pcE.flat out ++ pcE.flat [x])) :
    Var w2 bO 22 v ∧ Var w2 bG 3 (.int .i64 gone) ∧ Var (w2.setCell ⟨bO, 0, none⟩ V2) bG 3 (.int .i64 gone) ∧
    (FmS ((w2.setCell ⟨bO, 0, none⟩ V2).setCell ⟨bG, 0, none⟩ (.int .i64 0)) bO bT bG V2.ownBlock rt (out ++ [x]) text 0 ∧ Fr (fsOf bO bT bG ro rt) w ((w2.setCell ⟨bO, 0, none⟩ V2).setCell ⟨bG, 0, none⟩ (.int .i64 0)) ∧ ∀ k, fsOf bO bT bG V2.ownBlock rt k → fsOf bO bT bG ro rt k ∨ w.heap.size ≤ k) := by
  obtain ⟨_, h4, h5⟩ := h
  obtain ⟨p, u, _, hB, hrow⟩ := id h4
  have hTO : bT ≠ bO := ty_ne hB hv (by decide)
  have hTG : bT ≠ bG := ty_ne hB h5 (by decide)
  have hGO : bG ≠ bO := ty_ne h5 hv (by decide)
  have hrt : ∀ k, some k = rt → k ≠ bO ∧ k ≠ bG ∧ k ≠ bT ∧ some k ≠ v.ownBlock := fun k hk => by
    obtain ⟨cur, hc⟩ := h4.row_block k hk.symm
    exact ⟨ty_ne hc hv (by decide), ty_ne hc h5 (by decide), ty_ne hc hB (by decide), fun e => by
      obtain ⟨cur', hc'⟩ := own_block how e.symm
      exact ty_ne hc hc' (by decide) rfl⟩
  have hvr : ∀ k, some k = v.ownBlock → k ≠ bO ∧ k ≠ bG ∧ k ≠ bT := fun k hk => by
    obtain ⟨cur, hc⟩ := own_block how hk.symm
    exact ⟨ty_ne hc hv (by decide), ty_ne hc h5 (by decide), ty_ne hc hB (by decide)⟩
  have f1 : Fr (fun k => some k = v.ownBlock) w w2 := (Fr.alloc _ w o).trans (Fr.of_grown hg)
  have f2 : Fr (fun k => some k = v.ownBlock ∨ k = bO) w (w2.setCell ⟨bO, 0, none⟩ V2) :=
    (f1.mono fun i _ hi => .inl hi).trans (Fr.setCell _ w2 ⟨bO, 0, none⟩ V2 (.inr rfl))
  have f3 : Fr (fun k => some k = v.ownBlock ∨ k = bO ∨ k = bG) w ((w2.setCell ⟨bO, 0, none⟩ V2).setCell ⟨bG, 0, none⟩ (.int .i64 0)) :=
    (f2.mono fun i _ hi => by rcases hi with hi | hi; exact .inl hi; exact .inr (.inl hi)).trans (Fr.setCell _ _ ⟨bG, 0, none⟩ _ (.inr (.inr rfl)))
  have hVO : Var w2 bO 22 v := hv.keep f1 (fun e => (hvr _ e).1 rfl)
  have hG2 : Var w2 bG 3 (.int .i64 gone) := h5.keep f1 (fun e => (hvr _ e).2.1 rfl)
  have hG3 : Var (w2.setCell ⟨bO, 0, none⟩ V2) bG 3 (.int .i64 gone) := hG2.keep (Fr.setCell (· = bO) w2 ⟨bO, 0, none⟩ V2 rfl) hGO
  have hV2O : ∀ g, V2.ownBlock = some g → g ≠ bO ∧ g ≠ bG := fun g hg' => by
    obtain ⟨cur, hc⟩ := own_block hown2 hg'
    exact ⟨ty_ne hc hVO (by decide), ty_ne hc hG2 (by decide)⟩
  refine ⟨hVO, hG2, hG3, ⟨⟨V2, (hVO.set V2).keep (Fr.setCell (· = bG) _ ⟨bG, 0, none⟩ _ rfl) (fun e => hGO e.symm), ?_, rfl⟩, ?_, ?_⟩, ?_, ?_⟩
  · have e1 : pcE.flat (out ++ [x]) = pcE.flat out ++ pcE.flat [x] := pcE.flat_append out [x]
    rw [e1, List.length_append]
    exact own_keep (own_keep hown2 (Fr.setCell (· = bO) w2 ⟨bO, 0, none⟩ V2 rfl) (fun g hg' => (hV2O g hg').1)) (Fr.setCell (· = bG) _ ⟨bG, 0, none⟩ _ rfl) (fun g hg' => (hV2O g hg').2)
  · refine h4.keep f3 ?_ ?_
    · rintro (e | e | e)
      · exact (hvr _ e).2.2 rfl
      · exact hTO e
      · exact hTG e
    · rintro g hg' (e | e | e)
      · exact (hrt g hg'.symm).2.2.2 e
      · exact (hrt g hg'.symm).1 e
      · exact (hrt g hg'.symm).2.1 e
  · exact hG3.set _
  · refine f3.mono fun i _ hi => ?_
    rcases hi with hi | hi | hi
    · exact .inr (.inr (.inr (.inl (hi.trans hro))))
    · exact .inl hi
    · exact .inr (.inr (.inl hi))
  · rintro k (hk | hk | hk | hk | hk)
    · exact .inl (.inl hk)
    · exact .inl (.inr (.inl hk))
    · exact .inl (.inr (.inr (.inl hk)))
    · rcases hat with e | ⟨g, e, hg'⟩
      · exact .inl (.inr (.inr (.inr (.inl (hk.trans (e.trans hro))))))
      · rw [e] at hk
        injection hk with hk
        exact .inr (by omega)
    · exact .inl (.inr (.inr (.inr (.inr hk))))

theorem fs_trans {bO bT bG : Nat} {ro rt ro' rt' ro2 rt2 : Option Nat} {w w1 w2 : World} (h1 : Fr (fsOf bO bT bG ro rt) w w1) (h2 : ∀ k, fsOf bO bT bG ro' rt' k → fsOf bO bT bG ro rt k ∨ w.heap.size ≤ k)
    (k1 : Fr (fsOf bO bT bG ro' rt') w1 w2) (k2 : ∀ k, fsOf bO bT bG ro2 rt2 k → fsOf bO bT bG ro' rt' k ∨ w1.heap.size ≤ k) :
    Fr (fsOf bO bT bG ro rt) w w2 ∧ ∀ k, fsOf bO bT bG ro2 rt2 k → fsOf bO bT bG ro rt k ∨ w.heap.size ≤ k :=
  ⟨h1.step k1 h2, fun k hk => by
    rcases k2 k hk with h | h
    · exact h2 k h
    · exact .inr (by have := h1.size; omega)⟩

set_option maxHeartbeats 2000000 in
set_option maxRecDepth 100000 in
theorem flushGone (bO bT bG : Nat) (ro rt : Option Nat) (out : List Pc) (gone : Int) (w : World) (h : FmS w bO bT bG ro rt out [] gone) (hg : 0 < gone) (hlen : out.length ≤ 1000000) :
    Calls Try.prog 101 #[.pointer (some ⟨bT, 0, none⟩), .pointer (some ⟨bO, 0, none⟩), .pointer (some ⟨bG, 0, none⟩)] w fun e w' => e = .returned (.tuple #[]) ∧
      ∃ ro' rt', FmS w' bO bT bG ro' rt' (out ++ [⟨3, gone, []⟩]) [] 0 ∧ Fr (fsOf bO bT bG ro rt) w w' ∧ (∀ k, fsOf bO bT bG ro' rt' k → fsOf bO bT bG ro rt k ∨ w.heap.size ≤ k) := by
  obtain ⟨i0, hi, hz0, hz1, hz2⟩ := info_parts infoPiece
  obtain ⟨⟨v, h1, h2, h3⟩, h4, h5⟩ := id h
  have co := h1.cell
  have cg := h5.cell
  have lo := h1.lt
  have lg := h5.lt
  have H := Lib.hid h; clear h
  have H3 := Lib.hid h3; clear h3
  go_enter Try.func101, Try.ntmps101
  go_wp2_with (first
    | (go_at_call 102; refine (bdLen_any _ _ _ _ h4).mono ?_; rintro e w' ⟨rfl, rfl⟩)
    | (at_builtin; refine wpList_append _ rfl (.tmp 13) (.tmp 16) 22 22 rfl 31 i0 _ 3 32 Try.underlying22 hi hz0 hz1 hz2 rfl (by decide) v _ _ rfl (h2.alloc _) _ 1 _ rfl (src_one pcE Try.underlying22 (off := 0) ⟨3, gone, []⟩ _ ?_) ?_ ?_ ?_
       · exact new_cells w _ _
       · unfold maxLen; omega
       · omega
       intro A2 c2 w2 hown2 hg2 hat2 _
       have hF := Lib.hid (flush2 (x := ⟨3, gone, []⟩) H.out h1 h2 H3.out (w2 := w2) (V2 := .slice A2 (out.length + 1) c2) hg2 (by rcases hat2 with e | e; exact .inl e; exact .inr ⟨_, e, by simp⟩) hown2)
       have co2 := hF.out.1.cell
       have fo2 := hF.out.1.frozen
       have cg2 := hF.out.2.1.cell
       have cg3 := hF.out.2.2.1.cell
       have fg3 := hF.out.2.2.1.frozen))
  go_end0
  exact ⟨rfl, _, _, hF.out.2.2.2⟩

set_option maxHeartbeats 2000000 in
theorem flushNone (bO bT bG : Nat) (ro rt : Option Nat) (out : List Pc) (gone : Int) (w : World) (h : FmS w bO bT bG ro rt out [] gone) (hg : ¬ 0 < gone) :
    Calls Try.prog 101 #[.pointer (some ⟨bT, 0, none⟩), .pointer (some ⟨bO, 0, none⟩), .pointer (some ⟨bG, 0, none⟩)] w fun e w' => e = .returned (.tuple #[]) ∧
      ∃ ro' rt', FmS w' bO bT bG ro' rt' out [] gone ∧ Fr (fsOf bO bT bG ro rt) w w' ∧ (∀ k, fsOf bO bT bG ro' rt' k → fsOf bO bT bG ro rt k ∨ w.heap.size ≤ k) := by
  obtain ⟨⟨v, h1, h2, h3⟩, h4, h5⟩ := id h
  have co := h1.cell
  have cg := h5.cell
  have H := Lib.hid h; clear h
  have H3 := Lib.hid h3; clear h3
  go_enter Try.func101, Try.ntmps101
  go_wp2_with (go_at_call 102; refine (bdLen_any _ _ _ _ h4).mono ?_; rintro e w' ⟨rfl, rfl⟩)
  go_end0
  exact ⟨rfl, _, _, H.out, Fr.refl _ _, fun k hk => .inl hk⟩

set_option maxHeartbeats 2000000 in
set_option maxRecDepth 100000 in
theorem flushText (bO bT bG : Nat) (ro rt : Option Nat) (out : List Pc) (text : List UInt8) (gone : Int) (w : World) (h : FmS w bO bT bG ro rt out text gone) (ht : text ≠ []) (hg : ¬ 0 < gone) (hlen : out.length ≤ 1000000) :
    Calls Try.prog 101 #[.pointer (some ⟨bT, 0, none⟩), .pointer (some ⟨bO, 0, none⟩), .pointer (some ⟨bG, 0, none⟩)] w fun e w' => e = .returned (.tuple #[]) ∧
      ∃ ro' rt', FmS w' bO bT bG ro' rt' (out ++ [⟨2, 0, text⟩]) [] gone ∧ Fr (fsOf bO bT bG ro rt) w w' ∧ (∀ k, fsOf bO bT bG ro' rt' k → fsOf bO bT bG ro rt k ∨ w.heap.size ≤ k) := by
  obtain ⟨i0, hi, hz0, hz1, hz2⟩ := info_parts infoPiece
  have hpos : (0 : Int) < (text.length : Int) := by have := List.length_pos_iff.2 ht; omega
  obtain ⟨⟨v, h1, h2, h3⟩, h4, h5⟩ := id h
  have co := h1.cell
  have cg := h5.cell
  have H := Lib.hid h; clear h
  have H3 := Lib.hid h3; clear h3
  go_enter Try.func101, Try.ntmps101
  go_wp2_with (go_at_call 102; refine (bdLen_any _ _ _ _ h4).mono ?_; rintro e w' ⟨rfl, rfl⟩)
  obtain ⟨cB, hB⟩ := h4.blk
  have hbO : bO ≠ bT := ty_ne h1 hB (by decide)
  have hrb : ∀ k, some k = rt → k ≠ bO ∧ k ≠ bG ∧ k ≠ bT := fun k hk => by
    obtain ⟨cur, hc⟩ := h4.row_block k hk.symm
    exact ⟨ty_ne hc h1 (by decide), ty_ne hc h5 (by decide), ty_ne hc hB (by decide)⟩
  have hro : ∀ g, v.ownBlock = some g → ¬ some g = rt := fun g hg e => by
    obtain ⟨cur, hc⟩ := h4.row_block g e.symm
    obtain ⟨cur', hc'⟩ := own_block h2 hg
    exact ty_ne hc hc' (by decide) rfl
  have hvo : ∀ W : World, Var W bO 22 v → W.ownsRow 0 31 3 v out.length (pcE.flat out) → some bO ≠ v.ownBlock := fun W hv ho e => by
    obtain ⟨cur, hc⟩ := own_block ho e.symm
    exact ty_ne hc hv (by decide) rfl
  go_region_law (first
    | (go_simp; go_at_call 103; refine (bdString_any bT rt text w.drew h4).mono ?_; rintro e w1 ⟨rfl, hf⟩
       have h11 : Var w1 bO 22 v := Var.keep (w := w.drew) h1 hf (fun e => (hrb _ e).1 rfl)
       have co1 : w1.cell? ⟨bO, 0, none⟩ = some v := h11.cell
       have lo1 : bO < w1.heap.size := h11.lt
       have h21 : w1.ownsRow 0 31 3 v out.length (pcE.flat out) := own_keep (w := w.drew) h2 hf hro)
    | (refine step_append _ rfl (.tmp 5) (.tmp 8) 22 22 rfl 31 i0 _ 3 32 Try.underlying22 hi hz0 hz1 hz2 rfl (by decide) v _ _ rfl (h21.alloc _) _ 1 _ rfl (src_one pcE Try.underlying22 (off := 0) ⟨2, 0, text⟩ _ ?_) ?_ ?_ ?_
       · exact new_cells w1 _ _
       · unfold maxLen; omega
       · omega
       intro A2 c2 w2 hown2 hg2 hat2 _
       have h12 : Var w2 bO 22 v := (hg2.block bO (by simp; have := h11.lt; omega) (hvo w1 h11 h21)).trans ((Below.heap_alloc w1 _ bO h11.lt).trans h11)
       have co2 : w2.cell? ⟨bO, 0, none⟩ = some v := h12.cell
       have fo2 : w2.frozen? ⟨bO, 0, none⟩ = false := h12.frozen))
  all_goals
    obtain ⟨⟨p9, u9, hT9⟩, hend⟩ := flush1 (x := ⟨2, 0, text⟩) H.out h1 h2 H3.out (w1 := w1) (w2 := w2) (V2 := .slice A2 (out.length + 1) c2) ⟨hf.os, hf.tape, hf.output, hf.size, hf.block⟩ hg2 (by rcases hat2 with e | e; exact .inl e; exact .inr ⟨_, e, by simp⟩) hown2
    clear hrb hro hvo
    go_wp2_with (go_at_call 104; refine (bdReset_any bT p9 u9 _ hT9).mono ?_; rintro e w4 ⟨rfl, hb4, hf4⟩
                 have hE := Lib.hid (hend w4 hb4 hf4)
                 have cg4 : w4.cell? ⟨bG, 0, none⟩ = some (.int .i64 gone) := hE.out.1.g.cell
                 clear hend hb4 hf4)
    go_end0
    exact ⟨rfl, _, _, hE.out⟩

set_option maxHeartbeats 2000000 in
set_option maxRecDepth 100000 in
theorem flushBoth (bO bT bG : Nat) (ro rt : Option Nat) (out : List Pc) (text : List UInt8) (gone : Int) (w : World) (h : FmS w bO bT bG ro rt out text gone) (ht : text ≠ []) (hg : 0 < gone) (hlen : out.length ≤ 999999) :
    Calls Try.prog 101 #[.pointer (some ⟨bT, 0, none⟩), .pointer (some ⟨bO, 0, none⟩), .pointer (some ⟨bG, 0, none⟩)] w fun e w' => e = .returned (.tuple #[]) ∧
      ∃ ro' rt', FmS w' bO bT bG ro' rt' ((out ++ [⟨2, 0, text⟩]) ++ [⟨3, gone, []⟩]) [] 0 ∧ Fr (fsOf bO bT bG ro rt) w w' ∧ (∀ k, fsOf bO bT bG ro' rt' k → fsOf bO bT bG ro rt k ∨ w.heap.size ≤ k) := by
  obtain ⟨i0, hi, hz0, hz1, hz2⟩ := info_parts infoPiece
  have hpos : (0 : Int) < (text.length : Int) := by have := List.length_pos_iff.2 ht; omega
  obtain ⟨⟨v, h1, h2, h3⟩, h4, h5⟩ := id h
  have co := h1.cell
  have cg := h5.cell
  have H := Lib.hid h; clear h
  have H3 := Lib.hid h3; clear h3
  go_enter Try.func101, Try.ntmps101
  go_wp2_with (go_at_call 102; refine (bdLen_any _ _ _ _ h4).mono ?_; rintro e w' ⟨rfl, rfl⟩)
  obtain ⟨cB, hB⟩ := h4.blk
  have hbO : bO ≠ bT := ty_ne h1 hB (by decide)
  have hrb : ∀ k, some k = rt → k ≠ bO ∧ k ≠ bG ∧ k ≠ bT := fun k hk => by
    obtain ⟨cur, hc⟩ := h4.row_block k hk.symm
    exact ⟨ty_ne hc h1 (by decide), ty_ne hc h5 (by decide), ty_ne hc hB (by decide)⟩
  have hro : ∀ g, v.ownBlock = some g → ¬ some g = rt := fun g hg e => by
    obtain ⟨cur, hc⟩ := h4.row_block g e.symm
    obtain ⟨cur', hc'⟩ := own_block h2 hg
    exact ty_ne hc hc' (by decide) rfl
  have hvo : ∀ W : World, Var W bO 22 v → W.ownsRow 0 31 3 v out.length (pcE.flat out) → some bO ≠ v.ownBlock := fun W hv ho e => by
    obtain ⟨cur, hc⟩ := own_block ho e.symm
    exact ty_ne hc hv (by decide) rfl
  go_region_law (first
    | (go_simp; go_at_call 103; refine (bdString_any bT rt text w.drew h4).mono ?_; rintro e w1 ⟨rfl, hf⟩
       have h11 : Var w1 bO 22 v := Var.keep (w := w.drew) h1 hf (fun e => (hrb _ e).1 rfl)
       have co1 : w1.cell? ⟨bO, 0, none⟩ = some v := h11.cell
       have lo1 : bO < w1.heap.size := h11.lt
       have h21 : w1.ownsRow 0 31 3 v out.length (pcE.flat out) := own_keep (w := w.drew) h2 hf hro)
    | (refine step_append _ rfl (.tmp 5) (.tmp 8) 22 22 rfl 31 i0 _ 3 32 Try.underlying22 hi hz0 hz1 hz2 rfl (by decide) v _ _ rfl (h21.alloc _) _ 1 _ rfl (src_one pcE Try.underlying22 (off := 0) ⟨2, 0, text⟩ _ ?_) ?_ ?_ ?_
       · exact new_cells w1 _ _
       · unfold maxLen; omega
       · omega
       intro A2 c2 w2 hown2 hg2 hat2 _
       have h12 : Var w2 bO 22 v := (hg2.block bO (by simp; have := h11.lt; omega) (hvo w1 h11 h21)).trans ((Below.heap_alloc w1 _ bO h11.lt).trans h11)
       have co2 : w2.cell? ⟨bO, 0, none⟩ = some v := h12.cell
       have fo2 : w2.frozen? ⟨bO, 0, none⟩ = false := h12.frozen))
  all_goals
    obtain ⟨⟨p9, u9, hT9⟩, hend⟩ := flush1 (x := ⟨2, 0, text⟩) H.out h1 h2 H3.out (w1 := w1) (w2 := w2) (V2 := .slice A2 (out.length + 1) c2) ⟨hf.os, hf.tape, hf.output, hf.size, hf.block⟩ hg2 (by rcases hat2 with e | e; exact .inl e; exact .inr ⟨_, e, by simp⟩) hown2
    clear hrb hro hvo
    go_wp2_with (first
      | (go_at_call 104; refine (bdReset_any bT p9 u9 _ hT9).mono ?_; rintro e w4 ⟨rfl, hb4, hf4⟩
         obtain ⟨out', Hout, hE⟩ : ∃ out' : List Pc, Hid (out' = out ++ [⟨2, 0, text⟩]) ∧ Hid (FmS w4 bO bT bG (Value.slice A2 (out.length + 1) c2).ownBlock none out' [] gone ∧ Fr (fsOf bO bT bG ro rt) w w4 ∧ ∀ k, fsOf bO bT bG (Value.slice A2 (out.length + 1) c2).ownBlock none k → fsOf bO bT bG ro rt k ∨ w.heap.size ≤ k) := ⟨_, Lib.hid rfl, hend w4 hb4 hf4⟩
         have hlen' : out'.length ≤ 1000000 := by rw [Hout.out]; simp; omega
         have cg4 : w4.cell? ⟨bG, 0, none⟩ = some (.int .i64 gone) := hE.out.1.g.cell
         have lg4 : bG < w4.heap.size := hE.out.1.g.lt
         obtain ⟨v4, h14, h24, h34⟩ := hE.out.1.o
         have co4 : w4.cell? ⟨bO, 0, none⟩ = some v4 := h14.cell
         have lo4 : bO < w4.heap.size := h14.lt
         have H34 := Lib.hid h34
         clear hend hb4 hf4 h34 hat2 hown2 hg2 h12 co2 fo2 h11 co1 lo1 h21 hf h1 h2 h4 h5 co cg)
      | (at_builtin; refine wpList_append _ rfl (.tmp 13) (.tmp 16) 22 22 rfl 31 i0 _ 3 32 Try.underlying22 hi hz0 hz1 hz2 rfl (by decide) v4 _ _ rfl (h24.alloc _) _ 1 _ rfl (src_one pcE Try.underlying22 (off := 0) ⟨3, gone, []⟩ _ ?_) ?_ ?_ ?_
         · exact new_cells w4 _ _
         · unfold maxLen; omega
         · omega
         intro A5 c5 w5 hown5 hg5 hat5 _
         have hF := Lib.hid (flush2 (x := ⟨3, gone, []⟩) hE.out.1 h14 h24 H34.out (w2 := w5) (V2 := .slice A5 (out'.length + 1) c5) hg5 (by rcases hat5 with e | e; exact .inl e; exact .inr ⟨_, e, by simp⟩) hown5)
         have co5 := hF.out.1.cell
         have fo5 := hF.out.1.frozen
         have cg5 := hF.out.2.1.cell
         have cg6 := hF.out.2.2.1.cell
         have fg6 := hF.out.2.2.1.frozen))
    go_end0
    have hfin := hF.out.2.2.2
    refine ⟨rfl, _, _, ?_, fs_trans hE.out.2.1 hE.out.2.2 hfin.2.1 hfin.2.2⟩
    rw [← Hout.out]
    exact hfin.1

end Go.Proofs.Ytdlbjfgpfjcpaaa
