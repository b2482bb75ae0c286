/- apply.parts: the result of a delta, what it removes and what it inserts. Condition: valid pieces that fit the string. -/
import Derived.Test.YtibmnkdeepmabaaRef3c
import Derived.Laws.EntriesVeiled
namespace Go.Proofs.Ytibmnkdeepmabaa
open Go.RowKit

theorem run_findKey_u8 {P : Program} {w : World} {K : TypeId} (hK : P.underlying K = some (.int .u8)) (k : Int) (es : List MapEntry) (r : Option (Nat × Value)) (h : Instr.findNow (.int .u8) (.int .u8 k) es 0 = some r) :
    (Instr.findKey K (.int .u8 k) es).run P w = .ok r w := by
  unfold Instr.findKey
  simp [run_underlying hK, h]

theorem run_checkKey_u8 {P : Program} {w : World} {K : TypeId} (hK : P.underlying K = some (.int .u8)) (k : Int) (b : Bool) (n : Nat) : (Instr.checkKey b (n + 1) K (.int .u8 k)).run P w = .ok () w := by
  unfold Instr.checkKey
  simp [run_underlying hK]

theorem run_insert_u8 {P : Program} {w : World} {T K E : TypeId} (hT : P.underlying T = some (.map K E)) (hK : P.underlying K = some (.int .u8)) {r : Nat} {es : Array MapEntry} {c : Nat} (hb : w.heap[r]? = some (.map es c)) (k : Int) (v : Value)
    (hn : Instr.findNow (.int .u8) (.int .u8 k) es.toList 0 = some none) :
    (Instr.mapUpdate T (.map (some r)) (.int .u8 k) v).run P w = .ok () { w with heap := w.heap.setIfInBounds r (.map (es.push { key := .int .u8 k, val := v, born := c }) (c + 1)) } := by
  unfold Instr.mapUpdate
  have h1 := run_findKey_u8 (P := P) (w := w) hK k es.toList none hn
  have h2 := fun b => run_checkKey_u8 (P := P) (w := w) hK k b 9999
  simp [run_underlying hT, getObj, setObj, Sem.run, hb, h1, h2]

theorem run_lookup_u8 {P : Program} {w : World} {T K E : TypeId} (hT : P.underlying T = some (.map K E)) (hK : P.underlying K = some (.int .u8)) {r : Nat} {es : Array MapEntry} {c : Nat} (hb : w.heap[r]? = some (.map es c)) (k : Int) (i : Nat) (v : Value)
    (hn : Instr.findNow (.int .u8) (.int .u8 k) es.toList 0 = some (some (i, v))) :
    (Instr.lookup T (.map (some r)) (.int .u8 k) false).run P w = .ok v w := by
  unfold Instr.lookup
  have h1 := run_findKey_u8 (P := P) (w := w) hK k es.toList _ hn
  have h2 := fun b => run_checkKey_u8 (P := P) (w := w) hK k b 9999
  simp [run_underlying hT, getObj, Sem.run, hb, h1, h2]

theorem wpList_insert_u8 {P : Program} {w : World} {ops : Array Oper} {rest : List Oper} {o : Oper} {a : Act} {Q : Exit → Act → World → Prop} (hgd : o.guard = none) (T K E : TypeId) (mx kx vx : Operand) (ho : o.op = .insert T mx kx vx)
    (hT : P.underlying T = some (.map K E)) (hK : P.underlying K = some (.int .u8)) (r : Nat) (es : Array MapEntry) (c : Nat) (k : Int) (v : Value) (hm : a.eval mx = .map (some r)) (hk : a.eval kx = .int .u8 k) (hv : a.eval vx = v)
    (hb : w.heap[r]? = some (.map es c)) (hn : Instr.findNow (.int .u8) (.int .u8 k) es.toList 0 = some none)
    (h : ∀ w', w'.heap[r]? = some (.map (es.push { key := .int .u8 k, val := v, born := c }) (c + 1)) → Fr (· = r) w w' → w'.heap.size = w.heap.size → wpList P ops Q rest (a.put o.dst undef) w') : wpList P ops Q (o :: rest) a w := by
  refine wpList_plain hgd fun K' hK' => ?_
  have hr := run_insert_u8 (P := P) (w := w) hT hK hb k v hn
  have hlt : r < w.heap.size := heap_lt hb
  unfold Oper.wp execOp
  simp only [ho, hm, hk, hv, Sem.run_bind, hr, Result.andThen_ok, Sem.run_pure]
  refine hK' _ _ (h _ ?_ ⟨rfl, rfl, rfl, by simp, fun i _ hi => ?_⟩ (by simp))
  · simp [hlt]
  · simp only [Array.getElem?_setIfInBounds]
    rw [if_neg (fun e => hi e.symm)]

theorem ext_str (s : List UInt8) (a b : Nat) : (⟨s.toArray⟩ : ByteArray).extract a b = ⟨((s.take b).drop a).toArray⟩ := by
  have h : ((⟨s.toArray⟩ : ByteArray).extract a b).data = s.toArray.extract a b := by simp [ByteArray.extract, ByteArray.copySlice]
  have h2 : (⟨s.toArray⟩ : ByteArray).extract a b = ⟨((⟨s.toArray⟩ : ByteArray).extract a b).data⟩ := rfl
  rw [h2, h]
  simp [List.drop_take]

/-- two builders share no row -/
def apartRows (r r' : Option Nat) : Prop := ∀ g, r = some g → r' ≠ some g

theorem apartRows.symm {r r' : Option Nat} (h : apartRows r r') : apartRows r' r := fun g hg e => h g e hg

section
variable {w w' : World} {bS bF bM b1 b2 b3 : Nat} {es : Array MapEntry} {r1 r2 r3 : Option Nat} {s o1 o2 o3 : List UInt8}

theorem cells_ne_map {a b : Nat} {c : Array Value} {t : TypeId} {f : Nat × Nat} {n : Nat} (h : w.heap[a]? = some (.cells c t f)) (k : w.heap[b]? = some (.map es n)) : b ≠ a := by
  rintro rfl
  rw [h] at k
  injection k with k
  cases k

end

/-- all that parts has made lies from B on -/
def PN (B bS b1 b2 b3 : Nat) (r1 r2 r3 : Option Nat) : Prop := B ≤ bS ∧ B ≤ b1 ∧ B ≤ b2 ∧ B ≤ b3 ∧ (∀ g, r1 = some g → B ≤ g) ∧ (∀ g, r2 = some g → B ≤ g) ∧ (∀ g, r3 = some g → B ≤ g)

end Go.Proofs.Ytibmnkdeepmabaa
