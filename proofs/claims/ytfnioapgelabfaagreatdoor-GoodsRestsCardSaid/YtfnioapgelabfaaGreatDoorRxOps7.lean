/-
A part of the proof: lemmas on the machine that the printed functions run on, or contracts of functions.
-/
import Derived.Test.YtfnioapgelabfaaGreatDoorRxOps6
set_option linter.unusedVariables false
set_option linter.unusedSimpArgs false
namespace Go.Rx
variable {P : Program} {X : Ctx} {T : Tm} {a : Act} {w : World} {o : Oper} {call : CallF} {v : V} {m' : Mem}
theorem setRow_size' (w : World) (g : Nat) (cs : Array Value) : (w.setRow g cs).heap.size = w.heap.size := by simp [World.setRow]
theorem setRow_other' (w : World) (g k : Nat) (cs : Array Value) (h : k ≠ g) : (w.setRow g cs).heap[k]? = w.heap[k]? := setRow_other w g k cs h
theorem OpOK.put (hw : WR X) (hH : X.H = w.heap) {id st b off : Nat} {cs new : List V} {c : Array Value} {e : TypeId} {nvs : List Value} {cv : Value} {v : V} {w' : World}
    (hcs : X.m.cells id st = some cs) (hB : X.B[id]? = some b) (hHb : X.H[b]? = some (.cells c e (0, 0))) (hlen : cs.length ≤ c.size) (hn : VRs X new nvs) (h1 : ∀ v ∈ nvs, v.oneCell' = true) (hoff : off + new.length ≤ cs.length)
    (hw' : w' = w.setRow b (c.toList.take off ++ (nvs ++ c.toList.drop (off + nvs.length))).toArray)
    (hr : (execOp a.eval o).run P w = .ok (.value cv) w' ∨ ((execOp a.eval o).run P w = .ok .skip w' ∧ cv = Go.undef))
    (hv : ∀ X' : Ctx, Ext X X' → VR X' v cv) : OpOK P o a w X v (X.m.put id st (splice cs off new)) := by
  intro K Q h
  rw [hH] at hHb
  obtain ⟨g1, g2⟩ := goes_put hw hcs hB (by rw [hH]; exact hHb) hlen hn h1 hoff (H' := w'.heap) (by rw [hw']; exact setRow_heap w b c _ e (0, 0) hHb) (fun k hk => by rw [hw', hH]; exact setRow_other' w b k _ hk) (by rw [hw', hH]; exact setRow_size' w b _)
  have hwe : WEq w w' := by rw [hw']; exact ⟨rfl, rfl, rfl⟩
  unfold Oper.wp
  rcases hr with hr | ⟨hr, rfl⟩
  · rw [hr]; exact h cv w' _ g1 g2 rfl rfl hwe (hv _ g1.toExt)
  · rw [hr]; exact h _ w' _ g1 g2 rfl rfl hwe (hv _ g1.toExt)
theorem ok_store (hw : WR X) (hH : X.H = w.heap) (ht : TR X T a.tmps) {sz : Nat} {x y : Opd} {c d : Operand} {t : TypeId} (ho : o.op = .store t c d) (hsz : sizeIs P t sz = true) (hc : chkOpd X.lnk x c = true) (hd : chkOpd X.lnk y d = true)
    (hs : stepOp call T X.m (.store sz x y) = some (v, m')) : OpOK P o a w X v m' := by
  have h1 := get_VR hc ht
  have h2 := get_VR hd ht
  simp only [stepOp] at hs
  generalize hce : a.eval c = ce at h1
  generalize hde : a.eval d = de at h2
  generalize hyv : y.get T = yv at hs h2
  split at hs
  case h_2 => cases hs
  rename_i id st off hx
  rw [hx] at h1
  cases hcs : X.m.cells id st with
  | none => simp [hcs] at hs
  | some cs =>
    simp only [hcs, Option.bind_some] at hs
    split at hs
    case isFalse => cases hs
    rename_i hcond
    obtain ⟨q1, q2, q3⟩ := hcond
    simp only [Option.some.injEq, Prod.mk.injEq] at hs
    obtain ⟨rfl, rfl⟩ := hs
    obtain ⟨b, cc, e, rfl, g1, g2, g3, g4, _⟩ := ptr_row hw h1 hcs
    obtain ⟨k1, k2⟩ := cells_VR h2 q3
    have hk : yv.cells.length = de.cells.size := by simpa using k1.1
    refine OpOK.put hw hH hcs g1 g2 g3 k1 k2 (by omega) rfl (.inr ⟨?_, rfl⟩) fun X' _ => .undef _
    have hst := run_storeCells_at P b off e de.cells.toList 0 cc w (by rw [← hH]; exact g2) (by simp; omega) k2
    simp only [Nat.add_zero] at hst
    have hss : (sizeOf t).run P w = .ok de.cells.size w := by rw [run_sizeOf' hsz]; congr 1; omega
    simp only [execOp, ho, hce, hde, Instr.storeAt, Instr.sureAddr, Sem.run_bind, Sem.run_pure, Result.andThen_ok, storeVar, hss]
    rw [if_neg (by simp)]
    simp only [hst, Result.andThen_ok, List.append_assoc]
def sub64Entry : Array Value → Sem Value := fun args => do
  let (x, y, b) ← Extern.MathBitsCarry.three "Sub64" args
  pure (Extern.MathBitsCarry.pair ((x + Extern.MathBitsCarry.m64 - y - b) % Extern.MathBitsCarry.m64) (if x < y + b then 1 else 0))
structure Carry (P : Program) (f : FuncId) (sub : Bool) : Prop where
  ex : ∃ fn, P.funcs[f]? = some fn ∧ (fn.name == "runtime.NumGoroutine") = false ∧ fn.body.isNone = true ∧ Extern.findNext fn = none ∧ Extern.find fn = some (if sub then sub64Entry else add64Entry)
theorem ok_carry (hw : WR X) (hH : X.H = w.heap) (ht : TR X T a.tmps) {sub : Bool} {x y z : Opd} {f : FuncId} {c d e : Operand} {ts : Array TypeId} (ho : o.op = .call { callee := .value (.func f), args := #[c, d, e], argTypes := ts })
    (hn : Carry P f sub) (hc : chkOpd X.lnk x c = true) (hd : chkOpd X.lnk y d = true) (he : chkOpd X.lnk z e = true) (hs : stepOp call T X.m (.carry sub x y z) = some (v, m')) : OpOK P o a w X v m' := by
  have h1 := get_VR hc ht
  have h2 := get_VR hd ht
  have h3 := get_VR he ht
  simp only [stepOp] at hs
  generalize hce : a.eval c = ce at h1
  generalize hde : a.eval d = de at h2
  generalize hee : a.eval e = ee at h3
  split at hs
  case h_2 => cases hs
  rename_i xi yi zi hx hy hz
  rw [hx] at h1; rw [hy] at h2; rw [hz] at h3
  cases h1; cases h2; cases h3
  split at hs
  case isFalse => cases hs
  rename_i hz01
  simp only [Option.some.injEq, Prod.mk.injEq] at hs
  obtain ⟨rfl, rfl⟩ := hs
  obtain ⟨fn, hf, n1, n2, n3, n4⟩ := hn.ex
  have hcall := run_callFunc_extern hf n1 n2 n3 n4 #[.int .u64 xi, .int .u64 yi, .int .u64 zi] w
  have hval : ((if sub then sub64Entry else add64Entry) #[.int .u64 xi, .int .u64 yi, .int .u64 zi]).run P w =
      .ok (if sub then Extern.MathBitsCarry.pair ((xi.toNat + Extern.MathBitsCarry.m64 - yi.toNat - zi.toNat) % Extern.MathBitsCarry.m64) (if xi.toNat < yi.toNat + zi.toNat then 1 else 0)
        else Extern.MathBitsCarry.pair ((xi.toNat + yi.toNat + zi.toNat) % Extern.MathBitsCarry.m64) ((xi.toNat + yi.toNat + zi.toNat) / Extern.MathBitsCarry.m64)) w := by
    rcases hz01 with rfl | rfl <;> cases sub <;> rfl
  refine OpOK.same (w' := w) hw hH (.refl w) (cv := if sub then Extern.MathBitsCarry.pair ((xi.toNat + Extern.MathBitsCarry.m64 - yi.toNat - zi.toNat) % Extern.MathBitsCarry.m64) (if xi.toNat < yi.toNat + zi.toNat then 1 else 0)
        else Extern.MathBitsCarry.pair ((xi.toNat + yi.toNat + zi.toNat) % Extern.MathBitsCarry.m64) ((xi.toNat + yi.toNat + zi.toNat) / Extern.MathBitsCarry.m64)) ?_ ?_
  · have hres : (resolve a.eval { callee := .value (.func f), args := #[c, d, e], argTypes := ts } o.type).run P w = .ok { target := .fn (.func f) #[], args := #[.int .u64 xi, .int .u64 yi, .int .u64 zi] } w := by
      have hfe : a.eval (.func f) = .func (.func f) #[] #[] := rfl
      simp [resolve, hfe, Deferred.ofValue, hce, hde, hee]
    simp only [execOp, ho, Sem.run_bind, hres, Result.andThen_ok, invoke, Array.append_empty]
    rw [hcall, hval]; rfl
  · have hm : Extern.MathBitsCarry.m64 = 2 ^ 64 := rfl
    have two : ∀ (p q : Int), VR X (.tup [.int .u64 p, .int .u64 q]) (.tuple #[.int .u64 p, .int .u64 q]) := fun p q => .tup _ _ rfl fun i c v hc hv => by
      match i, hc, hv with
      | 0, hc, hv => simp at hc hv; subst hc; subst hv; exact .int _ _
      | 1, hc, hv => simp at hc hv; subst hc; subst hv; exact .int _ _
      | i + 2, hc, hv => simp at hc
    cases sub
    · simp only [Bool.false_eq_true, if_false, Extern.MathBitsCarry.pair, hm]; exact two _ _
    · simp only [if_true, Extern.MathBitsCarry.pair, hm]; exact two _ _
end Go.Rx
