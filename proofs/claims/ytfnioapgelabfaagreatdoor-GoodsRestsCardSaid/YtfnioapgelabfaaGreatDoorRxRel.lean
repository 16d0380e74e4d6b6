/-
A part of the proof: lemmas on the machine that the printed functions run on, or contracts of functions.
-/
import Derived.Test.YtfnioapgelabfaaGreatDoorRxMach
import Derived.Orders
import Derived.Scope
import Derived.LoopN
import Derived.Laws.AppendOwn
import Derived.Laws.StructEq
import Derived.Laws.Tables
set_option linter.unusedVariables false
set_option linter.unusedSimpArgs false
namespace Go.Rx
def cellAt (H : Array Obj) (b o : Nat) : Option Value :=
  match H[b]? with
  | some (.cells c _ _) => c[o]?
  | _ => none
theorem cell?_eq (w : World) (b o : Nat) : w.cell? ⟨b, o, none⟩ = cellAt w.heap b o := rfl
structure Ctx where
  lnk : Nat → FuncId
  B : List Nat
  I : Nat → Prop
  m : Mem
  H : Array Obj
inductive VR (X : Ctx) : V → Value → Prop
  | undef (v : Value) : VR X .undef v
  | bool (b : Bool) : VR X (.bool b) (.bool b)
  | int (k : IntKind) (n : Int) : VR X (.int k n) (.int k n)
  | str (s : ByteArray) : VR X (.str s) (.string s)
  | nilp : VR X .nilp (.pointer none)
  | ptr (id st off : Nat) (a : Addr) (hs : st < X.m.gen) (h : ∀ cs, X.m.cells id st = some cs → X.B[id]? = some a.block ∧ a.off = off ∧ a.spot = none) :
      VR X (.ptr id st off) (.pointer (some a))
  | iptr (cs : List V) (off : Nat) (a : Addr) (o : Nat) (g : Nat → Value) (hI : X.I a.block) (hsp : a.spot = none) (ho : a.off = o + off)
      (hc : ∀ (j : Nat) c, cs[j]? = some c → cellAt X.H a.block (o + j) = some (g j)) (h1 : ∀ (j : Nat) c, cs[j]? = some c → (g j).oneCell' = true)
      (hr : ∀ (j : Nat) c, cs[j]? = some c → VR X c (g j)) : VR X (.iptr cs off) (.pointer (some a))
  | sl0 (f : SF) (a : Option Addr) (cap : Nat) (h1 : f.exact = true → cap = 0) (h2 : f.isNil = some true → a = none) (h3 : f.isNil = some false → a ≠ none) (h4 : a = none → cap = 0) :
      VR X (.sl f []) (.slice a 0 cap)
  | sl1 (f : SF) (es : List (List V)) (n : Nat) (a : Addr) (cap sz : Nat) (g : Nat → Nat → Value) (hn : es.length = n) (hne : es ≠ []) (hI : X.I a.block) (hsp : a.spot = none)
      (hcap : n ≤ cap) (hex : f.exact = true → cap = n) (hnil : f.isNil ≠ some true) (hsz : ∀ e ∈ es, e.length = sz)
      (hc : ∀ (i j : Nat) e c, es[i]? = some e → e[j]? = some c → cellAt X.H a.block (a.off + i * sz + j) = some (g i j))
      (h1 : ∀ (i j : Nat) e c, es[i]? = some e → e[j]? = some c → (g i j).oneCell' = true)
      (hr : ∀ (i j : Nat) e c, es[i]? = some e → e[j]? = some c → VR X c (g i j)) : VR X (.sl f es) (.slice (some a) n cap)
  | msl (id st sz off len : Nat) (ex : Bool) (a : Addr) (cap : Nat) (hs : st < X.m.gen) (hlen : len ≤ cap) (hex : ex = true → cap = len)
      (h : ∀ cs, X.m.cells id st = some cs → off + len * sz ≤ cs.length ∧ (ex = false → cs.length ≤ off + cap * sz) ∧
        ∃ b c e, X.B[id]? = some b ∧ X.H[b]? = some (.cells c e (0, 0)) ∧ off + cap * sz ≤ c.size ∧ (cap = 0 ∨ (a.block = b ∧ a.off = off ∧ a.spot = none))) :
      VR X (.msl id st sz off len ex) (.slice (some a) len cap)
  | nilf : VR X .nilf .nilFunc
  | fn (pid : Nat) (fs cs : List V) (vf vc : Array Value) (h1 : fs.length = vf.size) (h2 : cs.length = vc.size)
      (h3 : ∀ (i : Nat) c v, fs[i]? = some c → vf[i]? = some v → VR X c v) (h4 : ∀ (i : Nat) c v, cs[i]? = some c → vc[i]? = some v → VR X c v) :
      VR X (.fn pid fs cs) (.func (.func (X.lnk pid)) vf vc)
  | agg (cs : List V) (vs : Array Value) (h1 : cs.length = vs.size) (h2 : ∀ (i : Nat) v, vs[i]? = some v → v.oneCell' = true)
      (h3 : ∀ (i : Nat) c v, cs[i]? = some c → vs[i]? = some v → VR X c v) : VR X (.agg cs) (.agg vs)
  | tup (cs : List V) (vs : Array Value) (h1 : cs.length = vs.size)
      (h3 : ∀ (i : Nat) c v, cs[i]? = some c → vs[i]? = some v → VR X c v) : VR X (.tup cs) (.tuple vs)
  | mapr (id st r : Nat) (hs : st < X.m.gen) (h : ∀ es, X.m.map id st = some es → X.B[id]? = some r) : VR X (.mapr id st) (.map (some r))
def VRs (X : Ctx) (cs : List V) (vs : List Value) : Prop := cs.length = vs.length ∧ ∀ (i : Nat) c v, cs[i]? = some c → vs[i]? = some v → VR X c v
structure Ext (X X' : Ctx) : Prop where
  lnk : X'.lnk = X.lnk
  gen : X.m.gen ≤ X'.m.gen
  imm : ∀ b, X.I b → X'.I b ∧ X'.H[b]? = X.H[b]?
  cells : ∀ (id st : Nat) cs', st < X.m.gen → X'.m.cells id st = some cs' → ∃ cs, X.m.cells id st = some cs ∧ cs'.length = cs.length ∧ X'.B[id]? = X.B[id]? ∧
    ∀ b c e, X.B[id]? = some b → X.H[b]? = some (.cells c e (0, 0)) → ∃ c' e', X'.H[b]? = some (.cells c' e' (0, 0)) ∧ c'.size = c.size
  maps : ∀ (id st : Nat) es', st < X.m.gen → X'.m.map id st = some es' → ∃ es, X.m.map id st = some es ∧ X'.B[id]? = X.B[id]?
theorem Ext.refl (X : Ctx) : Ext X X :=
  ⟨rfl, Nat.le_refl _, fun _ h => ⟨h, rfl⟩, fun _ _ cs' _ h => ⟨cs', h, rfl, rfl, fun _ c e _ hb => ⟨c, e, hb, rfl⟩⟩, fun _ _ es' _ h => ⟨es', h, rfl⟩⟩
theorem Ext.trans {X Y Z : Ctx} (h : Ext X Y) (k : Ext Y Z) : Ext X Z := by
  refine ⟨k.lnk.trans h.lnk, Nat.le_trans h.gen k.gen, fun b hb => ?_, fun id st cs' hs hc => ?_, fun id st es' hs he => ?_⟩
  · obtain ⟨h1, h2⟩ := h.imm b hb
    obtain ⟨k1, k2⟩ := k.imm b h1
    exact ⟨k1, k2.trans h2⟩
  · obtain ⟨cs1, k1, k2, k3, k4⟩ := k.cells id st cs' (Nat.lt_of_lt_of_le hs h.gen) hc
    obtain ⟨cs, h1, h2, h3, h4⟩ := h.cells id st cs1 hs k1
    refine ⟨cs, h1, k2.trans h2, k3.trans h3, fun b c e hb hh => ?_⟩
    obtain ⟨c1, e1, g1, g2⟩ := h4 b c e hb hh
    obtain ⟨c2, e2, g3, g4⟩ := k4 b c1 e1 (h3.trans hb) g1
    exact ⟨c2, e2, g3, g4.trans g2⟩
  · obtain ⟨es1, k1, k2⟩ := k.maps id st es' (Nat.lt_of_lt_of_le hs h.gen) he
    obtain ⟨es, h1, h2⟩ := h.maps id st es1 hs k1
    exact ⟨es, h1, k2.trans h2⟩
theorem cellAt_eq {H H' : Array Obj} {b : Nat} (h : H'[b]? = H[b]?) (o : Nat) : cellAt H' b o = cellAt H b o := by simp [cellAt, h]
theorem VR.ext {X X' : Ctx} (h : Ext X X') {v : V} {c : Value} (hr : VR X v c) : VR X' v c := by
  induction hr with
  | undef v => exact .undef v
  | bool b => exact .bool b
  | int k n => exact .int k n
  | str s => exact .str s
  | nilp => exact .nilp
  | ptr id st off a hs hh =>
    refine .ptr id st off a (Nat.lt_of_lt_of_le hs h.gen) fun cs hc => ?_
    obtain ⟨cs1, h1, _, h3, _⟩ := h.cells id st cs hs hc
    rw [h3]; exact hh cs1 h1
  | iptr cs off a o g hI hsp ho hc h1 _ ih =>
    exact .iptr cs off a o g (h.imm _ hI).1 hsp ho (fun j c hj => (cellAt_eq (h.imm _ hI).2 _).trans (hc j c hj)) h1 ih
  | sl0 f a cap h1 h2 h3 h4 => exact .sl0 f a cap h1 h2 h3 h4
  | sl1 f es n a cap sz g hn hne hI hsp hcap hex hnil hsz hc h1 _ ih =>
    exact .sl1 f es n a cap sz g hn hne (h.imm _ hI).1 hsp hcap hex hnil hsz (fun i j e c hi hj => (cellAt_eq (h.imm _ hI).2 _).trans (hc i j e c hi hj)) h1 ih
  | msl id st sz off len ex a cap hs hlen hex hh =>
    refine .msl id st sz off len ex a cap (Nat.lt_of_lt_of_le hs h.gen) hlen hex fun cs hc => ?_
    obtain ⟨cs1, h1, h2, h3, h4⟩ := h.cells id st cs hs hc
    obtain ⟨k1, k2, b, c, e, k3, k4, k5, k6⟩ := hh cs1 h1
    obtain ⟨c', e', g1, g2⟩ := h4 b c e k3 k4
    exact ⟨by rw [h2]; exact k1, fun he => by rw [h2]; exact k2 he, b, c', e', by rw [h3]; exact k3, g1, by rw [g2]; exact k5, k6⟩
  | nilf => exact .nilf
  | fn pid fs cs vf vc h1 h2 _ _ ih3 ih4 => rw [← h.lnk]; exact .fn pid fs cs vf vc h1 h2 ih3 ih4
  | agg cs vs h1 h2 _ ih => exact .agg cs vs h1 h2 ih
  | tup cs vs h1 _ ih => exact .tup cs vs h1 ih
  | mapr id st r hs hh =>
    refine .mapr id st r (Nat.lt_of_lt_of_le hs h.gen) fun es he => ?_
    obtain ⟨es1, h1, h2⟩ := h.maps id st es hs he
    rw [h2]; exact hh es1 h1
theorem VRs.ext {X X' : Ctx} (h : Ext X X') {cs : List V} {vs : List Value} (hr : VRs X cs vs) : VRs X' cs vs :=
  ⟨hr.1, fun i c v hc hv => (hr.2 i c v hc hv).ext h⟩
def BR (X : Ctx) (b : Nat) : Blk → Prop
  | .cells st cs => st < X.m.gen ∧ ∃ c e, X.H[b]? = some (.cells c e (0, 0)) ∧ cs.length ≤ c.size ∧ (∀ (j : Nat) v, c[j]? = some v → v.oneCell' = true) ∧
      ∀ (j : Nat) v u, cs[j]? = some v → c[j]? = some u → VR X v u
  | .map st es => st < X.m.gen ∧ ∃ en clock, X.H[b]? = some (.map en clock) ∧ es.length = en.size ∧
      ∀ (j : Nat) kv e, es[j]? = some kv → en[j]? = some e → VR X kv.1 e.key ∧ VR X kv.2 e.val
def Live (X : Ctx) (b : Nat) : Prop := ∃ (id : Nat) (bk : Blk), X.m.bs[id]? = some (some bk) ∧ X.B[id]? = some b
structure WR (X : Ctx) : Prop where
  len : X.B.length = X.m.bs.length
  imm : ∀ b, X.I b → b < X.H.size
  live : ∀ (id : Nat) bk, X.m.bs[id]? = some (some bk) → ∃ b, X.B[id]? = some b ∧ ¬ X.I b ∧ BR X b bk
  inj : ∀ (i j : Nat) bi bj b, X.m.bs[i]? = some (some bi) → X.m.bs[j]? = some (some bj) → X.B[i]? = some b → X.B[j]? = some b → i = j
theorem BR.ext {X X' : Ctx} (h : Ext X X') {b : Nat} {bk : Blk} (hb : X'.H[b]? = X.H[b]?) (hr : BR X b bk) : BR X' b bk := by
  cases bk with
  | cells st cs =>
    obtain ⟨h1, c, e, h2, h3, h4, h5⟩ := hr
    exact ⟨Nat.lt_of_lt_of_le h1 h.gen, c, e, hb.trans h2, h3, h4, fun j v u hj hu => (h5 j v u hj hu).ext h⟩
  | map st es =>
    obtain ⟨h1, en, clock, h2, h3, h4⟩ := hr
    exact ⟨Nat.lt_of_lt_of_le h1 h.gen, en, clock, hb.trans h2, h3, fun j kv e hj he => ⟨(h4 j kv e hj he).1.ext h, (h4 j kv e hj he).2.ext h⟩⟩
theorem BR.lt {X : Ctx} {b : Nat} {bk : Blk} (hr : BR X b bk) : b < X.H.size := by
  cases bk with
  | cells st cs => obtain ⟨_, c, e, h2, _⟩ := hr; exact (Array.getElem?_eq_some_iff.1 h2).1
  | map st es => obtain ⟨_, en, clock, h2, _⟩ := hr; exact (Array.getElem?_eq_some_iff.1 h2).1
theorem WR.live_lt {X : Ctx} (h : WR X) {b : Nat} (hb : Live X b) : b < X.H.size := by
  obtain ⟨id, bk, h1, h2⟩ := hb
  obtain ⟨b', h3, _, h4⟩ := h.live id bk h1
  rw [h2] at h3; cases h3; exact h4.lt
theorem WR.not_imm {X : Ctx} (h : WR X) {b : Nat} (hb : Live X b) : ¬ X.I b := by
  obtain ⟨id, bk, h1, h2⟩ := hb
  obtain ⟨b', h3, h4, _⟩ := h.live id bk h1
  rw [h2] at h3; cases h3; exact h4
structure Goes (X X' : Ctx) : Prop extends Ext X X' where
  size : X.H.size ≤ X'.H.size
  frame : ∀ b, b < X.H.size → ¬ Live X b → X'.H[b]? = X.H[b]?
  fresh : ∀ b, Live X' b → Live X b ∨ X.H.size ≤ b
  immo : ∀ b, X'.I b → X.I b ∨ Live X b ∨ X.H.size ≤ b
theorem Goes.refl (X : Ctx) : Goes X X := ⟨.refl X, Nat.le_refl _, fun _ _ _ => rfl, fun _ h => .inl h, fun _ h => .inl h⟩
theorem Goes.trans {X Y Z : Ctx} (h : Goes X Y) (k : Goes Y Z) : Goes X Z := by
  refine ⟨h.toExt.trans k.toExt, Nat.le_trans h.size k.size, fun b hb hn => ?_, fun b hb => ?_, fun b hb => ?_⟩
  · have hn' : ¬ Live Y b := fun hl => (h.fresh b hl).elim hn (fun hle => by omega)
    exact (k.frame b (Nat.lt_of_lt_of_le hb h.size) hn').trans (h.frame b hb hn)
  · rcases k.fresh b hb with hl | hl
    · exact h.fresh b hl
    · exact .inr (Nat.le_trans h.size hl)
  · rcases k.immo b hb with hl | hl | hl
    · exact h.immo b hl
    · rcases h.fresh b hl with h1 | h1
      · exact .inr (.inl h1)
      · exact .inr (.inr h1)
    · exact .inr (.inr (Nat.le_trans h.size hl))
def WEq (w w' : World) : Prop := w'.os = w.os ∧ w'.output = w.output ∧ w'.tape = w.tape
theorem WEq.refl (w : World) : WEq w w := ⟨rfl, rfl, rfl⟩
theorem WEq.trans {a b c : World} (h : WEq a b) (k : WEq b c) : WEq a c := ⟨k.1.trans h.1, k.2.1.trans h.2.1, k.2.2.trans h.2.2⟩
end Go.Rx
