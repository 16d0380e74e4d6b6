/-
A part of the proof: lemmas on the machine that the printed functions run on, or contracts of functions.
-/
import Derived.Test.YtfnioapgelabfaaGreatDoorRxArgs
import Derived.Test.YtfnioapgelabfaaGreatDoorRxKD
set_option linter.unusedVariables false
set_option linter.unusedSimpArgs false
namespace Go.Rx.Api
open Go.Rx
theorem of_b {cs : List V} (h : TyV .b cs) : ∃ x : Bool, cs = [.bool x] := by cases h with | b b => exact ⟨b, rfl⟩
theorem of_i {k : IntKind} {cs : List V} (h : TyV (.i k) cs) : ∃ x : Int, cs = [.int k x] ∧ k.min ≤ x ∧ x ≤ k.max := by cases h with | i k n h1 h2 => exact ⟨n, rfl, h1, h2⟩
theorem of_s {cs : List V} (h : TyV .s cs) : ∃ x : ByteArray, cs = [.str x] ∧ x.size < 9223372036854775808 := by cases h with | s s h => exact ⟨s, rfl, h⟩
theorem of_sl {α : Type} {t : Ty} {f : α → List V} {P : α → Prop} (hf : ∀ cs, TyV t cs → ∃ x, cs = f x ∧ P x) {cs : List V} (h : TyV (.sl t) cs) : ∃ l : List α, cs = [.sl .any (l.map f)] ∧ l.length < 9223372036854775808 ∧ ∀ x ∈ l, P x := by
  cases h with
  | sl e es hl h =>
    have key : ∀ es : List (List V), (∀ (i : Nat) x, es[i]? = some x → TyV t x) → ∃ l : List α, es = l.map f ∧ ∀ x ∈ l, P x := by
      intro es
      induction es with
      | nil => exact fun _ => ⟨[], rfl, fun x hx => by cases hx⟩
      | cons e es ih =>
        intro h
        obtain ⟨x, rfl, hx⟩ := hf e (h 0 e rfl)
        obtain ⟨l, rfl, hl⟩ := ih fun i y hy => h (i + 1) y (by simpa using hy)
        refine ⟨x :: l, rfl, fun y hy => ?_⟩
        rcases List.mem_cons.1 hy with rfl | hy
        · exact hx
        · exact hl y hy
    obtain ⟨l, rfl, hp⟩ := key es h
    exact ⟨l, rfl, by simpa using hl, hp⟩
theorem of_cons {t : Ty} {ts : List Ty} {cs : List V} (h : TyVs (t :: ts) cs) : ∃ c k, cs = c ++ k ∧ TyV t c ∧ TyVs ts k := by cases h with | cons t ts c cs h hs => exact ⟨c, cs, rfl, h, hs⟩
theorem of_nil {cs : List V} (h : TyVs [] cs) : cs = [] := by cases h; rfl
theorem of_st {fs : List Ty} {cs : List V} (h : TyV (.st fs) cs) : TyVs fs cs := by cases h with | st fs cs h => exact h
theorem of_ar {n : Nat} {e : Ty} {cs : List V} (h : TyV (.ar n e) cs) : TyVs (List.replicate n e) cs := by cases h with | ar n e cs h => exact h
theorem of_int {cs : List V} (h : TyV (.i .i64) cs) : ∃ x : Int, cs = icell x ∧ True := by obtain ⟨x, h, _⟩ := of_i h; exact ⟨x, h, trivial⟩
theorem of_row {cs : List V} (h : TyV (.sl (.i .i64)) cs) : ∃ x : List Int, cs = rcell x ∧ x.length < 9223372036854775808 := by obtain ⟨x, h, k, _⟩ := of_sl (f := icell) (fun _ => of_int) h; exact ⟨x, h, k⟩
def Lab.ty : Ty := .st [.i .i64, .i .u64]
theorem Lab.of {cs : List V} (h : TyV Lab.ty cs) : ∃ x : Lab, cs = x.cells ∧ True := by
  have h0 := of_st h
  obtain ⟨c0, k0, rfl, g0, h1⟩ := of_cons h0
  obtain ⟨x0, rfl, _, _⟩ := of_i g0
  obtain ⟨c1, k1, rfl, g1, h2⟩ := of_cons h1
  obtain ⟨x1, rfl, _, _⟩ := of_i g1
  obtain rfl := of_nil h2
  exact ⟨⟨x0, x1⟩, rfl, trivial⟩
def Account.ty : Ty := .st [.s, .s, .i .i64, .b]
theorem Account.of {cs : List V} (h : TyV Account.ty cs) : ∃ x : Account, cs = x.cells ∧ True := by
  have h0 := of_st h
  obtain ⟨c0, k0, rfl, g0, h1⟩ := of_cons h0
  obtain ⟨x0, rfl, _⟩ := of_s g0
  obtain ⟨c1, k1, rfl, g1, h2⟩ := of_cons h1
  obtain ⟨x1, rfl, _⟩ := of_s g1
  obtain ⟨c2, k2, rfl, g2, h3⟩ := of_cons h2
  obtain ⟨x2, rfl, _, _⟩ := of_i g2
  obtain ⟨c3, k3, rfl, g3, h4⟩ := of_cons h3
  obtain ⟨x3, rfl⟩ := of_b g3
  obtain rfl := of_nil h4
  exact ⟨⟨x0, x1, x2, x3⟩, rfl, trivial⟩
def Guild.ty : Ty := .st [.i .i64, .i .i64]
theorem Guild.of {cs : List V} (h : TyV Guild.ty cs) : ∃ x : Guild, cs = x.cells ∧ True := by
  have h0 := of_st h
  obtain ⟨c0, k0, rfl, g0, h1⟩ := of_cons h0
  obtain ⟨x0, rfl, _, _⟩ := of_i g0
  obtain ⟨c1, k1, rfl, g1, h2⟩ := of_cons h1
  obtain ⟨x1, rfl, _, _⟩ := of_i g1
  obtain rfl := of_nil h2
  exact ⟨⟨x0, x1⟩, rfl, trivial⟩
def Quota.ty : Ty := .st [.i .i64, .i .i64, .i .i64, .i .i64, .i .i64, .i .u64]
theorem Quota.of {cs : List V} (h : TyV Quota.ty cs) : ∃ x : Quota, cs = x.cells ∧ True := by
  have h0 := of_st h
  obtain ⟨c0, k0, rfl, g0, h1⟩ := of_cons h0
  obtain ⟨x0, rfl, _, _⟩ := of_i g0
  obtain ⟨c1, k1, rfl, g1, h2⟩ := of_cons h1
  obtain ⟨x1, rfl, _, _⟩ := of_i g1
  obtain ⟨c2, k2, rfl, g2, h3⟩ := of_cons h2
  obtain ⟨x2, rfl, _, _⟩ := of_i g2
  obtain ⟨c3, k3, rfl, g3, h4⟩ := of_cons h3
  obtain ⟨x3, rfl, _, _⟩ := of_i g3
  obtain ⟨c4, k4, rfl, g4, h5⟩ := of_cons h4
  obtain ⟨x4, rfl, _, _⟩ := of_i g4
  obtain ⟨c5, k5, rfl, g5, h6⟩ := of_cons h5
  obtain ⟨x5, rfl, _, _⟩ := of_i g5
  obtain rfl := of_nil h6
  exact ⟨⟨x0, x1, x2, x3, x4, x5⟩, rfl, trivial⟩
def Realm.ty : Ty := .st [.sl (Lab.ty), .sl (.i .i64), .sl (Account.ty), .sl (Guild.ty), .sl (Quota.ty), .i .i64, .i .i64, .i .i64, .i .i64]
theorem Realm.of {cs : List V} (h : TyV Realm.ty cs) : ∃ x : Realm, cs = x.cells ∧ x.wf := by
  have h0 := of_st h
  obtain ⟨c0, k0, rfl, g0, h1⟩ := of_cons h0
  obtain ⟨x0, rfl, l0, p0⟩ := of_sl (f := Lab.cells) (fun _ => Lab.of) g0
  obtain ⟨c1, k1, rfl, g1, h2⟩ := of_cons h1
  obtain ⟨x1, rfl, l1, p1⟩ := of_sl (f := icell) (fun _ => of_int) g1
  obtain ⟨c2, k2, rfl, g2, h3⟩ := of_cons h2
  obtain ⟨x2, rfl, l2, p2⟩ := of_sl (f := Account.cells) (fun _ => Account.of) g2
  obtain ⟨c3, k3, rfl, g3, h4⟩ := of_cons h3
  obtain ⟨x3, rfl, l3, p3⟩ := of_sl (f := Guild.cells) (fun _ => Guild.of) g3
  obtain ⟨c4, k4, rfl, g4, h5⟩ := of_cons h4
  obtain ⟨x4, rfl, l4, p4⟩ := of_sl (f := Quota.cells) (fun _ => Quota.of) g4
  obtain ⟨c5, k5, rfl, g5, h6⟩ := of_cons h5
  obtain ⟨x5, rfl, _, _⟩ := of_i g5
  obtain ⟨c6, k6, rfl, g6, h7⟩ := of_cons h6
  obtain ⟨x6, rfl, _, _⟩ := of_i g6
  obtain ⟨c7, k7, rfl, g7, h8⟩ := of_cons h7
  obtain ⟨x7, rfl, _, _⟩ := of_i g7
  obtain ⟨c8, k8, rfl, g8, h9⟩ := of_cons h8
  obtain ⟨x8, rfl, _, _⟩ := of_i g8
  obtain rfl := of_nil h9
  exact ⟨⟨x0, x1, x2, x3, x4, x5, x6, x7, x8⟩, rfl, ⟨l0, l1, l2, l3, l4⟩⟩
def Ref.ty : Ty := .st [.i .i64, .i .i64]
theorem Ref.of {cs : List V} (h : TyV Ref.ty cs) : ∃ x : Ref, cs = x.cells ∧ True := by
  have h0 := of_st h
  obtain ⟨c0, k0, rfl, g0, h1⟩ := of_cons h0
  obtain ⟨x0, rfl, _, _⟩ := of_i g0
  obtain ⟨c1, k1, rfl, g1, h2⟩ := of_cons h1
  obtain ⟨x1, rfl, _, _⟩ := of_i g1
  obtain rfl := of_nil h2
  exact ⟨⟨x0, x1⟩, rfl, trivial⟩
def Room.ty : Ty := .st [.b, .s]
theorem Room.of {cs : List V} (h : TyV Room.ty cs) : ∃ x : Room, cs = x.cells ∧ True := by
  have h0 := of_st h
  obtain ⟨c0, k0, rfl, g0, h1⟩ := of_cons h0
  obtain ⟨x0, rfl⟩ := of_b g0
  obtain ⟨c1, k1, rfl, g1, h2⟩ := of_cons h1
  obtain ⟨x1, rfl, _⟩ := of_s g1
  obtain rfl := of_nil h2
  exact ⟨⟨x0, x1⟩, rfl, trivial⟩
def Exit.ty : Ty := .st [.b, Ref.ty, Ref.ty, .i .i64]
theorem Exit.of {cs : List V} (h : TyV Exit.ty cs) : ∃ x : Exit, cs = x.cells ∧ True := by
  have h0 := of_st h
  obtain ⟨c0, k0, rfl, g0, h1⟩ := of_cons h0
  obtain ⟨x0, rfl⟩ := of_b g0
  obtain ⟨c1, k1, rfl, g1, h2⟩ := of_cons h1
  obtain ⟨x1, rfl, _⟩ := Ref.of g1
  obtain ⟨c2, k2, rfl, g2, h3⟩ := of_cons h2
  obtain ⟨x2, rfl, _⟩ := Ref.of g2
  obtain ⟨c3, k3, rfl, g3, h4⟩ := of_cons h3
  obtain ⟨x3, rfl, _, _⟩ := of_i g3
  obtain rfl := of_nil h4
  exact ⟨⟨x0, x1, x2, x3⟩, rfl, trivial⟩
def Item.ty : Ty := .st [.b, .s, .i .i64, .i .i64, Ref.ty]
theorem Item.of {cs : List V} (h : TyV Item.ty cs) : ∃ x : Item, cs = x.cells ∧ True := by
  have h0 := of_st h
  obtain ⟨c0, k0, rfl, g0, h1⟩ := of_cons h0
  obtain ⟨x0, rfl⟩ := of_b g0
  obtain ⟨c1, k1, rfl, g1, h2⟩ := of_cons h1
  obtain ⟨x1, rfl, _⟩ := of_s g1
  obtain ⟨c2, k2, rfl, g2, h3⟩ := of_cons h2
  obtain ⟨x2, rfl, _, _⟩ := of_i g2
  obtain ⟨c3, k3, rfl, g3, h4⟩ := of_cons h3
  obtain ⟨x3, rfl, _, _⟩ := of_i g3
  obtain ⟨c4, k4, rfl, g4, h5⟩ := of_cons h4
  obtain ⟨x4, rfl, _⟩ := Ref.of g4
  obtain rfl := of_nil h5
  exact ⟨⟨x0, x1, x2, x3, x4⟩, rfl, trivial⟩
def Mail.ty : Ty := .st [.b, .i .i64, .i .i64, .i .i64, .s]
theorem Mail.of {cs : List V} (h : TyV Mail.ty cs) : ∃ x : Mail, cs = x.cells ∧ True := by
  have h0 := of_st h
  obtain ⟨c0, k0, rfl, g0, h1⟩ := of_cons h0
  obtain ⟨x0, rfl⟩ := of_b g0
  obtain ⟨c1, k1, rfl, g1, h2⟩ := of_cons h1
  obtain ⟨x1, rfl, _, _⟩ := of_i g1
  obtain ⟨c2, k2, rfl, g2, h3⟩ := of_cons h2
  obtain ⟨x2, rfl, _, _⟩ := of_i g2
  obtain ⟨c3, k3, rfl, g3, h4⟩ := of_cons h3
  obtain ⟨x3, rfl, _, _⟩ := of_i g3
  obtain ⟨c4, k4, rfl, g4, h5⟩ := of_cons h4
  obtain ⟨x4, rfl, _⟩ := of_s g4
  obtain rfl := of_nil h5
  exact ⟨⟨x0, x1, x2, x3, x4⟩, rfl, trivial⟩
def Part.ty : Ty := .st [.i .i64, .i .u64, .i .i64]
theorem Part.of {cs : List V} (h : TyV Part.ty cs) : ∃ x : Part, cs = x.cells ∧ True := by
  have h0 := of_st h
  obtain ⟨c0, k0, rfl, g0, h1⟩ := of_cons h0
  obtain ⟨x0, rfl, _, _⟩ := of_i g0
  obtain ⟨c1, k1, rfl, g1, h2⟩ := of_cons h1
  obtain ⟨x1, rfl, _, _⟩ := of_i g1
  obtain ⟨c2, k2, rfl, g2, h3⟩ := of_cons h2
  obtain ⟨x2, rfl, _, _⟩ := of_i g2
  obtain rfl := of_nil h3
  exact ⟨⟨x0, x1, x2⟩, rfl, trivial⟩
def Trade.ty : Ty := .st [.b, .i .i64, .i .i64, Part.ty, Part.ty]
theorem Trade.of {cs : List V} (h : TyV Trade.ty cs) : ∃ x : Trade, cs = x.cells ∧ True := by
  have h0 := of_st h
  obtain ⟨c0, k0, rfl, g0, h1⟩ := of_cons h0
  obtain ⟨x0, rfl⟩ := of_b g0
  obtain ⟨c1, k1, rfl, g1, h2⟩ := of_cons h1
  obtain ⟨x1, rfl, _, _⟩ := of_i g1
  obtain ⟨c2, k2, rfl, g2, h3⟩ := of_cons h2
  obtain ⟨x2, rfl, _, _⟩ := of_i g2
  obtain ⟨c3, k3, rfl, g3, h4⟩ := of_cons h3
  obtain ⟨x3, rfl, _⟩ := Part.of g3
  obtain ⟨c4, k4, rfl, g4, h5⟩ := of_cons h4
  obtain ⟨x4, rfl, _⟩ := Part.of g4
  obtain rfl := of_nil h5
  exact ⟨⟨x0, x1, x2, x3, x4⟩, rfl, trivial⟩
def Order.ty : Ty := .st [.b, .i .i64, .i .i64, .i .i64, .i .i64, .i .i64, .i .u64, .i .u64, .i .u64, .i .i64]
theorem Order.of {cs : List V} (h : TyV Order.ty cs) : ∃ x : Order, cs = x.cells ∧ True := by
  have h0 := of_st h
  obtain ⟨c0, k0, rfl, g0, h1⟩ := of_cons h0
  obtain ⟨x0, rfl⟩ := of_b g0
  obtain ⟨c1, k1, rfl, g1, h2⟩ := of_cons h1
  obtain ⟨x1, rfl, _, _⟩ := of_i g1
  obtain ⟨c2, k2, rfl, g2, h3⟩ := of_cons h2
  obtain ⟨x2, rfl, _, _⟩ := of_i g2
  obtain ⟨c3, k3, rfl, g3, h4⟩ := of_cons h3
  obtain ⟨x3, rfl, _, _⟩ := of_i g3
  obtain ⟨c4, k4, rfl, g4, h5⟩ := of_cons h4
  obtain ⟨x4, rfl, _, _⟩ := of_i g4
  obtain ⟨c5, k5, rfl, g5, h6⟩ := of_cons h5
  obtain ⟨x5, rfl, _, _⟩ := of_i g5
  obtain ⟨c6, k6, rfl, g6, h7⟩ := of_cons h6
  obtain ⟨x6, rfl, _, _⟩ := of_i g6
  obtain ⟨c7, k7, rfl, g7, h8⟩ := of_cons h7
  obtain ⟨x7, rfl, _, _⟩ := of_i g7
  obtain ⟨c8, k8, rfl, g8, h9⟩ := of_cons h8
  obtain ⟨x8, rfl, _, _⟩ := of_i g8
  obtain ⟨c9, k9, rfl, g9, h10⟩ := of_cons h9
  obtain ⟨x9, rfl, _, _⟩ := of_i g9
  obtain rfl := of_nil h10
  exact ⟨⟨x0, x1, x2, x3, x4, x5, x6, x7, x8, x9⟩, rfl, trivial⟩
def Entry.ty : Ty := .st [.i .u64, .i .i64, .i .i64, .i .i64, .i .i64, .i .i64, .i .i64, .i .u64, .i .u64, .i .i64]
theorem Entry.of {cs : List V} (h : TyV Entry.ty cs) : ∃ x : Entry, cs = x.cells ∧ True := by
  have h0 := of_st h
  obtain ⟨c0, k0, rfl, g0, h1⟩ := of_cons h0
  obtain ⟨x0, rfl, _, _⟩ := of_i g0
  obtain ⟨c1, k1, rfl, g1, h2⟩ := of_cons h1
  obtain ⟨x1, rfl, _, _⟩ := of_i g1
  obtain ⟨c2, k2, rfl, g2, h3⟩ := of_cons h2
  obtain ⟨x2, rfl, _, _⟩ := of_i g2
  obtain ⟨c3, k3, rfl, g3, h4⟩ := of_cons h3
  obtain ⟨x3, rfl, _, _⟩ := of_i g3
  obtain ⟨c4, k4, rfl, g4, h5⟩ := of_cons h4
  obtain ⟨x4, rfl, _, _⟩ := of_i g4
  obtain ⟨c5, k5, rfl, g5, h6⟩ := of_cons h5
  obtain ⟨x5, rfl, _, _⟩ := of_i g5
  obtain ⟨c6, k6, rfl, g6, h7⟩ := of_cons h6
  obtain ⟨x6, rfl, _, _⟩ := of_i g6
  obtain ⟨c7, k7, rfl, g7, h8⟩ := of_cons h7
  obtain ⟨x7, rfl, _, _⟩ := of_i g7
  obtain ⟨c8, k8, rfl, g8, h9⟩ := of_cons h8
  obtain ⟨x8, rfl, _, _⟩ := of_i g8
  obtain ⟨c9, k9, rfl, g9, h10⟩ := of_cons h9
  obtain ⟨x9, rfl, _, _⟩ := of_i g9
  obtain rfl := of_nil h10
  exact ⟨⟨x0, x1, x2, x3, x4, x5, x6, x7, x8, x9⟩, rfl, trivial⟩
def Four.ty : Ty := .ar 4 (.i .u64)
theorem Four.of {cs : List V} (h : TyV Four.ty cs) : ∃ x : Four, cs = x.cells ∧ True := by
  have h0 := of_ar h
  obtain ⟨c0, k0, rfl, g0, h1⟩ := of_cons h0
  obtain ⟨x0, rfl, _, _⟩ := of_i g0
  obtain ⟨c1, k1, rfl, g1, h2⟩ := of_cons h1
  obtain ⟨x1, rfl, _, _⟩ := of_i g1
  obtain ⟨c2, k2, rfl, g2, h3⟩ := of_cons h2
  obtain ⟨x2, rfl, _, _⟩ := of_i g2
  obtain ⟨c3, k3, rfl, g3, h4⟩ := of_cons h3
  obtain ⟨x3, rfl, _, _⟩ := of_i g3
  obtain rfl := of_nil h4
  exact ⟨⟨x0, x1, x2, x3⟩, rfl, trivial⟩
def Shelf.ty : Ty := .st [.sl (Room.ty), .sl (Exit.ty), .sl (Item.ty), .sl (Mail.ty), .sl (Trade.ty), .sl (Four.ty), .sl (Ref.ty), Four.ty, Four.ty]
theorem Shelf.of {cs : List V} (h : TyV Shelf.ty cs) : ∃ x : Shelf, cs = x.cells ∧ x.wf := by
  have h0 := of_st h
  obtain ⟨c0, k0, rfl, g0, h1⟩ := of_cons h0
  obtain ⟨x0, rfl, l0, p0⟩ := of_sl (f := Room.cells) (fun _ => Room.of) g0
  obtain ⟨c1, k1, rfl, g1, h2⟩ := of_cons h1
  obtain ⟨x1, rfl, l1, p1⟩ := of_sl (f := Exit.cells) (fun _ => Exit.of) g1
  obtain ⟨c2, k2, rfl, g2, h3⟩ := of_cons h2
  obtain ⟨x2, rfl, l2, p2⟩ := of_sl (f := Item.cells) (fun _ => Item.of) g2
  obtain ⟨c3, k3, rfl, g3, h4⟩ := of_cons h3
  obtain ⟨x3, rfl, l3, p3⟩ := of_sl (f := Mail.cells) (fun _ => Mail.of) g3
  obtain ⟨c4, k4, rfl, g4, h5⟩ := of_cons h4
  obtain ⟨x4, rfl, l4, p4⟩ := of_sl (f := Trade.cells) (fun _ => Trade.of) g4
  obtain ⟨c5, k5, rfl, g5, h6⟩ := of_cons h5
  obtain ⟨x5, rfl, l5, p5⟩ := of_sl (f := Four.cells) (fun _ => Four.of) g5
  obtain ⟨c6, k6, rfl, g6, h7⟩ := of_cons h6
  obtain ⟨x6, rfl, l6, p6⟩ := of_sl (f := Ref.cells) (fun _ => Ref.of) g6
  obtain ⟨c7, k7, rfl, g7, h8⟩ := of_cons h7
  obtain ⟨x7, rfl, _⟩ := Four.of g7
  obtain ⟨c8, k8, rfl, g8, h9⟩ := of_cons h8
  obtain ⟨x8, rfl, _⟩ := Four.of g8
  obtain rfl := of_nil h9
  exact ⟨⟨x0, x1, x2, x3, x4, x5, x6, x7, x8⟩, rfl, ⟨l0, l1, l2, l3, l4, l5, l6⟩⟩
def State.ty : Ty := .st [.i .u64, .sl (Shelf.ty), .sl (.sl (.i .i64)), .sl (Order.ty), .sl (Entry.ty), .sl (.i .i64)]
theorem nth_all {α : Type} [Inhabited α] {P : α → Prop} {l : List α} (h : ∀ x ∈ l, P x) (hd : P default) (i : Int) : P (nth l i) := by
  rcases nth_or l i with ⟨k, hk, e⟩ | e
  · rw [e]; exact h _ (nth_mem (Int.natCast_nonneg _) (by omega))
  · rw [e]; exact hd
theorem State.of {cs : List V} (h : TyV State.ty cs) : ∃ x : State, cs = x.cells ∧ x.wf := by
  have h0 := of_st h
  obtain ⟨c0, k0, rfl, g0, h1⟩ := of_cons h0
  obtain ⟨x0, rfl, _, _⟩ := of_i g0
  obtain ⟨c1, k1, rfl, g1, h2⟩ := of_cons h1
  obtain ⟨x1, rfl, l1, p1⟩ := of_sl (f := Shelf.cells) (fun _ => Shelf.of) g1
  obtain ⟨c2, k2, rfl, g2, h3⟩ := of_cons h2
  obtain ⟨x2, rfl, l2, p2⟩ := of_sl (f := rcell) (fun _ => of_row) g2
  obtain ⟨c3, k3, rfl, g3, h4⟩ := of_cons h3
  obtain ⟨x3, rfl, l3, p3⟩ := of_sl (f := Order.cells) (fun _ => Order.of) g3
  obtain ⟨c4, k4, rfl, g4, h5⟩ := of_cons h4
  obtain ⟨x4, rfl, l4, p4⟩ := of_sl (f := Entry.cells) (fun _ => Entry.of) g4
  obtain ⟨c5, k5, rfl, g5, h6⟩ := of_cons h5
  obtain ⟨x5, rfl, l5, p5⟩ := of_sl (f := icell) (fun _ => of_int) g5
  obtain rfl := of_nil h6
  exact ⟨⟨x0, x1, x2, x3, x4, x5⟩, rfl, ⟨l1, fun i => nth_all p1 (by refine ⟨?_, ?_, ?_, ?_, ?_, ?_, ?_⟩ <;> decide) i, l2, fun i => nth_all p2 (by decide) i, l3, l4, l5⟩⟩
def Me.ty : Ty := .st [.i .i64, .i .i64, .i .i64]
theorem Me.of {cs : List V} (h : TyV Me.ty cs) : ∃ x : Me, cs = x.cells ∧ True := by
  have h0 := of_st h
  obtain ⟨c0, k0, rfl, g0, h1⟩ := of_cons h0
  obtain ⟨x0, rfl, _, _⟩ := of_i g0
  obtain ⟨c1, k1, rfl, g1, h2⟩ := of_cons h1
  obtain ⟨x1, rfl, _, _⟩ := of_i g1
  obtain ⟨c2, k2, rfl, g2, h3⟩ := of_cons h2
  obtain ⟨x2, rfl, _, _⟩ := of_i g2
  obtain rfl := of_nil h3
  exact ⟨⟨x0, x1, x2⟩, rfl, trivial⟩
def Deed.ty : Ty := .st [.i .i64, .i .i64, .i .i64, .s]
theorem Deed.of {cs : List V} (h : TyV Deed.ty cs) : ∃ x : Deed, cs = x.cells ∧ True := by
  have h0 := of_st h
  obtain ⟨c0, k0, rfl, g0, h1⟩ := of_cons h0
  obtain ⟨x0, rfl, _, _⟩ := of_i g0
  obtain ⟨c1, k1, rfl, g1, h2⟩ := of_cons h1
  obtain ⟨x1, rfl, _, _⟩ := of_i g1
  obtain ⟨c2, k2, rfl, g2, h3⟩ := of_cons h2
  obtain ⟨x2, rfl, _, _⟩ := of_i g2
  obtain ⟨c3, k3, rfl, g3, h4⟩ := of_cons h3
  obtain ⟨x3, rfl, _⟩ := of_s g3
  obtain rfl := of_nil h4
  exact ⟨⟨x0, x1, x2, x3⟩, rfl, trivial⟩
end Go.Rx.Api
