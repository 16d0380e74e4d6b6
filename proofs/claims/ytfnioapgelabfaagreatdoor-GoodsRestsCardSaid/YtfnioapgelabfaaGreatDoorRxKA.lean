/-
A part of the proof: lemmas on the machine that the printed functions run on, or contracts of functions.
-/
import Derived.Test.YtfnioapgelabfaaGreatDoorRxBun
set_option linter.unusedSimpArgs false
set_option linter.unusedVariables false
set_option maxRecDepth 20000
namespace Go.Rx.Api
open Go.Rx
open Nat renaming reduceEqDiff → zqa, reduceAdd → zqb, reduceMul → zqc, reduceLeDiff → zqd, reduceBEq → zqe, reduceBNe → zqf, reduceSub → zqg, reduceLT → zqh
open Int renaming reduceLE → zqi, reduceLT → zqj, reduceToNat → zqk, reduceNeg → zql, reduceEq → zqm, reduceBEq → zqn
def idxOf {α : Type} (l : List α) (p : α → Bool) : Int := match l.findIdx? p with | some i => i | none => -1
theorem idxOf_some {α : Type} [Inhabited α] {l : List α} {p : α → Bool} {i : Nat} (h : i < l.length) (hp : p (nth l i) = true) (hn : ∀ j : Nat, j < i → p (nth l j) = false) : idxOf l p = i := by
  have : l.findIdx? p = some i := by
    rw [List.findIdx?_eq_some_iff_getElem]
    have e : ∀ j (hj : j < l.length), l[j] = nth l j := fun j hj => by have := get_nth_nat hj; rw [List.getElem?_eq_getElem hj] at this; exact Option.some.inj this
    exact ⟨h, by rw [e]; exact hp, fun j hj => by rw [e, hn j hj]; simp⟩
  simp only [idxOf, this]
theorem idxOf_none {α : Type} [Inhabited α] {l : List α} {p : α → Bool} (hn : ∀ j : Nat, j < l.length → p (nth l j) = false) : idxOf l p = -1 := by
  have : l.findIdx? p = none := by
    rw [List.findIdx?_eq_none_iff]
    intro x hx
    obtain ⟨j, hj, e⟩ := List.getElem_of_mem hx
    have := get_nth_nat hj; rw [List.getElem?_eq_getElem hj, e] at this
    rw [Option.some.inj this]; exact hn j hj
  simp only [idxOf, this]
theorem idxOf_any {α : Type} {l : List α} {p : α → Bool} : decide (0 ≤ idxOf l p) = l.any p := by
  unfold idxOf
  cases h : l.findIdx? p with
  | none =>
    rw [List.findIdx?_eq_none_iff] at h
    have : l.any p = false := by rw [List.any_eq_false]; intro x hx; simp [h x hx]
    rw [this]; rfl
  | some i =>
    rw [List.findIdx?_eq_some_iff_getElem] at h
    obtain ⟨hi, hp, _⟩ := h
    have : l.any p = true := List.any_eq_true.2 ⟨_, List.getElem_mem hi, hp⟩
    rw [this]; simp
theorem all_succ {p : Nat → Prop} {i : Nat} (h : ∀ j : Nat, j < i → p j) (k : p i) : ∀ j : Nat, j < i + 1 → p j := fun j hj => by
  rcases Nat.lt_or_ge j i with h1 | h1
  · exact h j h1
  · rw [show j = i by omega]; exact k
theorem idx_Item_ok (l : List Item) (cpid : Nat) (fs : List V) (cs : List V) (p : Item → Bool) (hl : l.length < 9223372036854775808) (hf : ∀ n, allM (norm (n + 12)) fs = some fs) (hc : ∀ n, allM (norm (n + 12)) cs = some cs) (hp : ∀ x ∈ l, ∀ m, lim prog cpid (fs ++ [.agg x.cells] ++ cs) m = some (.bool (p x), m)) (m : Mem) : fin 202 [.sl .any ((l).map Item.cells), .fn cpid fs cs] m = some (.int .i64 (idxOf l p), m) := by
  refine fn_of slices_IndexFunc_Item_Item (by kernel_rfl) rfl rfl (by simp only [nx, hf, hc]) ?_ m; simp only [rx, reduceIte, zqa, zqb, zqc, zqd, zqe, zqf, zqg, zqh, zqi, zqj, zqk, zql, zqm, zqn, slices_IndexFunc_Item_Item, hf, hc]
  refine wpK_range l.length (fun i => [(0, .sl .any (l.map Item.cells)), (1, .fn cpid fs cs)]) (fun i => m0) (fun i => ∀ j : Nat, j < i → p (nth l j) = false) hl (by decide) (by simp only [rx, reduceIte, zqa, zqb, zqc, zqd, zqe, zqf, zqg, zqh, zqi, zqj, zqk, zql, zqm, zqn]) (by simp only [rx, reduceIte, zqa, zqb, zqc, zqd, zqe, zqf, zqg, zqh, zqi, zqj, zqk, zql, zqm, zqn]) (by simp only [rx, reduceIte, zqa, zqb, zqc, zqd, zqe, zqf, zqg, zqh, zqi, zqj, zqk, zql, zqm, zqn, holds_cons, holds_nil, and_true]) rfl (fun j hj => by omega) ?_ ?_
  · intro i hi hP T hS hn hk
    simp only [holds_cons, holds_nil, and_true] at hS
    have hx := hp (nth l i) (nth_mem (Int.natCast_nonneg _) (by omega))
    try simp only [celld] at hx
    simp only [rx, reduceIte, zqa, zqb, zqc, zqd, zqe, zqf, zqg, zqh, zqi, zqj, zqk, zql, zqm, zqn, *]
    refine condK_split (fun h => ?_) (fun h => ?_)
    · simp only [rx, reduceIte, zqa, zqb, zqc, zqd, zqe, zqf, zqg, zqh, zqi, zqj, zqk, zql, zqm, zqn, idxOf_some hi h hP]
    · simp only [rx, reduceIte, zqa, zqb, zqc, zqd, zqe, zqf, zqg, zqh, zqi, zqj, zqk, zql, zqm, zqn, holds_cons, holds_nil, *]
      exact all_succ hP h
  · intro hP T hS hn hk
    simp only [rx, reduceIte, zqa, zqb, zqc, zqd, zqe, zqf, zqg, zqh, zqi, zqj, zqk, zql, zqm, zqn, idxOf_none hP]
theorem any_Item_ok (l : List Item) (cpid : Nat) (fs : List V) (cs : List V) (p : Item → Bool) (hl : l.length < 9223372036854775808) (hf : ∀ n, allM (norm (n + 12)) fs = some fs) (hc : ∀ n, allM (norm (n + 12)) cs = some cs) (hp : ∀ x ∈ l, ∀ m, lim prog cpid (fs ++ [.agg x.cells] ++ cs) m = some (.bool (p x), m)) (m : Mem) : fin 126 [.sl .any ((l).map Item.cells), .fn cpid fs cs] m = some (.bool (l.any p), m) := by
  have hx : ∀ m, lim prog 202 [.sl .any (l.map Item.cells), .fn cpid fs cs] m = _ := fun m => idx_Item_ok l cpid fs cs p hl hf hc hp m
  refine fn_of slices_ContainsFunc_Item_Item (by kernel_rfl) rfl rfl (by simp only [nx, hf, hc, hx, idxOf_any]) ?_ m; simp only [rx, reduceIte, zqa, zqb, zqc, zqd, zqe, zqf, zqg, zqh, zqi, zqj, zqk, zql, zqm, zqn, slices_ContainsFunc_Item_Item, hf, hc, hx, idxOf_any]
theorem idx_Lab_ok (l : List Lab) (cpid : Nat) (fs : List V) (cs : List V) (p : Lab → Bool) (hl : l.length < 9223372036854775808) (hf : ∀ n, allM (norm (n + 12)) fs = some fs) (hc : ∀ n, allM (norm (n + 12)) cs = some cs) (hp : ∀ x ∈ l, ∀ m, lim prog cpid (fs ++ [.agg x.cells] ++ cs) m = some (.bool (p x), m)) (m : Mem) : fin 219 [.sl .any ((l).map Lab.cells), .fn cpid fs cs] m = some (.int .i64 (idxOf l p), m) := by
  refine fn_of slices_IndexFunc_Label_Label (by kernel_rfl) rfl rfl (by simp only [nx, hf, hc]) ?_ m; simp only [rx, reduceIte, zqa, zqb, zqc, zqd, zqe, zqf, zqg, zqh, zqi, zqj, zqk, zql, zqm, zqn, slices_IndexFunc_Label_Label, hf, hc]
  refine wpK_range l.length (fun i => [(0, .sl .any (l.map Lab.cells)), (1, .fn cpid fs cs)]) (fun i => m0) (fun i => ∀ j : Nat, j < i → p (nth l j) = false) hl (by decide) (by simp only [rx, reduceIte, zqa, zqb, zqc, zqd, zqe, zqf, zqg, zqh, zqi, zqj, zqk, zql, zqm, zqn]) (by simp only [rx, reduceIte, zqa, zqb, zqc, zqd, zqe, zqf, zqg, zqh, zqi, zqj, zqk, zql, zqm, zqn]) (by simp only [rx, reduceIte, zqa, zqb, zqc, zqd, zqe, zqf, zqg, zqh, zqi, zqj, zqk, zql, zqm, zqn, holds_cons, holds_nil, and_true]) rfl (fun j hj => by omega) ?_ ?_
  · intro i hi hP T hS hn hk
    simp only [holds_cons, holds_nil, and_true] at hS
    have hx := hp (nth l i) (nth_mem (Int.natCast_nonneg _) (by omega))
    try simp only [celld] at hx
    simp only [rx, reduceIte, zqa, zqb, zqc, zqd, zqe, zqf, zqg, zqh, zqi, zqj, zqk, zql, zqm, zqn, *]
    refine condK_split (fun h => ?_) (fun h => ?_)
    · simp only [rx, reduceIte, zqa, zqb, zqc, zqd, zqe, zqf, zqg, zqh, zqi, zqj, zqk, zql, zqm, zqn, idxOf_some hi h hP]
    · simp only [rx, reduceIte, zqa, zqb, zqc, zqd, zqe, zqf, zqg, zqh, zqi, zqj, zqk, zql, zqm, zqn, holds_cons, holds_nil, *]
      exact all_succ hP h
  · intro hP T hS hn hk
    simp only [rx, reduceIte, zqa, zqb, zqc, zqd, zqe, zqf, zqg, zqh, zqi, zqj, zqk, zql, zqm, zqn, idxOf_none hP]
theorem any_Lab_ok (l : List Lab) (cpid : Nat) (fs : List V) (cs : List V) (p : Lab → Bool) (hl : l.length < 9223372036854775808) (hf : ∀ n, allM (norm (n + 12)) fs = some fs) (hc : ∀ n, allM (norm (n + 12)) cs = some cs) (hp : ∀ x ∈ l, ∀ m, lim prog cpid (fs ++ [.agg x.cells] ++ cs) m = some (.bool (p x), m)) (m : Mem) : fin 173 [.sl .any ((l).map Lab.cells), .fn cpid fs cs] m = some (.bool (l.any p), m) := by
  have hx : ∀ m, lim prog 219 [.sl .any (l.map Lab.cells), .fn cpid fs cs] m = _ := fun m => idx_Lab_ok l cpid fs cs p hl hf hc hp m
  refine fn_of slices_ContainsFunc_Label_Label (by kernel_rfl) rfl rfl (by simp only [nx, hf, hc, hx, idxOf_any]) ?_ m; simp only [rx, reduceIte, zqa, zqb, zqc, zqd, zqe, zqf, zqg, zqh, zqi, zqj, zqk, zql, zqm, zqn, slices_ContainsFunc_Label_Label, hf, hc, hx, idxOf_any]
theorem idx_Account_ok (l : List Account) (cpid : Nat) (fs : List V) (cs : List V) (p : Account → Bool) (hl : l.length < 9223372036854775808) (hf : ∀ n, allM (norm (n + 12)) fs = some fs) (hc : ∀ n, allM (norm (n + 12)) cs = some cs) (hp : ∀ x ∈ l, ∀ m, lim prog cpid (fs ++ [.agg x.cells] ++ cs) m = some (.bool (p x), m)) (m : Mem) : fin 220 [.sl .any ((l).map Account.cells), .fn cpid fs cs] m = some (.int .i64 (idxOf l p), m) := by
  refine fn_of slices_IndexFunc_Account_Account (by kernel_rfl) rfl rfl (by simp only [nx, hf, hc]) ?_ m; simp only [rx, reduceIte, zqa, zqb, zqc, zqd, zqe, zqf, zqg, zqh, zqi, zqj, zqk, zql, zqm, zqn, slices_IndexFunc_Account_Account, hf, hc]
  refine wpK_range l.length (fun i => [(0, .sl .any (l.map Account.cells)), (1, .fn cpid fs cs)]) (fun i => m0) (fun i => ∀ j : Nat, j < i → p (nth l j) = false) hl (by decide) (by simp only [rx, reduceIte, zqa, zqb, zqc, zqd, zqe, zqf, zqg, zqh, zqi, zqj, zqk, zql, zqm, zqn]) (by simp only [rx, reduceIte, zqa, zqb, zqc, zqd, zqe, zqf, zqg, zqh, zqi, zqj, zqk, zql, zqm, zqn]) (by simp only [rx, reduceIte, zqa, zqb, zqc, zqd, zqe, zqf, zqg, zqh, zqi, zqj, zqk, zql, zqm, zqn, holds_cons, holds_nil, and_true]) rfl (fun j hj => by omega) ?_ ?_
  · intro i hi hP T hS hn hk
    simp only [holds_cons, holds_nil, and_true] at hS
    have hx := hp (nth l i) (nth_mem (Int.natCast_nonneg _) (by omega))
    try simp only [celld] at hx
    simp only [rx, reduceIte, zqa, zqb, zqc, zqd, zqe, zqf, zqg, zqh, zqi, zqj, zqk, zql, zqm, zqn, *]
    refine condK_split (fun h => ?_) (fun h => ?_)
    · simp only [rx, reduceIte, zqa, zqb, zqc, zqd, zqe, zqf, zqg, zqh, zqi, zqj, zqk, zql, zqm, zqn, idxOf_some hi h hP]
    · simp only [rx, reduceIte, zqa, zqb, zqc, zqd, zqe, zqf, zqg, zqh, zqi, zqj, zqk, zql, zqm, zqn, holds_cons, holds_nil, *]
      exact all_succ hP h
  · intro hP T hS hn hk
    simp only [rx, reduceIte, zqa, zqb, zqc, zqd, zqe, zqf, zqg, zqh, zqi, zqj, zqk, zql, zqm, zqn, idxOf_none hP]
theorem any_Account_ok (l : List Account) (cpid : Nat) (fs : List V) (cs : List V) (p : Account → Bool) (hl : l.length < 9223372036854775808) (hf : ∀ n, allM (norm (n + 12)) fs = some fs) (hc : ∀ n, allM (norm (n + 12)) cs = some cs) (hp : ∀ x ∈ l, ∀ m, lim prog cpid (fs ++ [.agg x.cells] ++ cs) m = some (.bool (p x), m)) (m : Mem) : fin 177 [.sl .any ((l).map Account.cells), .fn cpid fs cs] m = some (.bool (l.any p), m) := by
  have hx : ∀ m, lim prog 220 [.sl .any (l.map Account.cells), .fn cpid fs cs] m = _ := fun m => idx_Account_ok l cpid fs cs p hl hf hc hp m
  refine fn_of slices_ContainsFunc_Account_Account (by kernel_rfl) rfl rfl (by simp only [nx, hf, hc, hx, idxOf_any]) ?_ m; simp only [rx, reduceIte, zqa, zqb, zqc, zqd, zqe, zqf, zqg, zqh, zqi, zqj, zqk, zql, zqm, zqn, slices_ContainsFunc_Account_Account, hf, hc, hx, idxOf_any]
theorem idx_Shelf_ok (l : List Shelf) (cpid : Nat) (fs : List V) (cs : List V) (p : Shelf → Bool) (hl : l.length < 9223372036854775808) (hf : ∀ n, allM (norm (n + 12)) fs = some fs) (hc : ∀ n, allM (norm (n + 12)) cs = some cs) (hp : ∀ x ∈ l, ∀ m, lim prog cpid (fs ++ [.agg x.cells] ++ cs) m = some (.bool (p x), m)) (m : Mem) : fin 184 [.sl .any ((l).map Shelf.cells), .fn cpid fs cs] m = some (.int .i64 (idxOf l p), m) := by
  refine fn_of slices_IndexFunc_Shelf_Shelf (by kernel_rfl) rfl rfl (by simp only [nx, hf, hc]) ?_ m; simp only [rx, reduceIte, zqa, zqb, zqc, zqd, zqe, zqf, zqg, zqh, zqi, zqj, zqk, zql, zqm, zqn, slices_IndexFunc_Shelf_Shelf, hf, hc]
  refine wpK_range l.length (fun i => [(0, .sl .any (l.map Shelf.cells)), (1, .fn cpid fs cs)]) (fun i => m0) (fun i => ∀ j : Nat, j < i → p (nth l j) = false) hl (by decide) (by simp only [rx, reduceIte, zqa, zqb, zqc, zqd, zqe, zqf, zqg, zqh, zqi, zqj, zqk, zql, zqm, zqn]) (by simp only [rx, reduceIte, zqa, zqb, zqc, zqd, zqe, zqf, zqg, zqh, zqi, zqj, zqk, zql, zqm, zqn]) (by simp only [rx, reduceIte, zqa, zqb, zqc, zqd, zqe, zqf, zqg, zqh, zqi, zqj, zqk, zql, zqm, zqn, holds_cons, holds_nil, and_true]) rfl (fun j hj => by omega) ?_ ?_
  · intro i hi hP T hS hn hk
    simp only [holds_cons, holds_nil, and_true] at hS
    have hx := hp (nth l i) (nth_mem (Int.natCast_nonneg _) (by omega))
    try simp only [celld] at hx
    simp only [rx, reduceIte, zqa, zqb, zqc, zqd, zqe, zqf, zqg, zqh, zqi, zqj, zqk, zql, zqm, zqn, *]
    refine condK_split (fun h => ?_) (fun h => ?_)
    · simp only [rx, reduceIte, zqa, zqb, zqc, zqd, zqe, zqf, zqg, zqh, zqi, zqj, zqk, zql, zqm, zqn, idxOf_some hi h hP]
    · simp only [rx, reduceIte, zqa, zqb, zqc, zqd, zqe, zqf, zqg, zqh, zqi, zqj, zqk, zql, zqm, zqn, holds_cons, holds_nil, *]
      exact all_succ hP h
  · intro hP T hS hn hk
    simp only [rx, reduceIte, zqa, zqb, zqc, zqd, zqe, zqf, zqg, zqh, zqi, zqj, zqk, zql, zqm, zqn, idxOf_none hP]
theorem any_Shelf_ok (l : List Shelf) (cpid : Nat) (fs : List V) (cs : List V) (p : Shelf → Bool) (hl : l.length < 9223372036854775808) (hf : ∀ n, allM (norm (n + 12)) fs = some fs) (hc : ∀ n, allM (norm (n + 12)) cs = some cs) (hp : ∀ x ∈ l, ∀ m, lim prog cpid (fs ++ [.agg x.cells] ++ cs) m = some (.bool (p x), m)) (m : Mem) : fin 104 [.sl .any ((l).map Shelf.cells), .fn cpid fs cs] m = some (.bool (l.any p), m) := by
  have hx : ∀ m, lim prog 184 [.sl .any (l.map Shelf.cells), .fn cpid fs cs] m = _ := fun m => idx_Shelf_ok l cpid fs cs p hl hf hc hp m
  refine fn_of slices_ContainsFunc_Shelf_Shelf (by kernel_rfl) rfl rfl (by simp only [nx, hf, hc, hx, idxOf_any]) ?_ m; simp only [rx, reduceIte, zqa, zqb, zqc, zqd, zqe, zqf, zqg, zqh, zqi, zqj, zqk, zql, zqm, zqn, slices_ContainsFunc_Shelf_Shelf, hf, hc, hx, idxOf_any]
theorem idx_Room_ok (l : List Room) (cpid : Nat) (fs : List V) (cs : List V) (p : Room → Bool) (hl : l.length < 9223372036854775808) (hf : ∀ n, allM (norm (n + 12)) fs = some fs) (hc : ∀ n, allM (norm (n + 12)) cs = some cs) (hp : ∀ x ∈ l, ∀ m, lim prog cpid (fs ++ [.agg x.cells] ++ cs) m = some (.bool (p x), m)) (m : Mem) : fin 222 [.sl .any ((l).map Room.cells), .fn cpid fs cs] m = some (.int .i64 (idxOf l p), m) := by
  refine fn_of slices_IndexFunc_Room_Room (by kernel_rfl) rfl rfl (by simp only [nx, hf, hc]) ?_ m; simp only [rx, reduceIte, zqa, zqb, zqc, zqd, zqe, zqf, zqg, zqh, zqi, zqj, zqk, zql, zqm, zqn, slices_IndexFunc_Room_Room, hf, hc]
  refine wpK_range l.length (fun i => [(0, .sl .any (l.map Room.cells)), (1, .fn cpid fs cs)]) (fun i => m0) (fun i => ∀ j : Nat, j < i → p (nth l j) = false) hl (by decide) (by simp only [rx, reduceIte, zqa, zqb, zqc, zqd, zqe, zqf, zqg, zqh, zqi, zqj, zqk, zql, zqm, zqn]) (by simp only [rx, reduceIte, zqa, zqb, zqc, zqd, zqe, zqf, zqg, zqh, zqi, zqj, zqk, zql, zqm, zqn]) (by simp only [rx, reduceIte, zqa, zqb, zqc, zqd, zqe, zqf, zqg, zqh, zqi, zqj, zqk, zql, zqm, zqn, holds_cons, holds_nil, and_true]) rfl (fun j hj => by omega) ?_ ?_
  · intro i hi hP T hS hn hk
    simp only [holds_cons, holds_nil, and_true] at hS
    have hx := hp (nth l i) (nth_mem (Int.natCast_nonneg _) (by omega))
    try simp only [celld] at hx
    simp only [rx, reduceIte, zqa, zqb, zqc, zqd, zqe, zqf, zqg, zqh, zqi, zqj, zqk, zql, zqm, zqn, *]
    refine condK_split (fun h => ?_) (fun h => ?_)
    · simp only [rx, reduceIte, zqa, zqb, zqc, zqd, zqe, zqf, zqg, zqh, zqi, zqj, zqk, zql, zqm, zqn, idxOf_some hi h hP]
    · simp only [rx, reduceIte, zqa, zqb, zqc, zqd, zqe, zqf, zqg, zqh, zqi, zqj, zqk, zql, zqm, zqn, holds_cons, holds_nil, *]
      exact all_succ hP h
  · intro hP T hS hn hk
    simp only [rx, reduceIte, zqa, zqb, zqc, zqd, zqe, zqf, zqg, zqh, zqi, zqj, zqk, zql, zqm, zqn, idxOf_none hP]
theorem any_Room_ok (l : List Room) (cpid : Nat) (fs : List V) (cs : List V) (p : Room → Bool) (hl : l.length < 9223372036854775808) (hf : ∀ n, allM (norm (n + 12)) fs = some fs) (hc : ∀ n, allM (norm (n + 12)) cs = some cs) (hp : ∀ x ∈ l, ∀ m, lim prog cpid (fs ++ [.agg x.cells] ++ cs) m = some (.bool (p x), m)) (m : Mem) : fin 185 [.sl .any ((l).map Room.cells), .fn cpid fs cs] m = some (.bool (l.any p), m) := by
  have hx : ∀ m, lim prog 222 [.sl .any (l.map Room.cells), .fn cpid fs cs] m = _ := fun m => idx_Room_ok l cpid fs cs p hl hf hc hp m
  refine fn_of slices_ContainsFunc_Room_Room (by kernel_rfl) rfl rfl (by simp only [nx, hf, hc, hx, idxOf_any]) ?_ m; simp only [rx, reduceIte, zqa, zqb, zqc, zqd, zqe, zqf, zqg, zqh, zqi, zqj, zqk, zql, zqm, zqn, slices_ContainsFunc_Room_Room, hf, hc, hx, idxOf_any]
theorem idx_Exit_ok (l : List Exit) (cpid : Nat) (fs : List V) (cs : List V) (p : Exit → Bool) (hl : l.length < 9223372036854775808) (hf : ∀ n, allM (norm (n + 12)) fs = some fs) (hc : ∀ n, allM (norm (n + 12)) cs = some cs) (hp : ∀ x ∈ l, ∀ m, lim prog cpid (fs ++ [.agg x.cells] ++ cs) m = some (.bool (p x), m)) (m : Mem) : fin 201 [.sl .any ((l).map Exit.cells), .fn cpid fs cs] m = some (.int .i64 (idxOf l p), m) := by
  refine fn_of slices_IndexFunc_Exit_Exit (by kernel_rfl) rfl rfl (by simp only [nx, hf, hc]) ?_ m; simp only [rx, reduceIte, zqa, zqb, zqc, zqd, zqe, zqf, zqg, zqh, zqi, zqj, zqk, zql, zqm, zqn, slices_IndexFunc_Exit_Exit, hf, hc]
  refine wpK_range l.length (fun i => [(0, .sl .any (l.map Exit.cells)), (1, .fn cpid fs cs)]) (fun i => m0) (fun i => ∀ j : Nat, j < i → p (nth l j) = false) hl (by decide) (by simp only [rx, reduceIte, zqa, zqb, zqc, zqd, zqe, zqf, zqg, zqh, zqi, zqj, zqk, zql, zqm, zqn]) (by simp only [rx, reduceIte, zqa, zqb, zqc, zqd, zqe, zqf, zqg, zqh, zqi, zqj, zqk, zql, zqm, zqn]) (by simp only [rx, reduceIte, zqa, zqb, zqc, zqd, zqe, zqf, zqg, zqh, zqi, zqj, zqk, zql, zqm, zqn, holds_cons, holds_nil, and_true]) rfl (fun j hj => by omega) ?_ ?_
  · intro i hi hP T hS hn hk
    simp only [holds_cons, holds_nil, and_true] at hS
    have hx := hp (nth l i) (nth_mem (Int.natCast_nonneg _) (by omega))
    try simp only [celld] at hx
    simp only [rx, reduceIte, zqa, zqb, zqc, zqd, zqe, zqf, zqg, zqh, zqi, zqj, zqk, zql, zqm, zqn, *]
    refine condK_split (fun h => ?_) (fun h => ?_)
    · simp only [rx, reduceIte, zqa, zqb, zqc, zqd, zqe, zqf, zqg, zqh, zqi, zqj, zqk, zql, zqm, zqn, idxOf_some hi h hP]
    · simp only [rx, reduceIte, zqa, zqb, zqc, zqd, zqe, zqf, zqg, zqh, zqi, zqj, zqk, zql, zqm, zqn, holds_cons, holds_nil, *]
      exact all_succ hP h
  · intro hP T hS hn hk
    simp only [rx, reduceIte, zqa, zqb, zqc, zqd, zqe, zqf, zqg, zqh, zqi, zqj, zqk, zql, zqm, zqn, idxOf_none hP]
theorem any_Exit_ok (l : List Exit) (cpid : Nat) (fs : List V) (cs : List V) (p : Exit → Bool) (hl : l.length < 9223372036854775808) (hf : ∀ n, allM (norm (n + 12)) fs = some fs) (hc : ∀ n, allM (norm (n + 12)) cs = some cs) (hp : ∀ x ∈ l, ∀ m, lim prog cpid (fs ++ [.agg x.cells] ++ cs) m = some (.bool (p x), m)) (m : Mem) : fin 124 [.sl .any ((l).map Exit.cells), .fn cpid fs cs] m = some (.bool (l.any p), m) := by
  have hx : ∀ m, lim prog 201 [.sl .any (l.map Exit.cells), .fn cpid fs cs] m = _ := fun m => idx_Exit_ok l cpid fs cs p hl hf hc hp m
  refine fn_of slices_ContainsFunc_Exit_Exit (by kernel_rfl) rfl rfl (by simp only [nx, hf, hc, hx, idxOf_any]) ?_ m; simp only [rx, reduceIte, zqa, zqb, zqc, zqd, zqe, zqf, zqg, zqh, zqi, zqj, zqk, zql, zqm, zqn, slices_ContainsFunc_Exit_Exit, hf, hc, hx, idxOf_any]
theorem idx_Mail_ok (l : List Mail) (cpid : Nat) (fs : List V) (cs : List V) (p : Mail → Bool) (hl : l.length < 9223372036854775808) (hf : ∀ n, allM (norm (n + 12)) fs = some fs) (hc : ∀ n, allM (norm (n + 12)) cs = some cs) (hp : ∀ x ∈ l, ∀ m, lim prog cpid (fs ++ [.agg x.cells] ++ cs) m = some (.bool (p x), m)) (m : Mem) : fin 204 [.sl .any ((l).map Mail.cells), .fn cpid fs cs] m = some (.int .i64 (idxOf l p), m) := by
  refine fn_of slices_IndexFunc_Mail_Mail (by kernel_rfl) rfl rfl (by simp only [nx, hf, hc]) ?_ m; simp only [rx, reduceIte, zqa, zqb, zqc, zqd, zqe, zqf, zqg, zqh, zqi, zqj, zqk, zql, zqm, zqn, slices_IndexFunc_Mail_Mail, hf, hc]
  refine wpK_range l.length (fun i => [(0, .sl .any (l.map Mail.cells)), (1, .fn cpid fs cs)]) (fun i => m0) (fun i => ∀ j : Nat, j < i → p (nth l j) = false) hl (by decide) (by simp only [rx, reduceIte, zqa, zqb, zqc, zqd, zqe, zqf, zqg, zqh, zqi, zqj, zqk, zql, zqm, zqn]) (by simp only [rx, reduceIte, zqa, zqb, zqc, zqd, zqe, zqf, zqg, zqh, zqi, zqj, zqk, zql, zqm, zqn]) (by simp only [rx, reduceIte, zqa, zqb, zqc, zqd, zqe, zqf, zqg, zqh, zqi, zqj, zqk, zql, zqm, zqn, holds_cons, holds_nil, and_true]) rfl (fun j hj => by omega) ?_ ?_
  · intro i hi hP T hS hn hk
    simp only [holds_cons, holds_nil, and_true] at hS
    have hx := hp (nth l i) (nth_mem (Int.natCast_nonneg _) (by omega))
    try simp only [celld] at hx
    simp only [rx, reduceIte, zqa, zqb, zqc, zqd, zqe, zqf, zqg, zqh, zqi, zqj, zqk, zql, zqm, zqn, *]
    refine condK_split (fun h => ?_) (fun h => ?_)
    · simp only [rx, reduceIte, zqa, zqb, zqc, zqd, zqe, zqf, zqg, zqh, zqi, zqj, zqk, zql, zqm, zqn, idxOf_some hi h hP]
    · simp only [rx, reduceIte, zqa, zqb, zqc, zqd, zqe, zqf, zqg, zqh, zqi, zqj, zqk, zql, zqm, zqn, holds_cons, holds_nil, *]
      exact all_succ hP h
  · intro hP T hS hn hk
    simp only [rx, reduceIte, zqa, zqb, zqc, zqd, zqe, zqf, zqg, zqh, zqi, zqj, zqk, zql, zqm, zqn, idxOf_none hP]
theorem any_Mail_ok (l : List Mail) (cpid : Nat) (fs : List V) (cs : List V) (p : Mail → Bool) (hl : l.length < 9223372036854775808) (hf : ∀ n, allM (norm (n + 12)) fs = some fs) (hc : ∀ n, allM (norm (n + 12)) cs = some cs) (hp : ∀ x ∈ l, ∀ m, lim prog cpid (fs ++ [.agg x.cells] ++ cs) m = some (.bool (p x), m)) (m : Mem) : fin 131 [.sl .any ((l).map Mail.cells), .fn cpid fs cs] m = some (.bool (l.any p), m) := by
  have hx : ∀ m, lim prog 204 [.sl .any (l.map Mail.cells), .fn cpid fs cs] m = _ := fun m => idx_Mail_ok l cpid fs cs p hl hf hc hp m
  refine fn_of slices_ContainsFunc_Mail_Mail (by kernel_rfl) rfl rfl (by simp only [nx, hf, hc, hx, idxOf_any]) ?_ m; simp only [rx, reduceIte, zqa, zqb, zqc, zqd, zqe, zqf, zqg, zqh, zqi, zqj, zqk, zql, zqm, zqn, slices_ContainsFunc_Mail_Mail, hf, hc, hx, idxOf_any]
theorem idx_Trade_ok (l : List Trade) (cpid : Nat) (fs : List V) (cs : List V) (p : Trade → Bool) (hl : l.length < 9223372036854775808) (hf : ∀ n, allM (norm (n + 12)) fs = some fs) (hc : ∀ n, allM (norm (n + 12)) cs = some cs) (hp : ∀ x ∈ l, ∀ m, lim prog cpid (fs ++ [.agg x.cells] ++ cs) m = some (.bool (p x), m)) (m : Mem) : fin 205 [.sl .any ((l).map Trade.cells), .fn cpid fs cs] m = some (.int .i64 (idxOf l p), m) := by
  refine fn_of slices_IndexFunc_Trade_Trade (by kernel_rfl) rfl rfl (by simp only [nx, hf, hc]) ?_ m; simp only [rx, reduceIte, zqa, zqb, zqc, zqd, zqe, zqf, zqg, zqh, zqi, zqj, zqk, zql, zqm, zqn, slices_IndexFunc_Trade_Trade, hf, hc]
  refine wpK_range l.length (fun i => [(0, .sl .any (l.map Trade.cells)), (1, .fn cpid fs cs)]) (fun i => m0) (fun i => ∀ j : Nat, j < i → p (nth l j) = false) hl (by decide) (by simp only [rx, reduceIte, zqa, zqb, zqc, zqd, zqe, zqf, zqg, zqh, zqi, zqj, zqk, zql, zqm, zqn]) (by simp only [rx, reduceIte, zqa, zqb, zqc, zqd, zqe, zqf, zqg, zqh, zqi, zqj, zqk, zql, zqm, zqn]) (by simp only [rx, reduceIte, zqa, zqb, zqc, zqd, zqe, zqf, zqg, zqh, zqi, zqj, zqk, zql, zqm, zqn, holds_cons, holds_nil, and_true]) rfl (fun j hj => by omega) ?_ ?_
  · intro i hi hP T hS hn hk
    simp only [holds_cons, holds_nil, and_true] at hS
    have hx := hp (nth l i) (nth_mem (Int.natCast_nonneg _) (by omega))
    try simp only [celld] at hx
    simp only [rx, reduceIte, zqa, zqb, zqc, zqd, zqe, zqf, zqg, zqh, zqi, zqj, zqk, zql, zqm, zqn, *]
    refine condK_split (fun h => ?_) (fun h => ?_)
    · simp only [rx, reduceIte, zqa, zqb, zqc, zqd, zqe, zqf, zqg, zqh, zqi, zqj, zqk, zql, zqm, zqn, idxOf_some hi h hP]
    · simp only [rx, reduceIte, zqa, zqb, zqc, zqd, zqe, zqf, zqg, zqh, zqi, zqj, zqk, zql, zqm, zqn, holds_cons, holds_nil, *]
      exact all_succ hP h
  · intro hP T hS hn hk
    simp only [rx, reduceIte, zqa, zqb, zqc, zqd, zqe, zqf, zqg, zqh, zqi, zqj, zqk, zql, zqm, zqn, idxOf_none hP]
theorem any_Trade_ok (l : List Trade) (cpid : Nat) (fs : List V) (cs : List V) (p : Trade → Bool) (hl : l.length < 9223372036854775808) (hf : ∀ n, allM (norm (n + 12)) fs = some fs) (hc : ∀ n, allM (norm (n + 12)) cs = some cs) (hp : ∀ x ∈ l, ∀ m, lim prog cpid (fs ++ [.agg x.cells] ++ cs) m = some (.bool (p x), m)) (m : Mem) : fin 133 [.sl .any ((l).map Trade.cells), .fn cpid fs cs] m = some (.bool (l.any p), m) := by
  have hx : ∀ m, lim prog 205 [.sl .any (l.map Trade.cells), .fn cpid fs cs] m = _ := fun m => idx_Trade_ok l cpid fs cs p hl hf hc hp m
  refine fn_of slices_ContainsFunc_Trade_Trade (by kernel_rfl) rfl rfl (by simp only [nx, hf, hc, hx, idxOf_any]) ?_ m; simp only [rx, reduceIte, zqa, zqb, zqc, zqd, zqe, zqf, zqg, zqh, zqi, zqj, zqk, zql, zqm, zqn, slices_ContainsFunc_Trade_Trade, hf, hc, hx, idxOf_any]
theorem idx_Order_ok (l : List Order) (cpid : Nat) (fs : List V) (cs : List V) (p : Order → Bool) (hl : l.length < 9223372036854775808) (hf : ∀ n, allM (norm (n + 12)) fs = some fs) (hc : ∀ n, allM (norm (n + 12)) cs = some cs) (hp : ∀ x ∈ l, ∀ m, lim prog cpid (fs ++ [.agg x.cells] ++ cs) m = some (.bool (p x), m)) (m : Mem) : fin 199 [.sl .any ((l).map Order.cells), .fn cpid fs cs] m = some (.int .i64 (idxOf l p), m) := by
  refine fn_of slices_IndexFunc_Order_Order (by kernel_rfl) rfl rfl (by simp only [nx, hf, hc]) ?_ m; simp only [rx, reduceIte, zqa, zqb, zqc, zqd, zqe, zqf, zqg, zqh, zqi, zqj, zqk, zql, zqm, zqn, slices_IndexFunc_Order_Order, hf, hc]
  refine wpK_range l.length (fun i => [(0, .sl .any (l.map Order.cells)), (1, .fn cpid fs cs)]) (fun i => m0) (fun i => ∀ j : Nat, j < i → p (nth l j) = false) hl (by decide) (by simp only [rx, reduceIte, zqa, zqb, zqc, zqd, zqe, zqf, zqg, zqh, zqi, zqj, zqk, zql, zqm, zqn]) (by simp only [rx, reduceIte, zqa, zqb, zqc, zqd, zqe, zqf, zqg, zqh, zqi, zqj, zqk, zql, zqm, zqn]) (by simp only [rx, reduceIte, zqa, zqb, zqc, zqd, zqe, zqf, zqg, zqh, zqi, zqj, zqk, zql, zqm, zqn, holds_cons, holds_nil, and_true]) rfl (fun j hj => by omega) ?_ ?_
  · intro i hi hP T hS hn hk
    simp only [holds_cons, holds_nil, and_true] at hS
    have hx := hp (nth l i) (nth_mem (Int.natCast_nonneg _) (by omega))
    try simp only [celld] at hx
    simp only [rx, reduceIte, zqa, zqb, zqc, zqd, zqe, zqf, zqg, zqh, zqi, zqj, zqk, zql, zqm, zqn, *]
    refine condK_split (fun h => ?_) (fun h => ?_)
    · simp only [rx, reduceIte, zqa, zqb, zqc, zqd, zqe, zqf, zqg, zqh, zqi, zqj, zqk, zql, zqm, zqn, idxOf_some hi h hP]
    · simp only [rx, reduceIte, zqa, zqb, zqc, zqd, zqe, zqf, zqg, zqh, zqi, zqj, zqk, zql, zqm, zqn, holds_cons, holds_nil, *]
      exact all_succ hP h
  · intro hP T hS hn hk
    simp only [rx, reduceIte, zqa, zqb, zqc, zqd, zqe, zqf, zqg, zqh, zqi, zqj, zqk, zql, zqm, zqn, idxOf_none hP]
theorem any_Order_ok (l : List Order) (cpid : Nat) (fs : List V) (cs : List V) (p : Order → Bool) (hl : l.length < 9223372036854775808) (hf : ∀ n, allM (norm (n + 12)) fs = some fs) (hc : ∀ n, allM (norm (n + 12)) cs = some cs) (hp : ∀ x ∈ l, ∀ m, lim prog cpid (fs ++ [.agg x.cells] ++ cs) m = some (.bool (p x), m)) (m : Mem) : fin 118 [.sl .any ((l).map Order.cells), .fn cpid fs cs] m = some (.bool (l.any p), m) := by
  have hx : ∀ m, lim prog 199 [.sl .any (l.map Order.cells), .fn cpid fs cs] m = _ := fun m => idx_Order_ok l cpid fs cs p hl hf hc hp m
  refine fn_of slices_ContainsFunc_Order_Order (by kernel_rfl) rfl rfl (by simp only [nx, hf, hc, hx, idxOf_any]) ?_ m; simp only [rx, reduceIte, zqa, zqb, zqc, zqd, zqe, zqf, zqg, zqh, zqi, zqj, zqk, zql, zqm, zqn, slices_ContainsFunc_Order_Order, hf, hc, hx, idxOf_any]
theorem idx_Entry_ok (l : List Entry) (cpid : Nat) (fs : List V) (cs : List V) (p : Entry → Bool) (hl : l.length < 9223372036854775808) (hf : ∀ n, allM (norm (n + 12)) fs = some fs) (hc : ∀ n, allM (norm (n + 12)) cs = some cs) (hp : ∀ x ∈ l, ∀ m, lim prog cpid (fs ++ [.agg x.cells] ++ cs) m = some (.bool (p x), m)) (m : Mem) : fin 200 [.sl .any ((l).map Entry.cells), .fn cpid fs cs] m = some (.int .i64 (idxOf l p), m) := by
  refine fn_of slices_IndexFunc_Entry_Entry (by kernel_rfl) rfl rfl (by simp only [nx, hf, hc]) ?_ m; simp only [rx, reduceIte, zqa, zqb, zqc, zqd, zqe, zqf, zqg, zqh, zqi, zqj, zqk, zql, zqm, zqn, slices_IndexFunc_Entry_Entry, hf, hc]
  refine wpK_range l.length (fun i => [(0, .sl .any (l.map Entry.cells)), (1, .fn cpid fs cs)]) (fun i => m0) (fun i => ∀ j : Nat, j < i → p (nth l j) = false) hl (by decide) (by simp only [rx, reduceIte, zqa, zqb, zqc, zqd, zqe, zqf, zqg, zqh, zqi, zqj, zqk, zql, zqm, zqn]) (by simp only [rx, reduceIte, zqa, zqb, zqc, zqd, zqe, zqf, zqg, zqh, zqi, zqj, zqk, zql, zqm, zqn]) (by simp only [rx, reduceIte, zqa, zqb, zqc, zqd, zqe, zqf, zqg, zqh, zqi, zqj, zqk, zql, zqm, zqn, holds_cons, holds_nil, and_true]) rfl (fun j hj => by omega) ?_ ?_
  · intro i hi hP T hS hn hk
    simp only [holds_cons, holds_nil, and_true] at hS
    have hx := hp (nth l i) (nth_mem (Int.natCast_nonneg _) (by omega))
    try simp only [celld] at hx
    simp only [rx, reduceIte, zqa, zqb, zqc, zqd, zqe, zqf, zqg, zqh, zqi, zqj, zqk, zql, zqm, zqn, *]
    refine condK_split (fun h => ?_) (fun h => ?_)
    · simp only [rx, reduceIte, zqa, zqb, zqc, zqd, zqe, zqf, zqg, zqh, zqi, zqj, zqk, zql, zqm, zqn, idxOf_some hi h hP]
    · simp only [rx, reduceIte, zqa, zqb, zqc, zqd, zqe, zqf, zqg, zqh, zqi, zqj, zqk, zql, zqm, zqn, holds_cons, holds_nil, *]
      exact all_succ hP h
  · intro hP T hS hn hk
    simp only [rx, reduceIte, zqa, zqb, zqc, zqd, zqe, zqf, zqg, zqh, zqi, zqj, zqk, zql, zqm, zqn, idxOf_none hP]
theorem any_Entry_ok (l : List Entry) (cpid : Nat) (fs : List V) (cs : List V) (p : Entry → Bool) (hl : l.length < 9223372036854775808) (hf : ∀ n, allM (norm (n + 12)) fs = some fs) (hc : ∀ n, allM (norm (n + 12)) cs = some cs) (hp : ∀ x ∈ l, ∀ m, lim prog cpid (fs ++ [.agg x.cells] ++ cs) m = some (.bool (p x), m)) (m : Mem) : fin 120 [.sl .any ((l).map Entry.cells), .fn cpid fs cs] m = some (.bool (l.any p), m) := by
  have hx : ∀ m, lim prog 200 [.sl .any (l.map Entry.cells), .fn cpid fs cs] m = _ := fun m => idx_Entry_ok l cpid fs cs p hl hf hc hp m
  refine fn_of slices_ContainsFunc_Entry_Entry (by kernel_rfl) rfl rfl (by simp only [nx, hf, hc, hx, idxOf_any]) ?_ m; simp only [rx, reduceIte, zqa, zqb, zqc, zqd, zqe, zqf, zqg, zqh, zqi, zqj, zqk, zql, zqm, zqn, slices_ContainsFunc_Entry_Entry, hf, hc, hx, idxOf_any]
theorem idx_Ref_ok (l : List Ref) (cpid : Nat) (fs : List V) (cs : List V) (p : Ref → Bool) (hl : l.length < 9223372036854775808) (hf : ∀ n, allM (norm (n + 12)) fs = some fs) (hc : ∀ n, allM (norm (n + 12)) cs = some cs) (hp : ∀ x ∈ l, ∀ m, lim prog cpid (fs ++ [.agg x.cells] ++ cs) m = some (.bool (p x), m)) (m : Mem) : fin 203 [.sl .any ((l).map Ref.cells), .fn cpid fs cs] m = some (.int .i64 (idxOf l p), m) := by
  refine fn_of slices_IndexFunc_Ref_Ref (by kernel_rfl) rfl rfl (by simp only [nx, hf, hc]) ?_ m; simp only [rx, reduceIte, zqa, zqb, zqc, zqd, zqe, zqf, zqg, zqh, zqi, zqj, zqk, zql, zqm, zqn, slices_IndexFunc_Ref_Ref, hf, hc]
  refine wpK_range l.length (fun i => [(0, .sl .any (l.map Ref.cells)), (1, .fn cpid fs cs)]) (fun i => m0) (fun i => ∀ j : Nat, j < i → p (nth l j) = false) hl (by decide) (by simp only [rx, reduceIte, zqa, zqb, zqc, zqd, zqe, zqf, zqg, zqh, zqi, zqj, zqk, zql, zqm, zqn]) (by simp only [rx, reduceIte, zqa, zqb, zqc, zqd, zqe, zqf, zqg, zqh, zqi, zqj, zqk, zql, zqm, zqn]) (by simp only [rx, reduceIte, zqa, zqb, zqc, zqd, zqe, zqf, zqg, zqh, zqi, zqj, zqk, zql, zqm, zqn, holds_cons, holds_nil, and_true]) rfl (fun j hj => by omega) ?_ ?_
  · intro i hi hP T hS hn hk
    simp only [holds_cons, holds_nil, and_true] at hS
    have hx := hp (nth l i) (nth_mem (Int.natCast_nonneg _) (by omega))
    try simp only [celld] at hx
    simp only [rx, reduceIte, zqa, zqb, zqc, zqd, zqe, zqf, zqg, zqh, zqi, zqj, zqk, zql, zqm, zqn, *]
    refine condK_split (fun h => ?_) (fun h => ?_)
    · simp only [rx, reduceIte, zqa, zqb, zqc, zqd, zqe, zqf, zqg, zqh, zqi, zqj, zqk, zql, zqm, zqn, idxOf_some hi h hP]
    · simp only [rx, reduceIte, zqa, zqb, zqc, zqd, zqe, zqf, zqg, zqh, zqi, zqj, zqk, zql, zqm, zqn, holds_cons, holds_nil, *]
      exact all_succ hP h
  · intro hP T hS hn hk
    simp only [rx, reduceIte, zqa, zqb, zqc, zqd, zqe, zqf, zqg, zqh, zqi, zqj, zqk, zql, zqm, zqn, idxOf_none hP]
theorem any_Ref_ok (l : List Ref) (cpid : Nat) (fs : List V) (cs : List V) (p : Ref → Bool) (hl : l.length < 9223372036854775808) (hf : ∀ n, allM (norm (n + 12)) fs = some fs) (hc : ∀ n, allM (norm (n + 12)) cs = some cs) (hp : ∀ x ∈ l, ∀ m, lim prog cpid (fs ++ [.agg x.cells] ++ cs) m = some (.bool (p x), m)) (m : Mem) : fin 128 [.sl .any ((l).map Ref.cells), .fn cpid fs cs] m = some (.bool (l.any p), m) := by
  have hx : ∀ m, lim prog 203 [.sl .any (l.map Ref.cells), .fn cpid fs cs] m = _ := fun m => idx_Ref_ok l cpid fs cs p hl hf hc hp m
  refine fn_of slices_ContainsFunc_Ref_Ref (by kernel_rfl) rfl rfl (by simp only [nx, hf, hc, hx, idxOf_any]) ?_ m; simp only [rx, reduceIte, zqa, zqb, zqc, zqd, zqe, zqf, zqg, zqh, zqi, zqj, zqk, zql, zqm, zqn, slices_ContainsFunc_Ref_Ref, hf, hc, hx, idxOf_any]
theorem idx_Int_ok (l : List Int) (cpid : Nat) (fs : List V) (cs : List V) (p : Int → Bool) (hl : l.length < 9223372036854775808) (hf : ∀ n, allM (norm (n + 12)) fs = some fs) (hc : ∀ n, allM (norm (n + 12)) cs = some cs) (hp : ∀ x ∈ l, ∀ m, lim prog cpid (fs ++ [.int .i64 x] ++ cs) m = some (.bool (p x), m)) (m : Mem) : fin 192 [.sl .any ((l).map icell), .fn cpid fs cs] m = some (.int .i64 (idxOf l p), m) := by
  refine fn_of slices_IndexFunc_int_int (by kernel_rfl) rfl rfl (by simp only [nx, hf, hc]) ?_ m; simp only [rx, reduceIte, zqa, zqb, zqc, zqd, zqe, zqf, zqg, zqh, zqi, zqj, zqk, zql, zqm, zqn, slices_IndexFunc_int_int, hf, hc]
  refine wpK_range l.length (fun i => [(0, .sl .any (l.map icell)), (1, .fn cpid fs cs)]) (fun i => m0) (fun i => ∀ j : Nat, j < i → p (nth l j) = false) hl (by decide) (by simp only [rx, reduceIte, zqa, zqb, zqc, zqd, zqe, zqf, zqg, zqh, zqi, zqj, zqk, zql, zqm, zqn]) (by simp only [rx, reduceIte, zqa, zqb, zqc, zqd, zqe, zqf, zqg, zqh, zqi, zqj, zqk, zql, zqm, zqn]) (by simp only [rx, reduceIte, zqa, zqb, zqc, zqd, zqe, zqf, zqg, zqh, zqi, zqj, zqk, zql, zqm, zqn, holds_cons, holds_nil, and_true]) rfl (fun j hj => by omega) ?_ ?_
  · intro i hi hP T hS hn hk
    simp only [holds_cons, holds_nil, and_true] at hS
    have hx := hp (nth l i) (nth_mem (Int.natCast_nonneg _) (by omega))
    try simp only [celld] at hx
    simp only [rx, reduceIte, zqa, zqb, zqc, zqd, zqe, zqf, zqg, zqh, zqi, zqj, zqk, zql, zqm, zqn, *]
    refine condK_split (fun h => ?_) (fun h => ?_)
    · simp only [rx, reduceIte, zqa, zqb, zqc, zqd, zqe, zqf, zqg, zqh, zqi, zqj, zqk, zql, zqm, zqn, idxOf_some hi h hP]
    · simp only [rx, reduceIte, zqa, zqb, zqc, zqd, zqe, zqf, zqg, zqh, zqi, zqj, zqk, zql, zqm, zqn, holds_cons, holds_nil, *]
      exact all_succ hP h
  · intro hP T hS hn hk
    simp only [rx, reduceIte, zqa, zqb, zqc, zqd, zqe, zqf, zqg, zqh, zqi, zqj, zqk, zql, zqm, zqn, idxOf_none hP]
theorem any_Int_ok (l : List Int) (cpid : Nat) (fs : List V) (cs : List V) (p : Int → Bool) (hl : l.length < 9223372036854775808) (hf : ∀ n, allM (norm (n + 12)) fs = some fs) (hc : ∀ n, allM (norm (n + 12)) cs = some cs) (hp : ∀ x ∈ l, ∀ m, lim prog cpid (fs ++ [.int .i64 x] ++ cs) m = some (.bool (p x), m)) (m : Mem) : fin 111 [.sl .any ((l).map icell), .fn cpid fs cs] m = some (.bool (l.any p), m) := by
  have hx : ∀ m, lim prog 192 [.sl .any (l.map icell), .fn cpid fs cs] m = _ := fun m => idx_Int_ok l cpid fs cs p hl hf hc hp m
  refine fn_of slices_ContainsFunc_int_int (by kernel_rfl) rfl rfl (by simp only [nx, hf, hc, hx, idxOf_any]) ?_ m; simp only [rx, reduceIte, zqa, zqb, zqc, zqd, zqe, zqf, zqg, zqh, zqi, zqj, zqk, zql, zqm, zqn, slices_ContainsFunc_int_int, hf, hc, hx, idxOf_any]
theorem idx_Byte_ok (l : List Int) (cpid : Nat) (fs : List V) (cs : List V) (p : Int → Bool) (hl : l.length < 9223372036854775808) (hf : ∀ n, allM (norm (n + 12)) fs = some fs) (hc : ∀ n, allM (norm (n + 12)) cs = some cs) (hp : ∀ x ∈ l, ∀ m, lim prog cpid (fs ++ [.int .u8 x] ++ cs) m = some (.bool (p x), m)) (m : Mem) : fin 250 [.sl .any ((l).map ecell), .fn cpid fs cs] m = some (.int .i64 (idxOf l p), m) := by
  refine fn_of slices_IndexFunc_byte_byte (by kernel_rfl) rfl rfl (by simp only [nx, hf, hc]) ?_ m; simp only [rx, reduceIte, zqa, zqb, zqc, zqd, zqe, zqf, zqg, zqh, zqi, zqj, zqk, zql, zqm, zqn, slices_IndexFunc_byte_byte, hf, hc]
  refine wpK_range l.length (fun i => [(0, .sl .any (l.map ecell)), (1, .fn cpid fs cs)]) (fun i => m0) (fun i => ∀ j : Nat, j < i → p (nth l j) = false) hl (by decide) (by simp only [rx, reduceIte, zqa, zqb, zqc, zqd, zqe, zqf, zqg, zqh, zqi, zqj, zqk, zql, zqm, zqn]) (by simp only [rx, reduceIte, zqa, zqb, zqc, zqd, zqe, zqf, zqg, zqh, zqi, zqj, zqk, zql, zqm, zqn]) (by simp only [rx, reduceIte, zqa, zqb, zqc, zqd, zqe, zqf, zqg, zqh, zqi, zqj, zqk, zql, zqm, zqn, holds_cons, holds_nil, and_true]) rfl (fun j hj => by omega) ?_ ?_
  · intro i hi hP T hS hn hk
    simp only [holds_cons, holds_nil, and_true] at hS
    have hx := hp (nth l i) (nth_mem (Int.natCast_nonneg _) (by omega))
    try simp only [celld] at hx
    simp only [rx, reduceIte, zqa, zqb, zqc, zqd, zqe, zqf, zqg, zqh, zqi, zqj, zqk, zql, zqm, zqn, *]
    refine condK_split (fun h => ?_) (fun h => ?_)
    · simp only [rx, reduceIte, zqa, zqb, zqc, zqd, zqe, zqf, zqg, zqh, zqi, zqj, zqk, zql, zqm, zqn, idxOf_some hi h hP]
    · simp only [rx, reduceIte, zqa, zqb, zqc, zqd, zqe, zqf, zqg, zqh, zqi, zqj, zqk, zql, zqm, zqn, holds_cons, holds_nil, *]
      exact all_succ hP h
  · intro hP T hS hn hk
    simp only [rx, reduceIte, zqa, zqb, zqc, zqd, zqe, zqf, zqg, zqh, zqi, zqj, zqk, zql, zqm, zqn, idxOf_none hP]
theorem any_Byte_ok (l : List Int) (cpid : Nat) (fs : List V) (cs : List V) (p : Int → Bool) (hl : l.length < 9223372036854775808) (hf : ∀ n, allM (norm (n + 12)) fs = some fs) (hc : ∀ n, allM (norm (n + 12)) cs = some cs) (hp : ∀ x ∈ l, ∀ m, lim prog cpid (fs ++ [.int .u8 x] ++ cs) m = some (.bool (p x), m)) (m : Mem) : fin 236 [.sl .any ((l).map ecell), .fn cpid fs cs] m = some (.bool (l.any p), m) := by
  have hx : ∀ m, lim prog 250 [.sl .any (l.map ecell), .fn cpid fs cs] m = _ := fun m => idx_Byte_ok l cpid fs cs p hl hf hc hp m
  refine fn_of slices_ContainsFunc_byte_byte (by kernel_rfl) rfl rfl (by simp only [nx, hf, hc, hx, idxOf_any]) ?_ m; simp only [rx, reduceIte, zqa, zqb, zqc, zqd, zqe, zqf, zqg, zqh, zqi, zqj, zqk, zql, zqm, zqn, slices_ContainsFunc_byte_byte, hf, hc, hx, idxOf_any]
theorem not_Item_ok (x : Item) (cpid : Nat) (fs : List V) (cs : List V) (q : Bool) (hf : ∀ n, allM (norm (n + 10)) fs = some fs) (hc : ∀ n, allM (norm (n + 10)) cs = some cs) (hp : ∀ m, lim prog cpid (fs ++ [.agg x.cells] ++ cs) m = some (.bool q, m)) (m : Mem) : fin 125 [.agg (x : Item).cells, .iptr [.fn cpid fs cs] 0] m = some (.bool (!q), m) := by
  try simp only [celld] at hp
  refine fn_of state_all_Item_1 (by kernel_rfl) rfl rfl (by simp only [nx, hf, hc, hp]) ?_ m; simp only [rx, reduceIte, zqa, zqb, zqc, zqd, zqe, zqf, zqg, zqh, zqi, zqj, zqk, zql, zqm, zqn, state_all_Item_1, hf, hc, hp]
theorem all_Item_ok (l : List Item) (cpid : Nat) (fs : List V) (cs : List V) (p : Item → Bool) (hl : l.length < 9223372036854775808) (hf : ∀ n, allM (norm (n + 10)) fs = some fs) (hc : ∀ n, allM (norm (n + 10)) cs = some cs) (hp : ∀ x ∈ l, ∀ m, lim prog cpid (fs ++ [.agg x.cells] ++ cs) m = some (.bool (p x), m)) (m : Mem) : fin 61 [.sl .any ((l).map Item.cells), .fn cpid fs cs] m = some (.bool (l.all p), m) := by
  have hx : ∀ m, lim prog 126 [.sl .any (l.map Item.cells), .fn 125 [] [.iptr [.fn cpid fs cs] 0]] m = _ := fun m => any_Item_ok l 125 [] [.iptr [.fn cpid fs cs] 0] (fun x => !p x) hl (fun _ => rfl) (fun n => by simp only [allM_nil, allM_cons, norm_r, hf, hc, Option.bind_some]) (fun x hx m => not_Item_ok x cpid fs cs (p x) hf hc (hp x hx) m) m
  refine fn_of state_all_Item (by kernel_rfl) rfl rfl (by simp only [nx, hf, hc, hx, List.not_any_eq_all_not, Bool.not_not]) ?_ m; simp only [rx, reduceIte, zqa, zqb, zqc, zqd, zqe, zqf, zqg, zqh, zqi, zqj, zqk, zql, zqm, zqn, state_all_Item, hf, hc, hx, List.not_any_eq_all_not, Bool.not_not]
theorem not_Shelf_ok (x : Shelf) (cpid : Nat) (fs : List V) (cs : List V) (q : Bool) (hf : ∀ n, allM (norm (n + 10)) fs = some fs) (hc : ∀ n, allM (norm (n + 10)) cs = some cs) (hp : ∀ m, lim prog cpid (fs ++ [.agg x.cells] ++ cs) m = some (.bool q, m)) (m : Mem) : fin 103 [.agg (x : Shelf).cells, .iptr [.fn cpid fs cs] 0] m = some (.bool (!q), m) := by
  try simp only [celld] at hp
  refine fn_of state_all_Shelf_1 (by kernel_rfl) rfl rfl (by simp only [nx, hf, hc, hp]) ?_ m; simp only [rx, reduceIte, zqa, zqb, zqc, zqd, zqe, zqf, zqg, zqh, zqi, zqj, zqk, zql, zqm, zqn, state_all_Shelf_1, hf, hc, hp]
theorem all_Shelf_ok (l : List Shelf) (cpid : Nat) (fs : List V) (cs : List V) (p : Shelf → Bool) (hl : l.length < 9223372036854775808) (hf : ∀ n, allM (norm (n + 10)) fs = some fs) (hc : ∀ n, allM (norm (n + 10)) cs = some cs) (hp : ∀ x ∈ l, ∀ m, lim prog cpid (fs ++ [.agg x.cells] ++ cs) m = some (.bool (p x), m)) (m : Mem) : fin 45 [.sl .any ((l).map Shelf.cells), .fn cpid fs cs] m = some (.bool (l.all p), m) := by
  have hx : ∀ m, lim prog 104 [.sl .any (l.map Shelf.cells), .fn 103 [] [.iptr [.fn cpid fs cs] 0]] m = _ := fun m => any_Shelf_ok l 103 [] [.iptr [.fn cpid fs cs] 0] (fun x => !p x) hl (fun _ => rfl) (fun n => by simp only [allM_nil, allM_cons, norm_r, hf, hc, Option.bind_some]) (fun x hx m => not_Shelf_ok x cpid fs cs (p x) hf hc (hp x hx) m) m
  refine fn_of state_all_Shelf (by kernel_rfl) rfl rfl (by simp only [nx, hf, hc, hx, List.not_any_eq_all_not, Bool.not_not]) ?_ m; simp only [rx, reduceIte, zqa, zqb, zqc, zqd, zqe, zqf, zqg, zqh, zqi, zqj, zqk, zql, zqm, zqn, state_all_Shelf, hf, hc, hx, List.not_any_eq_all_not, Bool.not_not]
theorem not_Order_ok (x : Order) (cpid : Nat) (fs : List V) (cs : List V) (q : Bool) (hf : ∀ n, allM (norm (n + 10)) fs = some fs) (hc : ∀ n, allM (norm (n + 10)) cs = some cs) (hp : ∀ m, lim prog cpid (fs ++ [.agg x.cells] ++ cs) m = some (.bool q, m)) (m : Mem) : fin 117 [.agg (x : Order).cells, .iptr [.fn cpid fs cs] 0] m = some (.bool (!q), m) := by
  try simp only [celld] at hp
  refine fn_of state_all_Order_1 (by kernel_rfl) rfl rfl (by simp only [nx, hf, hc, hp]) ?_ m; simp only [rx, reduceIte, zqa, zqb, zqc, zqd, zqe, zqf, zqg, zqh, zqi, zqj, zqk, zql, zqm, zqn, state_all_Order_1, hf, hc, hp]
theorem all_Order_ok (l : List Order) (cpid : Nat) (fs : List V) (cs : List V) (p : Order → Bool) (hl : l.length < 9223372036854775808) (hf : ∀ n, allM (norm (n + 10)) fs = some fs) (hc : ∀ n, allM (norm (n + 10)) cs = some cs) (hp : ∀ x ∈ l, ∀ m, lim prog cpid (fs ++ [.agg x.cells] ++ cs) m = some (.bool (p x), m)) (m : Mem) : fin 52 [.sl .any ((l).map Order.cells), .fn cpid fs cs] m = some (.bool (l.all p), m) := by
  have hx : ∀ m, lim prog 118 [.sl .any (l.map Order.cells), .fn 117 [] [.iptr [.fn cpid fs cs] 0]] m = _ := fun m => any_Order_ok l 117 [] [.iptr [.fn cpid fs cs] 0] (fun x => !p x) hl (fun _ => rfl) (fun n => by simp only [allM_nil, allM_cons, norm_r, hf, hc, Option.bind_some]) (fun x hx m => not_Order_ok x cpid fs cs (p x) hf hc (hp x hx) m) m
  refine fn_of state_all_Order (by kernel_rfl) rfl rfl (by simp only [nx, hf, hc, hx, List.not_any_eq_all_not, Bool.not_not]) ?_ m; simp only [rx, reduceIte, zqa, zqb, zqc, zqd, zqe, zqf, zqg, zqh, zqi, zqj, zqk, zql, zqm, zqn, state_all_Order, hf, hc, hx, List.not_any_eq_all_not, Bool.not_not]
theorem not_Entry_ok (x : Entry) (cpid : Nat) (fs : List V) (cs : List V) (q : Bool) (hf : ∀ n, allM (norm (n + 10)) fs = some fs) (hc : ∀ n, allM (norm (n + 10)) cs = some cs) (hp : ∀ m, lim prog cpid (fs ++ [.agg x.cells] ++ cs) m = some (.bool q, m)) (m : Mem) : fin 119 [.agg (x : Entry).cells, .iptr [.fn cpid fs cs] 0] m = some (.bool (!q), m) := by
  try simp only [celld] at hp
  refine fn_of state_all_Entry_1 (by kernel_rfl) rfl rfl (by simp only [nx, hf, hc, hp]) ?_ m; simp only [rx, reduceIte, zqa, zqb, zqc, zqd, zqe, zqf, zqg, zqh, zqi, zqj, zqk, zql, zqm, zqn, state_all_Entry_1, hf, hc, hp]
theorem all_Entry_ok (l : List Entry) (cpid : Nat) (fs : List V) (cs : List V) (p : Entry → Bool) (hl : l.length < 9223372036854775808) (hf : ∀ n, allM (norm (n + 10)) fs = some fs) (hc : ∀ n, allM (norm (n + 10)) cs = some cs) (hp : ∀ x ∈ l, ∀ m, lim prog cpid (fs ++ [.agg x.cells] ++ cs) m = some (.bool (p x), m)) (m : Mem) : fin 54 [.sl .any ((l).map Entry.cells), .fn cpid fs cs] m = some (.bool (l.all p), m) := by
  have hx : ∀ m, lim prog 120 [.sl .any (l.map Entry.cells), .fn 119 [] [.iptr [.fn cpid fs cs] 0]] m = _ := fun m => any_Entry_ok l 119 [] [.iptr [.fn cpid fs cs] 0] (fun x => !p x) hl (fun _ => rfl) (fun n => by simp only [allM_nil, allM_cons, norm_r, hf, hc, Option.bind_some]) (fun x hx m => not_Entry_ok x cpid fs cs (p x) hf hc (hp x hx) m) m
  refine fn_of state_all_Entry (by kernel_rfl) rfl rfl (by simp only [nx, hf, hc, hx, List.not_any_eq_all_not, Bool.not_not]) ?_ m; simp only [rx, reduceIte, zqa, zqb, zqc, zqd, zqe, zqf, zqg, zqh, zqi, zqj, zqk, zql, zqm, zqn, state_all_Entry, hf, hc, hx, List.not_any_eq_all_not, Bool.not_not]
theorem not_Exit_ok (x : Exit) (cpid : Nat) (fs : List V) (cs : List V) (q : Bool) (hf : ∀ n, allM (norm (n + 10)) fs = some fs) (hc : ∀ n, allM (norm (n + 10)) cs = some cs) (hp : ∀ m, lim prog cpid (fs ++ [.agg x.cells] ++ cs) m = some (.bool q, m)) (m : Mem) : fin 123 [.agg (x : Exit).cells, .iptr [.fn cpid fs cs] 0] m = some (.bool (!q), m) := by
  try simp only [celld] at hp
  refine fn_of state_all_Exit_1 (by kernel_rfl) rfl rfl (by simp only [nx, hf, hc, hp]) ?_ m; simp only [rx, reduceIte, zqa, zqb, zqc, zqd, zqe, zqf, zqg, zqh, zqi, zqj, zqk, zql, zqm, zqn, state_all_Exit_1, hf, hc, hp]
theorem all_Exit_ok (l : List Exit) (cpid : Nat) (fs : List V) (cs : List V) (p : Exit → Bool) (hl : l.length < 9223372036854775808) (hf : ∀ n, allM (norm (n + 10)) fs = some fs) (hc : ∀ n, allM (norm (n + 10)) cs = some cs) (hp : ∀ x ∈ l, ∀ m, lim prog cpid (fs ++ [.agg x.cells] ++ cs) m = some (.bool (p x), m)) (m : Mem) : fin 59 [.sl .any ((l).map Exit.cells), .fn cpid fs cs] m = some (.bool (l.all p), m) := by
  have hx : ∀ m, lim prog 124 [.sl .any (l.map Exit.cells), .fn 123 [] [.iptr [.fn cpid fs cs] 0]] m = _ := fun m => any_Exit_ok l 123 [] [.iptr [.fn cpid fs cs] 0] (fun x => !p x) hl (fun _ => rfl) (fun n => by simp only [allM_nil, allM_cons, norm_r, hf, hc, Option.bind_some]) (fun x hx m => not_Exit_ok x cpid fs cs (p x) hf hc (hp x hx) m) m
  refine fn_of state_all_Exit (by kernel_rfl) rfl rfl (by simp only [nx, hf, hc, hx, List.not_any_eq_all_not, Bool.not_not]) ?_ m; simp only [rx, reduceIte, zqa, zqb, zqc, zqd, zqe, zqf, zqg, zqh, zqi, zqj, zqk, zql, zqm, zqn, state_all_Exit, hf, hc, hx, List.not_any_eq_all_not, Bool.not_not]
theorem not_Mail_ok (x : Mail) (cpid : Nat) (fs : List V) (cs : List V) (q : Bool) (hf : ∀ n, allM (norm (n + 10)) fs = some fs) (hc : ∀ n, allM (norm (n + 10)) cs = some cs) (hp : ∀ m, lim prog cpid (fs ++ [.agg x.cells] ++ cs) m = some (.bool q, m)) (m : Mem) : fin 130 [.agg (x : Mail).cells, .iptr [.fn cpid fs cs] 0] m = some (.bool (!q), m) := by
  try simp only [celld] at hp
  refine fn_of state_all_Mail_1 (by kernel_rfl) rfl rfl (by simp only [nx, hf, hc, hp]) ?_ m; simp only [rx, reduceIte, zqa, zqb, zqc, zqd, zqe, zqf, zqg, zqh, zqi, zqj, zqk, zql, zqm, zqn, state_all_Mail_1, hf, hc, hp]
theorem all_Mail_ok (l : List Mail) (cpid : Nat) (fs : List V) (cs : List V) (p : Mail → Bool) (hl : l.length < 9223372036854775808) (hf : ∀ n, allM (norm (n + 10)) fs = some fs) (hc : ∀ n, allM (norm (n + 10)) cs = some cs) (hp : ∀ x ∈ l, ∀ m, lim prog cpid (fs ++ [.agg x.cells] ++ cs) m = some (.bool (p x), m)) (m : Mem) : fin 65 [.sl .any ((l).map Mail.cells), .fn cpid fs cs] m = some (.bool (l.all p), m) := by
  have hx : ∀ m, lim prog 131 [.sl .any (l.map Mail.cells), .fn 130 [] [.iptr [.fn cpid fs cs] 0]] m = _ := fun m => any_Mail_ok l 130 [] [.iptr [.fn cpid fs cs] 0] (fun x => !p x) hl (fun _ => rfl) (fun n => by simp only [allM_nil, allM_cons, norm_r, hf, hc, Option.bind_some]) (fun x hx m => not_Mail_ok x cpid fs cs (p x) hf hc (hp x hx) m) m
  refine fn_of state_all_Mail (by kernel_rfl) rfl rfl (by simp only [nx, hf, hc, hx, List.not_any_eq_all_not, Bool.not_not]) ?_ m; simp only [rx, reduceIte, zqa, zqb, zqc, zqd, zqe, zqf, zqg, zqh, zqi, zqj, zqk, zql, zqm, zqn, state_all_Mail, hf, hc, hx, List.not_any_eq_all_not, Bool.not_not]
theorem not_Trade_ok (x : Trade) (cpid : Nat) (fs : List V) (cs : List V) (q : Bool) (hf : ∀ n, allM (norm (n + 10)) fs = some fs) (hc : ∀ n, allM (norm (n + 10)) cs = some cs) (hp : ∀ m, lim prog cpid (fs ++ [.agg x.cells] ++ cs) m = some (.bool q, m)) (m : Mem) : fin 132 [.agg (x : Trade).cells, .iptr [.fn cpid fs cs] 0] m = some (.bool (!q), m) := by
  try simp only [celld] at hp
  refine fn_of state_all_Trade_1 (by kernel_rfl) rfl rfl (by simp only [nx, hf, hc, hp]) ?_ m; simp only [rx, reduceIte, zqa, zqb, zqc, zqd, zqe, zqf, zqg, zqh, zqi, zqj, zqk, zql, zqm, zqn, state_all_Trade_1, hf, hc, hp]
theorem all_Trade_ok (l : List Trade) (cpid : Nat) (fs : List V) (cs : List V) (p : Trade → Bool) (hl : l.length < 9223372036854775808) (hf : ∀ n, allM (norm (n + 10)) fs = some fs) (hc : ∀ n, allM (norm (n + 10)) cs = some cs) (hp : ∀ x ∈ l, ∀ m, lim prog cpid (fs ++ [.agg x.cells] ++ cs) m = some (.bool (p x), m)) (m : Mem) : fin 67 [.sl .any ((l).map Trade.cells), .fn cpid fs cs] m = some (.bool (l.all p), m) := by
  have hx : ∀ m, lim prog 133 [.sl .any (l.map Trade.cells), .fn 132 [] [.iptr [.fn cpid fs cs] 0]] m = _ := fun m => any_Trade_ok l 132 [] [.iptr [.fn cpid fs cs] 0] (fun x => !p x) hl (fun _ => rfl) (fun n => by simp only [allM_nil, allM_cons, norm_r, hf, hc, Option.bind_some]) (fun x hx m => not_Trade_ok x cpid fs cs (p x) hf hc (hp x hx) m) m
  refine fn_of state_all_Trade (by kernel_rfl) rfl rfl (by simp only [nx, hf, hc, hx, List.not_any_eq_all_not, Bool.not_not]) ?_ m; simp only [rx, reduceIte, zqa, zqb, zqc, zqd, zqe, zqf, zqg, zqh, zqi, zqj, zqk, zql, zqm, zqn, state_all_Trade, hf, hc, hx, List.not_any_eq_all_not, Bool.not_not]
theorem not_Ref_ok (x : Ref) (cpid : Nat) (fs : List V) (cs : List V) (q : Bool) (hf : ∀ n, allM (norm (n + 10)) fs = some fs) (hc : ∀ n, allM (norm (n + 10)) cs = some cs) (hp : ∀ m, lim prog cpid (fs ++ [.agg x.cells] ++ cs) m = some (.bool q, m)) (m : Mem) : fin 127 [.agg (x : Ref).cells, .iptr [.fn cpid fs cs] 0] m = some (.bool (!q), m) := by
  try simp only [celld] at hp
  refine fn_of state_all_Ref_1 (by kernel_rfl) rfl rfl (by simp only [nx, hf, hc, hp]) ?_ m; simp only [rx, reduceIte, zqa, zqb, zqc, zqd, zqe, zqf, zqg, zqh, zqi, zqj, zqk, zql, zqm, zqn, state_all_Ref_1, hf, hc, hp]
theorem all_Ref_ok (l : List Ref) (cpid : Nat) (fs : List V) (cs : List V) (p : Ref → Bool) (hl : l.length < 9223372036854775808) (hf : ∀ n, allM (norm (n + 10)) fs = some fs) (hc : ∀ n, allM (norm (n + 10)) cs = some cs) (hp : ∀ x ∈ l, ∀ m, lim prog cpid (fs ++ [.agg x.cells] ++ cs) m = some (.bool (p x), m)) (m : Mem) : fin 62 [.sl .any ((l).map Ref.cells), .fn cpid fs cs] m = some (.bool (l.all p), m) := by
  have hx : ∀ m, lim prog 128 [.sl .any (l.map Ref.cells), .fn 127 [] [.iptr [.fn cpid fs cs] 0]] m = _ := fun m => any_Ref_ok l 127 [] [.iptr [.fn cpid fs cs] 0] (fun x => !p x) hl (fun _ => rfl) (fun n => by simp only [allM_nil, allM_cons, norm_r, hf, hc, Option.bind_some]) (fun x hx m => not_Ref_ok x cpid fs cs (p x) hf hc (hp x hx) m) m
  refine fn_of state_all_Ref (by kernel_rfl) rfl rfl (by simp only [nx, hf, hc, hx, List.not_any_eq_all_not, Bool.not_not]) ?_ m; simp only [rx, reduceIte, zqa, zqb, zqc, zqd, zqe, zqf, zqg, zqh, zqi, zqj, zqk, zql, zqm, zqn, state_all_Ref, hf, hc, hx, List.not_any_eq_all_not, Bool.not_not]
theorem not_Int_ok (x : Int) (cpid : Nat) (fs : List V) (cs : List V) (q : Bool) (hf : ∀ n, allM (norm (n + 10)) fs = some fs) (hc : ∀ n, allM (norm (n + 10)) cs = some cs) (hp : ∀ m, lim prog cpid (fs ++ [.int .i64 x] ++ cs) m = some (.bool q, m)) (m : Mem) : fin 121 [.int .i64 (x), .iptr [.fn cpid fs cs] 0] m = some (.bool (!q), m) := by
  try simp only [celld] at hp
  refine fn_of state_all_int_1 (by kernel_rfl) rfl rfl (by simp only [nx, hf, hc, hp]) ?_ m; simp only [rx, reduceIte, zqa, zqb, zqc, zqd, zqe, zqf, zqg, zqh, zqi, zqj, zqk, zql, zqm, zqn, state_all_int_1, hf, hc, hp]
theorem all_Int_ok (l : List Int) (cpid : Nat) (fs : List V) (cs : List V) (p : Int → Bool) (hl : l.length < 9223372036854775808) (hf : ∀ n, allM (norm (n + 10)) fs = some fs) (hc : ∀ n, allM (norm (n + 10)) cs = some cs) (hp : ∀ x ∈ l, ∀ m, lim prog cpid (fs ++ [.int .i64 x] ++ cs) m = some (.bool (p x), m)) (m : Mem) : fin 56 [.sl .any ((l).map icell), .fn cpid fs cs] m = some (.bool (l.all p), m) := by
  have hx : ∀ m, lim prog 111 [.sl .any (l.map icell), .fn 121 [] [.iptr [.fn cpid fs cs] 0]] m = _ := fun m => any_Int_ok l 121 [] [.iptr [.fn cpid fs cs] 0] (fun x => !p x) hl (fun _ => rfl) (fun n => by simp only [allM_nil, allM_cons, norm_r, hf, hc, Option.bind_some]) (fun x hx m => not_Int_ok x cpid fs cs (p x) hf hc (hp x hx) m) m
  refine fn_of state_all_int (by kernel_rfl) rfl rfl (by simp only [nx, hf, hc, hx, List.not_any_eq_all_not, Bool.not_not]) ?_ m; simp only [rx, reduceIte, zqa, zqb, zqc, zqd, zqe, zqf, zqg, zqh, zqi, zqj, zqk, zql, zqm, zqn, state_all_int, hf, hc, hx, List.not_any_eq_all_not, Bool.not_not]
def eqL {α : Type} (q : α → α → Bool) : List α → List α → Bool
  | [], [] => true
  | a :: l, b :: k => q a b && eqL q l k
  | _, _ => false
theorem eqL_len {α : Type} {q : α → α → Bool} : ∀ {l k : List α}, l.length ≠ k.length → eqL q l k = false
  | [], [], h => (h rfl).elim
  | [], _ :: _, _ => rfl
  | _ :: _, [], _ => rfl
  | a :: l, b :: k, h => by simp only [eqL, eqL_len (l := l) (k := k) (fun e => h (by simp [e])), Bool.and_false]
theorem eqL_true {α : Type} [Inhabited α] {q : α → α → Bool} {l k : List α} (hl : l.length = k.length) (h : ∀ j : Nat, j < l.length → q (nth l j) (nth k j) = true) : eqL q l k = true := by
  induction l generalizing k with
  | nil => cases k with
    | nil => rfl
    | cons _ _ => simp at hl
  | cons a l ih => cases k with
    | nil => simp at hl
    | cons b k =>
      have h0 := h 0 (by simp)
      have hs : ∀ j : Nat, j < l.length → q (nth l j) (nth k j) = true := fun j hj => by
        have := h (j + 1) (by simp only [List.length_cons]; omega)
        simpa only [nth, Int.toNat_natCast, List.getElem?_cons_succ] using this
      simp only [nth, Int.toNat_natCast, List.getElem?_cons_zero, Option.getD_some] at h0
      simp only [eqL, h0, ih (by simpa using hl) hs, Bool.and_self]
theorem eqL_false {α : Type} [Inhabited α] {q : α → α → Bool} {l k : List α} {i : Nat} (hl : l.length = k.length) (hi : i < l.length) (h : q (nth l i) (nth k i) = false) : eqL q l k = false := by
  induction l generalizing k i with
  | nil => simp at hi
  | cons a l ih => cases k with
    | nil => rfl
    | cons b k =>
      cases i with
      | zero =>
        simp only [nth, Int.toNat_natCast, List.getElem?_cons_zero, Option.getD_some] at h
        simp only [eqL, h, Bool.false_and]
      | succ i =>
        simp only [nth, Int.toNat_natCast, List.getElem?_cons_succ] at h
        simp only [eqL, ih (k := k) (i := i) (by simpa using hl) (by simpa using hi) (by simpa only [nth, Int.toNat_natCast] using h), Bool.and_false]
theorem eqL_refl {α : Type} {q : α → α → Bool} (h : ∀ a, q a a = true) : ∀ l : List α, eqL q l l = true
  | [] => rfl
  | a :: l => by simp only [eqL, h, eqL_refl h l, Bool.and_self]
def int_eqb (a b : Int) : Bool := a == b
theorem equal_Item_ok (l : List Item) (k : List Item) (hl : l.length < 9223372036854775808) (m : Mem) : fin 158 [.sl .any ((l).map Item.cells), .sl .any ((k).map Item.cells)] m = some (.bool (eqL Item.eqb l k), m) := by
  refine fn_of slices_Equal_Item_Item (by kernel_rfl) rfl rfl (by simp only [nx]) ?_ m; simp only [rx, reduceIte, zqa, zqb, zqc, zqd, zqe, zqf, zqg, zqh, zqi, zqj, zqk, zql, zqm, zqn, slices_Equal_Item_Item]
  refine condK_split (fun h => ?_) (fun h => ?_)
  · simp only [sx] at h
    have h' : l.length ≠ k.length := by omega
    simp only [rx, reduceIte, zqa, zqb, zqc, zqd, zqe, zqf, zqg, zqh, zqi, zqj, zqk, zql, zqm, zqn, eqL_len h']
  · simp only [sx] at h
    have h' : l.length = k.length := by omega
    simp only [rx, reduceIte, zqa, zqb, zqc, zqd, zqe, zqf, zqg, zqh, zqi, zqj, zqk, zql, zqm, zqn]
    refine wpK_range l.length (fun i => [(0, .sl .any (l.map Item.cells)), (1, .sl .any (k.map Item.cells))]) (fun i => m0) (fun i => ∀ j : Nat, j < i → Item.eqb (nth l j) (nth k j) = true) hl (by decide) (by simp only [rx, reduceIte, zqa, zqb, zqc, zqd, zqe, zqf, zqg, zqh, zqi, zqj, zqk, zql, zqm, zqn]) (by simp only [rx, reduceIte, zqa, zqb, zqc, zqd, zqe, zqf, zqg, zqh, zqi, zqj, zqk, zql, zqm, zqn]) (by simp only [rx, reduceIte, zqa, zqb, zqc, zqd, zqe, zqf, zqg, zqh, zqi, zqj, zqk, zql, zqm, zqn, holds_cons, holds_nil, and_true]) rfl (fun j hj => by omega) ?_ ?_
    · intro i hi hP T hS hn hk
      have hi2 : i < k.length := by omega
      simp only [holds_cons, holds_nil, and_true] at hS
      simp only [rx, reduceIte, zqa, zqb, zqc, zqd, zqe, zqf, zqg, zqh, zqi, zqj, zqk, zql, zqm, zqn, *]
      refine condK_split (fun h => ?_) (fun h => ?_)
      · simp only [rx, reduceIte, zqa, zqb, zqc, zqd, zqe, zqf, zqg, zqh, zqi, zqj, zqk, zql, zqm, zqn, eqL_false h' hi (show Item.eqb (nth l i) (nth k i) = false by simp only [Bool.not_eq_true'] at h; exact h)]
      · simp only [rx, reduceIte, zqa, zqb, zqc, zqd, zqe, zqf, zqg, zqh, zqi, zqj, zqk, zql, zqm, zqn, holds_cons, holds_nil, *]
        exact all_succ hP (show Item.eqb (nth l i) (nth k i) = true by simp only [Bool.not_eq_false'] at h; exact h)
    · intro hP T hS hn hk
      simp only [rx, reduceIte, zqa, zqb, zqc, zqd, zqe, zqf, zqg, zqh, zqi, zqj, zqk, zql, zqm, zqn, eqL_true h' hP]
theorem equal_Item_r (l : List Item) (k : List Item) (hl : l.length < 9223372036854775808) (m : Mem) : fin 158 [.sl .any ((l).map Item.cells), .sl .any ((k).map Item.cells)] m = some (.bool (eqL Item.eqb l k), m) := equal_Item_ok l k hl m
theorem equal_Order_ok (l : List Order) (k : List Order) (hl : l.length < 9223372036854775808) (m : Mem) : fin 86 [.sl .any ((l).map Order.cells), .sl .any ((k).map Order.cells)] m = some (.bool (eqL Order.eqb l k), m) := by
  refine fn_of slices_Equal_Order_Order (by kernel_rfl) rfl rfl (by simp only [nx]) ?_ m; simp only [rx, reduceIte, zqa, zqb, zqc, zqd, zqe, zqf, zqg, zqh, zqi, zqj, zqk, zql, zqm, zqn, slices_Equal_Order_Order]
  refine condK_split (fun h => ?_) (fun h => ?_)
  · simp only [sx] at h
    have h' : l.length ≠ k.length := by omega
    simp only [rx, reduceIte, zqa, zqb, zqc, zqd, zqe, zqf, zqg, zqh, zqi, zqj, zqk, zql, zqm, zqn, eqL_len h']
  · simp only [sx] at h
    have h' : l.length = k.length := by omega
    simp only [rx, reduceIte, zqa, zqb, zqc, zqd, zqe, zqf, zqg, zqh, zqi, zqj, zqk, zql, zqm, zqn]
    refine wpK_range l.length (fun i => [(0, .sl .any (l.map Order.cells)), (1, .sl .any (k.map Order.cells))]) (fun i => m0) (fun i => ∀ j : Nat, j < i → Order.eqb (nth l j) (nth k j) = true) hl (by decide) (by simp only [rx, reduceIte, zqa, zqb, zqc, zqd, zqe, zqf, zqg, zqh, zqi, zqj, zqk, zql, zqm, zqn]) (by simp only [rx, reduceIte, zqa, zqb, zqc, zqd, zqe, zqf, zqg, zqh, zqi, zqj, zqk, zql, zqm, zqn]) (by simp only [rx, reduceIte, zqa, zqb, zqc, zqd, zqe, zqf, zqg, zqh, zqi, zqj, zqk, zql, zqm, zqn, holds_cons, holds_nil, and_true]) rfl (fun j hj => by omega) ?_ ?_
    · intro i hi hP T hS hn hk
      have hi2 : i < k.length := by omega
      simp only [holds_cons, holds_nil, and_true] at hS
      simp only [rx, reduceIte, zqa, zqb, zqc, zqd, zqe, zqf, zqg, zqh, zqi, zqj, zqk, zql, zqm, zqn, *]
      refine condK_split (fun h => ?_) (fun h => ?_)
      · simp only [rx, reduceIte, zqa, zqb, zqc, zqd, zqe, zqf, zqg, zqh, zqi, zqj, zqk, zql, zqm, zqn, eqL_false h' hi (show Order.eqb (nth l i) (nth k i) = false by simp only [Bool.not_eq_true'] at h; exact h)]
      · simp only [rx, reduceIte, zqa, zqb, zqc, zqd, zqe, zqf, zqg, zqh, zqi, zqj, zqk, zql, zqm, zqn, holds_cons, holds_nil, *]
        exact all_succ hP (show Order.eqb (nth l i) (nth k i) = true by simp only [Bool.not_eq_false'] at h; exact h)
    · intro hP T hS hn hk
      simp only [rx, reduceIte, zqa, zqb, zqc, zqd, zqe, zqf, zqg, zqh, zqi, zqj, zqk, zql, zqm, zqn, eqL_true h' hP]
theorem equal_Order_r (l : List Order) (k : List Order) (hl : l.length < 9223372036854775808) (m : Mem) : fin 86 [.sl .any ((l).map Order.cells), .sl .any ((k).map Order.cells)] m = some (.bool (eqL Order.eqb l k), m) := equal_Order_ok l k hl m
theorem equal_Entry_ok (l : List Entry) (k : List Entry) (hl : l.length < 9223372036854775808) (m : Mem) : fin 87 [.sl .any ((l).map Entry.cells), .sl .any ((k).map Entry.cells)] m = some (.bool (eqL Entry.eqb l k), m) := by
  refine fn_of slices_Equal_Entry_Entry (by kernel_rfl) rfl rfl (by simp only [nx]) ?_ m; simp only [rx, reduceIte, zqa, zqb, zqc, zqd, zqe, zqf, zqg, zqh, zqi, zqj, zqk, zql, zqm, zqn, slices_Equal_Entry_Entry]
  refine condK_split (fun h => ?_) (fun h => ?_)
  · simp only [sx] at h
    have h' : l.length ≠ k.length := by omega
    simp only [rx, reduceIte, zqa, zqb, zqc, zqd, zqe, zqf, zqg, zqh, zqi, zqj, zqk, zql, zqm, zqn, eqL_len h']
  · simp only [sx] at h
    have h' : l.length = k.length := by omega
    simp only [rx, reduceIte, zqa, zqb, zqc, zqd, zqe, zqf, zqg, zqh, zqi, zqj, zqk, zql, zqm, zqn]
    refine wpK_range l.length (fun i => [(0, .sl .any (l.map Entry.cells)), (1, .sl .any (k.map Entry.cells))]) (fun i => m0) (fun i => ∀ j : Nat, j < i → Entry.eqb (nth l j) (nth k j) = true) hl (by decide) (by simp only [rx, reduceIte, zqa, zqb, zqc, zqd, zqe, zqf, zqg, zqh, zqi, zqj, zqk, zql, zqm, zqn]) (by simp only [rx, reduceIte, zqa, zqb, zqc, zqd, zqe, zqf, zqg, zqh, zqi, zqj, zqk, zql, zqm, zqn]) (by simp only [rx, reduceIte, zqa, zqb, zqc, zqd, zqe, zqf, zqg, zqh, zqi, zqj, zqk, zql, zqm, zqn, holds_cons, holds_nil, and_true]) rfl (fun j hj => by omega) ?_ ?_
    · intro i hi hP T hS hn hk
      have hi2 : i < k.length := by omega
      simp only [holds_cons, holds_nil, and_true] at hS
      simp only [rx, reduceIte, zqa, zqb, zqc, zqd, zqe, zqf, zqg, zqh, zqi, zqj, zqk, zql, zqm, zqn, *]
      refine condK_split (fun h => ?_) (fun h => ?_)
      · simp only [rx, reduceIte, zqa, zqb, zqc, zqd, zqe, zqf, zqg, zqh, zqi, zqj, zqk, zql, zqm, zqn, eqL_false h' hi (show Entry.eqb (nth l i) (nth k i) = false by simp only [Bool.not_eq_true'] at h; exact h)]
      · simp only [rx, reduceIte, zqa, zqb, zqc, zqd, zqe, zqf, zqg, zqh, zqi, zqj, zqk, zql, zqm, zqn, holds_cons, holds_nil, *]
        exact all_succ hP (show Entry.eqb (nth l i) (nth k i) = true by simp only [Bool.not_eq_false'] at h; exact h)
    · intro hP T hS hn hk
      simp only [rx, reduceIte, zqa, zqb, zqc, zqd, zqe, zqf, zqg, zqh, zqi, zqj, zqk, zql, zqm, zqn, eqL_true h' hP]
theorem equal_Entry_r (l : List Entry) (k : List Entry) (hl : l.length < 9223372036854775808) (m : Mem) : fin 87 [.sl .any ((l).map Entry.cells), .sl .any ((k).map Entry.cells)] m = some (.bool (eqL Entry.eqb l k), m) := equal_Entry_ok l k hl m
theorem equal_Room_ok (l : List Room) (k : List Room) (hl : l.length < 9223372036854775808) (m : Mem) : fin 156 [.sl .any ((l).map Room.cells), .sl .any ((k).map Room.cells)] m = some (.bool (eqL Room.eqb l k), m) := by
  refine fn_of slices_Equal_Room_Room (by kernel_rfl) rfl rfl (by simp only [nx]) ?_ m; simp only [rx, reduceIte, zqa, zqb, zqc, zqd, zqe, zqf, zqg, zqh, zqi, zqj, zqk, zql, zqm, zqn, slices_Equal_Room_Room]
  refine condK_split (fun h => ?_) (fun h => ?_)
  · simp only [sx] at h
    have h' : l.length ≠ k.length := by omega
    simp only [rx, reduceIte, zqa, zqb, zqc, zqd, zqe, zqf, zqg, zqh, zqi, zqj, zqk, zql, zqm, zqn, eqL_len h']
  · simp only [sx] at h
    have h' : l.length = k.length := by omega
    simp only [rx, reduceIte, zqa, zqb, zqc, zqd, zqe, zqf, zqg, zqh, zqi, zqj, zqk, zql, zqm, zqn]
    refine wpK_range l.length (fun i => [(0, .sl .any (l.map Room.cells)), (1, .sl .any (k.map Room.cells))]) (fun i => m0) (fun i => ∀ j : Nat, j < i → Room.eqb (nth l j) (nth k j) = true) hl (by decide) (by simp only [rx, reduceIte, zqa, zqb, zqc, zqd, zqe, zqf, zqg, zqh, zqi, zqj, zqk, zql, zqm, zqn]) (by simp only [rx, reduceIte, zqa, zqb, zqc, zqd, zqe, zqf, zqg, zqh, zqi, zqj, zqk, zql, zqm, zqn]) (by simp only [rx, reduceIte, zqa, zqb, zqc, zqd, zqe, zqf, zqg, zqh, zqi, zqj, zqk, zql, zqm, zqn, holds_cons, holds_nil, and_true]) rfl (fun j hj => by omega) ?_ ?_
    · intro i hi hP T hS hn hk
      have hi2 : i < k.length := by omega
      simp only [holds_cons, holds_nil, and_true] at hS
      simp only [rx, reduceIte, zqa, zqb, zqc, zqd, zqe, zqf, zqg, zqh, zqi, zqj, zqk, zql, zqm, zqn, *]
      refine condK_split (fun h => ?_) (fun h => ?_)
      · simp only [rx, reduceIte, zqa, zqb, zqc, zqd, zqe, zqf, zqg, zqh, zqi, zqj, zqk, zql, zqm, zqn, eqL_false h' hi (show Room.eqb (nth l i) (nth k i) = false by simp only [Bool.not_eq_true'] at h; exact h)]
      · simp only [rx, reduceIte, zqa, zqb, zqc, zqd, zqe, zqf, zqg, zqh, zqi, zqj, zqk, zql, zqm, zqn, holds_cons, holds_nil, *]
        exact all_succ hP (show Room.eqb (nth l i) (nth k i) = true by simp only [Bool.not_eq_false'] at h; exact h)
    · intro hP T hS hn hk
      simp only [rx, reduceIte, zqa, zqb, zqc, zqd, zqe, zqf, zqg, zqh, zqi, zqj, zqk, zql, zqm, zqn, eqL_true h' hP]
theorem equal_Room_r (l : List Room) (k : List Room) (hl : l.length < 9223372036854775808) (m : Mem) : fin 156 [.sl .any ((l).map Room.cells), .sl .any ((k).map Room.cells)] m = some (.bool (eqL Room.eqb l k), m) := equal_Room_ok l k hl m
theorem equal_Exit_ok (l : List Exit) (k : List Exit) (hl : l.length < 9223372036854775808) (m : Mem) : fin 157 [.sl .any ((l).map Exit.cells), .sl .any ((k).map Exit.cells)] m = some (.bool (eqL Exit.eqb l k), m) := by
  refine fn_of slices_Equal_Exit_Exit (by kernel_rfl) rfl rfl (by simp only [nx]) ?_ m; simp only [rx, reduceIte, zqa, zqb, zqc, zqd, zqe, zqf, zqg, zqh, zqi, zqj, zqk, zql, zqm, zqn, slices_Equal_Exit_Exit]
  refine condK_split (fun h => ?_) (fun h => ?_)
  · simp only [sx] at h
    have h' : l.length ≠ k.length := by omega
    simp only [rx, reduceIte, zqa, zqb, zqc, zqd, zqe, zqf, zqg, zqh, zqi, zqj, zqk, zql, zqm, zqn, eqL_len h']
  · simp only [sx] at h
    have h' : l.length = k.length := by omega
    simp only [rx, reduceIte, zqa, zqb, zqc, zqd, zqe, zqf, zqg, zqh, zqi, zqj, zqk, zql, zqm, zqn]
    refine wpK_range l.length (fun i => [(0, .sl .any (l.map Exit.cells)), (1, .sl .any (k.map Exit.cells))]) (fun i => m0) (fun i => ∀ j : Nat, j < i → Exit.eqb (nth l j) (nth k j) = true) hl (by decide) (by simp only [rx, reduceIte, zqa, zqb, zqc, zqd, zqe, zqf, zqg, zqh, zqi, zqj, zqk, zql, zqm, zqn]) (by simp only [rx, reduceIte, zqa, zqb, zqc, zqd, zqe, zqf, zqg, zqh, zqi, zqj, zqk, zql, zqm, zqn]) (by simp only [rx, reduceIte, zqa, zqb, zqc, zqd, zqe, zqf, zqg, zqh, zqi, zqj, zqk, zql, zqm, zqn, holds_cons, holds_nil, and_true]) rfl (fun j hj => by omega) ?_ ?_
    · intro i hi hP T hS hn hk
      have hi2 : i < k.length := by omega
      simp only [holds_cons, holds_nil, and_true] at hS
      simp only [rx, reduceIte, zqa, zqb, zqc, zqd, zqe, zqf, zqg, zqh, zqi, zqj, zqk, zql, zqm, zqn, *]
      refine condK_split (fun h => ?_) (fun h => ?_)
      · simp only [rx, reduceIte, zqa, zqb, zqc, zqd, zqe, zqf, zqg, zqh, zqi, zqj, zqk, zql, zqm, zqn, eqL_false h' hi (show Exit.eqb (nth l i) (nth k i) = false by simp only [Bool.not_eq_true'] at h; exact h)]
      · simp only [rx, reduceIte, zqa, zqb, zqc, zqd, zqe, zqf, zqg, zqh, zqi, zqj, zqk, zql, zqm, zqn, holds_cons, holds_nil, *]
        exact all_succ hP (show Exit.eqb (nth l i) (nth k i) = true by simp only [Bool.not_eq_false'] at h; exact h)
    · intro hP T hS hn hk
      simp only [rx, reduceIte, zqa, zqb, zqc, zqd, zqe, zqf, zqg, zqh, zqi, zqj, zqk, zql, zqm, zqn, eqL_true h' hP]
theorem equal_Exit_r (l : List Exit) (k : List Exit) (hl : l.length < 9223372036854775808) (m : Mem) : fin 157 [.sl .any ((l).map Exit.cells), .sl .any ((k).map Exit.cells)] m = some (.bool (eqL Exit.eqb l k), m) := equal_Exit_ok l k hl m
theorem equal_Mail_ok (l : List Mail) (k : List Mail) (hl : l.length < 9223372036854775808) (m : Mem) : fin 159 [.sl .any ((l).map Mail.cells), .sl .any ((k).map Mail.cells)] m = some (.bool (eqL Mail.eqb l k), m) := by
  refine fn_of slices_Equal_Mail_Mail (by kernel_rfl) rfl rfl (by simp only [nx]) ?_ m; simp only [rx, reduceIte, zqa, zqb, zqc, zqd, zqe, zqf, zqg, zqh, zqi, zqj, zqk, zql, zqm, zqn, slices_Equal_Mail_Mail]
  refine condK_split (fun h => ?_) (fun h => ?_)
  · simp only [sx] at h
    have h' : l.length ≠ k.length := by omega
    simp only [rx, reduceIte, zqa, zqb, zqc, zqd, zqe, zqf, zqg, zqh, zqi, zqj, zqk, zql, zqm, zqn, eqL_len h']
  · simp only [sx] at h
    have h' : l.length = k.length := by omega
    simp only [rx, reduceIte, zqa, zqb, zqc, zqd, zqe, zqf, zqg, zqh, zqi, zqj, zqk, zql, zqm, zqn]
    refine wpK_range l.length (fun i => [(0, .sl .any (l.map Mail.cells)), (1, .sl .any (k.map Mail.cells))]) (fun i => m0) (fun i => ∀ j : Nat, j < i → Mail.eqb (nth l j) (nth k j) = true) hl (by decide) (by simp only [rx, reduceIte, zqa, zqb, zqc, zqd, zqe, zqf, zqg, zqh, zqi, zqj, zqk, zql, zqm, zqn]) (by simp only [rx, reduceIte, zqa, zqb, zqc, zqd, zqe, zqf, zqg, zqh, zqi, zqj, zqk, zql, zqm, zqn]) (by simp only [rx, reduceIte, zqa, zqb, zqc, zqd, zqe, zqf, zqg, zqh, zqi, zqj, zqk, zql, zqm, zqn, holds_cons, holds_nil, and_true]) rfl (fun j hj => by omega) ?_ ?_
    · intro i hi hP T hS hn hk
      have hi2 : i < k.length := by omega
      simp only [holds_cons, holds_nil, and_true] at hS
      simp only [rx, reduceIte, zqa, zqb, zqc, zqd, zqe, zqf, zqg, zqh, zqi, zqj, zqk, zql, zqm, zqn, *]
      refine condK_split (fun h => ?_) (fun h => ?_)
      · simp only [rx, reduceIte, zqa, zqb, zqc, zqd, zqe, zqf, zqg, zqh, zqi, zqj, zqk, zql, zqm, zqn, eqL_false h' hi (show Mail.eqb (nth l i) (nth k i) = false by simp only [Bool.not_eq_true'] at h; exact h)]
      · simp only [rx, reduceIte, zqa, zqb, zqc, zqd, zqe, zqf, zqg, zqh, zqi, zqj, zqk, zql, zqm, zqn, holds_cons, holds_nil, *]
        exact all_succ hP (show Mail.eqb (nth l i) (nth k i) = true by simp only [Bool.not_eq_false'] at h; exact h)
    · intro hP T hS hn hk
      simp only [rx, reduceIte, zqa, zqb, zqc, zqd, zqe, zqf, zqg, zqh, zqi, zqj, zqk, zql, zqm, zqn, eqL_true h' hP]
theorem equal_Mail_r (l : List Mail) (k : List Mail) (hl : l.length < 9223372036854775808) (m : Mem) : fin 159 [.sl .any ((l).map Mail.cells), .sl .any ((k).map Mail.cells)] m = some (.bool (eqL Mail.eqb l k), m) := equal_Mail_ok l k hl m
theorem equal_Trade_ok (l : List Trade) (k : List Trade) (hl : l.length < 9223372036854775808) (m : Mem) : fin 160 [.sl .any ((l).map Trade.cells), .sl .any ((k).map Trade.cells)] m = some (.bool (eqL Trade.eqb l k), m) := by
  refine fn_of slices_Equal_Trade_Trade (by kernel_rfl) rfl rfl (by simp only [nx]) ?_ m; simp only [rx, reduceIte, zqa, zqb, zqc, zqd, zqe, zqf, zqg, zqh, zqi, zqj, zqk, zql, zqm, zqn, slices_Equal_Trade_Trade]
  refine condK_split (fun h => ?_) (fun h => ?_)
  · simp only [sx] at h
    have h' : l.length ≠ k.length := by omega
    simp only [rx, reduceIte, zqa, zqb, zqc, zqd, zqe, zqf, zqg, zqh, zqi, zqj, zqk, zql, zqm, zqn, eqL_len h']
  · simp only [sx] at h
    have h' : l.length = k.length := by omega
    simp only [rx, reduceIte, zqa, zqb, zqc, zqd, zqe, zqf, zqg, zqh, zqi, zqj, zqk, zql, zqm, zqn]
    refine wpK_range l.length (fun i => [(0, .sl .any (l.map Trade.cells)), (1, .sl .any (k.map Trade.cells))]) (fun i => m0) (fun i => ∀ j : Nat, j < i → Trade.eqb (nth l j) (nth k j) = true) hl (by decide) (by simp only [rx, reduceIte, zqa, zqb, zqc, zqd, zqe, zqf, zqg, zqh, zqi, zqj, zqk, zql, zqm, zqn]) (by simp only [rx, reduceIte, zqa, zqb, zqc, zqd, zqe, zqf, zqg, zqh, zqi, zqj, zqk, zql, zqm, zqn]) (by simp only [rx, reduceIte, zqa, zqb, zqc, zqd, zqe, zqf, zqg, zqh, zqi, zqj, zqk, zql, zqm, zqn, holds_cons, holds_nil, and_true]) rfl (fun j hj => by omega) ?_ ?_
    · intro i hi hP T hS hn hk
      have hi2 : i < k.length := by omega
      simp only [holds_cons, holds_nil, and_true] at hS
      simp only [rx, reduceIte, zqa, zqb, zqc, zqd, zqe, zqf, zqg, zqh, zqi, zqj, zqk, zql, zqm, zqn, *]
      refine condK_split (fun h => ?_) (fun h => ?_)
      · simp only [rx, reduceIte, zqa, zqb, zqc, zqd, zqe, zqf, zqg, zqh, zqi, zqj, zqk, zql, zqm, zqn, eqL_false h' hi (show Trade.eqb (nth l i) (nth k i) = false by simp only [Bool.not_eq_true'] at h; exact h)]
      · simp only [rx, reduceIte, zqa, zqb, zqc, zqd, zqe, zqf, zqg, zqh, zqi, zqj, zqk, zql, zqm, zqn, holds_cons, holds_nil, *]
        exact all_succ hP (show Trade.eqb (nth l i) (nth k i) = true by simp only [Bool.not_eq_false'] at h; exact h)
    · intro hP T hS hn hk
      simp only [rx, reduceIte, zqa, zqb, zqc, zqd, zqe, zqf, zqg, zqh, zqi, zqj, zqk, zql, zqm, zqn, eqL_true h' hP]
theorem equal_Trade_r (l : List Trade) (k : List Trade) (hl : l.length < 9223372036854775808) (m : Mem) : fin 160 [.sl .any ((l).map Trade.cells), .sl .any ((k).map Trade.cells)] m = some (.bool (eqL Trade.eqb l k), m) := equal_Trade_ok l k hl m
theorem equal_Four_ok (l : List Four) (k : List Four) (hl : l.length < 9223372036854775808) (m : Mem) : fin 161 [.sl .any ((l).map Four.cells), .sl .any ((k).map Four.cells)] m = some (.bool (eqL Four.eqb l k), m) := by
  refine fn_of slices_Equal_4_uint64_4_uint64 (by kernel_rfl) rfl rfl (by simp only [nx]) ?_ m; simp only [rx, reduceIte, zqa, zqb, zqc, zqd, zqe, zqf, zqg, zqh, zqi, zqj, zqk, zql, zqm, zqn, slices_Equal_4_uint64_4_uint64]
  refine condK_split (fun h => ?_) (fun h => ?_)
  · simp only [sx] at h
    have h' : l.length ≠ k.length := by omega
    simp only [rx, reduceIte, zqa, zqb, zqc, zqd, zqe, zqf, zqg, zqh, zqi, zqj, zqk, zql, zqm, zqn, eqL_len h']
  · simp only [sx] at h
    have h' : l.length = k.length := by omega
    simp only [rx, reduceIte, zqa, zqb, zqc, zqd, zqe, zqf, zqg, zqh, zqi, zqj, zqk, zql, zqm, zqn]
    refine wpK_range l.length (fun i => [(0, .sl .any (l.map Four.cells)), (1, .sl .any (k.map Four.cells))]) (fun i => m0) (fun i => ∀ j : Nat, j < i → Four.eqb (nth l j) (nth k j) = true) hl (by decide) (by simp only [rx, reduceIte, zqa, zqb, zqc, zqd, zqe, zqf, zqg, zqh, zqi, zqj, zqk, zql, zqm, zqn]) (by simp only [rx, reduceIte, zqa, zqb, zqc, zqd, zqe, zqf, zqg, zqh, zqi, zqj, zqk, zql, zqm, zqn]) (by simp only [rx, reduceIte, zqa, zqb, zqc, zqd, zqe, zqf, zqg, zqh, zqi, zqj, zqk, zql, zqm, zqn, holds_cons, holds_nil, and_true]) rfl (fun j hj => by omega) ?_ ?_
    · intro i hi hP T hS hn hk
      have hi2 : i < k.length := by omega
      simp only [holds_cons, holds_nil, and_true] at hS
      simp only [rx, reduceIte, zqa, zqb, zqc, zqd, zqe, zqf, zqg, zqh, zqi, zqj, zqk, zql, zqm, zqn, *]
      refine condK_split (fun h => ?_) (fun h => ?_)
      · simp only [rx, reduceIte, zqa, zqb, zqc, zqd, zqe, zqf, zqg, zqh, zqi, zqj, zqk, zql, zqm, zqn, eqL_false h' hi (show Four.eqb (nth l i) (nth k i) = false by simp only [Bool.not_eq_true'] at h; exact h)]
      · simp only [rx, reduceIte, zqa, zqb, zqc, zqd, zqe, zqf, zqg, zqh, zqi, zqj, zqk, zql, zqm, zqn, holds_cons, holds_nil, *]
        exact all_succ hP (show Four.eqb (nth l i) (nth k i) = true by simp only [Bool.not_eq_false'] at h; exact h)
    · intro hP T hS hn hk
      simp only [rx, reduceIte, zqa, zqb, zqc, zqd, zqe, zqf, zqg, zqh, zqi, zqj, zqk, zql, zqm, zqn, eqL_true h' hP]
theorem equal_Four_r (l : List Four) (k : List Four) (hl : l.length < 9223372036854775808) (m : Mem) : fin 161 [.sl .any ((l).map Four.cells), .sl .any ((k).map Four.cells)] m = some (.bool (eqL Four.eqb l k), m) := equal_Four_ok l k hl m
theorem equal_Ref_ok (l : List Ref) (k : List Ref) (hl : l.length < 9223372036854775808) (m : Mem) : fin 162 [.sl .any ((l).map Ref.cells), .sl .any ((k).map Ref.cells)] m = some (.bool (eqL Ref.eqb l k), m) := by
  refine fn_of slices_Equal_Ref_Ref (by kernel_rfl) rfl rfl (by simp only [nx]) ?_ m; simp only [rx, reduceIte, zqa, zqb, zqc, zqd, zqe, zqf, zqg, zqh, zqi, zqj, zqk, zql, zqm, zqn, slices_Equal_Ref_Ref]
  refine condK_split (fun h => ?_) (fun h => ?_)
  · simp only [sx] at h
    have h' : l.length ≠ k.length := by omega
    simp only [rx, reduceIte, zqa, zqb, zqc, zqd, zqe, zqf, zqg, zqh, zqi, zqj, zqk, zql, zqm, zqn, eqL_len h']
  · simp only [sx] at h
    have h' : l.length = k.length := by omega
    simp only [rx, reduceIte, zqa, zqb, zqc, zqd, zqe, zqf, zqg, zqh, zqi, zqj, zqk, zql, zqm, zqn]
    refine wpK_range l.length (fun i => [(0, .sl .any (l.map Ref.cells)), (1, .sl .any (k.map Ref.cells))]) (fun i => m0) (fun i => ∀ j : Nat, j < i → Ref.eqb (nth l j) (nth k j) = true) hl (by decide) (by simp only [rx, reduceIte, zqa, zqb, zqc, zqd, zqe, zqf, zqg, zqh, zqi, zqj, zqk, zql, zqm, zqn]) (by simp only [rx, reduceIte, zqa, zqb, zqc, zqd, zqe, zqf, zqg, zqh, zqi, zqj, zqk, zql, zqm, zqn]) (by simp only [rx, reduceIte, zqa, zqb, zqc, zqd, zqe, zqf, zqg, zqh, zqi, zqj, zqk, zql, zqm, zqn, holds_cons, holds_nil, and_true]) rfl (fun j hj => by omega) ?_ ?_
    · intro i hi hP T hS hn hk
      have hi2 : i < k.length := by omega
      simp only [holds_cons, holds_nil, and_true] at hS
      simp only [rx, reduceIte, zqa, zqb, zqc, zqd, zqe, zqf, zqg, zqh, zqi, zqj, zqk, zql, zqm, zqn, *]
      refine condK_split (fun h => ?_) (fun h => ?_)
      · simp only [rx, reduceIte, zqa, zqb, zqc, zqd, zqe, zqf, zqg, zqh, zqi, zqj, zqk, zql, zqm, zqn, eqL_false h' hi (show Ref.eqb (nth l i) (nth k i) = false by simp only [Bool.not_eq_true'] at h; exact h)]
      · simp only [rx, reduceIte, zqa, zqb, zqc, zqd, zqe, zqf, zqg, zqh, zqi, zqj, zqk, zql, zqm, zqn, holds_cons, holds_nil, *]
        exact all_succ hP (show Ref.eqb (nth l i) (nth k i) = true by simp only [Bool.not_eq_false'] at h; exact h)
    · intro hP T hS hn hk
      simp only [rx, reduceIte, zqa, zqb, zqc, zqd, zqe, zqf, zqg, zqh, zqi, zqj, zqk, zql, zqm, zqn, eqL_true h' hP]
theorem equal_Ref_r (l : List Ref) (k : List Ref) (hl : l.length < 9223372036854775808) (m : Mem) : fin 162 [.sl .any ((l).map Ref.cells), .sl .any ((k).map Ref.cells)] m = some (.bool (eqL Ref.eqb l k), m) := equal_Ref_ok l k hl m
theorem equal_Int_ok (l : List Int) (k : List Int) (hl : l.length < 9223372036854775808) (m : Mem) : fin 85 [.sl .any ((l).map icell), .sl .any ((k).map icell)] m = some (.bool (eqL int_eqb l k), m) := by
  refine fn_of slices_Equal_int_int (by kernel_rfl) rfl rfl (by simp only [nx]) ?_ m; simp only [rx, reduceIte, zqa, zqb, zqc, zqd, zqe, zqf, zqg, zqh, zqi, zqj, zqk, zql, zqm, zqn, slices_Equal_int_int]
  refine condK_split (fun h => ?_) (fun h => ?_)
  · simp only [sx] at h
    have h' : l.length ≠ k.length := by omega
    simp only [rx, reduceIte, zqa, zqb, zqc, zqd, zqe, zqf, zqg, zqh, zqi, zqj, zqk, zql, zqm, zqn, eqL_len h']
  · simp only [sx] at h
    have h' : l.length = k.length := by omega
    simp only [rx, reduceIte, zqa, zqb, zqc, zqd, zqe, zqf, zqg, zqh, zqi, zqj, zqk, zql, zqm, zqn]
    refine wpK_range l.length (fun i => [(0, .sl .any (l.map icell)), (1, .sl .any (k.map icell))]) (fun i => m0) (fun i => ∀ j : Nat, j < i → int_eqb (nth l j) (nth k j) = true) hl (by decide) (by simp only [rx, reduceIte, zqa, zqb, zqc, zqd, zqe, zqf, zqg, zqh, zqi, zqj, zqk, zql, zqm, zqn]) (by simp only [rx, reduceIte, zqa, zqb, zqc, zqd, zqe, zqf, zqg, zqh, zqi, zqj, zqk, zql, zqm, zqn]) (by simp only [rx, reduceIte, zqa, zqb, zqc, zqd, zqe, zqf, zqg, zqh, zqi, zqj, zqk, zql, zqm, zqn, holds_cons, holds_nil, and_true]) rfl (fun j hj => by omega) ?_ ?_
    · intro i hi hP T hS hn hk
      have hi2 : i < k.length := by omega
      simp only [holds_cons, holds_nil, and_true] at hS
      simp only [rx, reduceIte, zqa, zqb, zqc, zqd, zqe, zqf, zqg, zqh, zqi, zqj, zqk, zql, zqm, zqn, *]
      refine condK_split (fun h => ?_) (fun h => ?_)
      · simp only [rx, reduceIte, zqa, zqb, zqc, zqd, zqe, zqf, zqg, zqh, zqi, zqj, zqk, zql, zqm, zqn, eqL_false h' hi (show int_eqb (nth l i) (nth k i) = false by simp only [Bool.not_eq_true'] at h; exact h)]
      · simp only [rx, reduceIte, zqa, zqb, zqc, zqd, zqe, zqf, zqg, zqh, zqi, zqj, zqk, zql, zqm, zqn, holds_cons, holds_nil, *]
        exact all_succ hP (show int_eqb (nth l i) (nth k i) = true by simp only [Bool.not_eq_false'] at h; exact h)
    · intro hP T hS hn hk
      simp only [rx, reduceIte, zqa, zqb, zqc, zqd, zqe, zqf, zqg, zqh, zqi, zqj, zqk, zql, zqm, zqn, eqL_true h' hP]
theorem equal_Int_r (l : List Int) (k : List Int) (hl : l.length < 9223372036854775808) (m : Mem) : fin 85 [.sl .any ((l).map icell), .sl .any ((k).map icell)] m = some (.bool (eqL int_eqb l k), m) := equal_Int_ok l k hl m
end Go.Rx.Api
