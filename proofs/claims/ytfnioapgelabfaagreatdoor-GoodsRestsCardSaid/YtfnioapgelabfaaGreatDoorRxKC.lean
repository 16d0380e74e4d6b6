/-
A part of the proof: lemmas on the machine that the printed functions run on, or contracts of functions.
-/
import Derived.Test.YtfnioapgelabfaaGreatDoorRxKB
set_option linter.unusedSimpArgs false
set_option linter.unusedVariables false
set_option maxRecDepth 20000
namespace Go.Rx.Api
open Go.Rx
open Nat renaming reduceEqDiff → zqa, reduceAdd → zqb, reduceMul → zqc, reduceLeDiff → zqd, reduceBEq → zqe, reduceBNe → zqf, reduceSub → zqg, reduceLT → zqh
open Int renaming reduceLE → zqi, reduceLT → zqj, reduceToNat → zqk, reduceNeg → zql, reduceEq → zqm, reduceBEq → zqn
def allN (n : Nat) (p : Nat → Bool) : Bool := (List.range n).all p
theorem allN_true {n : Nat} {p : Nat → Bool} (h : ∀ j : Nat, j < n → p j = true) : allN n p = true := by
  unfold allN; rw [List.all_eq_true]; intro x hx; exact h x (List.mem_range.1 hx)
theorem allN_false {n i : Nat} {p : Nat → Bool} (hi : i < n) (h : p i = false) : allN n p = false := by
  unfold allN; rw [List.all_eq_false]; exact ⟨i, List.mem_range.2 hi, by simp [h]⟩
theorem allN_iff {n : Nat} {p : Nat → Bool} : allN n p = true ↔ ∀ j : Nat, j < n → p j = true := by
  unfold allN; rw [List.all_eq_true]; exact ⟨fun h j hj => h j (List.mem_range.2 hj), fun h x hx => h x (List.mem_range.1 hx)⟩
theorem wpK_iter {b : PC} {T : Tm} {m : Mem} {ks : List Fr} {Q : Ex → St → Prop} (N : Nat) (I : Nat → Tm → Mem → Prop) (h0 : I 0 T m)
    (step : ∀ i T m, i ≤ N → I i T m → wpK prog b T m [] fun e s => match e with | .normal => i < N ∧ I (i + 1) s.1 s.2 | e => popK prog e s ks Q) : wpK prog (.loop b) T m ks Q := by
  refine wpK_loop (fun k T m => ∃ i, k = N - i ∧ i ≤ N ∧ I i T m) N ⟨0, rfl, Nat.zero_le _, h0⟩ ?_
  rintro k T m ⟨i, rfl, hi, hI⟩
  have h := step i T m hi hI
  unfold wpK at h ⊢
  refine wpE_mono (fun e s h => ?_) h
  obtain ⟨T2, m2⟩ := s
  cases e with
  | normal =>
    rw [popK_nil] at h ⊢
    exact ⟨N - (i + 1), by have := h.1; omega, i + 1, rfl, h.1, h.2⟩
  | exit id => exact h
  | ret => exact h
def within (n lo hi : Int) : Bool := decide (lo ≤ n) && decide (n ≤ hi)
theorem within_ok (n : Int) (lo : Int) (hi : Int) (m : Mem) : fin 164 [.int .i64 (n), .int .i64 (lo), .int .i64 (hi)] m = some (.bool (within n lo hi), m) := by
  refine fn_of realm_within (by kernel_rfl) rfl rfl (by simp only [nx]) ?_ m; simp only [rx, reduceIte, zqa, zqb, zqc, zqd, zqe, zqf, zqg, zqh, zqi, zqj, zqk, zql, zqm, zqn, lim_call, realm_within, within]
  exact autoT
theorem within_r (n : Int) (lo : Int) (hi : Int) (m : Mem) : fin 164 [.int .i64 (n), .int .i64 (lo), .int .i64 (hi)] m = some (.bool (within n lo hi), m) := within_ok n lo hi m
theorem isNaNi_ok (n : Int) (m : Mem) : fin 231 [.int .i64 (n)] m = some (.bool (false), m) := by
  refine fn_of cmp_isNaN_int (by kernel_rfl) rfl rfl (by simp only [nx]) ?_ m; simp only [rx, reduceIte, zqa, zqb, zqc, zqd, zqe, zqf, zqg, zqh, zqi, zqj, zqk, zql, zqm, zqn, lim_call, cmp_isNaN_int]
theorem isNaNi_r (n : Int) (m : Mem) : fin 231 [.int .i64 (n)] m = some (.bool (false), m) := isNaNi_ok n m
theorem isNaNu_ok (n : Int) (m : Mem) : fin 230 [.int .u64 (n)] m = some (.bool (false), m) := by
  refine fn_of cmp_isNaN_uint64 (by kernel_rfl) rfl rfl (by simp only [nx]) ?_ m; simp only [rx, reduceIte, zqa, zqb, zqc, zqd, zqe, zqf, zqg, zqh, zqi, zqj, zqk, zql, zqm, zqn, lim_call, cmp_isNaN_uint64]
theorem isNaNu_r (n : Int) (m : Mem) : fin 230 [.int .u64 (n)] m = some (.bool (false), m) := isNaNu_ok n m
def cmpI (a b : Int) : Int := if a < b then -1 else if b < a then 1 else 0
theorem cmpInt_ok (a : Int) (b : Int) (m : Mem) : fin 197 [.int .i64 (a), .int .i64 (b)] m = some (.int .i64 (cmpI a b), m) := by
  refine fn_of cmp_Compare_int (by kernel_rfl) rfl rfl (by simp only [nx]) ?_ m; simp only [rx, reduceIte, zqa, zqb, zqc, zqd, zqe, zqf, zqg, zqh, zqi, zqj, zqk, zql, zqm, zqn, lim_call, cmp_Compare_int, isNaNi_r, cmpI]
  have _ := @isNaNi_r; exact autoT
theorem cmpInt_r (a : Int) (b : Int) (m : Mem) : fin 197 [.int .i64 (a), .int .i64 (b)] m = some (.int .i64 (cmpI a b), m) := cmpInt_ok a b m
theorem cmpUInt_ok (a : Int) (b : Int) (m : Mem) : fin 196 [.int .u64 (a), .int .u64 (b)] m = some (.int .i64 (cmpI a b), m) := by
  refine fn_of cmp_Compare_uint64 (by kernel_rfl) rfl rfl (by simp only [nx]) ?_ m; simp only [rx, reduceIte, zqa, zqb, zqc, zqd, zqe, zqf, zqg, zqh, zqi, zqj, zqk, zql, zqm, zqn, lim_call, cmp_Compare_uint64, isNaNu_r, cmpI]
  have _ := @isNaNu_r; exact autoT
theorem cmpUInt_r (a : Int) (b : Int) (m : Mem) : fin 196 [.int .u64 (a), .int .u64 (b)] m = some (.int .i64 (cmpI a b), m) := cmpUInt_ok a b m
def cmpOr : List Int → Int | [] => 0 | a :: l => if a = 0 then cmpOr l else a
theorem cmpOr_none {l : List Int} (h : ∀ j : Nat, j < l.length → nth l j = 0) : cmpOr l = 0 := by
  induction l with
  | nil => rfl
  | cons a l ih =>
    have h0 : a = 0 := h 0 (by simp)
    simp only [cmpOr, h0, if_true]
    exact ih fun j hj => by
      have := h (j + 1) (by simp only [List.length_cons]; omega)
      simpa only [nth, Int.toNat_natCast, List.getElem?_cons_succ] using this
theorem cmpOr_some {l : List Int} {i : Nat} (hi : i < l.length) (h : ∀ j : Nat, j < i → nth l j = 0) (hn : nth l i ≠ 0) : cmpOr l = nth l i := by
  induction l generalizing i with
  | nil => simp at hi
  | cons a l ih =>
    cases i with
    | zero => have : a ≠ 0 := hn; simp only [cmpOr, this, if_false]; rfl
    | succ i =>
      have h0 : a = 0 := h 0 (by omega)
      simp only [cmpOr, h0, if_true]
      have e : nth (a :: l) ((i + 1 : Nat) : Int) = nth l i := by simp only [nth, Int.toNat_natCast, List.getElem?_cons_succ]
      rw [← h0, e]
      exact ih (by simpa using hi) (fun j hj => by
        have := h (j + 1) (by omega)
        simpa only [nth, Int.toNat_natCast, List.getElem?_cons_succ] using this) (by rw [← e]; exact hn)
theorem cmpOr_ok (l : List Int) (hl : l.length < 9223372036854775808) (m : Mem) : fin 198 [.sl .any ((l).map icell)] m = some (.int .i64 (cmpOr l), m) := by
  refine fn_of cmp_Or_int (by kernel_rfl) rfl rfl (by simp only [nx]) ?_ m; simp only [rx, reduceIte, zqa, zqb, zqc, zqd, zqe, zqf, zqg, zqh, zqi, zqj, zqk, zql, zqm, zqn, lim_call, cmp_Or_int]
  refine wpK_range l.length (fun i => [(3, .int .i64 0), (6, .sl .any (l.map icell))]) (fun i => m0) (fun i => ∀ j : Nat, j < i → nth l j = 0) hl (by decide) (by simp only [rx, reduceIte, zqa, zqb, zqc, zqd, zqe, zqf, zqg, zqh, zqi, zqj, zqk, zql, zqm, zqn]) (by simp only [rx, reduceIte, zqa, zqb, zqc, zqd, zqe, zqf, zqg, zqh, zqi, zqj, zqk, zql, zqm, zqn]) (by simp only [rx, reduceIte, zqa, zqb, zqc, zqd, zqe, zqf, zqg, zqh, zqi, zqj, zqk, zql, zqm, zqn, holds_cons, holds_nil, and_true]) rfl (fun j hj => by omega) ?_ ?_
  · intro i hi hP T hS hn hk
    simp only [holds_cons, holds_nil, and_true] at hS
    simp only [rx, reduceIte, zqa, zqb, zqc, zqd, zqe, zqf, zqg, zqh, zqi, zqj, zqk, zql, zqm, zqn, *]
    refine condK_split (fun h => ?_) (fun h => ?_)
    · simp only [sx] at h
      simp only [rx, reduceIte, zqa, zqb, zqc, zqd, zqe, zqf, zqg, zqh, zqi, zqj, zqk, zql, zqm, zqn, cmpOr_some hi hP h]
    · simp only [sx] at h
      simp only [rx, reduceIte, zqa, zqb, zqc, zqd, zqe, zqf, zqg, zqh, zqi, zqj, zqk, zql, zqm, zqn, holds_cons, holds_nil, *]
      exact all_succ hP h
  · intro hP T hS hn hk
    simp only [holds_cons, holds_nil, and_true] at hS
    simp only [rx, reduceIte, zqa, zqb, zqc, zqd, zqe, zqf, zqg, zqh, zqi, zqj, zqk, zql, zqm, zqn, cmpOr_none hP, *]
theorem cmpOr_r (l : List Int) (hl : l.length < 9223372036854775808) (m : Mem) : fin 198 [.sl .any ((l).map icell)] m = some (.int .i64 (cmpOr l), m) := cmpOr_ok l hl m
theorem cmpOr2 (x y : Int) (m : Mem) : fin 198 [.sl .any [[.int .i64 x], [.int .i64 y]]] m = some (.int .i64 (if x = 0 then y else x), m) := by
  have := cmpOr_ok [x, y] (by simp) m
  simp only [cmpOr, List.map_cons, List.map_nil, icell] at this
  rw [this]
  by_cases h : y = 0
  · simp [h]
  · simp [h]
def labCmp (a b : Lab) : Int := if cmpI a.level b.level = 0 then cmpI a.comps b.comps else cmpI a.level b.level
theorem labCmp_ok (a : Lab) (b : Lab) (m : Mem) : fin 174 [.agg (a : Lab).cells, .agg (b : Lab).cells] m = some (.int .i64 (labCmp a b), m) := by
  refine fn_of label_Cmp (by kernel_rfl) rfl rfl (by simp only [nx]) ?_ m; simp only [rx, reduceIte, zqa, zqb, zqc, zqd, zqe, zqf, zqg, zqh, zqi, zqj, zqk, zql, zqm, zqn, lim_call, label_Cmp, cmpInt_r, cmpUInt_r, cmpOr_r, cmpOr2, labCmp]
theorem labCmp_r (a_level : Int) (a_comps : Int) (b_level : Int) (b_comps : Int) (m : Mem) : fin 174 [.agg [.int .i64 a_level, .int .u64 a_comps], .agg [.int .i64 b_level, .int .u64 b_comps]] m = some (.int .i64 (labCmp (⟨a_level, a_comps⟩ : Lab) (⟨b_level, b_comps⟩ : Lab)), m) := labCmp_ok ⟨a_level, a_comps⟩ ⟨b_level, b_comps⟩ m
theorem labWrong_ok (a : Lab) (m : Mem) : fin 172 [.agg (a : Lab).cells] m = some (.bool (!labRight a), m) := by
  refine fn_of realm_labels_1 (by kernel_rfl) rfl rfl (by simp only [nx]) ?_ m; simp only [rx, reduceIte, zqa, zqb, zqc, zqd, zqe, zqf, zqg, zqh, zqi, zqj, zqk, zql, zqm, zqn, lim_call, realm_labels_1, labRight_r]
def realmLabels (r : Realm) : Bool := within r.labels.length 1 8 && ((nth r.labels 0).eqb ⟨0, 0⟩ && (!r.labels.any (fun a => !labRight a) && allN (r.labels.length - 1) fun j => !decide (0 ≤ labCmp (nth r.labels j) (nth r.labels ((j + 1 : Nat) : Int)))))
theorem realmLabels_ok (r : Realm) (hl : r.labels.length < 9223372036854775808) (m : Mem) : fin 97 [.agg (r : Realm).cells] m = some (.bool (realmLabels r), m) := by
  have hx := any_Lab_ok r.labels 172 [] [] (fun a => !labRight a) hl (fun _ => rfl) (fun _ => rfl) (fun x _ m => labWrong_ok x m)
  refine fn_of realm_labels (by kernel_rfl) rfl rfl (by simp only [nx]) ?_ m; simp only [rx, reduceIte, zqa, zqb, zqc, zqd, zqe, zqf, zqg, zqh, zqi, zqj, zqk, zql, zqm, zqn, lim_call, realm_labels, within_r, labCmp_r, realmLabels, hx, Lab.eqb]
  repeat' ((with_reducible first | refine guardK_split (fun h => ?_) (fun h => ?_) | refine gdrawK_split (fun h => ?_) (fun h => ?_) | refine condK_split (fun h => ?_) (fun h => ?_)) <;>
    (have h' := h; (try simp only [sx, Int.not_le, Int.not_lt, Bool.and_eq_true, within] at h'); (try simp only [sxh] at h); (try have : 0 < r.labels.length := by omega); simp only [rx, reduceIte, zqa, zqb, zqc, zqd, zqe, zqf, zqg, zqh, zqi, zqj, zqk, zql, zqm, zqn, lim_call, *, within_r, labCmp_r, hx]))
  refine wpK_iter (r.labels.length - 1) (fun i T m => T 4 = .int .i64 ((i + 1 : Nat) : Int) ∧ m = m0 ∧ T 1 = .iptr r.cells 0 ∧ ∀ j : Nat, j < i → (!decide (0 ≤ labCmp (nth r.labels j) (nth r.labels ((j + 1 : Nat) : Int)))) = true) ?_ ?_
  · simp only [rx, reduceIte, zqa, zqb, zqc, zqd, zqe, zqf, zqg, zqh, zqi, zqj, zqk, zql, zqm, zqn, lim_call]
    exact fun j hj => by omega
  · rintro i T m' hi ⟨h4, rfl, h1, hP⟩
    simp only [celld] at h1
    have hw : IntKind.i64.wrap (((i + 1 : Nat) : Int) - 1) = (i : Int) := by rw [wrap_i64 (by omega) (by omega)]; omega
    have hw2 : IntKind.i64.wrap (((i + 1 : Nat) : Int) + 1) = ((i + 1 + 1 : Nat) : Int) := by rw [wrap_i64 (by omega) (by omega)]; omega
    simp only [rx, reduceIte, zqa, zqb, zqc, zqd, zqe, zqf, zqg, zqh, zqi, zqj, zqk, zql, zqm, zqn, lim_call, *, within_r, labCmp_r]
    refine condK_split (fun h => ?_) (fun h => ?_)
    · simp only [sx] at h
      have ha : i < r.labels.length := by omega
      have hb : i + 1 < r.labels.length := by omega
      simp only [rx, reduceIte, zqa, zqb, zqc, zqd, zqe, zqf, zqg, zqh, zqi, zqj, zqk, zql, zqm, zqn, lim_call, *, within_r, labCmp_r]
      refine condK_split (fun h => ?_) (fun h => ?_)
      · have hf : allN (r.labels.length - 1) (fun j => !decide (0 ≤ labCmp (nth r.labels j) (nth r.labels ((j + 1 : Nat) : Int)))) = false := allN_false (i := i) (by omega) (by rw [h]; rfl)
        simp only [rx, reduceIte, zqa, zqb, zqc, zqd, zqe, zqf, zqg, zqh, zqi, zqj, zqk, zql, zqm, zqn, lim_call, hf]
      · simp only [rx, reduceIte, zqa, zqb, zqc, zqd, zqe, zqf, zqg, zqh, zqi, zqj, zqk, zql, zqm, zqn, lim_call, *, within_r, labCmp_r]
        exact ⟨by omega, all_succ hP (by rw [h]; rfl)⟩
    · simp only [sx] at h
      have hf : allN (r.labels.length - 1) (fun j => !decide (0 ≤ labCmp (nth r.labels j) (nth r.labels ((j + 1 : Nat) : Int)))) = true := allN_true fun j hj => hP j (by omega)
      simp only [rx, reduceIte, zqa, zqb, zqc, zqd, zqe, zqf, zqg, zqh, zqi, zqj, zqk, zql, zqm, zqn, lim_call, hf]
theorem realmLabels_r (r_labels : List Lab) (r_lines : List Int) (r_accounts : List Account) (r_guilds : List Guild) (r_quotas : List Quota) (r_orders : Int) (r_audits : Int) (r_rate : Int) (r_rounds : Int) (hl : (⟨r_labels, r_lines, r_accounts, r_guilds, r_quotas, r_orders, r_audits, r_rate, r_rounds⟩ : Realm).labels.length < 9223372036854775808) (m : Mem) : fin 97 [.agg [.sl .any (r_labels.map Lab.cells), .sl .any (r_lines.map icell), .sl .any (r_accounts.map Account.cells), .sl .any (r_guilds.map Guild.cells), .sl .any (r_quotas.map Quota.cells), .int .i64 r_orders, .int .i64 r_audits, .int .i64 r_rate, .int .i64 r_rounds]] m = some (.bool (realmLabels (⟨r_labels, r_lines, r_accounts, r_guilds, r_quotas, r_orders, r_audits, r_rate, r_rounds⟩ : Realm)), m) := realmLabels_ok ⟨r_labels, r_lines, r_accounts, r_guilds, r_quotas, r_orders, r_audits, r_rate, r_rounds⟩ hl m
end Go.Rx.Api

set_option linter.unusedSimpArgs false
set_option linter.unusedVariables false
set_option maxRecDepth 20000
namespace Go.Rx.Api
open Go.Rx
open Nat renaming reduceEqDiff → zqa, reduceAdd → zqb, reduceMul → zqc, reduceLeDiff → zqd, reduceBEq → zqe, reduceBNe → zqf, reduceSub → zqg, reduceLT → zqh
open Int renaming reduceLE → zqi, reduceLT → zqj, reduceToNat → zqk, reduceNeg → zql, reduceEq → zqm, reduceBEq → zqn
theorem drop_nth {α : Type} [Inhabited α] {l : List α} {i : Nat} (h : i < l.length) : l.drop i = nth l i :: l.drop (i + 1) := by
  rw [List.drop_eq_getElem_cons h]
  have := get_nth_nat h
  rw [List.getElem?_eq_getElem h] at this
  rw [Option.some.inj this]
theorem idxL_Lab (l : List Lab) (cpid : Nat) (fs cs : List V) (p : Lab → Bool) (m : Mem) (hl : l.length < 9223372036854775808) (hn : allM (norm depth) [.sl .any (l.map Lab.cells), .fn cpid fs cs] = none) (hp : ∀ x ∈ l, lim prog cpid (fs ++ [.agg x.cells] ++ cs) m = some (.bool (p x), m)) : fin 219 [.sl .any (l.map Lab.cells), .fn cpid fs cs] m = some (.int .i64 (idxOf l p), m) := by
  refine fn_local slices_IndexFunc_Label_Label (by kernel_rfl) rfl rfl hn ?_
  simp only [rx, reduceIte, zqa, zqb, zqc, zqd, zqe, zqf, zqg, zqh, zqi, zqj, zqk, zql, zqm, zqn, slices_IndexFunc_Label_Label]
  refine wpK_range l.length (fun i => [(0, .sl .any (l.map Lab.cells)), (1, .fn cpid fs cs)]) (fun i => m) (fun i => ∀ j : Nat, j < i → p (nth l j) = false) hl (by decide) (by simp only [rx, reduceIte, zqa, zqb, zqc, zqd, zqe, zqf, zqg, zqh, zqi, zqj, zqk, zql, zqm, zqn]) (by simp only [rx, reduceIte, zqa, zqb, zqc, zqd, zqe, zqf, zqg, zqh, zqi, zqj, zqk, zql, zqm, zqn]) (by simp only [rx, reduceIte, zqa, zqb, zqc, zqd, zqe, zqf, zqg, zqh, zqi, zqj, zqk, zql, zqm, zqn, holds_cons, holds_nil, and_true]) rfl (fun j hj => by omega) ?_ ?_
  · intro i hi hP T hS hn hk
    simp only [holds_cons, holds_nil, and_true] at hS
    have hx := hp (nth l i) (nth_mem (Int.natCast_nonneg _) (by omega))
    try simp only [celld] at hx
    simp only [rx, reduceIte, zqa, zqb, zqc, zqd, zqe, zqf, zqg, zqh, zqi, zqj, zqk, zql, zqm, zqn, *]
    refine condK_split (fun h => ?_) (fun h => ?_)
    · simp only [rx, reduceIte, zqa, zqb, zqc, zqd, zqe, zqf, zqg, zqh, zqi, zqj, zqk, zql, zqm, zqn, idxOf_some hi h hP]
    · simp only [rx, reduceIte, zqa, zqb, zqc, zqd, zqe, zqf, zqg, zqh, zqi, zqj, zqk, zql, zqm, zqn, holds_cons, holds_nil, *]
      exact all_succ hP h
  · intro hP T hS hn hk
    simp only [rx, reduceIte, zqa, zqb, zqc, zqd, zqe, zqf, zqg, zqh, zqi, zqj, zqk, zql, zqm, zqn, idxOf_none hP]
theorem anyL_Lab (l : List Lab) (cpid : Nat) (fs cs : List V) (p : Lab → Bool) (m : Mem) (hl : l.length < 9223372036854775808) (hn : allM (norm depth) [.sl .any (l.map Lab.cells), .fn cpid fs cs] = none) (hp : ∀ x ∈ l, lim prog cpid (fs ++ [.agg x.cells] ++ cs) m = some (.bool (p x), m)) : fin 173 [.sl .any (l.map Lab.cells), .fn cpid fs cs] m = some (.bool (l.any p), m) := by
  have hx : lim prog 219 [.sl .any (l.map Lab.cells), .fn cpid fs cs] m = _ := idxL_Lab l cpid fs cs p m hl hn hp
  refine fn_local slices_ContainsFunc_Label_Label (by kernel_rfl) rfl rfl hn ?_
  simp only [rx, reduceIte, zqa, zqb, zqc, zqd, zqe, zqf, zqg, zqh, zqi, zqj, zqk, zql, zqm, zqn, slices_ContainsFunc_Label_Label, hx, idxOf_any]
theorem lineWrong_ok (i : Int) (r : Realm) (hl : r.labels.length < 9223372036854775808) (m : Mem) : fin 175 [.int .i64 (i), .iptr (Realm.cells r) 0] m = some (.bool (!within i 0 ((r.labels.length : Int) - 1)), m) := by
  have hw : IntKind.i64.wrap ((r.labels.length : Int) - 1) = (r.labels.length : Int) - 1 := wrap_i64 (by omega) (by omega)
  refine fn_of realm_lines_1 (by kernel_rfl) rfl rfl (by simp only [nx]) ?_ m; simp only [rx, reduceIte, zqa, zqb, zqc, zqd, zqe, zqf, zqg, zqh, zqi, zqj, zqk, zql, zqm, zqn, lim_call, realm_lines_1, within_r, hw]
def realmLines (r : Realm) : Bool := within r.lines.length 1 8 && !r.lines.any (fun i => !within i 0 ((r.labels.length : Int) - 1))
theorem realmLines_ok (r : Realm) (hl : r.labels.length < 9223372036854775808) (hl2 : r.lines.length < 9223372036854775808) (m : Mem) : fin 98 [.agg (r : Realm).cells] m = some (.bool (realmLines r), m) := by
  have hx := any_Int_ok r.lines 175 [] [.iptr r.cells 0] (fun i => !within i 0 ((r.labels.length : Int) - 1)) hl2 (fun _ => rfl) (fun n => by simp only [nx, norms]) (fun x _ m => lineWrong_ok x r hl m)
  simp only [celld] at hx
  refine fn_of realm_lines (by kernel_rfl) rfl rfl (by simp only [nx]) ?_ m; simp only [rx, reduceIte, zqa, zqb, zqc, zqd, zqe, zqf, zqg, zqh, zqi, zqj, zqk, zql, zqm, zqn, lim_call, realm_lines, within_r, realmLines, hx]
  repeat' ((with_reducible first | refine guardK_split (fun h => ?_) (fun h => ?_) | refine gdrawK_split (fun h => ?_) (fun h => ?_) | refine condK_split (fun h => ?_) (fun h => ?_)) <;>
    (have h' := h; (try simp only [sx, Int.not_le, Int.not_lt, Bool.and_eq_true, within] at h'); (try simp only [sxh] at h); simp only [rx, reduceIte, zqa, zqb, zqc, zqd, zqe, zqf, zqg, zqh, zqi, zqj, zqk, zql, zqm, zqn, lim_call, *, within_r, hx]))
theorem realmLines_r (r_labels : List Lab) (r_lines : List Int) (r_accounts : List Account) (r_guilds : List Guild) (r_quotas : List Quota) (r_orders : Int) (r_audits : Int) (r_rate : Int) (r_rounds : Int) (hl : (⟨r_labels, r_lines, r_accounts, r_guilds, r_quotas, r_orders, r_audits, r_rate, r_rounds⟩ : Realm).labels.length < 9223372036854775808) (hl2 : (⟨r_labels, r_lines, r_accounts, r_guilds, r_quotas, r_orders, r_audits, r_rate, r_rounds⟩ : Realm).lines.length < 9223372036854775808) (m : Mem) : fin 98 [.agg [.sl .any (r_labels.map Lab.cells), .sl .any (r_lines.map icell), .sl .any (r_accounts.map Account.cells), .sl .any (r_guilds.map Guild.cells), .sl .any (r_quotas.map Quota.cells), .int .i64 r_orders, .int .i64 r_audits, .int .i64 r_rate, .int .i64 r_rounds]] m = some (.bool (realmLines (⟨r_labels, r_lines, r_accounts, r_guilds, r_quotas, r_orders, r_audits, r_rate, r_rounds⟩ : Realm)), m) := realmLines_ok ⟨r_labels, r_lines, r_accounts, r_guilds, r_quotas, r_orders, r_audits, r_rate, r_rounds⟩ hl hl2 m
def callNames (r : Realm) : List ByteArray := r.accounts.map Account.name
theorem callNames_ok (r : Realm) (hl : r.accounts.length ≤ 4096) (m : Mem) : fin 178 [.agg (r : Realm).cells] m = some (.sl .any ((callNames r).map scell), m) := by
  refine fn_of realm_callNames (by kernel_rfl) rfl rfl (by simp only [nx]) ?_ m; simp only [rx, reduceIte, zqa, zqb, zqc, zqd, zqe, zqf, zqg, zqh, zqi, zqj, zqk, zql, zqm, zqn, lim_call, realm_callNames]
  refine wpK_range r.accounts.length (fun i => [(1, .iptr r.cells 0), (7, .sl .any (r.accounts.map Account.cells)), (3, accV 0 0 1 (((r.accounts.take i).map Account.name).map scell))]) (fun i => accM [] 0 (((r.accounts.take i).map Account.name).map scell)) (fun i => True) (by omega) (by decide) (by simp only [rx, reduceIte, zqa, zqb, zqc, zqd, zqe, zqf, zqg, zqh, zqi, zqj, zqk, zql, zqm, zqn]) (by simp only [rx, reduceIte, zqa, zqb, zqc, zqd, zqe, zqf, zqg, zqh, zqi, zqj, zqk, zql, zqm, zqn]) (by simp only [rx, reduceIte, zqa, zqb, zqc, zqd, zqe, zqf, zqg, zqh, zqi, zqj, zqk, zql, zqm, zqn, holds_cons, holds_nil, accV_nil]) rfl trivial ?_ ?_
  · intro i hi hP T hS hn hk
    simp only [holds_cons, holds_nil, and_true, celld] at hS
    have hlen : ((r.accounts.take i).map Account.name).length = i := by rw [List.length_map, List.length_take]; omega
    have ha := acc_map (f := scell) (bs := []) (g := 0) (sz := 1) (bytes := 16) (l := (r.accounts.take i).map Account.name) (nth r.accounts i).name (fun _ => rfl) (by unfold wide; omega) (by decide)
    have ht : (r.accounts.take (i + 1)).map Account.name = (r.accounts.take i).map Account.name ++ [(nth r.accounts i).name] := by
      rw [List.take_add_one, get_nth_nat hi, List.map_append]; rfl
    simp only [List.length_nil, scell_ce] at ha
    simp only [rx, reduceIte, zqa, zqb, zqc, zqd, zqe, zqf, zqg, zqh, zqi, zqj, zqk, zql, zqm, zqn, lim_call, *, holds_cons, holds_nil]
  · intro hP T hS hn hk
    simp only [holds_cons, holds_nil, and_true, celld] at hS
    simp only [rx, reduceIte, zqa, zqb, zqc, zqd, zqe, zqf, zqg, zqh, zqi, zqj, zqk, zql, zqm, zqn, lim_call, *]
    rw [List.take_length]
    exact frz_acc (f := scell) (bs := []) (g := 0) (fun _ => rfl) (Nat.zero_le _) (fun _ => rfl)
theorem callNames_r (r_labels : List Lab) (r_lines : List Int) (r_accounts : List Account) (r_guilds : List Guild) (r_quotas : List Quota) (r_orders : Int) (r_audits : Int) (r_rate : Int) (r_rounds : Int) (hl : (⟨r_labels, r_lines, r_accounts, r_guilds, r_quotas, r_orders, r_audits, r_rate, r_rounds⟩ : Realm).accounts.length ≤ 4096) (m : Mem) : fin 178 [.agg [.sl .any (r_labels.map Lab.cells), .sl .any (r_lines.map icell), .sl .any (r_accounts.map Account.cells), .sl .any (r_guilds.map Guild.cells), .sl .any (r_quotas.map Quota.cells), .int .i64 r_orders, .int .i64 r_audits, .int .i64 r_rate, .int .i64 r_rounds]] m = some (.sl .any ((callNames (⟨r_labels, r_lines, r_accounts, r_guilds, r_quotas, r_orders, r_audits, r_rate, r_rounds⟩ : Realm)).map scell), m) := callNames_ok ⟨r_labels, r_lines, r_accounts, r_guilds, r_quotas, r_orders, r_audits, r_rate, r_rounds⟩ hl m
def hallOf (bit : Int) : Lab × Int := if bit < 0 then (⟨0, 0⟩, 1) else if 64 ≤ bit then (⟨0, 0⟩, 1) else (⟨0, IntKind.u64.wrap (1 * 2 ^ min bit.toNat IntKind.u64.bits)⟩, 0)
theorem hallOf_ok (bit : Int) (m : Mem) : fin 144 [.int .i64 (bit)] m = some (.tup [.agg ((hallOf bit).1 : Lab).cells, .int .i64 ((hallOf bit).2)], m) := by
  refine fn_of label_Hall (by kernel_rfl) rfl rfl (by simp only [nx]) ?_ m; simp only [rx, reduceIte, zqa, zqb, zqc, zqd, zqe, zqf, zqg, zqh, zqi, zqj, zqk, zql, zqm, zqn, lim_call, label_Hall, hallOf]
  exact autoT
theorem hallOf_r (bit : Int) (m : Mem) : fin 144 [.int .i64 (bit)] m = some (.tup [.agg ((hallOf bit).1 : Lab).cells, .int .i64 ((hallOf bit).2)], m) := hallOf_ok bit m
theorem indexLab_ok (l : List Lab) (a : Lab) (hl : l.length < 9223372036854775808) (m : Mem) : fin 221 [.sl .any ((l).map Lab.cells), .agg (a : Lab).cells] m = some (.int .i64 (idxOf l (fun x => a.eqb x)), m) := by
  refine fn_of slices_Index_Label_Label (by kernel_rfl) rfl rfl (by simp only [nx]) ?_ m; simp only [rx, reduceIte, zqa, zqb, zqc, zqd, zqe, zqf, zqg, zqh, zqi, zqj, zqk, zql, zqm, zqn, lim_call, slices_Index_Label_Label]
  refine wpK_range l.length (fun i => [(0, .sl .any (l.map Lab.cells)), (3, .iptr a.cells 0)]) (fun i => m0) (fun i => ∀ j : Nat, j < i → a.eqb (nth l j) = false) hl (by decide) (by simp only [rx, reduceIte, zqa, zqb, zqc, zqd, zqe, zqf, zqg, zqh, zqi, zqj, zqk, zql, zqm, zqn]) (by simp only [rx, reduceIte, zqa, zqb, zqc, zqd, zqe, zqf, zqg, zqh, zqi, zqj, zqk, zql, zqm, zqn]) (by simp only [rx, reduceIte, zqa, zqb, zqc, zqd, zqe, zqf, zqg, zqh, zqi, zqj, zqk, zql, zqm, zqn, holds_cons, holds_nil, and_true]) rfl (fun j hj => by omega) ?_ ?_
  · intro i hi hP T hS hn hk
    simp only [holds_cons, holds_nil, and_true, celld] at hS
    simp only [rx, reduceIte, zqa, zqb, zqc, zqd, zqe, zqf, zqg, zqh, zqi, zqj, zqk, zql, zqm, zqn, *]
    refine condK_split (fun h => ?_) (fun h => ?_)
    · have hi2 := idxOf_some (p := fun x => a.eqb x) hi h hP
      simp only [rx, reduceIte, zqa, zqb, zqc, zqd, zqe, zqf, zqg, zqh, zqi, zqj, zqk, zql, zqm, zqn, hi2]
    · simp only [rx, reduceIte, zqa, zqb, zqc, zqd, zqe, zqf, zqg, zqh, zqi, zqj, zqk, zql, zqm, zqn, holds_cons, holds_nil, *]
      exact all_succ hP h
  · intro hP T hS hn hk
    have hi2 := idxOf_none (p := fun x => a.eqb x) hP
    simp only [rx, reduceIte, zqa, zqb, zqc, zqd, zqe, zqf, zqg, zqh, zqi, zqj, zqk, zql, zqm, zqn, hi2]
theorem indexLab_r (l : List Lab) (a_level : Int) (a_comps : Int) (hl : l.length < 9223372036854775808) (m : Mem) : fin 221 [.sl .any ((l).map Lab.cells), .agg [.int .i64 a_level, .int .u64 a_comps]] m = some (.int .i64 (idxOf l (fun x => (⟨a_level, a_comps⟩ : Lab).eqb x)), m) := indexLab_ok l ⟨a_level, a_comps⟩ hl m
theorem containsLab_ok (l : List Lab) (a : Lab) (hl : l.length < 9223372036854775808) (m : Mem) : fin 180 [.sl .any ((l).map Lab.cells), .agg (a : Lab).cells] m = some (.bool (l.any (fun x => a.eqb x)), m) := by
  refine fn_of slices_Contains_Label_Label (by kernel_rfl) rfl rfl (by simp only [nx]) ?_ m; simp only [rx, reduceIte, zqa, zqb, zqc, zqd, zqe, zqf, zqg, zqh, zqi, zqj, zqk, zql, zqm, zqn, lim_call, slices_Contains_Label_Label, indexLab_r, hl, idxOf_any]
theorem containsLab_r (l : List Lab) (a_level : Int) (a_comps : Int) (hl : l.length < 9223372036854775808) (m : Mem) : fin 180 [.sl .any ((l).map Lab.cells), .agg [.int .i64 a_level, .int .u64 a_comps]] m = some (.bool (l.any (fun x => (⟨a_level, a_comps⟩ : Lab).eqb x)), m) := containsLab_ok l ⟨a_level, a_comps⟩ hl m
def mget {α : Type} [BEq α] (k : α) : List (α × Int) → Option Int
  | [] => none
  | (a, n) :: l => if k == a then some n else mget k l
def mset {α : Type} [BEq α] (k : α) (n : Int) : List (α × Int) → List (α × Int)
  | [] => [(k, n)]
  | (a, v) :: l => if k == a then (k, n) :: l else (a, v) :: mset k n l
def mput {α : Type} [BEq α] (l : List (α × Int)) (k : α) : List (α × Int) := mset k (IntKind.i64.wrap (((mget k l).getD 0) + 1)) l
theorem find_enc {α : Type} [BEq α] {e : α → V} (he : ∀ a b, keyEq (e a) (e b) = some (a == b)) (k : α) : ∀ l : List (α × Int), findMap (e k) (l.map fun p => (e p.1, V.int .i64 p.2)) = some ((mget k l).map fun n => V.int .i64 n)
  | [] => rfl
  | (a, n) :: l => by
    simp only [List.map_cons, findMap, he, Option.bind_some, mget]
    cases k == a
    · simp only [Bool.false_eq_true, if_false]; exact find_enc he k l
    · rfl
theorem upd_enc {α : Type} [BEq α] {e : α → V} (he : ∀ a b, keyEq (e a) (e b) = some (a == b)) (k : α) (n : Int) : ∀ l : List (α × Int), updMap (e k) (.int .i64 n) (l.map fun p => (e p.1, V.int .i64 p.2)) = some ((mset k n l).map fun p => (e p.1, V.int .i64 p.2))
  | [] => rfl
  | (a, v) :: l => by
    simp only [List.map_cons, updMap, he, Option.bind_some, mset]
    cases k == a
    · simp only [Bool.false_eq_true, if_false, upd_enc he k n l, Option.bind_some, List.map_cons]
    · rfl
def apart (l : List ByteArray) : Bool := (((l.foldl mput []).length : Int) == (l.length : Int))
theorem apart_ok (l : List ByteArray) (hl : l.length < 9223372036854775808) (m : Mem) : fin 179 [.sl .any ((l).map scell)] m = some (.bool (apart l), m) := by
  refine fn_of name_Apart (by kernel_rfl) rfl rfl (by simp only [nx]) ?_ m; simp only [rx, reduceIte, zqa, zqb, zqc, zqd, zqe, zqf, zqg, zqh, zqi, zqj, zqk, zql, zqm, zqn, lim_call, name_Apart]
  refine wpK_range l.length (fun i => [(7, .sl .any (l.map scell)), (0, .sl .any (l.map scell)), (3, .mapr 0 0)]) (fun i => ⟨[some (.map 0 (((l.take i).foldl mput []).map fun p => (V.str p.1, V.int .i64 p.2)))], 1⟩) (fun i => True) hl (by decide) (by simp only [rx, reduceIte, zqa, zqb, zqc, zqd, zqe, zqf, zqg, zqh, zqi, zqj, zqk, zql, zqm, zqn]) (by simp only [rx, reduceIte, zqa, zqb, zqc, zqd, zqe, zqf, zqg, zqh, zqi, zqj, zqk, zql, zqm, zqn]) (by simp only [rx, reduceIte, zqa, zqb, zqc, zqd, zqe, zqf, zqg, zqh, zqi, zqj, zqk, zql, zqm, zqn, holds_cons, holds_nil, and_true]) rfl trivial ?_ ?_
  · intro i hi hP T hS hn hk
    simp only [holds_cons, holds_nil, and_true, celld] at hS
    have ht : (l.take (i + 1)).foldl mput [] = mput ((l.take i).foldl mput []) (nth l i) := by
      rw [List.take_add_one, get_nth_nat hi, List.foldl_append]; rfl
    have h1 := find_enc (e := V.str) (fun a b => rfl) (nth l i) ((l.take i).foldl mput [])
    have h2 := fun n => upd_enc (e := V.str) (fun a b => rfl) (nth l i) n ((l.take i).foldl mput [])
    generalize hk2 : (l.take i).foldl mput [] = tm at *
    cases hg : mget (nth l i) tm with
    | none =>
      simp only [hg, Option.map_none] at h1
      simp only [mput, hg, Option.getD_none] at ht
      simp only [rx, reduceIte, zqa, zqb, zqc, zqd, zqe, zqf, zqg, zqh, zqi, zqj, zqk, zql, zqm, zqn, *, V.isKey, Mem.map, holds_cons, holds_nil]
    | some n =>
      simp only [hg, Option.map_some] at h1
      simp only [mput, hg, Option.getD_some] at ht
      simp only [rx, reduceIte, zqa, zqb, zqc, zqd, zqe, zqf, zqg, zqh, zqi, zqj, zqk, zql, zqm, zqn, *, V.isKey, Mem.map, holds_cons, holds_nil]
  · intro hP T hS hn hk
    simp only [holds_cons, holds_nil, and_true, celld] at hS
    simp only [rx, reduceIte, zqa, zqb, zqc, zqd, zqe, zqf, zqg, zqh, zqi, zqj, zqk, zql, zqm, zqn, *, Mem.map, apart, List.take_length]
theorem apart_r (l : List ByteArray) (hl : l.length < 9223372036854775808) (m : Mem) : fin 179 [.sl .any ((l).map scell)] m = some (.bool (apart l), m) := apart_ok l hl m
theorem accountWrong_ok (a : Account) (m : Mem) : fin 176 [.agg (a : Account).cells] m = some (.bool (!nameRight a.name || (!nameRight a.secret || !within a.level 0 3)), m) := by
  refine fn_of realm_accounts_1 (by kernel_rfl) rfl rfl (by simp only [nx]) ?_ m; simp only [rx, reduceIte, zqa, zqb, zqc, zqd, zqe, zqf, zqg, zqh, zqi, zqj, zqk, zql, zqm, zqn, lim_call, realm_accounts_1, nameRight_r, within_r]
  have _ := @nameRight_r; have _ := @within_r; exact autoT
def realmAccounts (r : Realm) : Bool := within r.accounts.length 1 8 && (!r.accounts.any (fun a => !nameRight a.name || (!nameRight a.secret || !within a.level 0 3)) && apart (callNames r))
theorem realmAccounts_ok (r : Realm) (hl : r.accounts.length < 9223372036854775808) (m : Mem) : fin 99 [.agg (r : Realm).cells] m = some (.bool (realmAccounts r), m) := by
  have hx := any_Account_ok r.accounts 176 [] [] (fun a => !nameRight a.name || (!nameRight a.secret || !within a.level 0 3)) hl (fun _ => rfl) (fun _ => rfl) (fun x _ m => accountWrong_ok x m)
  have hn : (callNames r).length = r.accounts.length := by simp [callNames]
  refine fn_of realm_accounts (by kernel_rfl) rfl rfl (by simp only [nx]) ?_ m; simp only [rx, reduceIte, zqa, zqb, zqc, zqd, zqe, zqf, zqg, zqh, zqi, zqj, zqk, zql, zqm, zqn, lim_call, realm_accounts, within_r, callNames_r, apart_r, realmAccounts, hx]
  repeat' ((with_reducible first | refine guardK_split (fun h => ?_) (fun h => ?_) | refine gdrawK_split (fun h => ?_) (fun h => ?_) | refine condK_split (fun h => ?_) (fun h => ?_)) <;>
    (have h' := h; (try simp only [sx, Int.not_le, Int.not_lt, Bool.and_eq_true, within] at h'); (try simp only [sxh] at h); (try have : r.accounts.length ≤ 4096 := by omega); (try have : (callNames r).length < 9223372036854775808 := by omega); simp only [rx, reduceIte, zqa, zqb, zqc, zqd, zqe, zqf, zqg, zqh, zqi, zqj, zqk, zql, zqm, zqn, lim_call, *, within_r, callNames_r, apart_r, hx]))
theorem realmAccounts_r (r_labels : List Lab) (r_lines : List Int) (r_accounts : List Account) (r_guilds : List Guild) (r_quotas : List Quota) (r_orders : Int) (r_audits : Int) (r_rate : Int) (r_rounds : Int) (hl : (⟨r_labels, r_lines, r_accounts, r_guilds, r_quotas, r_orders, r_audits, r_rate, r_rounds⟩ : Realm).accounts.length < 9223372036854775808) (m : Mem) : fin 99 [.agg [.sl .any (r_labels.map Lab.cells), .sl .any (r_lines.map icell), .sl .any (r_accounts.map Account.cells), .sl .any (r_guilds.map Guild.cells), .sl .any (r_quotas.map Quota.cells), .int .i64 r_orders, .int .i64 r_audits, .int .i64 r_rate, .int .i64 r_rounds]] m = some (.bool (realmAccounts (⟨r_labels, r_lines, r_accounts, r_guilds, r_quotas, r_orders, r_audits, r_rate, r_rounds⟩ : Realm)), m) := realmAccounts_ok ⟨r_labels, r_lines, r_accounts, r_guilds, r_quotas, r_orders, r_audits, r_rate, r_rounds⟩ hl m
end Go.Rx.Api

set_option linter.unusedSimpArgs false
set_option linter.unusedVariables false
set_option maxRecDepth 20000
namespace Go.Rx.Api
open Go.Rx
open Nat renaming reduceEqDiff → zqa, reduceAdd → zqb, reduceMul → zqc, reduceLeDiff → zqd, reduceBEq → zqe, reduceBNe → zqf, reduceSub → zqg, reduceLT → zqh
open Int renaming reduceLE → zqi, reduceLT → zqj, reduceToNat → zqk, reduceNeg → zql, reduceEq → zqm, reduceBEq → zqn
theorem otherLab (a : Lab) (all : Int) : fin 181 [.agg a.cells, .ptr 0 0 0] ⟨[some (.cells 0 [.int .u64 all])], 1⟩ = some (.bool (!(uandn a.comps all == 0)), ⟨[some (.cells 0 [.int .u64 all])], 1⟩) := by
  refine fn_local realm_guilds_1 (by kernel_rfl) rfl rfl (by simp only [nx]; rfl) ?_
  simp only [rx, reduceIte, zqa, zqb, zqc, zqd, zqe, zqf, zqg, zqh, zqi, zqj, zqk, zql, zqm, zqn, lim_call, realm_guilds_1]
def guildBad (r : Realm) (last : Int) (g : Guild) : Bool := !((hallOf g.bit).2 == 0) || (decide (g.bit ≤ last) || (!within g.founder 0 ((r.accounts.length : Int) - 1) || !r.labels.any (fun x => (hallOf g.bit).1.eqb x)))
def guildsGo (r : Realm) : List Guild → Int → Int → Option Int
  | [], _, all => some all
  | g :: gs, last, all => if guildBad r last g = true then none else guildsGo r gs g.bit (uor all (hallOf g.bit).1.comps)
def realmGuilds (r : Realm) : Bool := match guildsGo r r.guilds (-1) 0 with
  | none => false
  | some all => decide ((r.guilds.length : Int) ≤ 8) && !r.labels.any (fun a => !(uandn a.comps all == 0))
theorem realmGuilds_ok (r : Realm) (hl : r.labels.length < 9223372036854775808) (ha : r.accounts.length < 9223372036854775808) (hg : r.guilds.length < 9223372036854775808) (m : Mem) : fin 100 [.agg (r : Realm).cells] m = some (.bool (realmGuilds r), m) := by
  have hw : IntKind.i64.wrap ((r.accounts.length : Int) - 1) = (r.accounts.length : Int) - 1 := wrap_i64 (by omega) (by omega)
  refine fn_of realm_guilds (by kernel_rfl) rfl rfl (by simp only [nx]) ?_ m; simp only [rx, reduceIte, zqa, zqb, zqc, zqd, zqe, zqf, zqg, zqh, zqi, zqj, zqk, zql, zqm, zqn, lim_call, realm_guilds, hallOf_r, within_r, containsLab_r]
  refine wpK_rangeI r.guilds.length (fun i T m => ∃ last all, guildsGo r r.guilds (-1) 0 = guildsGo r (r.guilds.drop i) last all ∧ T 4 = .int .i64 last ∧ m = ⟨[some (.cells 0 [.int .u64 all])], 1⟩ ∧ T 1 = .iptr r.cells 0 ∧ T 3 = .ptr 0 0 0 ∧ T 11 = .sl .any (r.guilds.map Guild.cells)) hg (by decide) (by simp only [rx, reduceIte, zqa, zqb, zqc, zqd, zqe, zqf, zqg, zqh, zqi, zqj, zqk, zql, zqm, zqn, lim_call]) (by simp only [rx, reduceIte, zqa, zqb, zqc, zqd, zqe, zqf, zqg, zqh, zqi, zqj, zqk, zql, zqm, zqn, lim_call]) ⟨-1, 0, rfl, by simp only [rx, reduceIte, zqa, zqb, zqc, zqd, zqe, zqf, zqg, zqh, zqi, zqj, zqk, zql, zqm, zqn, lim_call], rfl, by simp only [rx, reduceIte, zqa, zqb, zqc, zqd, zqe, zqf, zqg, zqh, zqi, zqj, zqk, zql, zqm, zqn, lim_call], by simp only [rx, reduceIte, zqa, zqb, zqc, zqd, zqe, zqf, zqg, zqh, zqi, zqj, zqk, zql, zqm, zqn, lim_call], by simp only [rx, reduceIte, zqa, zqb, zqc, zqd, zqe, zqf, zqg, zqh, zqi, zqj, zqk, zql, zqm, zqn, lim_call]⟩ ?_ ?_
  · rintro i hi T m ⟨last, all, hgo, h4, rfl, h1, h3, h11⟩ hn hk
    simp only [celld] at h1
    rw [drop_nth hi] at hgo
    simp only [guildsGo, guildBad] at hgo
    simp only [rx, reduceIte, zqa, zqb, zqc, zqd, zqe, zqf, zqg, zqh, zqi, zqj, zqk, zql, zqm, zqn, lim_call, *, hallOf_r, within_r, containsLab_r]
    repeat' ((with_reducible first | refine guardK_split (fun h => ?_) (fun h => ?_) | refine gdrawK_split (fun h => ?_) (fun h => ?_) | refine condK_split (fun h => ?_) (fun h => ?_)) <;>
    (have h' := h; (try simp only [sx, Int.not_le, Int.not_lt, Bool.and_eq_true] at h'); (try simp only [sxh] at h); simp only [rx, reduceIte, zqa, zqb, zqc, zqd, zqe, zqf, zqg, zqh, zqi, zqj, zqk, zql, zqm, zqn, lim_call, *, hallOf_r, within_r, containsLab_r]))
    all_goals first
      | (simp only [realmGuilds, rxc, reduceIte, *]; done)
      | skip
    exact ⟨_, _, rfl, rfl, rfl⟩
  · rintro T m ⟨last, all, hgo, h4, rfl, h1, h3, h11⟩ hn hk
    simp only [celld] at h1
    rw [List.drop_length] at hgo
    have hx := anyL_Lab r.labels 181 [] [.ptr 0 0 0] (fun a => !(uandn a.comps all == 0)) ⟨[some (.cells 0 [.int .u64 all])], 1⟩ hl (by simp only [nx, norms]; rfl) (fun x _ => otherLab x all)
    simp only [rx, reduceIte, zqa, zqb, zqc, zqd, zqe, zqf, zqg, zqh, zqi, zqj, zqk, zql, zqm, zqn, lim_call, *]
    repeat' ((with_reducible first | refine guardK_split (fun h => ?_) (fun h => ?_) | refine gdrawK_split (fun h => ?_) (fun h => ?_) | refine condK_split (fun h => ?_) (fun h => ?_)) <;>
    (have h' := h; (try simp only [sx, Int.not_le, Int.not_lt, Bool.and_eq_true] at h'); (try simp only [sxh] at h); simp only [rx, reduceIte, zqa, zqb, zqc, zqd, zqe, zqf, zqg, zqh, zqi, zqj, zqk, zql, zqm, zqn, lim_call, *, hallOf_r, within_r, containsLab_r]))
    all_goals simp only [realmGuilds, hgo, guildsGo, rxc, *]
theorem realmGuilds_r (r_labels : List Lab) (r_lines : List Int) (r_accounts : List Account) (r_guilds : List Guild) (r_quotas : List Quota) (r_orders : Int) (r_audits : Int) (r_rate : Int) (r_rounds : Int) (hl : (⟨r_labels, r_lines, r_accounts, r_guilds, r_quotas, r_orders, r_audits, r_rate, r_rounds⟩ : Realm).labels.length < 9223372036854775808) (ha : (⟨r_labels, r_lines, r_accounts, r_guilds, r_quotas, r_orders, r_audits, r_rate, r_rounds⟩ : Realm).accounts.length < 9223372036854775808) (hg : (⟨r_labels, r_lines, r_accounts, r_guilds, r_quotas, r_orders, r_audits, r_rate, r_rounds⟩ : Realm).guilds.length < 9223372036854775808) (m : Mem) : fin 100 [.agg [.sl .any (r_labels.map Lab.cells), .sl .any (r_lines.map icell), .sl .any (r_accounts.map Account.cells), .sl .any (r_guilds.map Guild.cells), .sl .any (r_quotas.map Quota.cells), .int .i64 r_orders, .int .i64 r_audits, .int .i64 r_rate, .int .i64 r_rounds]] m = some (.bool (realmGuilds (⟨r_labels, r_lines, r_accounts, r_guilds, r_quotas, r_orders, r_audits, r_rate, r_rounds⟩ : Realm)), m) := realmGuilds_ok ⟨r_labels, r_lines, r_accounts, r_guilds, r_quotas, r_orders, r_audits, r_rate, r_rounds⟩ hl ha hg m
theorem numbers_ok (q : Quota) (m : Mem) : fin 183 [.agg (q : Quota).cells] m = some (.sl .any [[.int .i64 q.rooms], [.int .i64 q.exits], [.int .i64 q.items], [.int .i64 q.mails], [.int .i64 q.trades]], m) := by
  refine fn_of realm_numbers (by kernel_rfl) rfl rfl (by simp only [nx]) ?_ m; simp only [rx, reduceIte, zqa, zqb, zqc, zqd, zqe, zqf, zqg, zqh, zqi, zqj, zqk, zql, zqm, zqn, lim_call, realm_numbers]
theorem numbers_r (a b c d e f : Int) (m : Mem) : fin 183 [.agg [.int .i64 a, .int .i64 b, .int .i64 c, .int .i64 d, .int .i64 e, .int .u64 f]] m = some (.sl .any [[.int .i64 a], [.int .i64 b], [.int .i64 c], [.int .i64 d], [.int .i64 e]], m) := numbers_ok ⟨a, b, c, d, e, f⟩ m
theorem quotaWrong_ok (n : Int) (m : Mem) : fin 182 [.int .i64 (n)] m = some (.bool (!within n 0 12), m) := by
  refine fn_of realm_quotas_1 (by kernel_rfl) rfl rfl (by simp only [nx]) ?_ m; simp only [rx, reduceIte, zqa, zqb, zqc, zqd, zqe, zqf, zqg, zqh, zqi, zqj, zqk, zql, zqm, zqn, lim_call, realm_quotas_1, within_r]
def quotaNums (q : Quota) : Bool := [q.rooms, q.exits, q.items, q.mails, q.trades].any fun n => !within n 0 12
theorem anyNums (a b c d e : Int) (m : Mem) : fin 111 [.sl .any [[.int .i64 a], [.int .i64 b], [.int .i64 c], [.int .i64 d], [.int .i64 e]], .fn 182 [] []] m = some (.bool (quotaNums ⟨a, b, c, d, e, 0⟩), m) :=
  any_Int_ok [a, b, c, d, e] 182 [] [] (fun n => !within n 0 12) (by simp) (fun _ => rfl) (fun _ => rfl) (fun x _ m => quotaWrong_ok x m) m
def quotasGo : List Quota → Int → Bool
  | [], _ => true
  | q :: qs, left => if decide (left < q.cap) || quotaNums q then false else quotasGo qs (IntKind.u64.wrap (left - q.cap))
def realmQuotas (r : Realm) : Bool := if (r.quotas.length : Int) = r.labels.length then (if (nth r.quotas 0).rooms < 1 then false else quotasGo r.quotas 4611686018427387904) else false
theorem quotaNums_cap (q : Quota) : quotaNums ⟨q.rooms, q.exits, q.items, q.mails, q.trades, 0⟩ = quotaNums q := rfl
theorem realmQuotas_ok (r : Realm) (hl : r.labels.length < 9223372036854775808) (h0 : 0 < r.labels.length) (hq : r.quotas.length < 9223372036854775808) (m : Mem) : fin 101 [.agg (r : Realm).cells] m = some (.bool (realmQuotas r), m) := by
  refine fn_of realm_quotas (by kernel_rfl) rfl rfl (by simp only [nx]) ?_ m; simp only [rx, reduceIte, zqa, zqb, zqc, zqd, zqe, zqf, zqg, zqh, zqi, zqj, zqk, zql, zqm, zqn, lim_call, realm_quotas, realmQuotas]
  repeat' ((with_reducible first | refine guardK_split (fun h => ?_) (fun h => ?_) | refine gdrawK_split (fun h => ?_) (fun h => ?_) | refine condK_split (fun h => ?_) (fun h => ?_)) <;>
    (have h' := h; (try simp only [sx, Int.not_le, Int.not_lt, Bool.and_eq_true] at h'); (try simp only [sxh] at h); (try have : 0 < r.quotas.length := by omega); simp only [rx, reduceIte, zqa, zqb, zqc, zqd, zqe, zqf, zqg, zqh, zqi, zqj, zqk, zql, zqm, zqn, lim_call, *]))
  refine wpK_rangeI r.quotas.length (fun i T m => ∃ left, quotasGo r.quotas 4611686018427387904 = quotasGo (r.quotas.drop i) left ∧ T 3 = .int .u64 left ∧ m = m0 ∧ T 1 = .iptr r.cells 0 ∧ T 23 = .sl .any (r.quotas.map Quota.cells)) hq (by decide) (by simp only [rx, reduceIte, zqa, zqb, zqc, zqd, zqe, zqf, zqg, zqh, zqi, zqj, zqk, zql, zqm, zqn, lim_call, *]) (by simp only [rx, reduceIte, zqa, zqb, zqc, zqd, zqe, zqf, zqg, zqh, zqi, zqj, zqk, zql, zqm, zqn, lim_call]) ⟨4611686018427387904, rfl, by simp only [rx, reduceIte, zqa, zqb, zqc, zqd, zqe, zqf, zqg, zqh, zqi, zqj, zqk, zql, zqm, zqn, lim_call], rfl, by simp only [rx, reduceIte, zqa, zqb, zqc, zqd, zqe, zqf, zqg, zqh, zqi, zqj, zqk, zql, zqm, zqn, lim_call], by simp only [rx, reduceIte, zqa, zqb, zqc, zqd, zqe, zqf, zqg, zqh, zqi, zqj, zqk, zql, zqm, zqn, lim_call]⟩ ?_ ?_
  · rintro i hi T m ⟨left, hgo, h3, rfl, h1, h23⟩ hn hk
    simp only [celld] at h1
    rw [drop_nth hi] at hgo
    simp only [quotasGo] at hgo
    simp only [rx, reduceIte, zqa, zqb, zqc, zqd, zqe, zqf, zqg, zqh, zqi, zqj, zqk, zql, zqm, zqn, lim_call, *, rxa, anyNums, numbers_r, quotaNums_cap]
    repeat' ((with_reducible first | refine guardK_split (fun h => ?_) (fun h => ?_) | refine gdrawK_split (fun h => ?_) (fun h => ?_) | refine condK_split (fun h => ?_) (fun h => ?_)) <;>
    (have h' := h; (try simp only [sx, Int.not_le, Int.not_lt, Bool.and_eq_true] at h'); (try simp only [sxh] at h); simp only [rx, reduceIte, zqa, zqb, zqc, zqd, zqe, zqf, zqg, zqh, zqi, zqj, zqk, zql, zqm, zqn, lim_call, *, anyNums, quotaNums_cap, numbers_r]))
    exact ⟨_, rfl, rfl⟩
  · rintro T m ⟨left, hgo, h3, rfl, h1, h23⟩ hn hk
    rw [List.drop_length] at hgo
    simp only [rx, reduceIte, zqa, zqb, zqc, zqd, zqe, zqf, zqg, zqh, zqi, zqj, zqk, zql, zqm, zqn, lim_call, *, quotasGo]
theorem realmQuotas_r (r_labels : List Lab) (r_lines : List Int) (r_accounts : List Account) (r_guilds : List Guild) (r_quotas : List Quota) (r_orders : Int) (r_audits : Int) (r_rate : Int) (r_rounds : Int) (hl : (⟨r_labels, r_lines, r_accounts, r_guilds, r_quotas, r_orders, r_audits, r_rate, r_rounds⟩ : Realm).labels.length < 9223372036854775808) (h0 : 0 < (⟨r_labels, r_lines, r_accounts, r_guilds, r_quotas, r_orders, r_audits, r_rate, r_rounds⟩ : Realm).labels.length) (hq : (⟨r_labels, r_lines, r_accounts, r_guilds, r_quotas, r_orders, r_audits, r_rate, r_rounds⟩ : Realm).quotas.length < 9223372036854775808) (m : Mem) : fin 101 [.agg [.sl .any (r_labels.map Lab.cells), .sl .any (r_lines.map icell), .sl .any (r_accounts.map Account.cells), .sl .any (r_guilds.map Guild.cells), .sl .any (r_quotas.map Quota.cells), .int .i64 r_orders, .int .i64 r_audits, .int .i64 r_rate, .int .i64 r_rounds]] m = some (.bool (realmQuotas (⟨r_labels, r_lines, r_accounts, r_guilds, r_quotas, r_orders, r_audits, r_rate, r_rounds⟩ : Realm)), m) := realmQuotas_ok ⟨r_labels, r_lines, r_accounts, r_guilds, r_quotas, r_orders, r_audits, r_rate, r_rounds⟩ hl h0 hq m
def realmRest (r : Realm) : Bool := within r.orders 0 24 && (within r.audits 0 48 && (within r.rate 1 4 && within r.rounds 1 16))
theorem realmRest_ok (r : Realm) (m : Mem) : fin 102 [.agg (r : Realm).cells] m = some (.bool (realmRest r), m) := by
  refine fn_of realm_rest (by kernel_rfl) rfl rfl (by simp only [nx]) ?_ m; simp only [rx, reduceIte, zqa, zqb, zqc, zqd, zqe, zqf, zqg, zqh, zqi, zqj, zqk, zql, zqm, zqn, lim_call, realm_rest, within_r, realmRest]
  have _ := @within_r; exact autoT
theorem realmRest_r (r_labels : List Lab) (r_lines : List Int) (r_accounts : List Account) (r_guilds : List Guild) (r_quotas : List Quota) (r_orders : Int) (r_audits : Int) (r_rate : Int) (r_rounds : Int) (m : Mem) : fin 102 [.agg [.sl .any (r_labels.map Lab.cells), .sl .any (r_lines.map icell), .sl .any (r_accounts.map Account.cells), .sl .any (r_guilds.map Guild.cells), .sl .any (r_quotas.map Quota.cells), .int .i64 r_orders, .int .i64 r_audits, .int .i64 r_rate, .int .i64 r_rounds]] m = some (.bool (realmRest (⟨r_labels, r_lines, r_accounts, r_guilds, r_quotas, r_orders, r_audits, r_rate, r_rounds⟩ : Realm)), m) := realmRest_ok ⟨r_labels, r_lines, r_accounts, r_guilds, r_quotas, r_orders, r_audits, r_rate, r_rounds⟩ m
def realmRight (r : Realm) : Bool := realmLabels r && (realmLines r && (realmAccounts r && (realmGuilds r && (realmQuotas r && realmRest r))))
def Realm.wf (r : Realm) : Prop := r.labels.length < 9223372036854775808 ∧ r.lines.length < 9223372036854775808 ∧ r.accounts.length < 9223372036854775808 ∧ r.guilds.length < 9223372036854775808 ∧ r.quotas.length < 9223372036854775808
def realmRule (r : Realm) : Nat → Bool
  | 0 => realmLabels r
  | 1 => realmLines r
  | 2 => realmAccounts r
  | 3 => realmGuilds r
  | 4 => realmQuotas r
  | _ => realmRest r
theorem realmLabels_pos {r : Realm} (h : realmLabels r = true) : 0 < r.labels.length := by
  simp only [realmLabels, within, Bool.and_eq_true, decide_eq_true_eq] at h
  omega
theorem realmRight_ok (r : Realm) (hw : r.wf) (m : Mem) : fin 42 [.agg (r : Realm).cells] m = some (.bool (realmRight r), m) := by
  have hw2 := hw
  simp only [Realm.wf] at hw2
  refine fn_of realm_Right (by kernel_rfl) rfl rfl (by simp only [nx]) ?_ m; simp only [rx, reduceIte, zqa, zqb, zqc, zqd, zqe, zqf, zqg, zqh, zqi, zqj, zqk, zql, zqm, zqn, lim_call, realm_Right]
  refine wpK_range 6 (fun i => [(1, .iptr r.cells 0), (5, .sl .exnn [[.fn 97 [] []], [.fn 98 [] []], [.fn 99 [] []], [.fn 100 [] []], [.fn 101 [] []], [.fn 102 [] []]])]) (fun i => m0) (fun i => ∀ j : Nat, j < i → realmRule r j = true) (by decide) (by decide) (by simp only [rx, reduceIte, zqa, zqb, zqc, zqd, zqe, zqf, zqg, zqh, zqi, zqj, zqk, zql, zqm, zqn, lim_call]) (by simp only [rx, reduceIte, zqa, zqb, zqc, zqd, zqe, zqf, zqg, zqh, zqi, zqj, zqk, zql, zqm, zqn, lim_call]) (by simp only [rx, reduceIte, zqa, zqb, zqc, zqd, zqe, zqf, zqg, zqh, zqi, zqj, zqk, zql, zqm, zqn, lim_call, holds_cons, holds_nil]) rfl (fun j hj => by omega) ?_ ?_
  · intro i hi hP T hS hn hk
    simp only [holds_cons, holds_nil, and_true, celld] at hS
    have hall : ∀ b : Bool, b = realmRule r i → (b = false → realmRight r = false) := by
      rintro b rfl hb
      have : i = 0 ∨ i = 1 ∨ i = 2 ∨ i = 3 ∨ i = 4 ∨ i = 5 := by omega
      rcases this with rfl | rfl | rfl | rfl | rfl | rfl <;> simp only [realmRule] at hb <;> simp [realmRight, hb]
    have hpos : 0 < i → 0 < r.labels.length := fun h => realmLabels_pos (hP 0 h)
    have hfit : fitSz 1 [[V.fn 97 [] []], [V.fn 98 [] []], [V.fn 99 [] []], [V.fn 100 [] []], [V.fn 101 [] []], [V.fn 102 [] []]] = true := rfl
    have : i = 0 ∨ i = 1 ∨ i = 2 ∨ i = 3 ∨ i = 4 ∨ i = 5 := by omega
    rcases this with rfl | rfl | rfl | rfl | rfl | rfl
    all_goals
      simp only [rx, reduceIte, zqa, zqb, zqc, zqd, zqe, zqf, zqg, zqh, zqi, zqj, zqk, zql, zqm, zqn, lim_call, *, realmLabels_r, realmLines_r, realmAccounts_r, realmGuilds_r, realmQuotas_r, realmRest_r]
      refine condK_split (fun h => ?_) (fun h => ?_)
      · simp only [Bool.not_eq_true'] at h
        simp only [rx, reduceIte, zqa, zqb, zqc, zqd, zqe, zqf, zqg, zqh, zqi, zqj, zqk, zql, zqm, zqn, lim_call, hall _ rfl h]
      · simp only [Bool.not_eq_false'] at h
        simp only [rx, reduceIte, zqa, zqb, zqc, zqd, zqe, zqf, zqg, zqh, zqi, zqj, zqk, zql, zqm, zqn, lim_call, *, holds_cons, holds_nil]
        exact all_succ hP h
  · intro hP T hS hn hk
    have h0 := hP 0 (by omega)
    have h1 := hP 1 (by omega)
    have h2 := hP 2 (by omega)
    have h3 := hP 3 (by omega)
    have h4 := hP 4 (by omega)
    have h5 := hP 5 (by omega)
    simp only [realmRule] at h0 h1 h2 h3 h4 h5
    simp only [rx, reduceIte, zqa, zqb, zqc, zqd, zqe, zqf, zqg, zqh, zqi, zqj, zqk, zql, zqm, zqn, lim_call, realmRight, *]
theorem realmRight_r (r_labels : List Lab) (r_lines : List Int) (r_accounts : List Account) (r_guilds : List Guild) (r_quotas : List Quota) (r_orders : Int) (r_audits : Int) (r_rate : Int) (r_rounds : Int) (hw : (⟨r_labels, r_lines, r_accounts, r_guilds, r_quotas, r_orders, r_audits, r_rate, r_rounds⟩ : Realm).wf) (m : Mem) : fin 42 [.agg [.sl .any (r_labels.map Lab.cells), .sl .any (r_lines.map icell), .sl .any (r_accounts.map Account.cells), .sl .any (r_guilds.map Guild.cells), .sl .any (r_quotas.map Quota.cells), .int .i64 r_orders, .int .i64 r_audits, .int .i64 r_rate, .int .i64 r_rounds]] m = some (.bool (realmRight (⟨r_labels, r_lines, r_accounts, r_guilds, r_quotas, r_orders, r_audits, r_rate, r_rounds⟩ : Realm)), m) := realmRight_ok ⟨r_labels, r_lines, r_accounts, r_guilds, r_quotas, r_orders, r_audits, r_rate, r_rounds⟩ hw m
end Go.Rx.Api

set_option linter.unusedSimpArgs false
set_option linter.unusedVariables false
set_option maxRecDepth 20000
namespace Go.Rx.Api
open Go.Rx
open Nat renaming reduceEqDiff → zqa, reduceAdd → zqb, reduceMul → zqc, reduceLeDiff → zqd, reduceBEq → zqe, reduceBNe → zqf, reduceSub → zqg, reduceLT → zqh
open Int renaming reduceLE → zqi, reduceLT → zqj, reduceToNat → zqk, reduceNeg → zql, reduceEq → zqm, reduceBEq → zqn
def trimR (c : Int) : Nat → ByteArray → ByteArray
  | 0, s => s
  | n + 1, s => if nth (bytesOf s) ((s.size : Int) - 1) = c then trimR c n (s.extract 0 (s.size - 1)) else s
def trimL (c : Int) : Nat → ByteArray → ByteArray
  | 0, s => s
  | n + 1, s => if nth (bytesOf s) 0 = c then trimL c n (s.extract 1 s.size) else s
theorem trimR_ok (s : ByteArray) (c : Int) (hs : s.size < 9223372036854775808) (m : Mem) : fin 251 [.str (s), .int .u8 (c)] m = some (.str (trimR c s.size s), m) := by
  refine fn_of strings_trimRightByte (by kernel_rfl) rfl rfl (by simp only [nx]) ?_ m; simp only [rx, reduceIte, zqa, zqb, zqc, zqd, zqe, zqf, zqg, zqh, zqi, zqj, zqk, zql, zqm, zqn, lim_call, strings_trimRightByte]
  refine wpK_iter s.size (fun i T m => ∃ q : ByteArray, T 0 = .str q ∧ m = m0 ∧ T 1 = .int .u8 c ∧ q.size + i = s.size ∧ trimR c s.size s = trimR c q.size q) ⟨s, by simp only [rx, reduceIte, zqa, zqb, zqc, zqd, zqe, zqf, zqg, zqh, zqi, zqj, zqk, zql, zqm, zqn, lim_call], rfl, by simp only [rx, reduceIte, zqa, zqb, zqc, zqd, zqe, zqf, zqg, zqh, zqi, zqj, zqk, zql, zqm, zqn, lim_call], rfl, rfl⟩ ?_
  rintro i T m' hi ⟨q, h0, rfl, h1, hq, he⟩
  simp only [rx, reduceIte, zqa, zqb, zqc, zqd, zqe, zqf, zqg, zqh, zqi, zqj, zqk, zql, zqm, zqn, lim_call, h0, h1]
  by_cases hz : q.size = 0
  · have hz2 : ¬ (0 < (q.size : Int)) := by omega
    have hr : trimR c q.size q = q := by rw [hz]; rfl
    simp only [rx, reduceIte, zqa, zqb, zqc, zqd, zqe, zqf, zqg, zqh, zqi, zqj, zqk, zql, zqm, zqn, lim_call, he, hr, h0, h1, hz2]
  · have hz2 : 0 < (q.size : Int) := by omega
    have hw : IntKind.i64.wrap ((q.size : Int) - 1) = (q.size : Int) - 1 := wrap_i64 (by omega) (by omega)
    have ha : 0 ≤ (q.size : Int) - 1 := by omega
    have hb : (q.size : Int) - 1 < q.size := by omega
    have hd : ((q.size : Int) - 1).toNat = q.size - 1 := by omega
    have hsz : (q.extract 0 (q.size - 1)).size = q.size - 1 := by rw [ByteArray.size_extract]; omega
    have hr : trimR c q.size q = if nth (bytesOf q) ((q.size : Int) - 1) = c then trimR c (q.size - 1) (q.extract 0 (q.size - 1)) else q := by
      obtain ⟨n, hn⟩ := Nat.exists_eq_succ_of_ne_zero hz
      conv => lhs; rw [hn]
      rw [show q.size - 1 = n by omega]
      simp only [trimR]
      rw [show q.size - 1 = n by omega]
    have hle : q.size - 1 ≤ q.size := by omega
    have hsl : sliceS (.str q) none (some (.int .i64 ((q.size : Int) - 1))) = some (.str (q.extract 0 (q.size - 1))) := by
      simp only [sliceS, low, bound, ha, if_true, Option.bind_some, hd, Nat.zero_le, hle, and_self]
    simp only [rx, reduceIte, zqa, zqb, zqc, zqd, zqe, zqf, zqg, zqh, zqi, zqj, zqk, zql, zqm, zqn, lim_call, he, h0, h1, hw, hz2, ha, hb, Option.map_none, Option.map_some, hsl]
    refine condK_split (fun h => ?_) (fun h => ?_)
    · simp only [sx] at h
      simp only [rx, reduceIte, zqa, zqb, zqc, zqd, zqe, zqf, zqg, zqh, zqi, zqj, zqk, zql, zqm, zqn, lim_call, he, h0, h1, hw, hz2, ha, hb, Option.map_none, Option.map_some, hsl]
      refine ⟨by omega, _, rfl, by omega, ?_⟩
      rw [hr, if_pos h, hsz]
    · simp only [sx] at h
      simp only [rx, reduceIte, zqa, zqb, zqc, zqd, zqe, zqf, zqg, zqh, zqi, zqj, zqk, zql, zqm, zqn, lim_call, he, h0, h1, hr, h]
theorem trimR_r (s : ByteArray) (c : Int) (hs : s.size < 9223372036854775808) (m : Mem) : fin 251 [.str (s), .int .u8 (c)] m = some (.str (trimR c s.size s), m) := trimR_ok s c hs m
theorem trimL_ok (s : ByteArray) (c : Int) (hs : s.size < 9223372036854775808) (m : Mem) : fin 252 [.str (s), .int .u8 (c)] m = some (.str (trimL c s.size s), m) := by
  refine fn_of strings_trimLeftByte (by kernel_rfl) rfl rfl (by simp only [nx]) ?_ m; simp only [rx, reduceIte, zqa, zqb, zqc, zqd, zqe, zqf, zqg, zqh, zqi, zqj, zqk, zql, zqm, zqn, lim_call, strings_trimLeftByte]
  refine wpK_iter s.size (fun i T m => ∃ q : ByteArray, T 0 = .str q ∧ m = m0 ∧ T 1 = .int .u8 c ∧ q.size + i = s.size ∧ trimL c s.size s = trimL c q.size q) ⟨s, by simp only [rx, reduceIte, zqa, zqb, zqc, zqd, zqe, zqf, zqg, zqh, zqi, zqj, zqk, zql, zqm, zqn, lim_call], rfl, by simp only [rx, reduceIte, zqa, zqb, zqc, zqd, zqe, zqf, zqg, zqh, zqi, zqj, zqk, zql, zqm, zqn, lim_call], rfl, rfl⟩ ?_
  rintro i T m' hi ⟨q, h0, rfl, h1, hq, he⟩
  simp only [rx, reduceIte, zqa, zqb, zqc, zqd, zqe, zqf, zqg, zqh, zqi, zqj, zqk, zql, zqm, zqn, lim_call, h0, h1]
  by_cases hz : q.size = 0
  · have hz2 : ¬ (0 < (q.size : Int)) := by omega
    have hr : trimL c q.size q = q := by rw [hz]; rfl
    simp only [rx, reduceIte, zqa, zqb, zqc, zqd, zqe, zqf, zqg, zqh, zqi, zqj, zqk, zql, zqm, zqn, lim_call, he, hr, h0, h1, hz2]
  · have hz2 : 0 < (q.size : Int) := by omega
    have hz3 : 0 < q.size := by omega
    have hsz : (q.extract 1 q.size).size = q.size - 1 := by rw [ByteArray.size_extract]; omega
    have hr : trimL c q.size q = if nth (bytesOf q) 0 = c then trimL c (q.size - 1) (q.extract 1 q.size) else q := by
      obtain ⟨n, hn⟩ := Nat.exists_eq_succ_of_ne_zero hz
      conv => lhs; rw [hn]
      rw [show q.size - 1 = n by omega]
      rfl
    have hle : 1 ≤ q.size := by omega
    have hsl : sliceS (.str q) (some (.int .i64 1)) none = some (.str (q.extract 1 q.size)) := by
      simp only [sliceS, low, bound, Option.bind_some, show (0 : Int) ≤ 1 by decide, if_true, show (1 : Int).toNat = 1 from rfl, Nat.le_refl, hle, and_self]
    simp only [rx, reduceIte, zqa, zqb, zqc, zqd, zqe, zqf, zqg, zqh, zqi, zqj, zqk, zql, zqm, zqn, lim_call, he, h0, h1, hz2, hz3, Option.map_none, Option.map_some, hsl]
    refine condK_split (fun h => ?_) (fun h => ?_)
    · simp only [sx] at h
      simp only [rx, reduceIte, zqa, zqb, zqc, zqd, zqe, zqf, zqg, zqh, zqi, zqj, zqk, zql, zqm, zqn, lim_call, he, h0, h1, hz2, hz3, Option.map_none, Option.map_some, hsl]
      refine ⟨by omega, _, rfl, by omega, ?_⟩
      rw [hr, if_pos h, hsz]
    · simp only [sx] at h
      simp only [rx, reduceIte, zqa, zqb, zqc, zqd, zqe, zqf, zqg, zqh, zqi, zqj, zqk, zql, zqm, zqn, lim_call, he, h0, h1, hr, h]
theorem trimL_r (s : ByteArray) (c : Int) (hs : s.size < 9223372036854775808) (m : Mem) : fin 252 [.str (s), .int .u8 (c)] m = some (.str (trimL c s.size s), m) := trimL_ok s c hs m
def trim (s : ByteArray) : ByteArray := if s.toList == (⟨#[]⟩ : ByteArray).toList then s else trimL 32 (trimR 32 s.size s).size (trimR 32 s.size s)
theorem trimR_size (c : Int) : ∀ (n : Nat) (s : ByteArray), (trimR c n s).size ≤ s.size
  | 0, s => Nat.le_refl _
  | n + 1, s => by
    simp only [trimR]
    split
    · refine Nat.le_trans (trimR_size c n _) ?_
      rw [ByteArray.size_extract]; omega
    · exact Nat.le_refl _
theorem blank_at : nth (bytesOf (⟨#[32]⟩ : ByteArray)) 0 = 32 := rfl
theorem trim_ok (s : ByteArray) (hs : s.size < 9223372036854775808) (m : Mem) : fin 241 [.str (s), .str ⟨#[32]⟩] m = some (.str (trim s), m) := by
  have h1 : ((⟨#[32]⟩ : ByteArray).toList == (⟨#[]⟩ : ByteArray).toList) = false := by decide +kernel
  have h2 : (⟨#[32]⟩ : ByteArray).size = 1 := rfl
  have h3 : 0 < (⟨#[32]⟩ : ByteArray).size := by decide
  have hr := trimR_size 32 s.size s
  have hr2 : (trimR 32 s.size s).size < 9223372036854775808 := by omega
  have h4 : (#[32] : Array UInt8).toList[0]? = some 32 := rfl
  have h5 : ((32 : UInt8).toNat : Int) = 32 := rfl
  refine fn_of strings_Trim (by kernel_rfl) rfl rfl (by simp only [nx]) ?_ m; simp only [rx, reduceIte, zqa, zqb, zqc, zqd, zqe, zqf, zqg, zqh, zqi, zqj, zqk, zql, zqm, zqn, lim_call, strings_Trim, trimR_r, trimL_r, trim, h1, h2, h3, blank_at]
  refine guardK_split (fun h => ?_) (fun h => ?_)
  · simp only [rx, reduceIte, zqa, zqb, zqc, zqd, zqe, zqf, zqg, zqh, zqi, zqj, zqk, zql, zqm, zqn, lim_call, trimR_r, trimL_r, h, h1, h2, h3, h4, h5, blank_at, hs, hr2]
  · simp only [rx, reduceIte, zqa, zqb, zqc, zqd, zqe, zqf, zqg, zqh, zqi, zqj, zqk, zql, zqm, zqn, lim_call, trimR_r, trimL_r, h, h1, h2, h3, h4, h5, blank_at, hs, hr2]
theorem trim_r (s : ByteArray) (hs : s.size < 9223372036854775808) (m : Mem) : fin 241 [.str (s), .str ⟨#[32]⟩] m = some (.str (trim s), m) := trim_ok s hs m
def nameText (s : ByteArray) : Bool := decide (1 ≤ (s.size : Int)) && (decide ((s.size : Int) ≤ 40) && ((bytesOf s).all plain && (trim s).toList == s.toList))
theorem nameText_ok (s : ByteArray) (m : Mem) : fin 227 [.str (s)] m = some (.bool (nameText s), m) := by
  have hx : (s.size : Int) ≤ 40 → ∀ m, fin 212 [.str s, .fn 240 [] []] m = _ := fun _ m => nameAll_ok s 240 [] [] plain (by omega) (fun _ => rfl) (fun _ => rfl) (fun x m => plain_ok x m) m
  have hy : (s.size : Int) ≤ 40 → ∀ m, fin 241 [.str s, .str ⟨#[32]⟩] m = _ := fun _ m => trim_ok s (by omega) m
  refine fn_of name_Text (by kernel_rfl) rfl rfl (by simp only [nx]) ?_ m; simp only [rx, reduceIte, zqa, zqb, zqc, zqd, zqe, zqf, zqg, zqh, zqi, zqj, zqk, zql, zqm, zqn, lim_call, name_Text, trim_r, nameText]
  have _ := @trim_r; exact autoT
theorem nameText_r (s : ByteArray) (m : Mem) : fin 227 [.str (s)] m = some (.bool (nameText s), m) := nameText_ok s m
end Go.Rx.Api

set_option linter.unusedSimpArgs false
set_option linter.unusedVariables false
set_option maxRecDepth 20000
namespace Go.Rx.Api
open Go.Rx
open Nat renaming reduceEqDiff → zqa, reduceAdd → zqb, reduceMul → zqc, reduceLeDiff → zqd, reduceBEq → zqe, reduceBNe → zqf, reduceSub → zqg, reduceLT → zqh
open Int renaming reduceLE → zqi, reduceLT → zqj, reduceToNat → zqk, reduceNeg → zql, reduceEq → zqm, reduceBEq → zqn
def noText : ByteArray := ⟨#[]⟩
def roomWrong (x : Room) : Bool := (x.used && !nameRight x.name) || (!x.used && !(x.name.toList == noText.toList))
theorem roomWrong_ok (x : Room) (m : Mem) : fin 186 [.agg (x : Room).cells] m = some (.bool (roomWrong x), m) := by
  refine fn_of room_Rooms_1 (by kernel_rfl) rfl rfl (by simp only [nx]) ?_ m; simp only [rx, reduceIte, zqa, zqb, zqc, zqd, zqe, zqf, zqg, zqh, zqi, zqj, zqk, zql, zqm, zqn, lim_call, room_Rooms_1, nameRight_r, roomWrong, noText]
  have _ := @nameRight_r; exact autoT
def roomRooms (l : List Room) : Bool := !l.any roomWrong
theorem roomRooms_ok (l : List Room) (hl : l.length < 9223372036854775808) (m : Mem) : fin 105 [.sl .any ((l).map Room.cells)] m = some (.bool (roomRooms l), m) := by
  have hx := any_Room_ok l 186 [] [] roomWrong hl (fun _ => rfl) (fun _ => rfl) (fun x _ m => roomWrong_ok x m)
  refine fn_of room_Rooms (by kernel_rfl) rfl rfl (by simp only [nx]) ?_ m; simp only [rx, reduceIte, zqa, zqb, zqc, zqd, zqe, zqf, zqg, zqh, zqi, zqj, zqk, zql, zqm, zqn, lim_call, room_Rooms, hx, roomRooms]
theorem roomRooms_r (l : List Room) (hl : l.length < 9223372036854775808) (m : Mem) : fin 105 [.sl .any ((l).map Room.cells)] m = some (.bool (roomRooms l), m) := roomRooms_ok l hl m
def isRef (a : Ref) : Bool := decide (0 ≤ a.label) && (decide (a.label ≤ 127) && (decide (0 ≤ a.slot) && decide (a.slot ≤ 127)))
theorem isRef_ok (a : Ref) (m : Mem) : fin 223 [.agg (a : Ref).cells] m = some (.bool (isRef a), m) := by
  refine fn_of room_isRef (by kernel_rfl) rfl rfl (by simp only [nx]) ?_ m; simp only [rx, reduceIte, zqa, zqb, zqc, zqd, zqe, zqf, zqg, zqh, zqi, zqj, zqk, zql, zqm, zqn, lim_call, room_isRef, isRef]
  exact autoT
theorem isRef_r (a_label : Int) (a_slot : Int) (m : Mem) : fin 223 [.agg [.int .i64 a_label, .int .i64 a_slot]] m = some (.bool (isRef (⟨a_label, a_slot⟩ : Ref)), m) := isRef_ok ⟨a_label, a_slot⟩ m
def isDir (d : Int) : Bool := decide (0 ≤ d) && decide (d < 6)
theorem isDir_ok (d : Int) (m : Mem) : fin 224 [.int .i64 (d)] m = some (.bool (isDir d), m) := by
  refine fn_of room_isDir (by kernel_rfl) rfl rfl (by simp only [nx]) ?_ m; simp only [rx, reduceIte, zqa, zqb, zqc, zqd, zqe, zqf, zqg, zqh, zqi, zqj, zqk, zql, zqm, zqn, lim_call, room_isDir, isDir]
  exact autoT
theorem isDir_r (d : Int) (m : Mem) : fin 224 [.int .i64 (d)] m = some (.bool (isDir d), m) := isDir_ok d m
def noExit : Exit := ⟨false, ⟨0, 0⟩, ⟨0, 0⟩, 0⟩
def exitWrong (x : Exit) : Bool := if x.used = true then !isRef x.from_ || (!isRef x.to_ || !isDir x.dir) else !x.eqb noExit
theorem exitWrong_ok (x : Exit) (m : Mem) : fin 187 [.agg (x : Exit).cells] m = some (.bool (exitWrong x), m) := by
  refine fn_of room_wrong (by kernel_rfl) rfl rfl (by simp only [nx]) ?_ m; simp only [rx, reduceIte, zqa, zqb, zqc, zqd, zqe, zqf, zqg, zqh, zqi, zqj, zqk, zql, zqm, zqn, lim_call, room_wrong, isRef_r, isDir_r, exitWrong, noExit, Exit.eqb]
  have _ := @isRef_r; have _ := @isDir_r; exact autoT
theorem exitWrong_r (x_used : Bool) (x_from__label : Int) (x_from__slot : Int) (x_to__label : Int) (x_to__slot : Int) (x_dir : Int) (m : Mem) : fin 187 [.agg [.bool x_used, .int .i64 x_from__label, .int .i64 x_from__slot, .int .i64 x_to__label, .int .i64 x_to__slot, .int .i64 x_dir]] m = some (.bool (exitWrong (⟨x_used, ⟨x_from__label, x_from__slot⟩, ⟨x_to__label, x_to__slot⟩, x_dir⟩ : Exit)), m) := exitWrong_ok ⟨x_used, ⟨x_from__label, x_from__slot⟩, ⟨x_to__label, x_to__slot⟩, x_dir⟩ m
def isExit (a : Ref) (d : Int) (x : Exit) : Bool := x.used && (x.from_.eqb a && x.dir == d)
theorem isExit_ok (x : Exit) (a : Ref) (d : Int) (m : Mem) : fin 225 [.agg (x : Exit).cells, .iptr (Ref.cells a) 0, .iptr [.int .i64 d] 0] m = some (.bool (isExit a d x), m) := by
  refine fn_of room_index_1 (by kernel_rfl) rfl rfl (by simp only [nx]) ?_ m; simp only [rx, reduceIte, zqa, zqb, zqc, zqd, zqe, zqf, zqg, zqh, zqi, zqj, zqk, zql, zqm, zqn, lim_call, room_index_1, isExit, Ref.eqb]
  exact autoT
def roomIndex (l : List Exit) (a : Ref) (d : Int) : Int := idxOf l (isExit a d)
theorem roomIndex_ok (l : List Exit) (a : Ref) (d : Int) (hl : l.length < 9223372036854775808) (m : Mem) : fin 188 [.sl .any ((l).map Exit.cells), .agg (a : Ref).cells, .int .i64 (d)] m = some (.int .i64 (roomIndex l a d), m) := by
  have hx := idx_Exit_ok l 225 [] [.iptr a.cells 0, .iptr [.int .i64 d] 0] (isExit a d) hl (fun _ => rfl) (fun n => by simp only [nx]) (fun x _ m => isExit_ok x a d m)
  simp only [celld] at hx
  refine fn_of room_index (by kernel_rfl) rfl rfl (by simp only [nx]) ?_ m; simp only [rx, reduceIte, zqa, zqb, zqc, zqd, zqe, zqf, zqg, zqh, zqi, zqj, zqk, zql, zqm, zqn, lim_call, room_index, hx, roomIndex]
theorem roomIndex_r (l : List Exit) (a_label : Int) (a_slot : Int) (d : Int) (hl : l.length < 9223372036854775808) (m : Mem) : fin 188 [.sl .any ((l).map Exit.cells), .agg [.int .i64 a_label, .int .i64 a_slot], .int .i64 (d)] m = some (.int .i64 (roomIndex l (⟨a_label, a_slot⟩ : Ref) d), m) := roomIndex_ok l ⟨a_label, a_slot⟩ d hl m
def exitOk (l : List Exit) (i : Nat) : Bool := !(exitWrong (nth l i) || ((nth l i).used && !(roomIndex l (nth l i).from_ (nth l i).dir == (i : Int))))
def roomExits (l : List Exit) : Bool := allN l.length (exitOk l)
theorem roomExits_ok (l : List Exit) (hl : l.length < 9223372036854775808) (m : Mem) : fin 106 [.sl .any ((l).map Exit.cells)] m = some (.bool (roomExits l), m) := by
  refine fn_of room_Exits (by kernel_rfl) rfl rfl (by simp only [nx]) ?_ m; simp only [rx, reduceIte, zqa, zqb, zqc, zqd, zqe, zqf, zqg, zqh, zqi, zqj, zqk, zql, zqm, zqn, lim_call, room_Exits, exitWrong_r, roomIndex_r]
  refine wpK_range l.length (fun i => [(0, .sl .any (l.map Exit.cells)), (5, .sl .any (l.map Exit.cells))]) (fun i => m0) (fun i => ∀ j : Nat, j < i → exitOk l j = true) hl (by decide) (by simp only [rx, reduceIte, zqa, zqb, zqc, zqd, zqe, zqf, zqg, zqh, zqi, zqj, zqk, zql, zqm, zqn, lim_call]) (by simp only [rx, reduceIte, zqa, zqb, zqc, zqd, zqe, zqf, zqg, zqh, zqi, zqj, zqk, zql, zqm, zqn, lim_call]) (by simp only [rx, reduceIte, zqa, zqb, zqc, zqd, zqe, zqf, zqg, zqh, zqi, zqj, zqk, zql, zqm, zqn, lim_call, holds_cons, holds_nil]) rfl (fun j hj => by omega) ?_ ?_
  · intro i hi hP T hS hn hk
    simp only [holds_cons, holds_nil, and_true] at hS
    have hf : exitOk l i = false → roomExits l = false := fun h => allN_false hi h
    simp only [rx, reduceIte, zqa, zqb, zqc, zqd, zqe, zqf, zqg, zqh, zqi, zqj, zqk, zql, zqm, zqn, lim_call, *, exitWrong_r, roomIndex_r]
    cases h1 : exitWrong (nth l i) <;> cases h2 : (nth l i).used <;> cases h3 : (roomIndex l (nth l i).from_ (nth l i).dir == (i : Int))
    all_goals
      simp only [exitOk, h1, h2, h3, rxc, forall_const, false_implies] at hf
      simp only [rx, reduceIte, zqa, zqb, zqc, zqd, zqe, zqf, zqg, zqh, zqi, zqj, zqk, zql, zqm, zqn, lim_call, *, exitWrong_r, roomIndex_r, holds_cons, holds_nil]
    all_goals exact all_succ hP (by simp only [exitOk, h1, h2, h3, rxc])
  · intro hP T hS hn hk
    simp only [rx, reduceIte, zqa, zqb, zqc, zqd, zqe, zqf, zqg, zqh, zqi, zqj, zqk, zql, zqm, zqn, lim_call, roomExits, allN_true hP]
theorem roomExits_r (l : List Exit) (hl : l.length < 9223372036854775808) (m : Mem) : fin 106 [.sl .any ((l).map Exit.cells)] m = some (.bool (roomExits l), m) := roomExits_ok l hl m
def isNum (n : Int) : Bool := decide (0 ≤ n) && decide (n ≤ 127)
theorem postIs_ok (n : Int) (m : Mem) : fin 239 [.int .i64 (n)] m = some (.bool (isNum n), m) := by
  refine fn_of post_is (by kernel_rfl) rfl rfl (by simp only [nx]) ?_ m; simp only [rx, reduceIte, zqa, zqb, zqc, zqd, zqe, zqf, zqg, zqh, zqi, zqj, zqk, zql, zqm, zqn, lim_call, post_is, isNum]
  exact autoT
theorem postIs_r (n : Int) (m : Mem) : fin 239 [.int .i64 (n)] m = some (.bool (isNum n), m) := postIs_ok n m
theorem tradeIs_ok (n : Int) (m : Mem) : fin 242 [.int .i64 (n)] m = some (.bool (isNum n), m) := by
  refine fn_of trade_is (by kernel_rfl) rfl rfl (by simp only [nx]) ?_ m; simp only [rx, reduceIte, zqa, zqb, zqc, zqd, zqe, zqf, zqg, zqh, zqi, zqj, zqk, zql, zqm, zqn, lim_call, trade_is, isNum]
  exact autoT
theorem tradeIs_r (n : Int) (m : Mem) : fin 242 [.int .i64 (n)] m = some (.bool (isNum n), m) := tradeIs_ok n m
theorem bookIs_ok (n : Int) (m : Mem) : fin 194 [.int .i64 (n)] m = some (.bool (isNum n), m) := by
  refine fn_of book_is (by kernel_rfl) rfl rfl (by simp only [nx]) ?_ m; simp only [rx, reduceIte, zqa, zqb, zqc, zqd, zqe, zqf, zqg, zqh, zqi, zqj, zqk, zql, zqm, zqn, lim_call, book_is, isNum]
  exact autoT
theorem bookIs_r (n : Int) (m : Mem) : fin 194 [.int .i64 (n)] m = some (.bool (isNum n), m) := bookIs_ok n m
theorem auditIs_ok (n : Int) (m : Mem) : fin 195 [.int .i64 (n)] m = some (.bool (isNum n), m) := by
  refine fn_of audit_is (by kernel_rfl) rfl rfl (by simp only [nx]) ?_ m; simp only [rx, reduceIte, zqa, zqb, zqc, zqd, zqe, zqf, zqg, zqh, zqi, zqj, zqk, zql, zqm, zqn, lim_call, audit_is, isNum]
  exact autoT
theorem auditIs_r (n : Int) (m : Mem) : fin 195 [.int .i64 (n)] m = some (.bool (isNum n), m) := auditIs_ok n m
def mailNums (x : Mail) : Bool := isNum x.label && (isNum x.from_ && isNum x.to_)
theorem mailNums_ok (x : Mail) (m : Mem) : fin 226 [.agg (x : Mail).cells] m = some (.bool (mailNums x), m) := by
  refine fn_of post_numbers (by kernel_rfl) rfl rfl (by simp only [nx]) ?_ m; simp only [rx, reduceIte, zqa, zqb, zqc, zqd, zqe, zqf, zqg, zqh, zqi, zqj, zqk, zql, zqm, zqn, lim_call, post_numbers, postIs_r, mailNums]
  have _ := @postIs_r; exact autoT
theorem mailNums_r (x_used : Bool) (x_label : Int) (x_from_ : Int) (x_to_ : Int) (x_text : ByteArray) (m : Mem) : fin 226 [.agg [.bool x_used, .int .i64 x_label, .int .i64 x_from_, .int .i64 x_to_, .str x_text]] m = some (.bool (mailNums (⟨x_used, x_label, x_from_, x_to_, x_text⟩ : Mail)), m) := mailNums_ok ⟨x_used, x_label, x_from_, x_to_, x_text⟩ m
def noMail : Mail := ⟨false, 0, 0, 0, ⟨#[]⟩⟩
def mailWrong (x : Mail) : Bool := if x.used = true then !mailNums x || !nameText x.text else !x.eqb noMail
theorem mailWrong_ok (x : Mail) (m : Mem) : fin 190 [.agg (x : Mail).cells] m = some (.bool (mailWrong x), m) := by
  obtain ⟨u, a, b, c, t⟩ := x
  refine fn_of post_wrong (by kernel_rfl) rfl rfl (by simp only [nx]) ?_ m; simp only [rx, reduceIte, zqa, zqb, zqc, zqd, zqe, zqf, zqg, zqh, zqi, zqj, zqk, zql, zqm, zqn, lim_call, post_wrong, mailNums_r, nameText_r, mailWrong, noMail, Mail.eqb]
  have _ := @mailNums_r; have _ := @nameText_r; exact autoT
def postRight (l : List Mail) : Bool := !l.any mailWrong
theorem postRight_ok (l : List Mail) (hl : l.length < 9223372036854775808) (m : Mem) : fin 108 [.sl .any ((l).map Mail.cells)] m = some (.bool (postRight l), m) := by
  have hx := any_Mail_ok l 190 [] [] mailWrong hl (fun _ => rfl) (fun _ => rfl) (fun x _ m => mailWrong_ok x m)
  refine fn_of post_Right (by kernel_rfl) rfl rfl (by simp only [nx]) ?_ m; simp only [rx, reduceIte, zqa, zqb, zqc, zqd, zqe, zqf, zqg, zqh, zqi, zqj, zqk, zql, zqm, zqn, lim_call, post_Right, hx, postRight]
theorem postRight_r (l : List Mail) (hl : l.length < 9223372036854775808) (m : Mem) : fin 108 [.sl .any ((l).map Mail.cells)] m = some (.bool (postRight l), m) := postRight_ok l hl m
def coinRight (c : Int) : Bool := decide (0 ≤ c) && decide (c < 4)
theorem coinRight_ok (c : Int) (m : Mem) : fin 136 [.int .i64 (c)] m = some (.bool (coinRight c), m) := by
  refine fn_of coin_Right (by kernel_rfl) rfl rfl (by simp only [nx]) ?_ m; simp only [rx, reduceIte, zqa, zqb, zqc, zqd, zqe, zqf, zqg, zqh, zqi, zqj, zqk, zql, zqm, zqn, lim_call, coin_Right, coinRight]
  exact autoT
theorem coinRight_r (c : Int) (m : Mem) : fin 136 [.int .i64 (c)] m = some (.bool (coinRight c), m) := coinRight_ok c m
def partMay (p : Part) : Bool := coinRight p.coin && (decide (p.amount ≤ 4611686018427387904) && (p.item == -1 || isNum p.item))
theorem partMay_ok (p : Part) (m : Mem) : fin 243 [.agg (p : Part).cells] m = some (.bool (partMay p), m) := by
  refine fn_of trade_May (by kernel_rfl) rfl rfl (by simp only [nx]) ?_ m; simp only [rx, reduceIte, zqa, zqb, zqc, zqd, zqe, zqf, zqg, zqh, zqi, zqj, zqk, zql, zqm, zqn, lim_call, trade_May, coinRight_r, tradeIs_r, partMay]
  have _ := @coinRight_r; have _ := @tradeIs_r; exact autoT
theorem partMay_r (p_coin : Int) (p_amount : Int) (p_item : Int) (m : Mem) : fin 243 [.agg [.int .i64 p_coin, .int .u64 p_amount, .int .i64 p_item]] m = some (.bool (partMay (⟨p_coin, p_amount, p_item⟩ : Part)), m) := partMay_ok ⟨p_coin, p_amount, p_item⟩ m
def partBare (p : Part) : Bool := p.amount == 0 && p.item == -1
theorem partBare_ok (p : Part) (m : Mem) : fin 244 [.agg (p : Part).cells] m = some (.bool (partBare p), m) := by
  refine fn_of trade_bare (by kernel_rfl) rfl rfl (by simp only [nx]) ?_ m; simp only [rx, reduceIte, zqa, zqb, zqc, zqd, zqe, zqf, zqg, zqh, zqi, zqj, zqk, zql, zqm, zqn, lim_call, trade_bare, partBare]
theorem partBare_r (p_coin : Int) (p_amount : Int) (p_item : Int) (m : Mem) : fin 244 [.agg [.int .i64 p_coin, .int .u64 p_amount, .int .i64 p_item]] m = some (.bool (partBare (⟨p_coin, p_amount, p_item⟩ : Part)), m) := partBare_ok ⟨p_coin, p_amount, p_item⟩ m
def tradeMay (t : Trade) : Bool := isNum t.a && (isNum t.b && (!(t.a == t.b) && (partMay t.give && (partMay t.want && !(partBare t.give && partBare t.want)))))
theorem tradeMay_ok (t : Trade) (m : Mem) : fin 228 [.agg (t : Trade).cells] m = some (.bool (tradeMay t), m) := by
  refine fn_of trade_may (by kernel_rfl) rfl rfl (by simp only [nx]) ?_ m; simp only [rx, reduceIte, zqa, zqb, zqc, zqd, zqe, zqf, zqg, zqh, zqi, zqj, zqk, zql, zqm, zqn, lim_call, trade_may, tradeIs_r, partMay_r, partBare_r, tradeMay]
  have _ := @tradeIs_r; have _ := @partMay_r; have _ := @partBare_r; exact autoT
theorem tradeMay_r (t_used : Bool) (t_a : Int) (t_b : Int) (t_give_coin : Int) (t_give_amount : Int) (t_give_item : Int) (t_want_coin : Int) (t_want_amount : Int) (t_want_item : Int) (m : Mem) : fin 228 [.agg [.bool t_used, .int .i64 t_a, .int .i64 t_b, .int .i64 t_give_coin, .int .u64 t_give_amount, .int .i64 t_give_item, .int .i64 t_want_coin, .int .u64 t_want_amount, .int .i64 t_want_item]] m = some (.bool (tradeMay (⟨t_used, t_a, t_b, ⟨t_give_coin, t_give_amount, t_give_item⟩, ⟨t_want_coin, t_want_amount, t_want_item⟩⟩ : Trade)), m) := tradeMay_ok ⟨t_used, t_a, t_b, ⟨t_give_coin, t_give_amount, t_give_item⟩, ⟨t_want_coin, t_want_amount, t_want_item⟩⟩ m
def noTrade : Trade := ⟨false, 0, 0, ⟨0, 0, 0⟩, ⟨0, 0, 0⟩⟩
def tradeWrong (t : Trade) : Bool := if t.used = true then !tradeMay t else !t.eqb noTrade
theorem tradeWrong_ok (t : Trade) (m : Mem) : fin 191 [.agg (t : Trade).cells] m = some (.bool (tradeWrong t), m) := by
  obtain ⟨u, a, b, g, w⟩ := t
  refine fn_of trade_Right_1 (by kernel_rfl) rfl rfl (by simp only [nx]) ?_ m; simp only [rx, reduceIte, zqa, zqb, zqc, zqd, zqe, zqf, zqg, zqh, zqi, zqj, zqk, zql, zqm, zqn, lim_call, trade_Right_1, tradeMay_r, tradeWrong, noTrade, Trade.eqb]
  have _ := @tradeMay_r; exact autoT
def tradeRight (l : List Trade) : Bool := !l.any tradeWrong
theorem tradeRight_ok (l : List Trade) (hl : l.length < 9223372036854775808) (m : Mem) : fin 109 [.sl .any ((l).map Trade.cells)] m = some (.bool (tradeRight l), m) := by
  have hx := any_Trade_ok l 191 [] [] tradeWrong hl (fun _ => rfl) (fun _ => rfl) (fun x _ m => tradeWrong_ok x m)
  refine fn_of trade_Right (by kernel_rfl) rfl rfl (by simp only [nx]) ?_ m; simp only [rx, reduceIte, zqa, zqb, zqc, zqd, zqe, zqf, zqg, zqh, zqi, zqj, zqk, zql, zqm, zqn, lim_call, trade_Right, hx, tradeRight]
theorem tradeRight_r (l : List Trade) (hl : l.length < 9223372036854775808) (m : Mem) : fin 109 [.sl .any ((l).map Trade.cells)] m = some (.bool (tradeRight l), m) := tradeRight_ok l hl m
end Go.Rx.Api

set_option linter.unusedSimpArgs false
set_option linter.unusedVariables false
set_option maxRecDepth 20000
namespace Go.Rx.Api
open Go.Rx
open Nat renaming reduceEqDiff → zqa, reduceAdd → zqb, reduceMul → zqc, reduceLeDiff → zqd, reduceBEq → zqe, reduceBNe → zqf, reduceSub → zqg, reduceLT → zqh
open Int renaming reduceLE → zqi, reduceLT → zqj, reduceToNat → zqk, reduceNeg → zql, reduceEq → zqm, reduceBEq → zqn
def coinPlus (a b : Int) : Int × Int := if a.toNat + b.toNat ≤ 4611686018427387904 then (((a.toNat + b.toNat : Nat) : Int), 0) else (0, 7)
theorem coinPlus_ok (a : Int) (b : Int) (m : Mem) : fin 209 [.int .u64 (a), .int .u64 (b)] m = some (.tup [.int .u64 ((coinPlus a b).1), .int .i64 ((coinPlus a b).2)], m) := by
  refine fn_of coin_Plus (by kernel_rfl) rfl rfl (by simp only [nx]) ?_ m; simp only [rx, reduceIte, zqa, zqb, zqc, zqd, zqe, zqf, zqg, zqh, zqi, zqj, zqk, zql, zqm, zqn, lim_call, coin_Plus, coinPlus]
  generalize a.toNat + b.toNat = S
  by_cases hc : S < 2 ^ 64
  · have q : S / 2 ^ 64 = 0 := Nat.div_eq_of_lt hc
    have r : S % 2 ^ 64 = S := Nat.mod_eq_of_lt hc
    simp only [rx, reduceIte, zqa, zqb, zqc, zqd, zqe, zqf, zqg, zqh, zqi, zqj, zqk, zql, zqm, zqn, lim_call, q, r]
    by_cases h : S ≤ 4611686018427387904
    · have h2 : ¬ (4611686018427387904 < (S : Int)) := by omega
      simp only [rx, reduceIte, zqa, zqb, zqc, zqd, zqe, zqf, zqg, zqh, zqi, zqj, zqk, zql, zqm, zqn, lim_call, h, h2]
    · have h2 : 4611686018427387904 < (S : Int) := by omega
      simp only [rx, reduceIte, zqa, zqb, zqc, zqd, zqe, zqf, zqg, zqh, zqi, zqj, zqk, zql, zqm, zqn, lim_call, h, h2]
  · have hq : (((S / 2 ^ 64 : Nat) : Int) == 0) = false := by
      rw [beq_eq_false_iff_ne]
      intro h
      have : S / 2 ^ 64 = 0 := by omega
      rw [Nat.div_eq_zero_iff] at this
      omega
    have h : ¬ S ≤ 4611686018427387904 := fun h => hc (Nat.lt_of_le_of_lt h (by decide))
    simp only [rx, reduceIte, zqa, zqb, zqc, zqd, zqe, zqf, zqg, zqh, zqi, zqj, zqk, zql, zqm, zqn, lim_call, h, hq]
theorem coinPlus_r (a : Int) (b : Int) (m : Mem) : fin 209 [.int .u64 (a), .int .u64 (b)] m = some (.tup [.int .u64 ((coinPlus a b).1), .int .i64 ((coinPlus a b).2)], m) := coinPlus_ok a b m
def coinMinus (a b : Int) : Int × Int := if a.toNat < b.toNat then (0, 6) else ((((a.toNat + 2 ^ 64 - b.toNat) % 2 ^ 64 : Nat) : Int), 0)
theorem coinMinus_ok (a : Int) (b : Int) (m : Mem) : fin 143 [.int .u64 (a), .int .u64 (b)] m = some (.tup [.int .u64 ((coinMinus a b).1), .int .i64 ((coinMinus a b).2)], m) := by
  refine fn_of coin_Minus (by kernel_rfl) rfl rfl (by simp only [nx]) ?_ m; simp only [rx, reduceIte, zqa, zqb, zqc, zqd, zqe, zqf, zqg, zqh, zqi, zqj, zqk, zql, zqm, zqn, lim_call, coin_Minus, coinMinus]
  by_cases h : a.toNat < b.toNat
  · simp only [rx, reduceIte, zqa, zqb, zqc, zqd, zqe, zqf, zqg, zqh, zqi, zqj, zqk, zql, zqm, zqn, lim_call, h]
  · simp only [rx, reduceIte, zqa, zqb, zqc, zqd, zqe, zqf, zqg, zqh, zqi, zqj, zqk, zql, zqm, zqn, lim_call, h]
def tot (l : List Int) : Nat := (l.map Int.toNat).sum
def coinSum (l : List Int) : Int × Int := if tot l ≤ 4611686018427387904 then ((tot l : Int), 0) else (0, 7)
theorem tot_take_succ {l : List Int} {i : Nat} (h : i < l.length) : tot (l.take (i + 1)) = tot (l.take i) + (nth l i).toNat := by
  unfold tot
  rw [List.take_add_one, get_nth_nat h, List.map_append, List.sum_append]
  simp
theorem tot_take_le (l : List Int) (i : Nat) : tot (l.take i) ≤ tot l := by
  conv => rhs; rw [← List.take_append_drop i l]
  unfold tot
  rw [List.map_append, List.sum_append]
  exact Nat.le_add_right _ _
theorem coinSum_ok (l : List Int) (hl : l.length < 9223372036854775808) (m : Mem) : fin 139 [.sl .any ((l).map ucell)] m = some (.tup [.int .u64 ((coinSum l).1), .int .i64 ((coinSum l).2)], m) := by
  refine fn_of coin_Sum (by kernel_rfl) rfl rfl (by simp only [nx]) ?_ m; simp only [rx, reduceIte, zqa, zqb, zqc, zqd, zqe, zqf, zqg, zqh, zqi, zqj, zqk, zql, zqm, zqn, lim_call, coin_Sum, coinPlus_r]
  refine wpK_range l.length (fun i => [(4, .int .u64 ((tot (l.take i) : Nat) : Int)), (9, .sl .any (l.map ucell))]) (fun i => m0) (fun i => tot (l.take i) ≤ 4611686018427387904) hl (by decide) (by simp only [rx, reduceIte, zqa, zqb, zqc, zqd, zqe, zqf, zqg, zqh, zqi, zqj, zqk, zql, zqm, zqn, lim_call]) (by simp only [rx, reduceIte, zqa, zqb, zqc, zqd, zqe, zqf, zqg, zqh, zqi, zqj, zqk, zql, zqm, zqn, lim_call]) (by simp only [rx, reduceIte, zqa, zqb, zqc, zqd, zqe, zqf, zqg, zqh, zqi, zqj, zqk, zql, zqm, zqn, lim_call, holds_cons, holds_nil]; rfl) rfl (by show (0 : Nat) ≤ _; decide) ?_ ?_
  · intro i hi hP T hS hn hk
    simp only [holds_cons, holds_nil, and_true] at hS
    have ht := tot_take_succ hi
    have hle := tot_take_le l (i + 1)
    simp only [rx, reduceIte, zqa, zqb, zqc, zqd, zqe, zqf, zqg, zqh, zqi, zqj, zqk, zql, zqm, zqn, lim_call, *, coinPlus_r, coinPlus]
    by_cases h : tot (l.take i) + (nth l i).toNat ≤ 4611686018427387904
    · simp only [rx, reduceIte, zqa, zqb, zqc, zqd, zqe, zqf, zqg, zqh, zqi, zqj, zqk, zql, zqm, zqn, lim_call, h, hS, hn, hk, ht, holds_cons, holds_nil]
    · have h2 : ¬ tot l ≤ 4611686018427387904 := by omega
      simp only [rx, reduceIte, zqa, zqb, zqc, zqd, zqe, zqf, zqg, zqh, zqi, zqj, zqk, zql, zqm, zqn, lim_call, h, h2, coinSum]
  · intro hP T hS hn hk
    simp only [holds_cons, holds_nil, and_true, List.take_length] at hS hP
    simp only [rx, reduceIte, zqa, zqb, zqc, zqd, zqe, zqf, zqg, zqh, zqi, zqj, zqk, zql, zqm, zqn, lim_call, hS, coinSum, hP]
theorem coinSum_r (l : List Int) (hl : l.length < 9223372036854775808) (m : Mem) : fin 139 [.sl .any ((l).map ucell)] m = some (.tup [.int .u64 ((coinSum l).1), .int .i64 ((coinSum l).2)], m) := coinSum_ok l hl m
def mulHi (x y : Int) : Int :=
  let x0 := uand x 4294967295
  let x1 := x.fdiv (2 ^ (min 32 IntKind.u64.bits))
  let y0 := uand y 4294967295
  let y1 := y.fdiv (2 ^ (min 32 IntKind.u64.bits))
  let w0 := IntKind.u64.wrap (x0 * y0)
  let t := IntKind.u64.wrap (IntKind.u64.wrap (x1 * y0) + w0.fdiv (2 ^ (min 32 IntKind.u64.bits)))
  let w1 := IntKind.u64.wrap (uand t 4294967295 + IntKind.u64.wrap (x0 * y1))
  IntKind.u64.wrap (IntKind.u64.wrap (IntKind.u64.wrap (x1 * y1) + t.fdiv (2 ^ (min 32 IntKind.u64.bits))) + w1.fdiv (2 ^ (min 32 IntKind.u64.bits)))
theorem mul64_ok (x : Int) (y : Int) (m : Mem) : fin 245 [.int .u64 (x), .int .u64 (y)] m = some (.tup [.int .u64 (((mulHi x y, IntKind.u64.wrap (x * y))).1), .int .u64 (((mulHi x y, IntKind.u64.wrap (x * y))).2)], m) := by
  refine fn_of math_bits_Mul64 (by kernel_rfl) rfl rfl (by simp only [nx]) ?_ m; simp only [rx, reduceIte, zqa, zqb, zqc, zqd, zqe, zqf, zqg, zqh, zqi, zqj, zqk, zql, zqm, zqn, lim_call, math_bits_Mul64, mulHi]
theorem mul64_r (x : Int) (y : Int) (m : Mem) : fin 245 [.int .u64 (x), .int .u64 (y)] m = some (.tup [.int .u64 (((mulHi x y, IntKind.u64.wrap (x * y))).1), .int .u64 (((mulHi x y, IntKind.u64.wrap (x * y))).2)], m) := mul64_ok x y m
def coinTimes (a b : Int) : Int × Int := if mulHi a b = 0 then (if 4611686018427387904 < IntKind.u64.wrap (a * b) then (0, 7) else (IntKind.u64.wrap (a * b), 0)) else (0, 7)
theorem coinTimes_ok (a : Int) (b : Int) (m : Mem) : fin 229 [.int .u64 (a), .int .u64 (b)] m = some (.tup [.int .u64 ((coinTimes a b).1), .int .i64 ((coinTimes a b).2)], m) := by
  refine fn_of coin_Times (by kernel_rfl) rfl rfl (by simp only [nx]) ?_ m; simp only [rx, reduceIte, zqa, zqb, zqc, zqd, zqe, zqf, zqg, zqh, zqi, zqj, zqk, zql, zqm, zqn, lim_call, coin_Times, mul64_r, coinTimes]
  have _ := @mul64_r; exact autoT
theorem coinTimes_r (a : Int) (b : Int) (m : Mem) : fin 229 [.int .u64 (a), .int .u64 (b)] m = some (.tup [.int .u64 ((coinTimes a b).1), .int .i64 ((coinTimes a b).2)], m) := coinTimes_ok a b m
def bookNeed (side qty price : Int) : Int × Int := if side = 1 ∨ side = 2 then (if qty = 0 then (0, 1) else if price = 0 then (0, 1) else if (coinTimes qty price).2 = 0 then (if side = 2 then (qty, 0) else ((coinTimes qty price).1, 0)) else (0, (coinTimes qty price).2)) else (0, 1)
theorem bookNeed_ok (side : Int) (qty : Int) (price : Int) (m : Mem) : fin 193 [.int .i64 (side), .int .u64 (qty), .int .u64 (price)] m = some (.tup [.int .u64 ((bookNeed side qty price).1), .int .i64 ((bookNeed side qty price).2)], m) := by
  refine fn_of book_Need (by kernel_rfl) rfl rfl (by simp only [nx]) ?_ m; simp only [rx, reduceIte, zqa, zqb, zqc, zqd, zqe, zqf, zqg, zqh, zqi, zqj, zqk, zql, zqm, zqn, lim_call, book_Need, coinTimes_r, bookNeed]
  have _ := @coinTimes_r; exact autoT
theorem bookNeed_r (side : Int) (qty : Int) (price : Int) (m : Mem) : fin 193 [.int .i64 (side), .int .u64 (qty), .int .u64 (price)] m = some (.tup [.int .u64 ((bookNeed side qty price).1), .int .i64 ((bookNeed side qty price).2)], m) := bookNeed_ok side qty price m
def orderMay (o : Order) : Bool := (bookNeed o.side o.left o.price).2 == 0 && ((bookNeed o.side o.left o.price).1 == o.reserve && (isNum o.label && (isNum o.who && (coinRight o.base && (coinRight o.quote && (!(o.base == o.quote) && decide (0 ≤ o.seq)))))))
theorem orderMay_ok (o : Order) (m : Mem) : fin 112 [.agg (o : Order).cells] m = some (.bool (orderMay o), m) := by
  refine fn_of book_May (by kernel_rfl) rfl rfl (by simp only [nx]) ?_ m; simp only [rx, reduceIte, zqa, zqb, zqc, zqd, zqe, zqf, zqg, zqh, zqi, zqj, zqk, zql, zqm, zqn, lim_call, book_May, bookNeed_r, bookIs_r, coinRight_r, orderMay]
  have _ := @bookNeed_r; have _ := @bookIs_r; have _ := @coinRight_r; exact autoT
theorem orderMay_r (o_used : Bool) (o_label : Int) (o_who : Int) (o_side : Int) (o_base : Int) (o_quote : Int) (o_price : Int) (o_left : Int) (o_reserve : Int) (o_seq : Int) (m : Mem) : fin 112 [.agg [.bool o_used, .int .i64 o_label, .int .i64 o_who, .int .i64 o_side, .int .i64 o_base, .int .i64 o_quote, .int .u64 o_price, .int .u64 o_left, .int .u64 o_reserve, .int .i64 o_seq]] m = some (.bool (orderMay (⟨o_used, o_label, o_who, o_side, o_base, o_quote, o_price, o_left, o_reserve, o_seq⟩ : Order)), m) := orderMay_ok ⟨o_used, o_label, o_who, o_side, o_base, o_quote, o_price, o_left, o_reserve, o_seq⟩ m
end Go.Rx.Api

set_option linter.unusedSimpArgs false
set_option linter.unusedVariables false
set_option maxRecDepth 20000
namespace Go.Rx.Api
open Go.Rx
open Nat renaming reduceEqDiff → zqa, reduceAdd → zqb, reduceMul → zqc, reduceLeDiff → zqd, reduceBEq → zqe, reduceBNe → zqf, reduceSub → zqg, reduceLT → zqh
open Int renaming reduceLE → zqi, reduceLT → zqj, reduceToNat → zqk, reduceNeg → zql, reduceEq → zqm, reduceBEq → zqn
def noOrder : Order := ⟨false, 0, 0, 0, 0, 0, 0, 0, 0, 0⟩
def orderWrong (o : Order) : Bool := if o.used = true then !orderMay o else !o.eqb noOrder
def bookGo : List Order → List (Int × Int) → Int → Option (List (Int × Int) × Int)
  | [], tm, n => some (tm, n)
  | o :: l, tm, n => if orderWrong o = true then none else if o.used = true then bookGo l (mput tm o.seq) (IntKind.i64.wrap (n + 1)) else bookGo l tm n
def bookRight (l : List Order) : Bool := match bookGo l [] 0 with
  | none => false
  | some (tm, n) => ((tm.length : Int) == n)
theorem bookRight_ok (l : List Order) (hl : l.length < 9223372036854775808) (m : Mem) : fin 48 [.sl .any ((l).map Order.cells)] m = some (.bool (bookRight l), m) := by
  refine fn_of book_Right (by kernel_rfl) rfl rfl (by simp only [nx]) ?_ m; simp only [rx, reduceIte, zqa, zqb, zqc, zqd, zqe, zqf, zqg, zqh, zqi, zqj, zqk, zql, zqm, zqn, lim_call, book_Right, orderMay_r]
  refine wpK_rangeI l.length (fun i T m => ∃ tm n, bookGo l [] 0 = bookGo (l.drop i) tm n ∧ T 4 = .int .i64 n ∧ m = ⟨[some (.map 0 (tm.map fun p => (V.int .i64 p.1, V.int .i64 p.2)))], 1⟩ ∧ T 3 = .mapr 0 0 ∧ T 8 = .sl .any (l.map Order.cells)) hl (by decide) (by simp only [rx, reduceIte, zqa, zqb, zqc, zqd, zqe, zqf, zqg, zqh, zqi, zqj, zqk, zql, zqm, zqn, lim_call]) (by simp only [rx, reduceIte, zqa, zqb, zqc, zqd, zqe, zqf, zqg, zqh, zqi, zqj, zqk, zql, zqm, zqn, lim_call]) ⟨[], 0, rfl, by simp only [rx, reduceIte, zqa, zqb, zqc, zqd, zqe, zqf, zqg, zqh, zqi, zqj, zqk, zql, zqm, zqn, lim_call], rfl, by simp only [rx, reduceIte, zqa, zqb, zqc, zqd, zqe, zqf, zqg, zqh, zqi, zqj, zqk, zql, zqm, zqn, lim_call], by simp only [rx, reduceIte, zqa, zqb, zqc, zqd, zqe, zqf, zqg, zqh, zqi, zqj, zqk, zql, zqm, zqn, lim_call]⟩ ?_ ?_
  · rintro i hi T m ⟨tm, n, hgo, h4, rfl, h3, h8⟩ hn hk
    rw [drop_nth hi] at hgo
    simp only [bookGo] at hgo
    have h1 := find_enc (e := V.int .i64) (fun a b => rfl) (nth l i).seq tm
    have h2 := fun n => upd_enc (e := V.int .i64) (fun a b => rfl) (nth l i).seq n tm
    cases hu : (nth l i).used with
    | true =>
      have hb := orderMay_ok (nth l i)
      simp only [celld, hu] at hb
      cases hm : orderMay (nth l i) with
      | false =>
        simp only [orderWrong, hu, hm, rxc, reduceIte] at hgo
        simp only [rx, reduceIte, zqa, zqb, zqc, zqd, zqe, zqf, zqg, zqh, zqi, zqj, zqk, zql, zqm, zqn, lim_call, *, bookRight]
      | true =>
        simp only [orderWrong, hu, hm, rxc, reduceIte, mput] at hgo
        cases hg : mget (nth l i).seq tm with
        | none =>
          simp only [hg, Option.map_none] at h1
          simp only [hg, Option.getD_none] at hgo
          simp only [rx, reduceIte, zqa, zqb, zqc, zqd, zqe, zqf, zqg, zqh, zqi, zqj, zqk, zql, zqm, zqn, lim_call, *, V.isKey, Mem.map]
          exact ⟨_, _, rfl, rfl, rfl⟩
        | some k =>
          simp only [hg, Option.map_some] at h1
          simp only [hg, Option.getD_some] at hgo
          simp only [rx, reduceIte, zqa, zqb, zqc, zqd, zqe, zqf, zqg, zqh, zqi, zqj, zqk, zql, zqm, zqn, lim_call, *, V.isKey, Mem.map]
          exact ⟨_, _, rfl, rfl, rfl⟩
    | false =>
      cases hm : (nth l i).eqb noOrder with
      | false =>
        simp only [orderWrong, hu, hm, rxc, reduceIte] at hgo
        simp only [Order.eqb, noOrder, hu, bool_same, Bool.true_and] at hm
        simp only [rx, reduceIte, zqa, zqb, zqc, zqd, zqe, zqf, zqg, zqh, zqi, zqj, zqk, zql, zqm, zqn, lim_call, *, bookRight]
      | true =>
        simp only [orderWrong, hu, hm, rxc, reduceIte] at hgo
        simp only [Order.eqb, noOrder, hu, bool_same, Bool.true_and] at hm
        simp only [rx, reduceIte, zqa, zqb, zqc, zqd, zqe, zqf, zqg, zqh, zqi, zqj, zqk, zql, zqm, zqn, lim_call, *]
        exact ⟨_, _, rfl, rfl, rfl⟩
  · rintro T m ⟨tm, n, hgo, h4, rfl, h3, h8⟩ hn hk
    rw [List.drop_length] at hgo
    simp only [rx, reduceIte, zqa, zqb, zqc, zqd, zqe, zqf, zqg, zqh, zqi, zqj, zqk, zql, zqm, zqn, lim_call, *, Mem.map, bookRight, bookGo]
theorem bookRight_r (l : List Order) (hl : l.length < 9223372036854775808) (m : Mem) : fin 48 [.sl .any ((l).map Order.cells)] m = some (.bool (bookRight l), m) := bookRight_ok l hl m
def bareEntry (x : Entry) : Entry := ⟨x.round, x.line, x.label, x.who, x.side, 0, 0, 0, 0, x.slot⟩
def entryMay (x : Entry) : Bool := !decide (4611686018427387904 < x.round) && (isNum x.line && (isNum x.label && (isNum x.who && (isNum x.slot &&
  (if x.side = 3 then x.eqb (bareEntry x) else ((bookNeed x.side x.qty x.price).2 == 0 && (x.slot == 0 && (!(x.base == x.quote) && (coinRight x.base && coinRight x.quote)))))))))
theorem entryMay_ok (x : Entry) (m : Mem) : fin 113 [.agg (x : Entry).cells] m = some (.bool (entryMay x), m) := by
  refine fn_of audit_May (by kernel_rfl) rfl rfl (by simp only [nx]) ?_ m; simp only [rx, reduceIte, zqa, zqb, zqc, zqd, zqe, zqf, zqg, zqh, zqi, zqj, zqk, zql, zqm, zqn, lim_call, audit_May, auditIs_r, bookNeed_r, coinRight_r, entryMay, bareEntry, Entry.eqb]
  have _ := @auditIs_r; have _ := @bookNeed_r; have _ := @coinRight_r; exact autoT
theorem entryMay_r (x_round : Int) (x_line : Int) (x_label : Int) (x_who : Int) (x_side : Int) (x_base : Int) (x_quote : Int) (x_qty : Int) (x_price : Int) (x_slot : Int) (m : Mem) : fin 113 [.agg [.int .u64 x_round, .int .i64 x_line, .int .i64 x_label, .int .i64 x_who, .int .i64 x_side, .int .i64 x_base, .int .i64 x_quote, .int .u64 x_qty, .int .u64 x_price, .int .i64 x_slot]] m = some (.bool (entryMay (⟨x_round, x_line, x_label, x_who, x_side, x_base, x_quote, x_qty, x_price, x_slot⟩ : Entry)), m) := entryMay_ok ⟨x_round, x_line, x_label, x_who, x_side, x_base, x_quote, x_qty, x_price, x_slot⟩ m
def auditOrder (a b : Entry) : Int := if cmpI a.round b.round = 0 then cmpI a.line b.line else cmpI a.round b.round
theorem auditOrder_ok (a : Entry) (b : Entry) (m : Mem) : fin 114 [.agg (a : Entry).cells, .agg (b : Entry).cells] m = some (.int .i64 (auditOrder a b), m) := by
  refine fn_of audit_order (by kernel_rfl) rfl rfl (by simp only [nx]) ?_ m; simp only [rx, reduceIte, zqa, zqb, zqc, zqd, zqe, zqf, zqg, zqh, zqi, zqj, zqk, zql, zqm, zqn, lim_call, audit_order, cmpUInt_r, cmpInt_r, cmpOr_r, cmpOr2, auditOrder]
theorem auditOrder_r (a_round : Int) (a_line : Int) (a_label : Int) (a_who : Int) (a_side : Int) (a_base : Int) (a_quote : Int) (a_qty : Int) (a_price : Int) (a_slot : Int) (b_round : Int) (b_line : Int) (b_label : Int) (b_who : Int) (b_side : Int) (b_base : Int) (b_quote : Int) (b_qty : Int) (b_price : Int) (b_slot : Int) (m : Mem) : fin 114 [.agg [.int .u64 a_round, .int .i64 a_line, .int .i64 a_label, .int .i64 a_who, .int .i64 a_side, .int .i64 a_base, .int .i64 a_quote, .int .u64 a_qty, .int .u64 a_price, .int .i64 a_slot], .agg [.int .u64 b_round, .int .i64 b_line, .int .i64 b_label, .int .i64 b_who, .int .i64 b_side, .int .i64 b_base, .int .i64 b_quote, .int .u64 b_qty, .int .u64 b_price, .int .i64 b_slot]] m = some (.int .i64 (auditOrder (⟨a_round, a_line, a_label, a_who, a_side, a_base, a_quote, a_qty, a_price, a_slot⟩ : Entry) (⟨b_round, b_line, b_label, b_who, b_side, b_base, b_quote, b_qty, b_price, b_slot⟩ : Entry)), m) := auditOrder_ok ⟨a_round, a_line, a_label, a_who, a_side, a_base, a_quote, a_qty, a_price, a_slot⟩ ⟨b_round, b_line, b_label, b_who, b_side, b_base, b_quote, b_qty, b_price, b_slot⟩ m
def auditOk (l : List Entry) (i : Nat) : Bool := entryMay (nth l i) && !(decide (0 < (i : Int)) && decide (0 ≤ auditOrder (nth l ((i : Int) - 1)) (nth l i)))
def auditRight (l : List Entry) : Bool := allN l.length (auditOk l)
theorem auditRight_ok (l : List Entry) (hl : l.length < 9223372036854775808) (m : Mem) : fin 49 [.sl .any ((l).map Entry.cells)] m = some (.bool (auditRight l), m) := by
  refine fn_of audit_Right (by kernel_rfl) rfl rfl (by simp only [nx]) ?_ m; simp only [rx, reduceIte, zqa, zqb, zqc, zqd, zqe, zqf, zqg, zqh, zqi, zqj, zqk, zql, zqm, zqn, lim_call, audit_Right, entryMay_r, auditOrder_r]
  refine wpK_range l.length (fun i => [(0, .sl .any (l.map Entry.cells)), (5, .sl .any (l.map Entry.cells))]) (fun i => m0) (fun i => ∀ j : Nat, j < i → auditOk l j = true) hl (by decide) (by simp only [rx, reduceIte, zqa, zqb, zqc, zqd, zqe, zqf, zqg, zqh, zqi, zqj, zqk, zql, zqm, zqn, lim_call]) (by simp only [rx, reduceIte, zqa, zqb, zqc, zqd, zqe, zqf, zqg, zqh, zqi, zqj, zqk, zql, zqm, zqn, lim_call]) (by simp only [rx, reduceIte, zqa, zqb, zqc, zqd, zqe, zqf, zqg, zqh, zqi, zqj, zqk, zql, zqm, zqn, lim_call, holds_cons, holds_nil]) rfl (fun j hj => by omega) ?_ ?_
  · intro i hi hP T hS hn hk
    simp only [holds_cons, holds_nil, and_true] at hS
    have hf : auditOk l i = false → auditRight l = false := fun h => allN_false hi h
    have hw : IntKind.i64.wrap ((i : Int) - 1) = (i : Int) - 1 := wrap_i64 (by omega) (by omega)
    simp only [rx, reduceIte, zqa, zqb, zqc, zqd, zqe, zqf, zqg, zqh, zqi, zqj, zqk, zql, zqm, zqn, lim_call, *, entryMay_r, auditOrder_r]
    cases h1 : entryMay (nth l i)
    · simp only [auditOk, h1, rxc, forall_const] at hf
      simp only [rx, reduceIte, zqa, zqb, zqc, zqd, zqe, zqf, zqg, zqh, zqi, zqj, zqk, zql, zqm, zqn, lim_call, *, entryMay_r, auditOrder_r]
    · simp only [rx, reduceIte, zqa, zqb, zqc, zqd, zqe, zqf, zqg, zqh, zqi, zqj, zqk, zql, zqm, zqn, lim_call, *, entryMay_r, auditOrder_r]
      refine guardK_split (fun h => ?_) (fun h => ?_)
      · simp only [sx] at h
        have ha : 0 ≤ (i : Int) - 1 := by omega
        have hb : (i : Int) - 1 < l.length := by omega
        simp only [rx, reduceIte, zqa, zqb, zqc, zqd, zqe, zqf, zqg, zqh, zqi, zqj, zqk, zql, zqm, zqn, lim_call, *, entryMay_r, auditOrder_r]
        refine condK_split (fun h2 => ?_) (fun h2 => ?_)
        · simp only [auditOk, h1, h, h2, rxc, forall_const, decide_true] at hf
          simp only [rx, reduceIte, zqa, zqb, zqc, zqd, zqe, zqf, zqg, zqh, zqi, zqj, zqk, zql, zqm, zqn, lim_call, *]
        · simp only [rx, reduceIte, zqa, zqb, zqc, zqd, zqe, zqf, zqg, zqh, zqi, zqj, zqk, zql, zqm, zqn, lim_call, *, entryMay_r, auditOrder_r, holds_cons, holds_nil]
          exact all_succ hP (by simp only [auditOk, h1, h, h2, rxc])
      · simp only [sx] at h
        simp only [rx, reduceIte, zqa, zqb, zqc, zqd, zqe, zqf, zqg, zqh, zqi, zqj, zqk, zql, zqm, zqn, lim_call, *, entryMay_r, auditOrder_r, holds_cons, holds_nil]
        exact all_succ hP (by simp only [auditOk, h1, h, rxc])
  · intro hP T hS hn hk
    simp only [rx, reduceIte, zqa, zqb, zqc, zqd, zqe, zqf, zqg, zqh, zqi, zqj, zqk, zql, zqm, zqn, lim_call, auditRight, allN_true hP]
theorem auditRight_r (l : List Entry) (hl : l.length < 9223372036854775808) (m : Mem) : fin 49 [.sl .any ((l).map Entry.cells)] m = some (.bool (auditRight l), m) := auditRight_ok l hl m
theorem rankWrong_ok (n : Int) (m : Mem) : fin 110 [.int .i64 (n)] m = some (.bool ((decide (n < 0) || decide (2 < n))), m) := by
  refine fn_of hall_Right_1 (by kernel_rfl) rfl rfl (by simp only [nx]) ?_ m; simp only [rx, reduceIte, zqa, zqb, zqc, zqd, zqe, zqf, zqg, zqh, zqi, zqj, zqk, zql, zqm, zqn, lim_call, hall_Right_1]
  exact autoT
def hallOk (r : Realm) (ranks : List (List Int)) (i : Nat) : Bool := ((nth ranks i).length : Int) == (r.accounts.length : Int) && (!(nth ranks i).any (fun n => (decide (n < 0) || decide (2 < n))) && nth (nth ranks i) (nth r.guilds i).founder == 2)
def hallRight (r : Realm) (ranks : List (List Int)) : Bool := realmRight r && ((ranks.length : Int) == (r.guilds.length : Int) && allN ranks.length (hallOk r ranks))
structure RealmOk (r : Realm) : Prop where
  labels1 : 1 ≤ r.labels.length
  labels8 : r.labels.length ≤ 8
  lines1 : 1 ≤ r.lines.length
  lines8 : r.lines.length ≤ 8
  accounts1 : 1 ≤ r.accounts.length
  accounts8 : r.accounts.length ≤ 8
  guilds8 : r.guilds.length ≤ 8
  quotas : r.quotas.length = r.labels.length
  lineAt : ∀ i : Int, 0 ≤ i → i < r.lines.length → 0 ≤ nth r.lines i ∧ nth r.lines i < r.labels.length
  founder : ∀ i : Int, 0 ≤ i → i < r.guilds.length → 0 ≤ (nth r.guilds i).founder ∧ (nth r.guilds i).founder < r.accounts.length
  quota : ∀ i : Int, 0 ≤ i → i < r.quotas.length → quotaNums (nth r.quotas i) = false
  rooms0 : 1 ≤ (nth r.quotas 0).rooms
  orders : 0 ≤ r.orders ∧ r.orders ≤ 24
  audits : 0 ≤ r.audits ∧ r.audits ≤ 48
theorem guildsGo_founder {r : Realm} : ∀ {l : List Guild} {last all x : Int}, guildsGo r l last all = some x → ∀ g ∈ l, within g.founder 0 ((r.accounts.length : Int) - 1) = true
  | [], _, _, _, _, g, hg => by cases hg
  | a :: l, last, all, x, h, g, hg => by
    simp only [guildsGo] at h
    split at h
    · cases h
    · rename_i hb
      rcases List.mem_cons.1 hg with rfl | hg
      · simp only [guildBad, Bool.or_eq_true, not_or, Bool.not_eq_true', Bool.not_eq_true] at hb
        simpa using hb.2.2.1
      · exact guildsGo_founder h g hg
theorem quotasGo_nums : ∀ {l : List Quota} {left : Int}, quotasGo l left = true → ∀ q ∈ l, quotaNums q = false
  | [], _, _, q, hq => by cases hq
  | a :: l, left, h, q, hq => by
    simp only [quotasGo] at h
    split at h
    · cases h
    · rename_i hb
      simp only [Bool.or_eq_true, not_or, Bool.not_eq_true] at hb
      rcases List.mem_cons.1 hq with rfl | hq
      · exact hb.2
      · exact quotasGo_nums h q hq
theorem realmOk {r : Realm} (h : realmRight r = true) : RealmOk r := by
  simp only [realmRight, Bool.and_eq_true] at h
  obtain ⟨h1, h2, h3, h4, h5, h6⟩ := h
  simp only [realmLabels, Bool.and_eq_true, within, decide_eq_true_eq] at h1
  simp only [realmLines, Bool.and_eq_true, within, decide_eq_true_eq, Bool.not_eq_true', List.any_eq_false, Bool.not_eq_true', Bool.not_eq_false] at h2
  simp only [realmAccounts, Bool.and_eq_true, within, decide_eq_true_eq] at h3
  simp only [realmRest, Bool.and_eq_true, within, decide_eq_true_eq] at h6
  simp only [realmQuotas] at h5
  split at h5
  · rename_i hq
    split at h5
    · cases h5
    · rename_i hr
      simp only [realmGuilds] at h4
      split at h4
      · cases h4
      · rename_i all hg
        simp only [Bool.and_eq_true, decide_eq_true_eq] at h4
        refine ⟨by omega, by omega, by omega, by omega, by omega, by omega, by omega, by omega, fun i hi hi2 => ?_, fun i hi hi2 => ?_, fun i hi hi2 => quotasGo_nums h5 _ (nth_mem hi hi2), by omega, by omega, by omega⟩
        · have := h2.2 _ (nth_mem hi hi2)
          omega
        · have := guildsGo_founder hg _ (nth_mem hi hi2)
          simp only [within, Bool.and_eq_true, decide_eq_true_eq] at this
          omega
  · cases h5
theorem hallRight_ok (r : Realm) (ranks : List (List Int)) (hw : r.wf) (hl : ranks.length < 9223372036854775808) (hr : ∀ i, (nth ranks i).length < 9223372036854775808) (m : Mem) : fin 47 [.agg (r : Realm).cells, .sl .any ((ranks).map rcell)] m = some (.bool (hallRight r ranks), m) := by
  have hx : ∀ (i : Int) m, fin 111 [.sl .any ((nth ranks i).map icell), .fn 110 [] []] m = _ := fun i m => any_Int_ok (nth ranks i) 110 [] [] (fun n => (decide (n < 0) || decide (2 < n))) (hr i) (fun _ => rfl) (fun _ => rfl) (fun x _ m => rankWrong_ok x m) m
  refine fn_of hall_Right (by kernel_rfl) rfl rfl (by simp only [nx]) ?_ m; simp only [rx, reduceIte, zqa, zqb, zqc, zqd, zqe, zqf, zqg, zqh, zqi, zqj, zqk, zql, zqm, zqn, lim_call, hall_Right, realmRight_r, hallRight, hw]
  repeat' ((with_reducible first | refine guardK_split (fun h => ?_) (fun h => ?_) | refine gdrawK_split (fun h => ?_) (fun h => ?_) | refine condK_split (fun h => ?_) (fun h => ?_)) <;>
    (have h' := h; (try simp only [sx, Int.not_le, Int.not_lt, Bool.and_eq_true] at h'); (try simp only [sxh] at h); simp only [rx, reduceIte, zqa, zqb, zqc, zqd, zqe, zqf, zqg, zqh, zqi, zqj, zqk, zql, zqm, zqn, lim_call, *, realmRight_r, hw]))
  have hR : realmRight r = true := by assumption
  have hok := realmOk hR
  have hlen : (ranks.length : Int) = r.guilds.length := by assumption
  refine wpK_range ranks.length (fun i => [(2, .iptr r.cells 0), (5, .fn 110 [] []), (19, .sl .any (ranks.map rcell))]) (fun i => m0) (fun i => ∀ j : Nat, j < i → hallOk r ranks j = true) hl (by decide) (by simp only [rx, reduceIte, zqa, zqb, zqc, zqd, zqe, zqf, zqg, zqh, zqi, zqj, zqk, zql, zqm, zqn, lim_call, *]) (by simp only [rx, reduceIte, zqa, zqb, zqc, zqd, zqe, zqf, zqg, zqh, zqi, zqj, zqk, zql, zqm, zqn, lim_call]) (by simp only [rx, reduceIte, zqa, zqb, zqc, zqd, zqe, zqf, zqg, zqh, zqi, zqj, zqk, zql, zqm, zqn, lim_call, holds_cons, holds_nil]) rfl (fun j hj => by omega) ?_ ?_
  · intro i hi hP T hS hn hk
    simp only [holds_cons, holds_nil, and_true, celld] at hS
    have hf : hallOk r ranks i = false → allN ranks.length (hallOk r ranks) = false := fun h => allN_false hi h
    have hi2 : (i : Int) < r.guilds.length := by omega
    have hi3 : i < r.guilds.length := by omega
    obtain ⟨hf0, hf1⟩ := hok.founder i (by omega) hi2
    obtain ⟨hS1, hS2, hS3⟩ := hS
    clear hlen
    simp only [rx, reduceIte, zqa, zqb, zqc, zqd, zqe, zqf, zqg, zqh, zqi, zqj, zqk, zql, zqm, zqn, lim_call, hS1, hS2, hS3, hn, hk, hi, hi3]
    refine guardK_split (fun h => ?_) (fun h => ?_)
    · simp only [Bool.not_eq_true'] at h
      simp only [hallOk, h, rxc, forall_const] at hf
      simp only [rx, reduceIte, zqa, zqb, zqc, zqd, zqe, zqf, zqg, zqh, zqi, zqj, zqk, zql, zqm, zqn, lim_call, hS1, hS2, hS3, hn, hk, hf, h, hR]
    · simp only [Bool.not_eq_false'] at h
      have hlr : (nth r.guilds i).founder < (nth ranks i).length := by simp only [beq_iff_eq] at h; omega
      simp only [rx, reduceIte, zqa, zqb, zqc, zqd, zqe, zqf, zqg, zqh, zqi, zqj, zqk, zql, zqm, zqn, lim_call, hS1, hS2, hS3, hn, hk, h, hx]
      refine guardK_split (fun h2 => ?_) (fun h2 => ?_)
      · simp only [hallOk, h, h2, rxc, forall_const] at hf
        simp only [rx, reduceIte, zqa, zqb, zqc, zqd, zqe, zqf, zqg, zqh, zqi, zqj, zqk, zql, zqm, zqn, lim_call, hS1, hS2, hS3, hn, hk, hf, h, h2, hR]
      · simp only [rx, reduceIte, zqa, zqb, zqc, zqd, zqe, zqf, zqg, zqh, zqi, zqj, zqk, zql, zqm, zqn, lim_call, hS1, hS2, hS3, hn, hk, h, h2, hx, hf0, hf1, hlr, hi, hi3]
        refine condK_split (fun h3 => ?_) (fun h3 => ?_)
        · simp only [Bool.not_eq_true'] at h3
          simp only [hallOk, h, h2, h3, rxc, forall_const] at hf
          simp only [rx, reduceIte, zqa, zqb, zqc, zqd, zqe, zqf, zqg, zqh, zqi, zqj, zqk, zql, zqm, zqn, lim_call, hS1, hS2, hS3, hn, hk, hf, h, h2, hR]
        · simp only [Bool.not_eq_false'] at h3
          simp only [rx, reduceIte, zqa, zqb, zqc, zqd, zqe, zqf, zqg, zqh, zqi, zqj, zqk, zql, zqm, zqn, lim_call, hS1, hS2, hS3, hn, hk, holds_cons, holds_nil, celld]
          exact all_succ hP (by simp only [hallOk, h, h2, h3, rxc])
  · intro hP T hS hn hk
    have hall := allN_true (p := hallOk r ranks) hP
    rw [hlen] at hn
    simp only [rx, reduceIte, zqa, zqb, zqc, zqd, zqe, zqf, zqg, zqh, zqi, zqj, zqk, zql, zqm, zqn, lim_call, *]
theorem hallRight_r (r_labels : List Lab) (r_lines : List Int) (r_accounts : List Account) (r_guilds : List Guild) (r_quotas : List Quota) (r_orders : Int) (r_audits : Int) (r_rate : Int) (r_rounds : Int) (ranks : List (List Int)) (hw : (⟨r_labels, r_lines, r_accounts, r_guilds, r_quotas, r_orders, r_audits, r_rate, r_rounds⟩ : Realm).wf) (hl : ranks.length < 9223372036854775808) (hr : ∀ i, (nth ranks i).length < 9223372036854775808) (m : Mem) : fin 47 [.agg [.sl .any (r_labels.map Lab.cells), .sl .any (r_lines.map icell), .sl .any (r_accounts.map Account.cells), .sl .any (r_guilds.map Guild.cells), .sl .any (r_quotas.map Quota.cells), .int .i64 r_orders, .int .i64 r_audits, .int .i64 r_rate, .int .i64 r_rounds], .sl .any ((ranks).map rcell)] m = some (.bool (hallRight (⟨r_labels, r_lines, r_accounts, r_guilds, r_quotas, r_orders, r_audits, r_rate, r_rounds⟩ : Realm) ranks), m) := hallRight_ok ⟨r_labels, r_lines, r_accounts, r_guilds, r_quotas, r_orders, r_audits, r_rate, r_rounds⟩ ranks hw hl hr m
end Go.Rx.Api
