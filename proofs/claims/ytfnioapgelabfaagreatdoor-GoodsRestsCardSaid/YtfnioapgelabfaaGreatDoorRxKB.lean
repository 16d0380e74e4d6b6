/-
A part of the proof: lemmas on the machine that the printed functions run on, or contracts of functions.
-/
import Derived.Test.YtfnioapgelabfaaGreatDoorRxBun
import Derived.Test.YtfnioapgelabfaaGreatDoorRxKA
set_option linter.unusedSimpArgs false
set_option linter.unusedVariables false
set_option maxRecDepth 20000
namespace Go.Rx.Api
open Go.Rx
open Nat renaming reduceEqDiff → zqa, reduceAdd → zqb, reduceMul → zqc, reduceLeDiff → zqd, reduceBEq → zqe, reduceBNe → zqf, reduceSub → zqg, reduceLT → zqh
open Int renaming reduceLE → zqi, reduceLT → zqj, reduceToNat → zqk, reduceNeg → zql, reduceEq → zqm, reduceBEq → zqn
def leq (a b : Lab) : Bool := decide (a.level ≤ b.level) && uandn a.comps b.comps == 0
theorem leq_ok (a : Lab) (b : Lab) (m : Mem) : fin 8 [.agg (a : Lab).cells, .agg (b : Lab).cells] m = some (.bool (leq a b), m) := by
  refine fn_of label_Leq (by kernel_rfl) rfl rfl (by simp only [nx]) ?_ m; simp only [rx, reduceIte, zqa, zqb, zqc, zqd, zqe, zqf, zqg, zqh, zqi, zqj, zqk, zql, zqm, zqn, lim_call, label_Leq, leq]
  exact autoT
theorem leq_r (a_level : Int) (a_comps : Int) (b_level : Int) (b_comps : Int) (m : Mem) : fin 8 [.agg [.int .i64 a_level, .int .u64 a_comps], .agg [.int .i64 b_level, .int .u64 b_comps]] m = some (.bool (leq (⟨a_level, a_comps⟩ : Lab) (⟨b_level, b_comps⟩ : Lab)), m) := leq_ok ⟨a_level, a_comps⟩ ⟨b_level, b_comps⟩ m
def labRight (a : Lab) : Bool := decide (0 ≤ a.level) && decide (a.level < 4)
theorem labRight_ok (a : Lab) (m : Mem) : fin 9 [.agg (a : Lab).cells] m = some (.bool (labRight a), m) := by
  refine fn_of label_Right (by kernel_rfl) rfl rfl (by simp only [nx]) ?_ m; simp only [rx, reduceIte, zqa, zqb, zqc, zqd, zqe, zqf, zqg, zqh, zqi, zqj, zqk, zql, zqm, zqn, lim_call, label_Right, labRight]
  exact autoT
theorem labRight_r (a_level : Int) (a_comps : Int) (m : Mem) : fin 9 [.agg [.int .i64 a_level, .int .u64 a_comps]] m = some (.bool (labRight (⟨a_level, a_comps⟩ : Lab)), m) := labRight_ok ⟨a_level, a_comps⟩ m
def there (s : State) (a : Ref) : Bool := decide (0 ≤ a.label) && decide (a.label < s.shelves.length) && decide (0 ≤ a.slot) && decide (a.slot < (nth s.shelves a.label).rooms.length) && (nth (nth s.shelves a.label).rooms a.slot).used
theorem there_ok (s : State) (a : Ref) (m : Mem) : fin 50 [.agg (s : State).cells, .agg (a : Ref).cells] m = some (.bool (there s a), m) := by
  refine fn_of state_there (by kernel_rfl) rfl rfl (by simp only [nx]) ?_ m; simp only [rx, reduceIte, zqa, zqb, zqc, zqd, zqe, zqf, zqg, zqh, zqi, zqj, zqk, zql, zqm, zqn, lim_call, state_there, there]
  exact autoT
theorem there_r (s_round : Int) (s_shelves : List Shelf) (s_ranks : List (List Int)) (s_orders : List Order) (s_audit : List Entry) (s_sessions : List Int) (a_label : Int) (a_slot : Int) (m : Mem) : fin 50 [.agg [.int .u64 s_round, .sl .any (s_shelves.map Shelf.cells), .sl .any (s_ranks.map rcell), .sl .any (s_orders.map Order.cells), .sl .any (s_audit.map Entry.cells), .sl .any (s_sessions.map icell)], .agg [.int .i64 a_label, .int .i64 a_slot]] m = some (.bool (there (⟨s_round, s_shelves, s_ranks, s_orders, s_audit, s_sessions⟩ : State) (⟨a_label, a_slot⟩ : Ref)), m) := there_ok ⟨s_round, s_shelves, s_ranks, s_orders, s_audit, s_sessions⟩ ⟨a_label, a_slot⟩ m
def judgeLabel (r : Realm) (i : Int) : Bool := decide (0 ≤ i) && decide (i < r.labels.length)
theorem judgeLabel_ok (j : Judge) (i : Int) (m : Mem) : fin 115 [.agg (j : Judge).cells, .int .i64 (i)] m = some (.bool (judgeLabel j.r i), m) := by
  refine fn_of state_judge_label (by kernel_rfl) rfl rfl (by simp only [nx]) ?_ m; simp only [rx, reduceIte, zqa, zqb, zqc, zqd, zqe, zqf, zqg, zqh, zqi, zqj, zqk, zql, zqm, zqn, lim_call, state_judge_label, judgeLabel]
  exact autoT
theorem judgeLabel_r (j_r_labels : List Lab) (j_r_lines : List Int) (j_r_accounts : List Account) (j_r_guilds : List Guild) (j_r_quotas : List Quota) (j_r_orders : Int) (j_r_audits : Int) (j_r_rate : Int) (j_r_rounds : Int) (j_s_round : Int) (j_s_shelves : List Shelf) (j_s_ranks : List (List Int)) (j_s_orders : List Order) (j_s_audit : List Entry) (j_s_sessions : List Int) (i : Int) (m : Mem) : fin 115 [.agg [.sl .any (j_r_labels.map Lab.cells), .sl .any (j_r_lines.map icell), .sl .any (j_r_accounts.map Account.cells), .sl .any (j_r_guilds.map Guild.cells), .sl .any (j_r_quotas.map Quota.cells), .int .i64 j_r_orders, .int .i64 j_r_audits, .int .i64 j_r_rate, .int .i64 j_r_rounds, .int .u64 j_s_round, .sl .any (j_s_shelves.map Shelf.cells), .sl .any (j_s_ranks.map rcell), .sl .any (j_s_orders.map Order.cells), .sl .any (j_s_audit.map Entry.cells), .sl .any (j_s_sessions.map icell)], .int .i64 (i)] m = some (.bool (judgeLabel (⟨⟨j_r_labels, j_r_lines, j_r_accounts, j_r_guilds, j_r_quotas, j_r_orders, j_r_audits, j_r_rate, j_r_rounds⟩, ⟨j_s_round, j_s_shelves, j_s_ranks, j_s_orders, j_s_audit, j_s_sessions⟩⟩ : Judge).r i), m) := judgeLabel_ok ⟨⟨j_r_labels, j_r_lines, j_r_accounts, j_r_guilds, j_r_quotas, j_r_orders, j_r_audits, j_r_rate, j_r_rounds⟩, ⟨j_s_round, j_s_shelves, j_s_ranks, j_s_orders, j_s_audit, j_s_sessions⟩⟩ i m
def judgeLeq (r : Realm) (i k : Int) : Bool := judgeLabel r i && judgeLabel r k && leq (nth r.labels i) (nth r.labels k)
theorem judgeLeq_ok (j : Judge) (i : Int) (k : Int) (m : Mem) : fin 129 [.agg (j : Judge).cells, .int .i64 (i), .int .i64 (k)] m = some (.bool (judgeLeq j.r i k), m) := by
  refine fn_of state_judge_leq (by kernel_rfl) rfl rfl (by simp only [nx]) ?_ m; simp only [rx, reduceIte, zqa, zqb, zqc, zqd, zqe, zqf, zqg, zqh, zqi, zqj, zqk, zql, zqm, zqn, lim_call, state_judge_leq, judgeLabel_r, leq_r, judgeLeq]
  repeat' ((with_reducible first | refine guardK_split (fun h => ?_) (fun h => ?_) | refine gdrawK_split (fun h => ?_) (fun h => ?_) | refine condK_split (fun h => ?_) (fun h => ?_)) <;>
    (have h' := h; (try simp only [sx, Int.not_le, Int.not_lt, Bool.and_eq_true, judgeLabel] at h'); (try simp only [sxh] at h); simp only [rx, reduceIte, zqa, zqb, zqc, zqd, zqe, zqf, zqg, zqh, zqi, zqj, zqk, zql, zqm, zqn, lim_call, *, judgeLabel_r, leq_r]))
theorem judgeLeq_r (j_r_labels : List Lab) (j_r_lines : List Int) (j_r_accounts : List Account) (j_r_guilds : List Guild) (j_r_quotas : List Quota) (j_r_orders : Int) (j_r_audits : Int) (j_r_rate : Int) (j_r_rounds : Int) (j_s_round : Int) (j_s_shelves : List Shelf) (j_s_ranks : List (List Int)) (j_s_orders : List Order) (j_s_audit : List Entry) (j_s_sessions : List Int) (i : Int) (k : Int) (m : Mem) : fin 129 [.agg [.sl .any (j_r_labels.map Lab.cells), .sl .any (j_r_lines.map icell), .sl .any (j_r_accounts.map Account.cells), .sl .any (j_r_guilds.map Guild.cells), .sl .any (j_r_quotas.map Quota.cells), .int .i64 j_r_orders, .int .i64 j_r_audits, .int .i64 j_r_rate, .int .i64 j_r_rounds, .int .u64 j_s_round, .sl .any (j_s_shelves.map Shelf.cells), .sl .any (j_s_ranks.map rcell), .sl .any (j_s_orders.map Order.cells), .sl .any (j_s_audit.map Entry.cells), .sl .any (j_s_sessions.map icell)], .int .i64 (i), .int .i64 (k)] m = some (.bool (judgeLeq (⟨⟨j_r_labels, j_r_lines, j_r_accounts, j_r_guilds, j_r_quotas, j_r_orders, j_r_audits, j_r_rate, j_r_rounds⟩, ⟨j_s_round, j_s_shelves, j_s_ranks, j_s_orders, j_s_audit, j_s_sessions⟩⟩ : Judge).r i k), m) := judgeLeq_ok ⟨⟨j_r_labels, j_r_lines, j_r_accounts, j_r_guilds, j_r_quotas, j_r_orders, j_r_audits, j_r_rate, j_r_rounds⟩, ⟨j_s_round, j_s_shelves, j_s_ranks, j_s_orders, j_s_audit, j_s_sessions⟩⟩ i k m
end Go.Rx.Api

set_option linter.unusedSimpArgs false
set_option linter.unusedVariables false
set_option maxRecDepth 20000
namespace Go.Rx.Api
open Go.Rx
open Nat renaming reduceEqDiff → zqa, reduceAdd → zqb, reduceMul → zqc, reduceLeDiff → zqd, reduceBEq → zqe, reduceBNe → zqf, reduceSub → zqg, reduceLT → zqh
open Int renaming reduceLE → zqi, reduceLT → zqj, reduceToNat → zqk, reduceNeg → zql, reduceEq → zqm, reduceBEq → zqn
def small (c : Int) : Bool := decide (97 ≤ c) && decide (c ≤ 122)
theorem small_ok (c : Int) (m : Mem) : fin 211 [.int .u8 (c)] m = some (.bool (small c), m) := by
  refine fn_of name_small (by kernel_rfl) rfl rfl (by simp only [nx]) ?_ m; simp only [rx, reduceIte, zqa, zqb, zqc, zqd, zqe, zqf, zqg, zqh, zqi, zqj, zqk, zql, zqm, zqn, lim_call, name_small, small]
  exact autoT
theorem small_r (c : Int) (m : Mem) : fin 211 [.int .u8 (c)] m = some (.bool (small c), m) := small_ok c m
def digit (c : Int) : Bool := decide (48 ≤ c) && decide (c ≤ 57)
theorem digit_ok (c : Int) (m : Mem) : fin 237 [.int .u8 (c)] m = some (.bool (digit c), m) := by
  refine fn_of name_digit (by kernel_rfl) rfl rfl (by simp only [nx]) ?_ m; simp only [rx, reduceIte, zqa, zqb, zqc, zqd, zqe, zqf, zqg, zqh, zqi, zqj, zqk, zql, zqm, zqn, lim_call, name_digit, digit]
  exact autoT
theorem digit_r (c : Int) (m : Mem) : fin 237 [.int .u8 (c)] m = some (.bool (digit c), m) := digit_ok c m
def plain (c : Int) : Bool := decide (32 ≤ c) && decide (c ≤ 126)
theorem plain_ok (c : Int) (m : Mem) : fin 240 [.int .u8 (c)] m = some (.bool (plain c), m) := by
  refine fn_of name_plain (by kernel_rfl) rfl rfl (by simp only [nx]) ?_ m; simp only [rx, reduceIte, zqa, zqb, zqc, zqd, zqe, zqf, zqg, zqh, zqi, zqj, zqk, zql, zqm, zqn, lim_call, name_plain, plain]
  exact autoT
theorem nameAll1_ok (c : Int) (cpid : Nat) (fs : List V) (cs : List V) (q : Bool) (hf : ∀ n, allM (norm (n + 10)) fs = some fs) (hc : ∀ n, allM (norm (n + 10)) cs = some cs) (hp : ∀ m, lim prog cpid (fs ++ [.int .u8 c] ++ cs) m = some (.bool q, m)) (m : Mem) : fin 235 [.int .u8 (c), .iptr [.fn cpid fs cs] 0] m = some (.bool (!q), m) := by
  refine fn_of name_all_1 (by kernel_rfl) rfl rfl (by simp only [nx, hf, hc, hp]) ?_ m; simp only [rx, reduceIte, zqa, zqb, zqc, zqd, zqe, zqf, zqg, zqh, zqi, zqj, zqk, zql, zqm, zqn, name_all_1, hf, hc, hp]
theorem nameAll_ok (s : ByteArray) (cpid : Nat) (fs : List V) (cs : List V) (p : Int → Bool) (hl : s.size < 9223372036854775808) (hf : ∀ n, allM (norm (n + 10)) fs = some fs) (hc : ∀ n, allM (norm (n + 10)) cs = some cs) (hp : ∀ x m, lim prog cpid (fs ++ [.int .u8 x] ++ cs) m = some (.bool (p x), m)) (m : Mem) : fin 212 [.str (s), .fn cpid fs cs] m = some (.bool ((bytesOf s).all p), m) := by
  have hx : ∀ m, fin 236 [.sl .any ((bytesOf s).map ecell), .fn 235 [] [.iptr [.fn cpid fs cs] 0]] m = _ := fun m => any_Byte_ok (bytesOf s) 235 [] [.iptr [.fn cpid fs cs] 0] (fun x => !p x) (by rw [bytesOf_len]; exact hl) (fun _ => rfl) (fun n => by simp only [allM_nil, allM_cons, norm_r, hf, hc, Option.bind_some]) (fun x hx m => nameAll1_ok x cpid fs cs (p x) hf hc (hp x) m) m
  refine fn_of name_all (by kernel_rfl) rfl rfl (by simp only [nx, hf, hc]) ?_ m
  simp only [name_all, rx, reduceIte, zqa, zqb, zqc, zqd, zqe, zqf, zqg, zqh, zqi, zqj, zqk, zql, zqm, zqn, lim_call, hf, hc, hx, List.not_any_eq_all_not]
theorem nameRight1_ok (c : Int) (m : Mem) : fin 213 [.int .u8 (c)] m = some (.bool (small c || digit c), m) := by
  refine fn_of name_Right_1 (by kernel_rfl) rfl rfl (by simp only [nx]) ?_ m; simp only [rx, reduceIte, zqa, zqb, zqc, zqd, zqe, zqf, zqg, zqh, zqi, zqj, zqk, zql, zqm, zqn, lim_call, name_Right_1, small_r, digit_r]
  have _ := @small_r; have _ := @digit_r; exact autoT
def nameRight (s : ByteArray) : Bool := !decide ((s.size : Int) < 1) && (!decide (12 < (s.size : Int)) && (small (nth (bytesOf s) 0) && (bytesOf s).all (fun c => small c || digit c)))
theorem nameRight_ok (s : ByteArray) (m : Mem) : fin 166 [.str (s)] m = some (.bool (nameRight s), m) := by
  have hx : 1 ≤ (s.size : Int) → (s.size : Int) ≤ 12 → ∀ m, fin 212 [.str s, .fn 213 [] []] m = _ := fun _ _ m => nameAll_ok s 213 [] [] (fun c => small c || digit c) (by omega) (fun _ => rfl) (fun _ => rfl) (fun x m => nameRight1_ok x m) m
  refine fn_of name_Right (by kernel_rfl) rfl rfl (by simp only [nx]) ?_ m; simp only [rx, reduceIte, zqa, zqb, zqc, zqd, zqe, zqf, zqg, zqh, zqi, zqj, zqk, zql, zqm, zqn, lim_call, name_Right, small_r, nameRight]
  repeat' ((with_reducible first | refine guardK_split (fun h => ?_) (fun h => ?_) | refine gdrawK_split (fun h => ?_) (fun h => ?_) | refine condK_split (fun h => ?_) (fun h => ?_)) <;>
    (have h' := h; (try simp only [sx, Int.not_le, Int.not_lt, Bool.and_eq_true] at h'); (try simp only [sxh] at h); (try have : 0 < s.size := by omega); simp only [rx, reduceIte, zqa, zqb, zqc, zqd, zqe, zqf, zqg, zqh, zqi, zqj, zqk, zql, zqm, zqn, lim_call, *, small_r, hx]))
theorem nameRight_r (s : ByteArray) (m : Mem) : fin 166 [.str (s)] m = some (.bool (nameRight s), m) := nameRight_ok s m
def thingIs (n : Int) : Bool := decide (0 ≤ n) && decide (n ≤ 127)
theorem thingIs_ok (n : Int) (m : Mem) : fin 210 [.int .i64 (n)] m = some (.bool (thingIs n), m) := by
  refine fn_of thing_is (by kernel_rfl) rfl rfl (by simp only [nx]) ?_ m; simp only [rx, reduceIte, zqa, zqb, zqc, zqd, zqe, zqf, zqg, zqh, zqi, zqj, zqk, zql, zqm, zqn, lim_call, thing_is, thingIs]
  exact autoT
theorem thingIs_r (n : Int) (m : Mem) : fin 210 [.int .i64 (n)] m = some (.bool (thingIs n), m) := thingIs_ok n m
def thingOf (x : Item) : Holder := ⟨x.kind, x.who, x.at_⟩
theorem thingOf_ok (x : Item) (m : Mem) : fin 163 [.agg (x : Item).cells] m = some (.agg (thingOf x : Holder).cells, m) := by
  refine fn_of thing_of (by kernel_rfl) rfl rfl (by simp only [nx]) ?_ m; simp only [rx, reduceIte, zqa, zqb, zqc, zqd, zqe, zqf, zqg, zqh, zqi, zqj, zqk, zql, zqm, zqn, lim_call, thing_of, thingOf]
theorem thingOf_r (x_used : Bool) (x_name : ByteArray) (x_kind : Int) (x_who : Int) (x_at__label : Int) (x_at__slot : Int) (m : Mem) : fin 163 [.agg [.bool x_used, .str x_name, .int .i64 x_kind, .int .i64 x_who, .int .i64 x_at__label, .int .i64 x_at__slot]] m = some (.agg (thingOf (⟨x_used, x_name, x_kind, x_who, ⟨x_at__label, x_at__slot⟩⟩ : Item) : Holder).cells, m) := thingOf_ok ⟨x_used, x_name, x_kind, x_who, ⟨x_at__label, x_at__slot⟩⟩ m
def thingTo (x : Item) (h : Holder) : Item := ⟨x.used, x.name, h.kind, h.who, h.at_⟩
theorem thingTo_ok (x : Item) (h : Holder) (m : Mem) : fin 168 [.agg (x : Item).cells, .agg (h : Holder).cells] m = some (.agg (thingTo x h : Item).cells, m) := by
  refine fn_of thing_to (by kernel_rfl) rfl rfl (by simp only [nx]) ?_ m; simp only [rx, reduceIte, zqa, zqb, zqc, zqd, zqe, zqf, zqg, zqh, zqi, zqj, zqk, zql, zqm, zqn, lim_call, thing_to, thingTo]
theorem thingTo_r (x_used : Bool) (x_name : ByteArray) (x_kind : Int) (x_who : Int) (x_at__label : Int) (x_at__slot : Int) (h_kind : Int) (h_who : Int) (h_at__label : Int) (h_at__slot : Int) (m : Mem) : fin 168 [.agg [.bool x_used, .str x_name, .int .i64 x_kind, .int .i64 x_who, .int .i64 x_at__label, .int .i64 x_at__slot], .agg [.int .i64 h_kind, .int .i64 h_who, .int .i64 h_at__label, .int .i64 h_at__slot]] m = some (.agg (thingTo (⟨x_used, x_name, x_kind, x_who, ⟨x_at__label, x_at__slot⟩⟩ : Item) (⟨h_kind, h_who, ⟨h_at__label, h_at__slot⟩⟩ : Holder) : Item).cells, m) := thingTo_ok ⟨x_used, x_name, x_kind, x_who, ⟨x_at__label, x_at__slot⟩⟩ ⟨h_kind, h_who, ⟨h_at__label, h_at__slot⟩⟩ m
def holderMay (h : Holder) : Bool := if h.kind = 1 then thingIs h.who && h.at_.eqb ⟨0, 0⟩ else if h.kind = 3 then thingIs h.who && h.at_.eqb ⟨0, 0⟩ else if h.kind = 2 then h.who == 0 && (thingIs h.at_.label && thingIs h.at_.slot) else false
theorem holderMay_ok (h0 : Holder) (m : Mem) : fin 165 [.agg (h0 : Holder).cells] m = some (.bool (holderMay h0), m) := by
  refine fn_of thing_holder_may (by kernel_rfl) rfl rfl (by simp only [nx]) ?_ m; simp only [rx, reduceIte, zqa, zqb, zqc, zqd, zqe, zqf, zqg, zqh, zqi, zqj, zqk, zql, zqm, zqn, lim_call, thing_holder_may, thingIs_r, holderMay, Ref.eqb]
  have _ := @thingIs_r; exact autoT
theorem holderMay_r (h0_kind : Int) (h0_who : Int) (h0_at__label : Int) (h0_at__slot : Int) (m : Mem) : fin 165 [.agg [.int .i64 h0_kind, .int .i64 h0_who, .int .i64 h0_at__label, .int .i64 h0_at__slot]] m = some (.bool (holderMay (⟨h0_kind, h0_who, ⟨h0_at__label, h0_at__slot⟩⟩ : Holder)), m) := holderMay_ok ⟨h0_kind, h0_who, ⟨h0_at__label, h0_at__slot⟩⟩ m
def noItem : Item := ⟨false, ⟨#[]⟩, 0, 0, ⟨0, 0⟩⟩
def thingWrong (x : Item) : Bool := if x.used = true then !nameRight x.name || !holderMay (thingOf x) else !x.eqb noItem
theorem thingWrong_ok (x : Item) (m : Mem) : fin 189 [.agg (x : Item).cells] m = some (.bool (thingWrong x), m) := by
  refine fn_of thing_wrong (by kernel_rfl) rfl rfl (by simp only [nx]) ?_ m; simp only [rx, reduceIte, zqa, zqb, zqc, zqd, zqe, zqf, zqg, zqh, zqi, zqj, zqk, zql, zqm, zqn, lim_call, thing_wrong, nameRight_r, thingOf_r, holderMay_r, thingWrong, Item.eqb, noItem, thingOf]
  have _ := @nameRight_r; have _ := @thingOf_r; have _ := @holderMay_r; have _ := @thingOf.eq_1; exact autoT
def thingRight (l : List Item) : Bool := !l.any thingWrong
theorem thingRight_ok (l : List Item) (hl : l.length < 9223372036854775808) (m : Mem) : fin 107 [.sl .any ((l).map Item.cells)] m = some (.bool (thingRight l), m) := by
  have hx : ∀ m, fin 126 [.sl .any (l.map Item.cells), .fn 189 [] []] m = _ := fun m => any_Item_ok l 189 [] [] thingWrong hl (fun _ => rfl) (fun _ => rfl) (fun x _ m => thingWrong_ok x m) m
  refine fn_of thing_Right (by kernel_rfl) rfl rfl (by simp only [nx]) ?_ m; simp only [rx, reduceIte, zqa, zqb, zqc, zqd, zqe, zqf, zqg, zqh, zqi, zqj, zqk, zql, zqm, zqn, lim_call, thing_Right, hx, thingRight]
theorem thingRight_r (l : List Item) (hl : l.length < 9223372036854775808) (m : Mem) : fin 107 [.sl .any ((l).map Item.cells)] m = some (.bool (thingRight l), m) := thingRight_ok l hl m
theorem inHand_ok (who : Int) (m : Mem) : fin 88 [.int .i64 (who)] m = some (.agg (⟨1, who, ⟨0, 0⟩⟩ : Holder).cells, m) := by
  refine fn_of thing_inHand (by kernel_rfl) rfl rfl (by simp only [nx]) ?_ m; simp only [rx, reduceIte, zqa, zqb, zqc, zqd, zqe, zqf, zqg, zqh, zqi, zqj, zqk, zql, zqm, zqn, lim_call, thing_inHand]
theorem inHand_r (who : Int) (m : Mem) : fin 88 [.int .i64 (who)] m = some (.agg (⟨1, who, ⟨0, 0⟩⟩ : Holder).cells, m) := inHand_ok who m
theorem inRoom_ok (a : Ref) (m : Mem) : fin 91 [.agg (a : Ref).cells] m = some (.agg (⟨2, 0, a⟩ : Holder).cells, m) := by
  refine fn_of thing_inRoom (by kernel_rfl) rfl rfl (by simp only [nx]) ?_ m; simp only [rx, reduceIte, zqa, zqb, zqc, zqd, zqe, zqf, zqg, zqh, zqi, zqj, zqk, zql, zqm, zqn, lim_call, thing_inRoom]
theorem inRoom_r (a_label : Int) (a_slot : Int) (m : Mem) : fin 91 [.agg [.int .i64 a_label, .int .i64 a_slot]] m = some (.agg (⟨2, 0, (⟨a_label, a_slot⟩ : Ref)⟩ : Holder).cells, m) := inRoom_ok ⟨a_label, a_slot⟩ m
end Go.Rx.Api

set_option linter.unusedSimpArgs false
set_option linter.unusedVariables false
set_option maxRecDepth 20000
namespace Go.Rx.Api
open Go.Rx
open Nat renaming reduceEqDiff → zqa, reduceAdd → zqb, reduceMul → zqc, reduceLeDiff → zqd, reduceBEq → zqe, reduceBNe → zqf, reduceSub → zqg, reduceLT → zqh
open Int renaming reduceLE → zqi, reduceLT → zqj, reduceToNat → zqk, reduceNeg → zql, reduceEq → zqm, reduceBEq → zqn
theorem clone_Item_ok (l : List Item) (hl : l.length ≤ 4096) (m : Mem) : fin 152 [.sl .any ((l).map Item.cells)] m = some (.sl .any ((l).map Item.cells), m) := by
  refine fn_split slices_Clone_Item_Item (by kernel_rfl) rfl rfl (by simp only [nx]) (fun hne => ?_) (fun he => ?_) (fun he => ?_) m
  · have h1 := append_rows (m := m0) (fl := .any) (fit_Item l) hne (bytes := 56) (by rw [List.length_map]; unfold wide; omega) (by decide)
    simp only [rx, reduceIte, zqa, zqb, zqc, zqd, zqe, zqf, zqg, zqh, zqi, zqj, zqk, zql, zqm, zqn, lim_call, slices_Clone_Item_Item, eqK_rows hne, h1]
    refine frz_rows (f := Item.cells) (l := l) ?_ (Nat.le_refl _) ?_ ?_ <;> first | rfl | (intro _; rfl)
  · simp only [rx, reduceIte, zqa, zqb, zqc, zqd, zqe, zqf, zqg, zqh, zqi, zqj, zqk, zql, zqm, zqn, lim_call, slices_Clone_Item_Item, he, append_none, SF.isNil]
  · simp only [rx, reduceIte, zqa, zqb, zqc, zqd, zqe, zqf, zqg, zqh, zqi, zqj, zqk, zql, zqm, zqn, lim_call, slices_Clone_Item_Item, he, append_none, SF.isNil]
theorem clone_Item_r (l : List Item) (hl : l.length ≤ 4096) (m : Mem) : fin 152 [.sl .any ((l).map Item.cells)] m = some (.sl .any ((l).map Item.cells), m) := clone_Item_ok l hl m
theorem clone_Trade_ok (l : List Trade) (hl : l.length ≤ 4096) (m : Mem) : fin 134 [.sl .any ((l).map Trade.cells)] m = some (.sl .any ((l).map Trade.cells), m) := by
  refine fn_split slices_Clone_Trade_Trade (by kernel_rfl) rfl rfl (by simp only [nx]) (fun hne => ?_) (fun he => ?_) (fun he => ?_) m
  · have h1 := append_rows (m := m0) (fl := .any) (fit_Trade l) hne (bytes := 72) (by rw [List.length_map]; unfold wide; omega) (by decide)
    simp only [rx, reduceIte, zqa, zqb, zqc, zqd, zqe, zqf, zqg, zqh, zqi, zqj, zqk, zql, zqm, zqn, lim_call, slices_Clone_Trade_Trade, eqK_rows hne, h1]
    refine frz_rows (f := Trade.cells) (l := l) ?_ (Nat.le_refl _) ?_ ?_ <;> first | rfl | (intro _; rfl)
  · simp only [rx, reduceIte, zqa, zqb, zqc, zqd, zqe, zqf, zqg, zqh, zqi, zqj, zqk, zql, zqm, zqn, lim_call, slices_Clone_Trade_Trade, he, append_none, SF.isNil]
  · simp only [rx, reduceIte, zqa, zqb, zqc, zqd, zqe, zqf, zqg, zqh, zqi, zqj, zqk, zql, zqm, zqn, lim_call, slices_Clone_Trade_Trade, he, append_none, SF.isNil]
theorem clone_Trade_r (l : List Trade) (hl : l.length ≤ 4096) (m : Mem) : fin 134 [.sl .any ((l).map Trade.cells)] m = some (.sl .any ((l).map Trade.cells), m) := clone_Trade_ok l hl m
theorem clone_Order_ok (l : List Order) (hl : l.length ≤ 4096) (m : Mem) : fin 145 [.sl .any ((l).map Order.cells)] m = some (.sl .any ((l).map Order.cells), m) := by
  refine fn_split slices_Clone_Order_Order (by kernel_rfl) rfl rfl (by simp only [nx]) (fun hne => ?_) (fun he => ?_) (fun he => ?_) m
  · have h1 := append_rows (m := m0) (fl := .any) (fit_Order l) hne (bytes := 80) (by rw [List.length_map]; unfold wide; omega) (by decide)
    simp only [rx, reduceIte, zqa, zqb, zqc, zqd, zqe, zqf, zqg, zqh, zqi, zqj, zqk, zql, zqm, zqn, lim_call, slices_Clone_Order_Order, eqK_rows hne, h1]
    refine frz_rows (f := Order.cells) (l := l) ?_ (Nat.le_refl _) ?_ ?_ <;> first | rfl | (intro _; rfl)
  · simp only [rx, reduceIte, zqa, zqb, zqc, zqd, zqe, zqf, zqg, zqh, zqi, zqj, zqk, zql, zqm, zqn, lim_call, slices_Clone_Order_Order, he, append_none, SF.isNil]
  · simp only [rx, reduceIte, zqa, zqb, zqc, zqd, zqe, zqf, zqg, zqh, zqi, zqj, zqk, zql, zqm, zqn, lim_call, slices_Clone_Order_Order, he, append_none, SF.isNil]
theorem clone_Order_r (l : List Order) (hl : l.length ≤ 4096) (m : Mem) : fin 145 [.sl .any ((l).map Order.cells)] m = some (.sl .any ((l).map Order.cells), m) := clone_Order_ok l hl m
theorem clone_Entry_ok (l : List Entry) (hl : l.length ≤ 4096) (m : Mem) : fin 146 [.sl .any ((l).map Entry.cells)] m = some (.sl .any ((l).map Entry.cells), m) := by
  refine fn_split slices_Clone_Entry_Entry (by kernel_rfl) rfl rfl (by simp only [nx]) (fun hne => ?_) (fun he => ?_) (fun he => ?_) m
  · have h1 := append_rows (m := m0) (fl := .any) (fit_Entry l) hne (bytes := 80) (by rw [List.length_map]; unfold wide; omega) (by decide)
    simp only [rx, reduceIte, zqa, zqb, zqc, zqd, zqe, zqf, zqg, zqh, zqi, zqj, zqk, zql, zqm, zqn, lim_call, slices_Clone_Entry_Entry, eqK_rows hne, h1]
    refine frz_rows (f := Entry.cells) (l := l) ?_ (Nat.le_refl _) ?_ ?_ <;> first | rfl | (intro _; rfl)
  · simp only [rx, reduceIte, zqa, zqb, zqc, zqd, zqe, zqf, zqg, zqh, zqi, zqj, zqk, zql, zqm, zqn, lim_call, slices_Clone_Entry_Entry, he, append_none, SF.isNil]
  · simp only [rx, reduceIte, zqa, zqb, zqc, zqd, zqe, zqf, zqg, zqh, zqi, zqj, zqk, zql, zqm, zqn, lim_call, slices_Clone_Entry_Entry, he, append_none, SF.isNil]
theorem clone_Entry_r (l : List Entry) (hl : l.length ≤ 4096) (m : Mem) : fin 146 [.sl .any ((l).map Entry.cells)] m = some (.sl .any ((l).map Entry.cells), m) := clone_Entry_ok l hl m
theorem clone_Room_ok (l : List Room) (hl : l.length ≤ 4096) (m : Mem) : fin 150 [.sl .any ((l).map Room.cells)] m = some (.sl .any ((l).map Room.cells), m) := by
  refine fn_split slices_Clone_Room_Room (by kernel_rfl) rfl rfl (by simp only [nx]) (fun hne => ?_) (fun he => ?_) (fun he => ?_) m
  · have h1 := append_rows (m := m0) (fl := .any) (fit_Room l) hne (bytes := 24) (by rw [List.length_map]; unfold wide; omega) (by decide)
    simp only [rx, reduceIte, zqa, zqb, zqc, zqd, zqe, zqf, zqg, zqh, zqi, zqj, zqk, zql, zqm, zqn, lim_call, slices_Clone_Room_Room, eqK_rows hne, h1]
    refine frz_rows (f := Room.cells) (l := l) ?_ (Nat.le_refl _) ?_ ?_ <;> first | rfl | (intro _; rfl)
  · simp only [rx, reduceIte, zqa, zqb, zqc, zqd, zqe, zqf, zqg, zqh, zqi, zqj, zqk, zql, zqm, zqn, lim_call, slices_Clone_Room_Room, he, append_none, SF.isNil]
  · simp only [rx, reduceIte, zqa, zqb, zqc, zqd, zqe, zqf, zqg, zqh, zqi, zqj, zqk, zql, zqm, zqn, lim_call, slices_Clone_Room_Room, he, append_none, SF.isNil]
theorem clone_Room_r (l : List Room) (hl : l.length ≤ 4096) (m : Mem) : fin 150 [.sl .any ((l).map Room.cells)] m = some (.sl .any ((l).map Room.cells), m) := clone_Room_ok l hl m
theorem clone_Exit_ok (l : List Exit) (hl : l.length ≤ 4096) (m : Mem) : fin 151 [.sl .any ((l).map Exit.cells)] m = some (.sl .any ((l).map Exit.cells), m) := by
  refine fn_split slices_Clone_Exit_Exit (by kernel_rfl) rfl rfl (by simp only [nx]) (fun hne => ?_) (fun he => ?_) (fun he => ?_) m
  · have h1 := append_rows (m := m0) (fl := .any) (fit_Exit l) hne (bytes := 48) (by rw [List.length_map]; unfold wide; omega) (by decide)
    simp only [rx, reduceIte, zqa, zqb, zqc, zqd, zqe, zqf, zqg, zqh, zqi, zqj, zqk, zql, zqm, zqn, lim_call, slices_Clone_Exit_Exit, eqK_rows hne, h1]
    refine frz_rows (f := Exit.cells) (l := l) ?_ (Nat.le_refl _) ?_ ?_ <;> first | rfl | (intro _; rfl)
  · simp only [rx, reduceIte, zqa, zqb, zqc, zqd, zqe, zqf, zqg, zqh, zqi, zqj, zqk, zql, zqm, zqn, lim_call, slices_Clone_Exit_Exit, he, append_none, SF.isNil]
  · simp only [rx, reduceIte, zqa, zqb, zqc, zqd, zqe, zqf, zqg, zqh, zqi, zqj, zqk, zql, zqm, zqn, lim_call, slices_Clone_Exit_Exit, he, append_none, SF.isNil]
theorem clone_Exit_r (l : List Exit) (hl : l.length ≤ 4096) (m : Mem) : fin 151 [.sl .any ((l).map Exit.cells)] m = some (.sl .any ((l).map Exit.cells), m) := clone_Exit_ok l hl m
theorem clone_Mail_ok (l : List Mail) (hl : l.length ≤ 4096) (m : Mem) : fin 153 [.sl .any ((l).map Mail.cells)] m = some (.sl .any ((l).map Mail.cells), m) := by
  refine fn_split slices_Clone_Mail_Mail (by kernel_rfl) rfl rfl (by simp only [nx]) (fun hne => ?_) (fun he => ?_) (fun he => ?_) m
  · have h1 := append_rows (m := m0) (fl := .any) (fit_Mail l) hne (bytes := 48) (by rw [List.length_map]; unfold wide; omega) (by decide)
    simp only [rx, reduceIte, zqa, zqb, zqc, zqd, zqe, zqf, zqg, zqh, zqi, zqj, zqk, zql, zqm, zqn, lim_call, slices_Clone_Mail_Mail, eqK_rows hne, h1]
    refine frz_rows (f := Mail.cells) (l := l) ?_ (Nat.le_refl _) ?_ ?_ <;> first | rfl | (intro _; rfl)
  · simp only [rx, reduceIte, zqa, zqb, zqc, zqd, zqe, zqf, zqg, zqh, zqi, zqj, zqk, zql, zqm, zqn, lim_call, slices_Clone_Mail_Mail, he, append_none, SF.isNil]
  · simp only [rx, reduceIte, zqa, zqb, zqc, zqd, zqe, zqf, zqg, zqh, zqi, zqj, zqk, zql, zqm, zqn, lim_call, slices_Clone_Mail_Mail, he, append_none, SF.isNil]
theorem clone_Mail_r (l : List Mail) (hl : l.length ≤ 4096) (m : Mem) : fin 153 [.sl .any ((l).map Mail.cells)] m = some (.sl .any ((l).map Mail.cells), m) := clone_Mail_ok l hl m
theorem clone_Four_ok (l : List Four) (hl : l.length ≤ 4096) (m : Mem) : fin 154 [.sl .any ((l).map Four.cells)] m = some (.sl .any ((l).map Four.cells), m) := by
  refine fn_split slices_Clone_4_uint64_4_uint64 (by kernel_rfl) rfl rfl (by simp only [nx]) (fun hne => ?_) (fun he => ?_) (fun he => ?_) m
  · have h1 := append_rows (m := m0) (fl := .any) (fit_Four l) hne (bytes := 32) (by rw [List.length_map]; unfold wide; omega) (by decide)
    simp only [rx, reduceIte, zqa, zqb, zqc, zqd, zqe, zqf, zqg, zqh, zqi, zqj, zqk, zql, zqm, zqn, lim_call, slices_Clone_4_uint64_4_uint64, eqK_rows hne, h1]
    refine frz_rows (f := Four.cells) (l := l) ?_ (Nat.le_refl _) ?_ ?_ <;> first | rfl | (intro _; rfl)
  · simp only [rx, reduceIte, zqa, zqb, zqc, zqd, zqe, zqf, zqg, zqh, zqi, zqj, zqk, zql, zqm, zqn, lim_call, slices_Clone_4_uint64_4_uint64, he, append_none, SF.isNil]
  · simp only [rx, reduceIte, zqa, zqb, zqc, zqd, zqe, zqf, zqg, zqh, zqi, zqj, zqk, zql, zqm, zqn, lim_call, slices_Clone_4_uint64_4_uint64, he, append_none, SF.isNil]
theorem clone_Four_r (l : List Four) (hl : l.length ≤ 4096) (m : Mem) : fin 154 [.sl .any ((l).map Four.cells)] m = some (.sl .any ((l).map Four.cells), m) := clone_Four_ok l hl m
theorem clone_Ref_ok (l : List Ref) (hl : l.length ≤ 4096) (m : Mem) : fin 155 [.sl .any ((l).map Ref.cells)] m = some (.sl .any ((l).map Ref.cells), m) := by
  refine fn_split slices_Clone_Ref_Ref (by kernel_rfl) rfl rfl (by simp only [nx]) (fun hne => ?_) (fun he => ?_) (fun he => ?_) m
  · have h1 := append_rows (m := m0) (fl := .any) (fit_Ref l) hne (bytes := 16) (by rw [List.length_map]; unfold wide; omega) (by decide)
    simp only [rx, reduceIte, zqa, zqb, zqc, zqd, zqe, zqf, zqg, zqh, zqi, zqj, zqk, zql, zqm, zqn, lim_call, slices_Clone_Ref_Ref, eqK_rows hne, h1]
    refine frz_rows (f := Ref.cells) (l := l) ?_ (Nat.le_refl _) ?_ ?_ <;> first | rfl | (intro _; rfl)
  · simp only [rx, reduceIte, zqa, zqb, zqc, zqd, zqe, zqf, zqg, zqh, zqi, zqj, zqk, zql, zqm, zqn, lim_call, slices_Clone_Ref_Ref, he, append_none, SF.isNil]
  · simp only [rx, reduceIte, zqa, zqb, zqc, zqd, zqe, zqf, zqg, zqh, zqi, zqj, zqk, zql, zqm, zqn, lim_call, slices_Clone_Ref_Ref, he, append_none, SF.isNil]
theorem clone_Ref_r (l : List Ref) (hl : l.length ≤ 4096) (m : Mem) : fin 155 [.sl .any ((l).map Ref.cells)] m = some (.sl .any ((l).map Ref.cells), m) := clone_Ref_ok l hl m
theorem clone_Int_ok (l : List Int) (hl : l.length ≤ 4096) (m : Mem) : fin 147 [.sl .any ((l).map icell)] m = some (.sl .any ((l).map icell), m) := by
  refine fn_split slices_Clone_int_int (by kernel_rfl) rfl rfl (by simp only [nx]) (fun hne => ?_) (fun he => ?_) (fun he => ?_) m
  · have h1 := append_rows (m := m0) (fl := .any) (fit_icell l) hne (bytes := 8) (by rw [List.length_map]; unfold wide; omega) (by decide)
    simp only [rx, reduceIte, zqa, zqb, zqc, zqd, zqe, zqf, zqg, zqh, zqi, zqj, zqk, zql, zqm, zqn, lim_call, slices_Clone_int_int, eqK_rows hne, h1]
    refine frz_rows (f := icell) (l := l) ?_ (Nat.le_refl _) ?_ ?_ <;> first | rfl | (intro _; rfl)
  · simp only [rx, reduceIte, zqa, zqb, zqc, zqd, zqe, zqf, zqg, zqh, zqi, zqj, zqk, zql, zqm, zqn, lim_call, slices_Clone_int_int, he, append_none, SF.isNil]
  · simp only [rx, reduceIte, zqa, zqb, zqc, zqd, zqe, zqf, zqg, zqh, zqi, zqj, zqk, zql, zqm, zqn, lim_call, slices_Clone_int_int, he, append_none, SF.isNil]
theorem clone_Int_r (l : List Int) (hl : l.length ≤ 4096) (m : Mem) : fin 147 [.sl .any ((l).map icell)] m = some (.sl .any ((l).map icell), m) := clone_Int_ok l hl m
end Go.Rx.Api

set_option linter.unusedSimpArgs false
set_option linter.unusedVariables false
set_option maxRecDepth 20000
namespace Go.Rx.Api
open Go.Rx
open Nat renaming reduceEqDiff → zqa, reduceAdd → zqb, reduceMul → zqc, reduceLeDiff → zqd, reduceBEq → zqe, reduceBNe → zqf, reduceSub → zqg, reduceLT → zqh
open Int renaming reduceLE → zqi, reduceLT → zqj, reduceToNat → zqk, reduceNeg → zql, reduceEq → zqm, reduceBEq → zqn
theorem rowOf_Item_ok (l : List Item) (tk : Nat) (hl : l.length ≤ 4096) (m : Mem) : fin 214 [.sl .any ((l).map Item.cells), .fn tk [] []] m = some (.iptr [.sl .any (l.map Item.cells), .fn tk [] []] 0, m) := by
  have hx := clone_Item_ok l hl
  refine fn_of quota_Of_Item (by kernel_rfl) rfl rfl (by simp only [nx]) ?_ m
  simp only [rx, reduceIte, zqa, zqb, zqc, zqd, zqe, zqf, zqg, zqh, zqi, zqj, zqk, zql, zqm, zqn, lim_call, quota_Of_Item, hx]
theorem rowOf_Trade_ok (l : List Trade) (tk : Nat) (hl : l.length ≤ 4096) (m : Mem) : fin 68 [.sl .any ((l).map Trade.cells), .fn tk [] []] m = some (.iptr [.sl .any (l.map Trade.cells), .fn tk [] []] 0, m) := by
  have hx := clone_Trade_ok l hl
  refine fn_of quota_Of_Trade (by kernel_rfl) rfl rfl (by simp only [nx]) ?_ m
  simp only [rx, reduceIte, zqa, zqb, zqc, zqd, zqe, zqf, zqg, zqh, zqi, zqj, zqk, zql, zqm, zqn, lim_call, quota_Of_Trade, hx]
theorem rowOf_Order_ok (l : List Order) (tk : Nat) (hl : l.length ≤ 4096) (m : Mem) : fin 246 [.sl .any ((l).map Order.cells), .fn tk [] []] m = some (.iptr [.sl .any (l.map Order.cells), .fn tk [] []] 0, m) := by
  have hx := clone_Order_ok l hl
  refine fn_of quota_Of_Order (by kernel_rfl) rfl rfl (by simp only [nx]) ?_ m
  simp only [rx, reduceIte, zqa, zqb, zqc, zqd, zqe, zqf, zqg, zqh, zqi, zqj, zqk, zql, zqm, zqn, lim_call, quota_Of_Order, hx]
theorem rowMade_Item_ok (l : List Item) (tk : Nat) (m : Mem) : fin 218 [.iptr [.sl .any (l.map Item.cells), .fn tk [] []] 0] m = some (.bool (true), m) := by
  refine fn_of quota_Row_Item_made (by kernel_rfl) rfl rfl (by simp only [nx]) ?_ m; simp only [rx, reduceIte, zqa, zqb, zqc, zqd, zqe, zqf, zqg, zqh, zqi, zqj, zqk, zql, zqm, zqn, lim_call, quota_Row_Item_made]
theorem rowMade_Item_r (l : List Item) (tk : Nat) (m : Mem) : fin 218 [.iptr [.sl .any (l.map Item.cells), .fn tk [] []] 0] m = some (.bool (true), m) := rowMade_Item_ok l tk m
theorem rowMade_Trade_ok (l : List Trade) (tk : Nat) (m : Mem) : fin 135 [.iptr [.sl .any (l.map Trade.cells), .fn tk [] []] 0] m = some (.bool (true), m) := by
  refine fn_of quota_Row_Trade_made (by kernel_rfl) rfl rfl (by simp only [nx]) ?_ m; simp only [rx, reduceIte, zqa, zqb, zqc, zqd, zqe, zqf, zqg, zqh, zqi, zqj, zqk, zql, zqm, zqn, lim_call, quota_Row_Trade_made]
theorem rowMade_Trade_r (l : List Trade) (tk : Nat) (m : Mem) : fin 135 [.iptr [.sl .any (l.map Trade.cells), .fn tk [] []] 0] m = some (.bool (true), m) := rowMade_Trade_ok l tk m
theorem rowMade_Order_ok (l : List Order) (tk : Nat) (m : Mem) : fin 248 [.iptr [.sl .any (l.map Order.cells), .fn tk [] []] 0] m = some (.bool (true), m) := by
  refine fn_of quota_Row_Order_made (by kernel_rfl) rfl rfl (by simp only [nx]) ?_ m; simp only [rx, reduceIte, zqa, zqb, zqc, zqd, zqe, zqf, zqg, zqh, zqi, zqj, zqk, zql, zqm, zqn, lim_call, quota_Row_Order_made]
theorem rowMade_Order_r (l : List Order) (tk : Nat) (m : Mem) : fin 248 [.iptr [.sl .any (l.map Order.cells), .fn tk [] []] 0] m = some (.bool (true), m) := rowMade_Order_ok l tk m
def rowHas {α : Type} [Inhabited α] (l : List α) (u : α → Bool) (i : Int) : Bool := decide (0 ≤ i) && (decide (i < l.length) && u (nth l i))
theorem rowHas_Item_ok (i : Int) (l : List Item) (tk : Nat) (u : Item → Bool) (hu : ∀ x m, lim prog tk [.agg x.cells] m = some (.bool (u x), m)) (m : Mem) : fin 217 [.iptr [.sl .any (l.map Item.cells), .fn tk [] []] 0, .int .i64 (i)] m = some (.bool (rowHas l u i), m) := by
  simp only [rx, reduceIte, zqa, zqb, zqc, zqd, zqe, zqf, zqg, zqh, zqi, zqj, zqk, zql, zqm, zqn, lim_call] at hu
  refine fn_of quota_Row_Item_Has (by kernel_rfl) rfl rfl (by simp only [nx]) ?_ m; simp only [rx, reduceIte, zqa, zqb, zqc, zqd, zqe, zqf, zqg, zqh, zqi, zqj, zqk, zql, zqm, zqn, lim_call, quota_Row_Item_Has, rowMade_Item_r, hu, rowHas]
  have _ := @rowMade_Item_r; exact autoT
theorem rowHas_Trade_ok (i : Int) (l : List Trade) (tk : Nat) (u : Trade → Bool) (hu : ∀ x m, lim prog tk [.agg x.cells] m = some (.bool (u x), m)) (m : Mem) : fin 70 [.iptr [.sl .any (l.map Trade.cells), .fn tk [] []] 0, .int .i64 (i)] m = some (.bool (rowHas l u i), m) := by
  simp only [rx, reduceIte, zqa, zqb, zqc, zqd, zqe, zqf, zqg, zqh, zqi, zqj, zqk, zql, zqm, zqn, lim_call] at hu
  refine fn_of quota_Row_Trade_Has (by kernel_rfl) rfl rfl (by simp only [nx]) ?_ m; simp only [rx, reduceIte, zqa, zqb, zqc, zqd, zqe, zqf, zqg, zqh, zqi, zqj, zqk, zql, zqm, zqn, lim_call, quota_Row_Trade_Has, rowMade_Trade_r, hu, rowHas]
  have _ := @rowMade_Trade_r; exact autoT
theorem rowHas_Order_ok (i : Int) (l : List Order) (tk : Nat) (u : Order → Bool) (hu : ∀ x m, lim prog tk [.agg x.cells] m = some (.bool (u x), m)) (m : Mem) : fin 249 [.iptr [.sl .any (l.map Order.cells), .fn tk [] []] 0, .int .i64 (i)] m = some (.bool (rowHas l u i), m) := by
  simp only [rx, reduceIte, zqa, zqb, zqc, zqd, zqe, zqf, zqg, zqh, zqi, zqj, zqk, zql, zqm, zqn, lim_call] at hu
  refine fn_of quota_Row_Order_Has (by kernel_rfl) rfl rfl (by simp only [nx]) ?_ m; simp only [rx, reduceIte, zqa, zqb, zqc, zqd, zqe, zqf, zqg, zqh, zqi, zqj, zqk, zql, zqm, zqn, lim_call, quota_Row_Order_Has, rowMade_Order_r, hu, rowHas]
  have _ := @rowMade_Order_r; exact autoT
def slotsTo {α : Type} [Inhabited α] (l : List α) (u : α → Bool) (n : Nat) : List Int := ((List.range n).filter fun j : Nat => u (nth l (j : Int))).map fun j : Nat => (j : Int)
theorem slotsTo_zero {α : Type} [Inhabited α] (l : List α) (u : α → Bool) : slotsTo l u 0 = [] := rfl
theorem slotsTo_succ {α : Type} [Inhabited α] (l : List α) (u : α → Bool) (n : Nat) : slotsTo l u (n + 1) = if u (nth l (n : Int)) = true then slotsTo l u n ++ [(n : Int)] else slotsTo l u n := by
  unfold slotsTo
  rw [List.range_succ, List.filter_append]
  cases h : u (nth l (n : Int)) <;> simp [h]
theorem slotsTo_len {α : Type} [Inhabited α] (l : List α) (u : α → Bool) (n : Nat) : (slotsTo l u n).length ≤ n := by
  unfold slotsTo
  rw [List.length_map]
  exact Nat.le_trans (List.length_filter_le _ _) (by simp)
theorem rowHas_nat {α : Type} [Inhabited α] {l : List α} {u : α → Bool} {i : Nat} (h : i < l.length) : rowHas l u i = u (nth l i) := by
  unfold rowHas
  rw [decide_eq_true (Int.natCast_nonneg i), decide_eq_true (show (i : Int) < (l.length : Int) by omega), Bool.true_and, Bool.true_and]
theorem rowSlots_Trade_ok (l : List Trade) (tk : Nat) (u : Trade → Bool) (hl : l.length ≤ 4096) (hu : ∀ x m, lim prog tk [.agg x.cells] m = some (.bool (u x), m)) (m : Mem) : fin 71 [.iptr [.sl .any (l.map Trade.cells), .fn tk [] []] 0] m = some (.sl .any ((slotsTo l u l.length).map icell), m) := by
  have hx := fun i : Int => rowHas_Trade_ok i l tk u hu
  simp only [rx, reduceIte, zqa, zqb, zqc, zqd, zqe, zqf, zqg, zqh, zqi, zqj, zqk, zql, zqm, zqn, lim_call] at hu
  refine fn_of quota_Row_Trade_Slots (by kernel_rfl) rfl rfl (by simp only [nx]) ?_ m; simp only [rx, reduceIte, zqa, zqb, zqc, zqd, zqe, zqf, zqg, zqh, zqi, zqj, zqk, zql, zqm, zqn, lim_call, quota_Row_Trade_Slots, rowMade_Trade_r, hu]
  refine wpK_range l.length (fun i => [(0, .iptr [.sl .any (l.map Trade.cells), .fn tk [] []] 0), (3, accV 0 0 1 ((slotsTo l u i).map icell))]) (fun i => accM [] 0 ((slotsTo l u i).map icell)) (fun i => True) (by omega) (by decide) (by simp only [rx, reduceIte, zqa, zqb, zqc, zqd, zqe, zqf, zqg, zqh, zqi, zqj, zqk, zql, zqm, zqn]) (by simp only [rx, reduceIte, zqa, zqb, zqc, zqd, zqe, zqf, zqg, zqh, zqi, zqj, zqk, zql, zqm, zqn]) (by simp only [rx, reduceIte, zqa, zqb, zqc, zqd, zqe, zqf, zqg, zqh, zqi, zqj, zqk, zql, zqm, zqn, holds_cons, holds_nil, slotsTo_zero, accV_nil]) rfl trivial ?_ ?_
  · intro i hi hP T hS hn hk
    simp only [holds_cons, holds_nil, and_true] at hS
    have hlen := slotsTo_len l u i
    have ha := acc_map (f := icell) (bs := []) (g := 0) (sz := 1) (bytes := 8) (l := slotsTo l u i) (i : Int) (fun _ => rfl) (by unfold wide; omega) (by decide)
    have hs := slotsTo_succ l u i
    simp only [List.length_nil, icell_ce] at ha
    simp only [rx, reduceIte, zqa, zqb, zqc, zqd, zqe, zqf, zqg, zqh, zqi, zqj, zqk, zql, zqm, zqn, lim_call, *, hx, rowHas_nat hi]
    refine condK_split (fun h => ?_) (fun h => ?_)
    · rw [if_pos h] at hs
      simp only [rx, reduceIte, zqa, zqb, zqc, zqd, zqe, zqf, zqg, zqh, zqi, zqj, zqk, zql, zqm, zqn, lim_call, *, holds_cons, holds_nil]
    · rw [if_neg (by simp [h])] at hs
      simp only [rx, reduceIte, zqa, zqb, zqc, zqd, zqe, zqf, zqg, zqh, zqi, zqj, zqk, zql, zqm, zqn, lim_call, *, holds_cons, holds_nil]
  · intro hP T hS hn hk
    simp only [holds_cons, holds_nil, and_true] at hS
    simp only [rx, reduceIte, zqa, zqb, zqc, zqd, zqe, zqf, zqg, zqh, zqi, zqj, zqk, zql, zqm, zqn, lim_call, *]
    exact frz_acc (f := icell) (bs := []) (g := 0) (fun _ => rfl) (Nat.zero_le _) (fun _ => rfl)
theorem rowSlots_Order_ok (l : List Order) (tk : Nat) (u : Order → Bool) (hl : l.length ≤ 4096) (hu : ∀ x m, lim prog tk [.agg x.cells] m = some (.bool (u x), m)) (m : Mem) : fin 233 [.iptr [.sl .any (l.map Order.cells), .fn tk [] []] 0] m = some (.sl .any ((slotsTo l u l.length).map icell), m) := by
  have hx := fun i : Int => rowHas_Order_ok i l tk u hu
  simp only [rx, reduceIte, zqa, zqb, zqc, zqd, zqe, zqf, zqg, zqh, zqi, zqj, zqk, zql, zqm, zqn, lim_call] at hu
  refine fn_of quota_Row_Order_Slots (by kernel_rfl) rfl rfl (by simp only [nx]) ?_ m; simp only [rx, reduceIte, zqa, zqb, zqc, zqd, zqe, zqf, zqg, zqh, zqi, zqj, zqk, zql, zqm, zqn, lim_call, quota_Row_Order_Slots, rowMade_Order_r, hu]
  refine wpK_range l.length (fun i => [(0, .iptr [.sl .any (l.map Order.cells), .fn tk [] []] 0), (3, accV 0 0 1 ((slotsTo l u i).map icell))]) (fun i => accM [] 0 ((slotsTo l u i).map icell)) (fun i => True) (by omega) (by decide) (by simp only [rx, reduceIte, zqa, zqb, zqc, zqd, zqe, zqf, zqg, zqh, zqi, zqj, zqk, zql, zqm, zqn]) (by simp only [rx, reduceIte, zqa, zqb, zqc, zqd, zqe, zqf, zqg, zqh, zqi, zqj, zqk, zql, zqm, zqn]) (by simp only [rx, reduceIte, zqa, zqb, zqc, zqd, zqe, zqf, zqg, zqh, zqi, zqj, zqk, zql, zqm, zqn, holds_cons, holds_nil, slotsTo_zero, accV_nil]) rfl trivial ?_ ?_
  · intro i hi hP T hS hn hk
    simp only [holds_cons, holds_nil, and_true] at hS
    have hlen := slotsTo_len l u i
    have ha := acc_map (f := icell) (bs := []) (g := 0) (sz := 1) (bytes := 8) (l := slotsTo l u i) (i : Int) (fun _ => rfl) (by unfold wide; omega) (by decide)
    have hs := slotsTo_succ l u i
    simp only [List.length_nil, icell_ce] at ha
    simp only [rx, reduceIte, zqa, zqb, zqc, zqd, zqe, zqf, zqg, zqh, zqi, zqj, zqk, zql, zqm, zqn, lim_call, *, hx, rowHas_nat hi]
    refine condK_split (fun h => ?_) (fun h => ?_)
    · rw [if_pos h] at hs
      simp only [rx, reduceIte, zqa, zqb, zqc, zqd, zqe, zqf, zqg, zqh, zqi, zqj, zqk, zql, zqm, zqn, lim_call, *, holds_cons, holds_nil]
    · rw [if_neg (by simp [h])] at hs
      simp only [rx, reduceIte, zqa, zqb, zqc, zqd, zqe, zqf, zqg, zqh, zqi, zqj, zqk, zql, zqm, zqn, lim_call, *, holds_cons, holds_nil]
  · intro hP T hS hn hk
    simp only [holds_cons, holds_nil, and_true] at hS
    simp only [rx, reduceIte, zqa, zqb, zqc, zqd, zqe, zqf, zqg, zqh, zqi, zqj, zqk, zql, zqm, zqn, lim_call, *]
    exact frz_acc (f := icell) (bs := []) (g := 0) (fun _ => rfl) (Nat.zero_le _) (fun _ => rfl)
end Go.Rx.Api

set_option linter.unusedSimpArgs false
set_option linter.unusedVariables false
set_option maxRecDepth 20000
namespace Go.Rx.Api
open Go.Rx
open Nat renaming reduceEqDiff → zqa, reduceAdd → zqb, reduceMul → zqc, reduceLeDiff → zqd, reduceBEq → zqe, reduceBNe → zqf, reduceSub → zqg, reduceLT → zqh
open Int renaming reduceLE → zqi, reduceLT → zqj, reduceToNat → zqk, reduceNeg → zql, reduceEq → zqm, reduceBEq → zqn
def rowFirst {α : Type} (l : List α) (u : α → Bool) : Int × Int := if idxOf l (fun x => !u x) < 0 then (0, 8) else (idxOf l (fun x => !u x), 0)
def rowPut {α : Type} (l : List α) (i : Int) (x : α) : List α × Int := if i < 0 then ([], 1) else if (l.length : Int) ≤ i then ([], 1) else (l.set i.toNat x, 0)
def rowAdd {α : Type} (l : List α) (u : α → Bool) (x : α) : List α × Int × Int := if idxOf l (fun x => !u x) < 0 then ([], 0, 8) else (l.set (idxOf l (fun x => !u x)).toNat x, idxOf l (fun x => !u x), 0)
theorem idxOf_lt {α : Type} (l : List α) (p : α → Bool) : idxOf l p < l.length := by
  unfold idxOf
  cases h : l.findIdx? p with
  | none => show (-1 : Int) < _; omega
  | some i =>
    rw [List.findIdx?_eq_some_iff_getElem] at h
    obtain ⟨hi, _⟩ := h
    show (i : Int) < _; omega
theorem rowFirst1_Item_ok (x : Item) (l : List Item) (tk : Nat) (u : Item → Bool) (hu : ∀ x m, lim prog tk [.agg x.cells] m = some (.bool (u x), m)) (m : Mem) : fin 238 [.agg (x : Item).cells, .iptr [.iptr [.sl .any (l.map Item.cells), .fn tk [] []] 0] 0] m = some (.bool (!u x), m) := by
  have hx := hu x
  simp only [rx, reduceIte, zqa, zqb, zqc, zqd, zqe, zqf, zqg, zqh, zqi, zqj, zqk, zql, zqm, zqn, lim_call] at hx
  refine fn_of quota_Row_Item_First_1 (by kernel_rfl) rfl rfl (by simp only [nx]) ?_ m; simp only [rx, reduceIte, zqa, zqb, zqc, zqd, zqe, zqf, zqg, zqh, zqi, zqj, zqk, zql, zqm, zqn, lim_call, quota_Row_Item_First_1, hx]
theorem rowFirst_Item_ok (l : List Item) (tk : Nat) (u : Item → Bool) (hl : l.length ≤ 4096) (hu : ∀ x m, lim prog tk [.agg x.cells] m = some (.bool (u x), m)) (m : Mem) : fin 216 [.iptr [.sl .any (l.map Item.cells), .fn tk [] []] 0] m = some (.tup [.int .i64 ((rowFirst l u).1), .int .i64 ((rowFirst l u).2)], m) := by
  have hx : ∀ m, fin 202 [.sl .any (l.map Item.cells), .fn 238 [] [.iptr [.iptr [.sl .any (l.map Item.cells), .fn tk [] []] 0] 0]] m = _ := fun m => idx_Item_ok l 238 [] [.iptr [.iptr [.sl .any (l.map Item.cells), .fn tk [] []] 0] 0] (fun x => !u x) (by omega) (fun _ => rfl) (fun n => by simp only [nx, norms]) (fun x _ m => rowFirst1_Item_ok x l tk u hu m) m
  refine fn_of quota_Row_Item_First (by kernel_rfl) rfl rfl (by simp only [nx]) ?_ m; simp only [rx, reduceIte, zqa, zqb, zqc, zqd, zqe, zqf, zqg, zqh, zqi, zqj, zqk, zql, zqm, zqn, lim_call, quota_Row_Item_First, rowMade_Item_r, hx, rowFirst]
  have _ := @rowMade_Item_r; exact autoT
theorem cloneRaw_Item (l : List Item) (m : Mem) (hne : l ≠ []) (hl : l.length ≤ 4096) : fin 267 [.sl .any (l.map Item.cells)] m = some (.msl m.bs.length m.gen 6 0 l.length false, m.push (l.map Item.cells).flatten) := by
  have hne' : l.map Item.cells ≠ [] := fun h => hne (List.map_eq_nil_iff.1 h)
  have he : emptyFirst [.sl .any (l.map Item.cells)] = false := by cases l with | nil => exact (hne rfl).elim | cons a l => rfl
  refine fn_raw slices_Clone_Item_Item_raw (by kernel_rfl) rfl (by rw [he]; rfl) ?_
  have h1 := append_rows (m := m) (fl := .any) (fit_Item l) hne' (bytes := 56) (by rw [List.length_map]; unfold wide; omega) (by decide)
  simp only [rx, reduceIte, zqa, zqb, zqc, zqd, zqe, zqf, zqg, zqh, zqi, zqj, zqk, zql, zqm, zqn, lim_call, slices_Clone_Item_Item_raw, eqK_rows hne', h1]
theorem rowPut_Item_ok (i : Int) (x : Item) (l : List Item) (tk : Nat) (hl : l.length ≤ 4096) (m : Mem) : fin 171 [.iptr [.sl .any (l.map Item.cells), .fn tk [] []] 0, .int .i64 (i), .agg (x : Item).cells] m = some (.tup [.sl .any (((rowPut l i x).1).map Item.cells), .int .i64 ((rowPut l i x).2)], m) := by
  refine fn_of quota_Row_Item_Put (by kernel_rfl) rfl rfl (by simp only [nx]) ?_ m; simp only [rx, reduceIte, zqa, zqb, zqc, zqd, zqe, zqf, zqg, zqh, zqi, zqj, zqk, zql, zqm, zqn, lim_call, quota_Row_Item_Put, rowMade_Item_r, rowPut]
  refine guardK_split (fun h => ?_) (fun h => ?_)
  · simp only [sx] at h
    simp only [rx, reduceIte, zqa, zqb, zqc, zqd, zqe, zqf, zqg, zqh, zqi, zqj, zqk, zql, zqm, zqn, lim_call, h]
  · simp only [sx] at h
    simp only [rx, reduceIte, zqa, zqb, zqc, zqd, zqe, zqf, zqg, zqh, zqi, zqj, zqk, zql, zqm, zqn, lim_call, h]
    refine condK_split (fun h2 => ?_) (fun h2 => ?_)
    · simp only [sx] at h2
      simp only [rx, reduceIte, zqa, zqb, zqc, zqd, zqe, zqf, zqg, zqh, zqi, zqj, zqk, zql, zqm, zqn, lim_call, h2]
    · simp only [sx, Int.not_le] at h2
      have hlt : i.toNat < l.length := by omega
      have hne : l ≠ [] := fun e => by rw [e] at hlt; simp at hlt
      have hc := fun m => cloneRaw_Item l m hne hl
      have h0 : 0 ≤ i := by omega
      have h3 : ¬ (l.length : Int) ≤ i := by omega
      have hle : i.toNat * 6 + 6 ≤ l.length * 6 := by omega
      have hfl : (l.map Item.cells).flatten.length = l.length * 6 := flat_map_len fun _ => rfl
      have hsp := splice_map (f := Item.cells) (sz := 6) x (fun _ => rfl) hlt
      simp only [celld] at hsp
      simp only [rx, reduceIte, zqa, zqb, zqc, zqd, zqe, zqf, zqg, zqh, zqi, zqj, zqk, zql, zqm, zqn, lim_call, rowMade_Item_r, hc, h0, hlt, hle, hfl, hsp, h3]
      rw [← List.length_set (as := l) (i := i.toNat) (a := x), frz_rows (f := Item.cells) (l := l.set i.toNat x) rfl (Nat.le_refl _) (fun _ => rfl) (fun _ => rfl)]
      rfl
theorem rowPut_Item_r (i : Int) (x_used : Bool) (x_name : ByteArray) (x_kind : Int) (x_who : Int) (x_at__label : Int) (x_at__slot : Int) (l : List Item) (tk : Nat) (hl : l.length ≤ 4096) (m : Mem) : fin 171 [.iptr [.sl .any (l.map Item.cells), .fn tk [] []] 0, .int .i64 (i), .agg [.bool x_used, .str x_name, .int .i64 x_kind, .int .i64 x_who, .int .i64 x_at__label, .int .i64 x_at__slot]] m = some (.tup [.sl .any (((rowPut l i (⟨x_used, x_name, x_kind, x_who, ⟨x_at__label, x_at__slot⟩⟩ : Item)).1).map Item.cells), .int .i64 ((rowPut l i (⟨x_used, x_name, x_kind, x_who, ⟨x_at__label, x_at__slot⟩⟩ : Item)).2)], m) := rowPut_Item_ok i ⟨x_used, x_name, x_kind, x_who, ⟨x_at__label, x_at__slot⟩⟩ l tk hl m
theorem rowAdd_Item_ok (x : Item) (l : List Item) (tk : Nat) (u : Item → Bool) (hl : l.length ≤ 4096) (hu : ∀ x m, lim prog tk [.agg x.cells] m = some (.bool (u x), m)) (m : Mem) : fin 169 [.iptr [.sl .any (l.map Item.cells), .fn tk [] []] 0, .agg (x : Item).cells] m = some (.tup [.sl .any (((rowAdd l u x).1).map Item.cells), .int .i64 ((rowAdd l u x).2.1), .int .i64 ((rowAdd l u x).2.2)], m) := by
  have hx := rowFirst_Item_ok l tk u hl hu
  have hlt := idxOf_lt l (fun x => !u x)
  refine fn_of quota_Row_Item_Add (by kernel_rfl) rfl rfl (by simp only [nx]) ?_ m; simp only [rx, reduceIte, zqa, zqb, zqc, zqd, zqe, zqf, zqg, zqh, zqi, zqj, zqk, zql, zqm, zqn, lim_call, quota_Row_Item_Add, rowPut_Item_r, hx, rowFirst, rowAdd]
  by_cases h : idxOf l (fun x => !u x) < 0
  · simp only [rx, reduceIte, zqa, zqb, zqc, zqd, zqe, zqf, zqg, zqh, zqi, zqj, zqk, zql, zqm, zqn, lim_call, h]
  · have h' : ¬ (l.length : Int) ≤ idxOf l (fun x => !u x) := by omega
    simp only [rx, reduceIte, zqa, zqb, zqc, zqd, zqe, zqf, zqg, zqh, zqi, zqj, zqk, zql, zqm, zqn, lim_call, rowPut_Item_r, hl, h, h', rowPut]
end Go.Rx.Api

set_option linter.unusedSimpArgs false
set_option linter.unusedVariables false
set_option maxRecDepth 20000
namespace Go.Rx.Api
open Go.Rx
open Nat renaming reduceEqDiff → zqa, reduceAdd → zqb, reduceMul → zqc, reduceLeDiff → zqd, reduceBEq → zqe, reduceBNe → zqf, reduceSub → zqg, reduceLT → zqh
open Int renaming reduceLE → zqi, reduceLT → zqj, reduceToNat → zqk, reduceNeg → zql, reduceEq → zqm, reduceBEq → zqn
theorem itemUsed_ok (x : Item) (m : Mem) : fin 215 [.agg (x : Item).cells] m = some (.bool (x.used), m) := by
  refine fn_of thing_row_1 (by kernel_rfl) rfl rfl (by simp only [nx]) ?_ m; simp only [rx, reduceIte, zqa, zqb, zqc, zqd, zqe, zqf, zqg, zqh, zqi, zqj, zqk, zql, zqm, zqn, lim_call, thing_row_1]
theorem thingRow_ok (l : List Item) (hl : l.length ≤ 4096) (m : Mem) : fin 167 [.sl .any ((l).map Item.cells)] m = some (.iptr [.sl .any (l.map Item.cells), .fn 215 [] []] 0, m) := by
  refine fn_of thing_row (by kernel_rfl) rfl rfl (by simp only [nx]) ?_ m; simp only [rx, reduceIte, zqa, zqb, zqc, zqd, zqe, zqf, zqg, zqh, zqi, zqj, zqk, zql, zqm, zqn, lim_call, thing_row, rowOf_Item_ok l 215 hl]
theorem thingRow_r (l : List Item) (hl : l.length ≤ 4096) (m : Mem) : fin 167 [.sl .any ((l).map Item.cells)] m = some (.iptr [.sl .any (l.map Item.cells), .fn 215 [] []] 0, m) := thingRow_ok l hl m
theorem rowAdd_Itemr (l : List Item) (used : Bool) (name : ByteArray) (kind who a b : Int) (hl : l.length ≤ 4096) (m : Mem) : fin 169 [.iptr [.sl .any (l.map Item.cells), .fn 215 [] []] 0, .agg [.bool used, .str name, .int .i64 kind, .int .i64 who, .int .i64 a, .int .i64 b]] m = some (.tup [.sl .any ((rowAdd l Item.used ⟨used, name, kind, who, ⟨a, b⟩⟩).1.map Item.cells), .int .i64 (rowAdd l Item.used ⟨used, name, kind, who, ⟨a, b⟩⟩).2.1, .int .i64 (rowAdd l Item.used ⟨used, name, kind, who, ⟨a, b⟩⟩).2.2], m) :=
  rowAdd_Item_ok ⟨used, name, kind, who, ⟨a, b⟩⟩ l 215 Item.used hl (fun x m => itemUsed_ok x m) m
def thingMake (l : List Item) (s : ByteArray) (who : Int) : List Item × Int × Int :=
  if thingRight l = false then ([], 0, 1) else if holderMay ⟨1, who, ⟨0, 0⟩⟩ = false then ([], 0, 1) else if nameRight s = false then ([], 0, 2)
  else rowAdd l Item.used (thingTo ⟨true, s, 0, 0, ⟨0, 0⟩⟩ ⟨1, who, ⟨0, 0⟩⟩)
theorem thingMake_ok (l : List Item) (s : ByteArray) (who : Int) (hl : l.length ≤ 4096) (m : Mem) : fin 92 [.sl .any ((l).map Item.cells), .str (s), .int .i64 (who)] m = some (.tup [.sl .any (((thingMake l s who).1).map Item.cells), .int .i64 ((thingMake l s who).2.1), .int .i64 ((thingMake l s who).2.2)], m) := by
  have hl2 : l.length < 9223372036854775808 := by omega
  refine fn_of thing_Make (by kernel_rfl) rfl rfl (by simp only [nx]) ?_ m; simp only [rx, reduceIte, zqa, zqb, zqc, zqd, zqe, zqf, zqg, zqh, zqi, zqj, zqk, zql, zqm, zqn, lim_call, thing_Make, thingRight_r, holderMay_r, nameRight_r, thingRow_r, thingTo_r, thingMake, hl, hl2, rowAdd_Itemr, thingTo]
  have _ := @thingRight_r; have _ := @holderMay_r; have _ := @nameRight_r; have _ := @thingRow_r; have _ := @thingTo_r; have _ := @rowAdd_Itemr; have _ := @thingTo.eq_1; exact autoT
theorem thingMake_r (l : List Item) (s : ByteArray) (who : Int) (hl : l.length ≤ 4096) (m : Mem) : fin 92 [.sl .any ((l).map Item.cells), .str (s), .int .i64 (who)] m = some (.tup [.sl .any (((thingMake l s who).1).map Item.cells), .int .i64 ((thingMake l s who).2.1), .int .i64 ((thingMake l s who).2.2)], m) := thingMake_ok l s who hl m
def thingMove (l : List Item) (i : Int) (h n : Holder) : List Item × Int :=
  if thingRight l = false then ([], 1) else if holderMay h = false then ([], 1) else if holderMay n = false then ([], 1)
  else if rowHas l Item.used i = false then ([], 3) else if (thingOf (nth l i)).eqb h = false then ([], 3) else rowPut l i (thingTo (nth l i) n)
theorem rowHas_Itemr (l : List Item) (i : Int) (m : Mem) : fin 217 [.iptr [.sl .any (l.map Item.cells), .fn 215 [] []] 0, .int .i64 i] m = some (.bool (rowHas l Item.used i), m) := rowHas_Item_ok i l 215 Item.used (fun x m => itemUsed_ok x m) m
theorem thingMove_ok (l : List Item) (i : Int) (h : Holder) (n : Holder) (hl : l.length ≤ 4096) (m : Mem) : fin 170 [.sl .any ((l).map Item.cells), .int .i64 (i), .agg (h : Holder).cells, .agg (n : Holder).cells] m = some (.tup [.sl .any (((thingMove l i h n).1).map Item.cells), .int .i64 ((thingMove l i h n).2)], m) := by
  have hl2 : l.length < 9223372036854775808 := by omega
  refine fn_of thing_move (by kernel_rfl) rfl rfl (by simp only [nx]) ?_ m; simp only [rx, reduceIte, zqa, zqb, zqc, zqd, zqe, zqf, zqg, zqh, zqi, zqj, zqk, zql, zqm, zqn, lim_call, thing_move, thingRight_r, holderMay_r, thingRow_r, thingOf_r, thingTo_r, rowPut_Item_r, thingMove, hl, hl2, rowHas_Itemr, thingOf, Holder.eqb, thingTo]
  repeat' ((with_reducible first | refine guardK_split (fun h => ?_) (fun h => ?_) | refine gdrawK_split (fun h => ?_) (fun h => ?_) | refine condK_split (fun h => ?_) (fun h => ?_)) <;>
    (have h' := h; (try simp only [sx, Int.not_le, Int.not_lt, Bool.and_eq_true, rowHas] at h'); (try simp only [sxh] at h); simp only [rx, reduceIte, zqa, zqb, zqc, zqd, zqe, zqf, zqg, zqh, zqi, zqj, zqk, zql, zqm, zqn, lim_call, *, thingRight_r, holderMay_r, thingRow_r, thingOf_r, thingTo_r, rowPut_Item_r, rowHas_Itemr, thingOf, thingTo]))
theorem thingMove_r (l : List Item) (i : Int) (h_kind : Int) (h_who : Int) (h_at__label : Int) (h_at__slot : Int) (n_kind : Int) (n_who : Int) (n_at__label : Int) (n_at__slot : Int) (hl : l.length ≤ 4096) (m : Mem) : fin 170 [.sl .any ((l).map Item.cells), .int .i64 (i), .agg [.int .i64 h_kind, .int .i64 h_who, .int .i64 h_at__label, .int .i64 h_at__slot], .agg [.int .i64 n_kind, .int .i64 n_who, .int .i64 n_at__label, .int .i64 n_at__slot]] m = some (.tup [.sl .any (((thingMove l i (⟨h_kind, h_who, ⟨h_at__label, h_at__slot⟩⟩ : Holder) (⟨n_kind, n_who, ⟨n_at__label, n_at__slot⟩⟩ : Holder)).1).map Item.cells), .int .i64 ((thingMove l i (⟨h_kind, h_who, ⟨h_at__label, h_at__slot⟩⟩ : Holder) (⟨n_kind, n_who, ⟨n_at__label, n_at__slot⟩⟩ : Holder)).2)], m) := thingMove_ok l i ⟨h_kind, h_who, ⟨h_at__label, h_at__slot⟩⟩ ⟨n_kind, n_who, ⟨n_at__label, n_at__slot⟩⟩ hl m
def thingScrap (l : List Item) (i who : Int) : List Item × Int := if (thingMove l i ⟨1, who, ⟨0, 0⟩⟩ ⟨1, who, ⟨0, 0⟩⟩).2 = 0 then rowPut l i noItem else ([], (thingMove l i ⟨1, who, ⟨0, 0⟩⟩ ⟨1, who, ⟨0, 0⟩⟩).2)
theorem thingScrap_ok (l : List Item) (i : Int) (who : Int) (hl : l.length ≤ 4096) (m : Mem) : fin 93 [.sl .any ((l).map Item.cells), .int .i64 (i), .int .i64 (who)] m = some (.tup [.sl .any (((thingScrap l i who).1).map Item.cells), .int .i64 ((thingScrap l i who).2)], m) := by
  refine fn_of thing_Scrap (by kernel_rfl) rfl rfl (by simp only [nx]) ?_ m; simp only [rx, reduceIte, zqa, zqb, zqc, zqd, zqe, zqf, zqg, zqh, zqi, zqj, zqk, zql, zqm, zqn, lim_call, thing_Scrap, inHand_r, thingMove_r, thingRow_r, rowPut_Item_r, thingScrap, hl, noItem]
  have _ := @inHand_r; have _ := @thingMove_r; have _ := @thingRow_r; have _ := @rowPut_Item_r; exact autoT
theorem thingScrap_r (l : List Item) (i : Int) (who : Int) (hl : l.length ≤ 4096) (m : Mem) : fin 93 [.sl .any ((l).map Item.cells), .int .i64 (i), .int .i64 (who)] m = some (.tup [.sl .any (((thingScrap l i who).1).map Item.cells), .int .i64 ((thingScrap l i who).2)], m) := thingScrap_ok l i who hl m
def thingDrop (l : List Item) (i who : Int) (a : Ref) : List Item × Int := thingMove l i ⟨1, who, ⟨0, 0⟩⟩ ⟨2, 0, a⟩
theorem thingDrop_ok (l : List Item) (i : Int) (who : Int) (a : Ref) (hl : l.length ≤ 4096) (m : Mem) : fin 94 [.sl .any ((l).map Item.cells), .int .i64 (i), .int .i64 (who), .agg (a : Ref).cells] m = some (.tup [.sl .any (((thingDrop l i who a).1).map Item.cells), .int .i64 ((thingDrop l i who a).2)], m) := by
  refine fn_of thing_Drop (by kernel_rfl) rfl rfl (by simp only [nx]) ?_ m; simp only [rx, reduceIte, zqa, zqb, zqc, zqd, zqe, zqf, zqg, zqh, zqi, zqj, zqk, zql, zqm, zqn, lim_call, thing_Drop, inHand_r, inRoom_r, thingMove_r, thingDrop, hl]
theorem thingDrop_r (l : List Item) (i : Int) (who : Int) (a_label : Int) (a_slot : Int) (hl : l.length ≤ 4096) (m : Mem) : fin 94 [.sl .any ((l).map Item.cells), .int .i64 (i), .int .i64 (who), .agg [.int .i64 a_label, .int .i64 a_slot]] m = some (.tup [.sl .any (((thingDrop l i who (⟨a_label, a_slot⟩ : Ref)).1).map Item.cells), .int .i64 ((thingDrop l i who (⟨a_label, a_slot⟩ : Ref)).2)], m) := thingDrop_ok l i who ⟨a_label, a_slot⟩ hl m
def thingTake (l : List Item) (i who : Int) (a : Ref) : List Item × Int := thingMove l i ⟨2, 0, a⟩ ⟨1, who, ⟨0, 0⟩⟩
theorem thingTake_ok (l : List Item) (i : Int) (who : Int) (a : Ref) (hl : l.length ≤ 4096) (m : Mem) : fin 95 [.sl .any ((l).map Item.cells), .int .i64 (i), .int .i64 (who), .agg (a : Ref).cells] m = some (.tup [.sl .any (((thingTake l i who a).1).map Item.cells), .int .i64 ((thingTake l i who a).2)], m) := by
  refine fn_of thing_Take (by kernel_rfl) rfl rfl (by simp only [nx]) ?_ m; simp only [rx, reduceIte, zqa, zqb, zqc, zqd, zqe, zqf, zqg, zqh, zqi, zqj, zqk, zql, zqm, zqn, lim_call, thing_Take, inRoom_r, inHand_r, thingMove_r, thingTake, hl]
theorem thingTake_r (l : List Item) (i : Int) (who : Int) (a_label : Int) (a_slot : Int) (hl : l.length ≤ 4096) (m : Mem) : fin 95 [.sl .any ((l).map Item.cells), .int .i64 (i), .int .i64 (who), .agg [.int .i64 a_label, .int .i64 a_slot]] m = some (.tup [.sl .any (((thingTake l i who (⟨a_label, a_slot⟩ : Ref)).1).map Item.cells), .int .i64 ((thingTake l i who (⟨a_label, a_slot⟩ : Ref)).2)], m) := thingTake_ok l i who ⟨a_label, a_slot⟩ hl m
def thingPass (l : List Item) (i who other : Int) : List Item × Int := thingMove l i ⟨1, who, ⟨0, 0⟩⟩ ⟨1, other, ⟨0, 0⟩⟩
theorem thingPass_ok (l : List Item) (i : Int) (who : Int) (other : Int) (hl : l.length ≤ 4096) (m : Mem) : fin 96 [.sl .any ((l).map Item.cells), .int .i64 (i), .int .i64 (who), .int .i64 (other)] m = some (.tup [.sl .any (((thingPass l i who other).1).map Item.cells), .int .i64 ((thingPass l i who other).2)], m) := by
  refine fn_of thing_Pass (by kernel_rfl) rfl rfl (by simp only [nx]) ?_ m; simp only [rx, reduceIte, zqa, zqb, zqc, zqd, zqe, zqf, zqg, zqh, zqi, zqj, zqk, zql, zqm, zqn, lim_call, thing_Pass, inHand_r, thingMove_r, thingPass, hl]
theorem thingPass_r (l : List Item) (i : Int) (who : Int) (other : Int) (hl : l.length ≤ 4096) (m : Mem) : fin 96 [.sl .any ((l).map Item.cells), .int .i64 (i), .int .i64 (who), .int .i64 (other)] m = some (.tup [.sl .any (((thingPass l i who other).1).map Item.cells), .int .i64 ((thingPass l i who other).2)], m) := thingPass_ok l i who other hl m
end Go.Rx.Api
