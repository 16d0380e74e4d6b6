/-
A part of the proof: lemmas on the machine that the printed functions run on, or contracts of functions.
-/
import Derived.Test.YtfnioapgelabfaaGreatDoorRxKC
set_option linter.unusedSimpArgs false
set_option linter.unusedVariables false
set_option maxRecDepth 20000
namespace Go.Rx.Api
open Go.Rx
open Nat renaming reduceEqDiff → zqa, reduceAdd → zqb, reduceMul → zqc, reduceLeDiff → zqd, reduceBEq → zqe, reduceBNe → zqf, reduceSub → zqg, reduceLT → zqh
open Int renaming reduceLE → zqi, reduceLT → zqj, reduceToNat → zqk, reduceNeg → zql, reduceEq → zqm, reduceBEq → zqn
def Shelf.wf (h : Shelf) : Prop := h.rooms.length < 9223372036854775808 ∧ h.exits.length < 9223372036854775808 ∧ h.items.length < 9223372036854775808 ∧ h.mails.length < 9223372036854775808 ∧ h.trades.length < 9223372036854775808 ∧ h.purses.length < 9223372036854775808 ∧ h.places.length < 9223372036854775808
def State.wf (s : State) : Prop := s.shelves.length < 9223372036854775808 ∧ (∀ i, (nth s.shelves i).wf) ∧ s.ranks.length < 9223372036854775808 ∧ (∀ i, (nth s.ranks i).length < 9223372036854775808) ∧ s.orders.length < 9223372036854775808 ∧ s.audit.length < 9223372036854775808 ∧ s.sessions.length < 9223372036854775808
theorem mem_nth {α : Type} [Inhabited α] {l : List α} {x : α} (h : x ∈ l) : ∃ i : Nat, i < l.length ∧ x = nth l i := by
  obtain ⟨i, hi, e⟩ := List.getElem_of_mem h
  refine ⟨i, hi, ?_⟩
  have := get_nth_nat hi
  rw [List.getElem?_eq_getElem hi, e] at this
  exact Option.some.inj this
def judgeAccount (r : Realm) (i : Int) : Bool := decide (0 ≤ i) && decide (i < r.accounts.length)
theorem judgeAccount_ok (j : Judge) (i : Int) (m : Mem) : fin 116 [.agg (j : Judge).cells, .int .i64 (i)] m = some (.bool (judgeAccount j.r i), m) := by
  refine fn_of state_judge_account (by kernel_rfl) rfl rfl (by simp only [nx]) ?_ m; simp only [rx, reduceIte, zqa, zqb, zqc, zqd, zqe, zqf, zqg, zqh, zqi, zqj, zqk, zql, zqm, zqn, lim_call, state_judge_account, judgeAccount]
  exact autoT
theorem judgeAccount_r (j_r_labels : List Lab) (j_r_lines : List Int) (j_r_accounts : List Account) (j_r_guilds : List Guild) (j_r_quotas : List Quota) (j_r_orders : Int) (j_r_audits : Int) (j_r_rate : Int) (j_r_rounds : Int) (j_s_round : Int) (j_s_shelves : List Shelf) (j_s_ranks : List (List Int)) (j_s_orders : List Order) (j_s_audit : List Entry) (j_s_sessions : List Int) (i : Int) (m : Mem) : fin 116 [.agg [.sl .any (j_r_labels.map Lab.cells), .sl .any (j_r_lines.map icell), .sl .any (j_r_accounts.map Account.cells), .sl .any (j_r_guilds.map Guild.cells), .sl .any (j_r_quotas.map Quota.cells), .int .i64 j_r_orders, .int .i64 j_r_audits, .int .i64 j_r_rate, .int .i64 j_r_rounds, .int .u64 j_s_round, .sl .any (j_s_shelves.map Shelf.cells), .sl .any (j_s_ranks.map rcell), .sl .any (j_s_orders.map Order.cells), .sl .any (j_s_audit.map Entry.cells), .sl .any (j_s_sessions.map icell)], .int .i64 (i)] m = some (.bool (judgeAccount (⟨⟨j_r_labels, j_r_lines, j_r_accounts, j_r_guilds, j_r_quotas, j_r_orders, j_r_audits, j_r_rate, j_r_rounds⟩, ⟨j_s_round, j_s_shelves, j_s_ranks, j_s_orders, j_s_audit, j_s_sessions⟩⟩ : Judge).r i), m) := judgeAccount_ok ⟨⟨j_r_labels, j_r_lines, j_r_accounts, j_r_guilds, j_r_quotas, j_r_orders, j_r_audits, j_r_rate, j_r_rounds⟩, ⟨j_s_round, j_s_shelves, j_s_ranks, j_s_orders, j_s_audit, j_s_sessions⟩⟩ i m
def sizesAt (r : Realm) (s : State) (i : Nat) : Bool :=
  ((nth s.shelves i).rooms.length : Int) == (nth r.quotas i).rooms && (((nth s.shelves i).exits.length : Int) == (nth r.quotas i).exits && (((nth s.shelves i).items.length : Int) == (nth r.quotas i).items && (((nth s.shelves i).mails.length : Int) == (nth r.quotas i).mails && (((nth s.shelves i).trades.length : Int) == (nth r.quotas i).trades && (((nth s.shelves i).purses.length : Int) == (r.accounts.length : Int) && ((nth s.shelves i).places.length : Int) == (r.accounts.length : Int))))))
def judgeSizes (r : Realm) (s : State) : Bool := realmRight r && ((s.shelves.length : Int) == (r.labels.length : Int) && ((s.orders.length : Int) == r.orders && (!decide (r.audits < (s.audit.length : Int)) && ((s.sessions.length : Int) == (r.lines.length : Int) && (!decide (4611686018427387904 < s.round) && allN s.shelves.length (sizesAt r s))))))
theorem judgeSizes_ok (j : Judge) (hr : j.r.wf) (hs : j.s.shelves.length < 9223372036854775808) (m : Mem) : fin 22 [.agg (j : Judge).cells] m = some (.bool (judgeSizes j.r j.s), m) := by
  refine fn_of state_judge_sizes (by kernel_rfl) rfl rfl (by simp only [nx]) ?_ m; simp only [rx, reduceIte, zqa, zqb, zqc, zqd, zqe, zqf, zqg, zqh, zqi, zqj, zqk, zql, zqm, zqn, lim_call, state_judge_sizes, realmRight_r, judgeSizes, hr]
  repeat' ((with_reducible first | refine guardK_split (fun h => ?_) (fun h => ?_) | refine gdrawK_split (fun h => ?_) (fun h => ?_) | refine condK_split (fun h => ?_) (fun h => ?_)) <;>
    (have h' := h; (try simp only [sx, Int.not_le, Int.not_lt, Bool.and_eq_true] at h'); (try simp only [sxh] at h); simp only [rx, reduceIte, zqa, zqb, zqc, zqd, zqe, zqf, zqg, zqh, zqi, zqj, zqk, zql, zqm, zqn, lim_call, *, realmRight_r, hr]))
  have hR : realmRight j.r = true := by assumption
  have hok := realmOk hR
  have hlen : (j.s.shelves.length : Int) = j.r.labels.length := by assumption
  refine wpK_range j.s.shelves.length (fun i => [(1, .iptr j.cells 0), (3, .int .i64 j.r.accounts.length), (65, .sl .any (j.s.shelves.map Shelf.cells))]) (fun i => m0) (fun i => ∀ k : Nat, k < i → sizesAt j.r j.s k = true) hs (by decide) (by simp only [rx, reduceIte, zqa, zqb, zqc, zqd, zqe, zqf, zqg, zqh, zqi, zqj, zqk, zql, zqm, zqn, lim_call, *]) (by simp only [rx, reduceIte, zqa, zqb, zqc, zqd, zqe, zqf, zqg, zqh, zqi, zqj, zqk, zql, zqm, zqn, lim_call]) (by simp only [rx, reduceIte, zqa, zqb, zqc, zqd, zqe, zqf, zqg, zqh, zqi, zqj, zqk, zql, zqm, zqn, lim_call, holds_cons, holds_nil]) rfl (fun j hj => by omega) ?_ ?_
  · intro i hi hP T hS hn hk
    simp only [holds_cons, holds_nil, and_true, celld] at hS
    obtain ⟨hS1, hS2, hS3⟩ := hS
    have hfin : sizesAt j.r j.s i = false → some (V.bool false) = some (V.bool (allN j.s.shelves.length (sizesAt j.r j.s))) := fun h => by rw [allN_false hi h]
    have hi2 : i < j.r.quotas.length := by rw [hok.quotas]; omega
    clear hlen
    simp only [rx, reduceIte, zqa, zqb, zqc, zqd, zqe, zqf, zqg, zqh, zqi, zqj, zqk, zql, zqm, zqn, lim_call, hS1, hS2, hS3, hn, hk, hi, hi2]
    repeat' (first
      | (with_reducible refine guardK_split (fun h => ?_) (fun h => ?_)) <;> ((try simp only [sxh] at h); simp only [rx, reduceIte, zqa, zqb, zqc, zqd, zqe, zqf, zqg, zqh, zqi, zqj, zqk, zql, zqm, zqn, lim_call, h, hS1, hS2, hS3, hn, hk, holds_cons, holds_nil, celld])
      | (with_reducible refine condK_split (fun h => ?_) (fun h => ?_)) <;> ((try simp only [sxh] at h); simp only [rx, reduceIte, zqa, zqb, zqc, zqd, zqe, zqf, zqg, zqh, zqi, zqj, zqk, zql, zqm, zqn, lim_call, h, hS1, hS2, hS3, hn, hk, holds_cons, holds_nil, celld]))
    all_goals first
      | exact hfin (by simp only [sizesAt, rxc, *])
      | exact all_succ hP (by simp only [sizesAt, rxc, *])
  · intro hP T hS hn hk
    have hall := allN_true (p := sizesAt j.r j.s) hP
    rw [hlen] at hn
    simp only [rx, reduceIte, zqa, zqb, zqc, zqd, zqe, zqf, zqg, zqh, zqi, zqj, zqk, zql, zqm, zqn, lim_call, *]
end Go.Rx.Api

set_option linter.unusedSimpArgs false
set_option linter.unusedVariables false
set_option maxRecDepth 20000
namespace Go.Rx.Api
open Go.Rx
open Nat renaming reduceEqDiff → zqa, reduceAdd → zqb, reduceMul → zqc, reduceLeDiff → zqd, reduceBEq → zqe, reduceBNe → zqf, reduceSub → zqg, reduceLT → zqh
open Int renaming reduceLE → zqi, reduceLT → zqj, reduceToNat → zqk, reduceNeg → zql, reduceEq → zqm, reduceBEq → zqn
def slotsShelf (h : Shelf) : Bool := roomRooms h.rooms && (roomExits h.exits && (thingRight h.items && (postRight h.mails && tradeRight h.trades)))
theorem slotsShelf_ok (h : Shelf) (hw : h.wf) (m : Mem) : fin 46 [.agg (h : Shelf).cells] m = some (.bool (slotsShelf h), m) := by
  simp only [Shelf.wf] at hw
  refine fn_of state_judge_slots_1 (by kernel_rfl) rfl rfl (by simp only [nx]) ?_ m; simp only [rx, reduceIte, zqa, zqb, zqc, zqd, zqe, zqf, zqg, zqh, zqi, zqj, zqk, zql, zqm, zqn, lim_call, state_judge_slots_1, roomRooms_r, roomExits_r, thingRight_r, postRight_r, tradeRight_r, slotsShelf, hw]
  have _ := @roomRooms_r; have _ := @roomExits_r; have _ := @thingRight_r; have _ := @postRight_r; have _ := @tradeRight_r; exact autoT
def judgeSlots (s : State) : Bool := s.shelves.all slotsShelf
theorem judgeSlots_ok (j : Judge) (hs : j.s.wf) (m : Mem) : fin 23 [.agg (j : Judge).cells] m = some (.bool (judgeSlots j.s), m) := by
  have hx := all_Shelf_ok j.s.shelves 46 [] [] slotsShelf hs.1 (fun _ => rfl) (fun _ => rfl) (fun x hx m => by
    obtain ⟨i, hi, rfl⟩ := mem_nth hx
    exact slotsShelf_ok _ (hs.2.1 i) m)
  refine fn_of state_judge_slots (by kernel_rfl) rfl rfl (by simp only [nx]) ?_ m; simp only [rx, reduceIte, zqa, zqb, zqc, zqd, zqe, zqf, zqg, zqh, zqi, zqj, zqk, zql, zqm, zqn, lim_call, state_judge_slots, hx, judgeSlots]
def publicOrder (r : Realm) (s : State) (o : Order) : Bool := !o.used || (judgeLabel r o.label && (judgeAccount r o.who && decide (o.seq < s.audit.length)))
theorem publicOrder_ok (o : Order) (j : Judge) (m : Mem) : fin 51 [.agg (o : Order).cells, .iptr (Judge.cells j) 0] m = some (.bool (publicOrder j.r j.s o), m) := by
  refine fn_of state_judge_public_1 (by kernel_rfl) rfl rfl (by simp only [nx]) ?_ m; simp only [rx, reduceIte, zqa, zqb, zqc, zqd, zqe, zqf, zqg, zqh, zqi, zqj, zqk, zql, zqm, zqn, lim_call, state_judge_public_1, judgeLabel_r, judgeAccount_r, publicOrder]
  have _ := @judgeLabel_r; have _ := @judgeAccount_r; exact autoT
def publicEntry (r : Realm) (s : State) (x : Entry) : Bool := decide (x.line < r.lines.length) && (x.label == nth r.lines x.line && (judgeAccount r x.who && decide (x.round ≤ s.round)))
theorem publicEntry_ok (x : Entry) (j : Judge) (h0 : 0 ≤ x.line) (m : Mem) : fin 53 [.agg (x : Entry).cells, .iptr (Judge.cells j) 0] m = some (.bool (publicEntry j.r j.s x), m) := by
  refine fn_of state_judge_public_2 (by kernel_rfl) rfl rfl (by simp only [nx]) ?_ m; simp only [rx, reduceIte, zqa, zqb, zqc, zqd, zqe, zqf, zqg, zqh, zqi, zqj, zqk, zql, zqm, zqn, lim_call, state_judge_public_2, judgeAccount_r, publicEntry]
  have _ := @judgeAccount_r; exact autoT
def publicSeat (r : Realm) (n : Int) : Bool := n == -1 || judgeAccount r n
theorem publicSeat_ok (n : Int) (j : Judge) (m : Mem) : fin 55 [.int .i64 (n), .iptr (Judge.cells j) 0] m = some (.bool (publicSeat j.r n), m) := by
  refine fn_of state_judge_public_3 (by kernel_rfl) rfl rfl (by simp only [nx]) ?_ m; simp only [rx, reduceIte, zqa, zqb, zqc, zqd, zqe, zqf, zqg, zqh, zqi, zqj, zqk, zql, zqm, zqn, lim_call, state_judge_public_3, judgeAccount_r, publicSeat]
  have _ := @judgeAccount_r; exact autoT
def judgePublic (r : Realm) (s : State) : Bool := hallRight r s.ranks && (bookRight s.orders && (auditRight s.audit && (there s ⟨0, 0⟩ && (s.orders.all (publicOrder r s) && (s.audit.all (publicEntry r s) && s.sessions.all (publicSeat r))))))
theorem auditRight_line {l : List Entry} (h : auditRight l = true) : ∀ x ∈ l, 0 ≤ x.line := by
  intro x hx
  obtain ⟨i, hi, rfl⟩ := mem_nth hx
  have := allN_iff.1 h i hi
  simp only [auditOk, entryMay, isNum, Bool.and_eq_true, decide_eq_true_eq] at this
  omega
theorem judgePublic_ok (j : Judge) (hr : j.r.wf) (hs : j.s.wf) (m : Mem) : fin 24 [.agg (j : Judge).cells] m = some (.bool (judgePublic j.r j.s), m) := by
  have hs2 := hs
  simp only [State.wf] at hs2
  obtain ⟨w1, w2, w3, w4, w5, w6, w7⟩ := hs2
  have hx1 := all_Order_ok j.s.orders 51 [] [.iptr j.cells 0] (publicOrder j.r j.s) w5 (fun _ => rfl) (fun n => by simp only [nx, norms]) (fun x hx m => publicOrder_ok x j m)
  have hx2 := fun h : auditRight j.s.audit = true => all_Entry_ok j.s.audit 53 [] [.iptr j.cells 0] (publicEntry j.r j.s) w6 (fun _ => rfl) (fun n => by simp only [nx, norms]) (fun x hx m => publicEntry_ok x j (auditRight_line h x hx) m)
  have hx3 := all_Int_ok j.s.sessions 55 [] [.iptr j.cells 0] (publicSeat j.r) w7 (fun _ => rfl) (fun n => by simp only [nx, norms]) (fun x hx m => publicSeat_ok x j m)
  simp only [celld] at hx1 hx2 hx3
  refine fn_of state_judge_public (by kernel_rfl) rfl rfl (by simp only [nx]) ?_ m; simp only [rx, reduceIte, zqa, zqb, zqc, zqd, zqe, zqf, zqg, zqh, zqi, zqj, zqk, zql, zqm, zqn, lim_call, state_judge_public, hallRight_r, bookRight_r, auditRight_r, there_r, judgePublic, hr, w1, w2, w3, w4, w5, w6, w7]
  have _ := @hallRight_r; have _ := @bookRight_r; have _ := @auditRight_r; have _ := @there_r; exact autoT
def belowRoom (r : Realm) (s : State) (i : Int) (a : Ref) : Bool := there s a && judgeLeq r a.label i
theorem belowRoom_ok (a : Ref) (j : Judge) (i : Int) (m : Mem) : fin 122 [.agg (a : Ref).cells, .iptr (Judge.cells j) 0, .iptr [.int .i64 i] 0] m = some (.bool (belowRoom j.r j.s i a), m) := by
  refine fn_of state_judge_below_1 (by kernel_rfl) rfl rfl (by simp only [nx]) ?_ m; simp only [rx, reduceIte, zqa, zqb, zqc, zqd, zqe, zqf, zqg, zqh, zqi, zqj, zqk, zql, zqm, zqn, lim_call, state_judge_below_1, there_r, judgeLeq_r, belowRoom]
  have _ := @there_r; have _ := @judgeLeq_r; exact autoT
theorem below_ok (j : Judge) (i : Int) (m : Mem) : fin 57 [.agg (j : Judge).cells, .int .i64 (i)] m = some (.fn 122 [] [.iptr (Judge.cells j) 0, .iptr [.int .i64 i] 0], m) := by
  refine fn_of state_judge_below (by kernel_rfl) rfl rfl (by simp only [nx]) ?_ m; simp only [rx, reduceIte, zqa, zqb, zqc, zqd, zqe, zqf, zqg, zqh, zqi, zqj, zqk, zql, zqm, zqn, lim_call, state_judge_below]
theorem below_r (j_r_labels : List Lab) (j_r_lines : List Int) (j_r_accounts : List Account) (j_r_guilds : List Guild) (j_r_quotas : List Quota) (j_r_orders : Int) (j_r_audits : Int) (j_r_rate : Int) (j_r_rounds : Int) (j_s_round : Int) (j_s_shelves : List Shelf) (j_s_ranks : List (List Int)) (j_s_orders : List Order) (j_s_audit : List Entry) (j_s_sessions : List Int) (i : Int) (m : Mem) : fin 57 [.agg [.sl .any (j_r_labels.map Lab.cells), .sl .any (j_r_lines.map icell), .sl .any (j_r_accounts.map Account.cells), .sl .any (j_r_guilds.map Guild.cells), .sl .any (j_r_quotas.map Quota.cells), .int .i64 j_r_orders, .int .i64 j_r_audits, .int .i64 j_r_rate, .int .i64 j_r_rounds, .int .u64 j_s_round, .sl .any (j_s_shelves.map Shelf.cells), .sl .any (j_s_ranks.map rcell), .sl .any (j_s_orders.map Order.cells), .sl .any (j_s_audit.map Entry.cells), .sl .any (j_s_sessions.map icell)], .int .i64 (i)] m = some (.fn 122 [] [.iptr (Judge.cells (⟨⟨j_r_labels, j_r_lines, j_r_accounts, j_r_guilds, j_r_quotas, j_r_orders, j_r_audits, j_r_rate, j_r_rounds⟩, ⟨j_s_round, j_s_shelves, j_s_ranks, j_s_orders, j_s_audit, j_s_sessions⟩⟩ : Judge)) 0, .iptr [.int .i64 i] 0], m) := below_ok ⟨⟨j_r_labels, j_r_lines, j_r_accounts, j_r_guilds, j_r_quotas, j_r_orders, j_r_audits, j_r_rate, j_r_rounds⟩, ⟨j_s_round, j_s_shelves, j_s_ranks, j_s_orders, j_s_audit, j_s_sessions⟩⟩ i m
def roomsExit (r : Realm) (s : State) (i : Int) (x : Exit) : Bool := !x.used || (belowRoom r s i x.from_ && belowRoom r s i x.to_)
theorem roomsExit_ok (x : Exit) (j : Judge) (i : Int) (m : Mem) : fin 58 [.agg (x : Exit).cells, .iptr [.fn 122 [] [.iptr (Judge.cells j) 0, .iptr [.int .i64 i] 0]] 0] m = some (.bool (roomsExit j.r j.s i x), m) := by
  have hb := fun a => belowRoom_ok a j i
  simp only [celld] at hb
  refine fn_of state_judge_rooms_1 (by kernel_rfl) rfl rfl (by simp only [nx]) ?_ m; simp only [rx, reduceIte, zqa, zqb, zqc, zqd, zqe, zqf, zqg, zqh, zqi, zqj, zqk, zql, zqm, zqn, lim_call, state_judge_rooms_1, roomsExit, hb]
  exact autoT
def roomsItem (r : Realm) (s : State) (i : Int) (x : Item) : Bool := !(x.kind == 2) || belowRoom r s i x.at_
theorem roomsItem_ok (x : Item) (j : Judge) (i : Int) (m : Mem) : fin 60 [.agg (x : Item).cells, .iptr [.fn 122 [] [.iptr (Judge.cells j) 0, .iptr [.int .i64 i] 0]] 0] m = some (.bool (roomsItem j.r j.s i x), m) := by
  have hb := fun a => belowRoom_ok a j i
  simp only [celld] at hb
  refine fn_of state_judge_rooms_2 (by kernel_rfl) rfl rfl (by simp only [nx]) ?_ m; simp only [rx, reduceIte, zqa, zqb, zqc, zqd, zqe, zqf, zqg, zqh, zqi, zqj, zqk, zql, zqm, zqn, lim_call, state_judge_rooms_2, roomsItem, hb]
  exact autoT
end Go.Rx.Api

set_option linter.unusedSimpArgs false
set_option linter.unusedVariables false
set_option maxRecDepth 20000
namespace Go.Rx.Api
open Go.Rx
open Nat renaming reduceEqDiff → zqa, reduceAdd → zqb, reduceMul → zqc, reduceLeDiff → zqd, reduceBEq → zqe, reduceBNe → zqf, reduceSub → zqg, reduceLT → zqh
open Int renaming reduceLE → zqi, reduceLT → zqj, reduceToNat → zqk, reduceNeg → zql, reduceEq → zqm, reduceBEq → zqn
section pend2
variable {prog : Nat → Option PF} {T : Tm} {m : Mem} {rest : List RO} {lo hi a b sa sb : Nat}
theorem opsK_pend2 (h : (a == b) = false) : opsK prog (⟨some b, .pend sb, none, lo, hi⟩ :: rest) [(a, sa)] T m = opsK prog rest [(b, sb), (a, sa)] (upd T b .undef) m := by
  unfold opsK
  simp only [evOps, wantedG, Option.bind_some, pendStep, List.filter, bne, h, Bool.not_false, stepOp, updO]
theorem opsK_init2 {imm : Bool} {x : Opd} (h : (b == a) = false) : opsK prog (⟨some a, .init imm sa a x, none, lo, hi⟩ :: rest) [(b, sb), (a, sa)] T m = stepK prog (stepOp (lim prog) T m (.init imm sa a x)) (some a) rest [(b, sb)] T := by
  unfold opsK stepK
  have hc : [(b, sb), (a, sa)].contains (a, sa) = true := by simp
  simp only [evOps, wantedG, Option.bind_some, pendStep, hc, beq_self_eq_true, Bool.and_self, if_true, List.filter, bne, h, Bool.not_false, Bool.not_true]
  cases stepOp (lim prog) T m (.init imm sa a x) <;> rfl
end pend2
def roomsAt (r : Realm) (s : State) (i : Nat) : Bool := (nth s.shelves i).exits.all (roomsExit r s i) && ((nth s.shelves i).items.all (roomsItem r s i) && (nth s.shelves i).places.all (belowRoom r s i))
def judgeRooms (r : Realm) (s : State) : Bool := allN s.shelves.length (roomsAt r s)
theorem judgeRooms_ok (j : Judge) (hs : j.s.wf) (m : Mem) : fin 25 [.agg (j : Judge).cells] m = some (.bool (judgeRooms j.r j.s), m) := by
  have hx1 := fun (i : Nat) => all_Exit_ok (nth j.s.shelves i).exits 58 [] [.iptr [.fn 122 [] [.iptr (Judge.cells j) 0, .iptr [.int .i64 i] 0]] 0] (roomsExit j.r j.s i) (hs.2.1 i).2.1 (fun _ => rfl) (fun n => by simp only [nx, norms]) (fun x hx m => roomsExit_ok x j i m)
  have hx2 := fun (i : Nat) => all_Item_ok (nth j.s.shelves i).items 60 [] [.iptr [.fn 122 [] [.iptr (Judge.cells j) 0, .iptr [.int .i64 i] 0]] 0] (roomsItem j.r j.s i) (hs.2.1 i).2.2.1 (fun _ => rfl) (fun n => by simp only [nx, norms]) (fun x hx m => roomsItem_ok x j i m)
  have hx3 := fun (i : Nat) => all_Ref_ok (nth j.s.shelves i).places 122 [] [.iptr (Judge.cells j) 0, .iptr [.int .i64 i] 0] (belowRoom j.r j.s i) (hs.2.1 i).2.2.2.2.2.2 (fun _ => rfl) (fun n => by simp only [nx, norms]) (fun x hx m => belowRoom_ok x j i m)
  simp only [celld] at hx1 hx2 hx3
  refine fn_of state_judge_rooms (by kernel_rfl) rfl rfl (by simp only [nx]) ?_ m; simp only [rx, reduceIte, zqa, zqb, zqc, zqd, zqe, zqf, zqg, zqh, zqi, zqj, zqk, zql, zqm, zqn, lim_call, state_judge_rooms, below_r]
  refine wpK_range j.s.shelves.length (fun i => [(1, .iptr j.cells 0), (10, .sl .any (j.s.shelves.map Shelf.cells))]) (fun i => m0) (fun i => ∀ k : Nat, k < i → roomsAt j.r j.s k = true) hs.1 (by decide) (by simp only [rx, reduceIte, zqa, zqb, zqc, zqd, zqe, zqf, zqg, zqh, zqi, zqj, zqk, zql, zqm, zqn, lim_call]) (by simp only [rx, reduceIte, zqa, zqb, zqc, zqd, zqe, zqf, zqg, zqh, zqi, zqj, zqk, zql, zqm, zqn, lim_call]) (by simp only [rx, reduceIte, zqa, zqb, zqc, zqd, zqe, zqf, zqg, zqh, zqi, zqj, zqk, zql, zqm, zqn, lim_call, holds_cons, holds_nil]) rfl (fun j hj => by omega) ?_ ?_
  · intro i hi hP T hS hn hk
    simp only [holds_cons, holds_nil, and_true, celld] at hS
    have hfin : roomsAt j.r j.s i = false → some (V.bool false) = some (V.bool (judgeRooms j.r j.s)) := fun h => by rw [judgeRooms, allN_false hi h]
    simp only [rx, reduceIte, zqa, zqb, zqc, zqd, zqe, zqf, zqg, zqh, zqi, zqj, zqk, zql, zqm, zqn, lim_call, hS, hn, hk, hi, hx1, hx2, below_r]
    repeat' (first
      | (with_reducible refine guardK_split (fun h => ?_) (fun h => ?_)) <;> ((try simp only [sxh] at h); simp only [rx, reduceIte, zqa, zqb, zqc, zqd, zqe, zqf, zqg, zqh, zqi, zqj, zqk, zql, zqm, zqn, lim_call, h, hS, hn, hk, hx1, hx2, hx3, holds_cons, holds_nil, celld])
      | (with_reducible refine condK_split (fun h => ?_) (fun h => ?_)) <;> ((try simp only [sxh] at h); simp only [rx, reduceIte, zqa, zqb, zqc, zqd, zqe, zqf, zqg, zqh, zqi, zqj, zqk, zql, zqm, zqn, lim_call, h, hS, hn, hk, holds_cons, holds_nil, celld]))
    all_goals first
      | exact hfin (by simp only [roomsAt, rxc, *])
      | exact all_succ hP (by simp only [roomsAt, rxc, *])
  · intro hP T hS hn hk
    simp only [rx, reduceIte, zqa, zqb, zqc, zqd, zqe, zqf, zqg, zqh, zqi, zqj, zqk, zql, zqm, zqn, lim_call, judgeRooms, allN_true hP]
def peopleItem (r : Realm) (x : Item) : Bool := !(x.kind == 1) || judgeAccount r x.who
theorem peopleItem_ok (x : Item) (j : Judge) (m : Mem) : fin 63 [.agg (x : Item).cells, .iptr (Judge.cells j) 0] m = some (.bool (peopleItem j.r x), m) := by
  refine fn_of state_judge_people_1 (by kernel_rfl) rfl rfl (by simp only [nx]) ?_ m; simp only [rx, reduceIte, zqa, zqb, zqc, zqd, zqe, zqf, zqg, zqh, zqi, zqj, zqk, zql, zqm, zqn, lim_call, state_judge_people_1, judgeAccount_r, peopleItem]
  have _ := @judgeAccount_r; exact autoT
def peopleMail (r : Realm) (i : Int) (x : Mail) : Bool := !x.used || (judgeLeq r x.label i && (judgeAccount r x.from_ && judgeAccount r x.to_))
theorem peopleMail_ok (x : Mail) (j : Judge) (i : Int) (m : Mem) : fin 64 [.agg (x : Mail).cells, .iptr (Judge.cells j) 0, .iptr [.int .i64 i] 0] m = some (.bool (peopleMail j.r i x), m) := by
  refine fn_of state_judge_people_2 (by kernel_rfl) rfl rfl (by simp only [nx]) ?_ m; simp only [rx, reduceIte, zqa, zqb, zqc, zqd, zqe, zqf, zqg, zqh, zqi, zqj, zqk, zql, zqm, zqn, lim_call, state_judge_people_2, judgeLeq_r, judgeAccount_r, peopleMail]
  have _ := @judgeLeq_r; have _ := @judgeAccount_r; exact autoT
def peopleTrade (r : Realm) (x : Trade) : Bool := !x.used || (judgeAccount r x.a && judgeAccount r x.b)
theorem peopleTrade_ok (x : Trade) (j : Judge) (m : Mem) : fin 66 [.agg (x : Trade).cells, .iptr (Judge.cells j) 0] m = some (.bool (peopleTrade j.r x), m) := by
  refine fn_of state_judge_people_3 (by kernel_rfl) rfl rfl (by simp only [nx]) ?_ m; simp only [rx, reduceIte, zqa, zqb, zqc, zqd, zqe, zqf, zqg, zqh, zqi, zqj, zqk, zql, zqm, zqn, lim_call, state_judge_people_3, judgeAccount_r, peopleTrade]
  have _ := @judgeAccount_r; exact autoT
def peopleAt (r : Realm) (s : State) (i : Nat) : Bool := (nth s.shelves i).items.all (peopleItem r) && ((nth s.shelves i).mails.all (peopleMail r i) && (nth s.shelves i).trades.all (peopleTrade r))
def judgePeople (r : Realm) (s : State) : Bool := allN s.shelves.length (peopleAt r s)
theorem judgePeople_ok (j : Judge) (hs : j.s.wf) (m : Mem) : fin 26 [.agg (j : Judge).cells] m = some (.bool (judgePeople j.r j.s), m) := by
  have hx1 := fun (i : Nat) => all_Item_ok (nth j.s.shelves i).items 63 [] [.iptr (Judge.cells j) 0] (peopleItem j.r) (hs.2.1 i).2.2.1 (fun _ => rfl) (fun n => by simp only [nx, norms]) (fun x hx m => peopleItem_ok x j m)
  have hx2 := fun (i : Nat) => all_Mail_ok (nth j.s.shelves i).mails 64 [] [.iptr (Judge.cells j) 0, .iptr [.int .i64 i] 0] (peopleMail j.r i) (hs.2.1 i).2.2.2.1 (fun _ => rfl) (fun n => by simp only [nx, norms]) (fun x hx m => peopleMail_ok x j i m)
  have hx3 := fun (i : Nat) => all_Trade_ok (nth j.s.shelves i).trades 66 [] [.iptr (Judge.cells j) 0] (peopleTrade j.r) (hs.2.1 i).2.2.2.2.1 (fun _ => rfl) (fun n => by simp only [nx, norms]) (fun x hx m => peopleTrade_ok x j m)
  simp only [celld] at hx1 hx2 hx3
  refine fn_of state_judge_people (by kernel_rfl) rfl rfl (by simp only [nx]) ?_ m; simp only [rx, reduceIte, zqa, zqb, zqc, zqd, zqe, zqf, zqg, zqh, zqi, zqj, zqk, zql, zqm, zqn, lim_call, state_judge_people]
  refine wpK_range j.s.shelves.length (fun i => [(1, .iptr j.cells 0), (10, .sl .any (j.s.shelves.map Shelf.cells))]) (fun i => m0) (fun i => ∀ k : Nat, k < i → peopleAt j.r j.s k = true) hs.1 (by decide) (by simp only [rx, reduceIte, zqa, zqb, zqc, zqd, zqe, zqf, zqg, zqh, zqi, zqj, zqk, zql, zqm, zqn, lim_call]) (by simp only [rx, reduceIte, zqa, zqb, zqc, zqd, zqe, zqf, zqg, zqh, zqi, zqj, zqk, zql, zqm, zqn, lim_call]) (by simp only [rx, reduceIte, zqa, zqb, zqc, zqd, zqe, zqf, zqg, zqh, zqi, zqj, zqk, zql, zqm, zqn, lim_call, holds_cons, holds_nil]) rfl (fun j hj => by omega) ?_ ?_
  · intro i hi hP T hS hn hk
    simp only [holds_cons, holds_nil, and_true, celld] at hS
    have hfin : peopleAt j.r j.s i = false → some (V.bool false) = some (V.bool (judgePeople j.r j.s)) := fun h => by rw [judgePeople, allN_false hi h]
    simp only [rx, reduceIte, zqa, zqb, zqc, zqd, zqe, zqf, zqg, zqh, zqi, zqj, zqk, zql, zqm, zqn, lim_call, hS, hn, hk, hi, hx1, hx2, hx3, rxa, opsK_pend2, opsK_init2]
    repeat' (first
      | (with_reducible refine guardK_split (fun h => ?_) (fun h => ?_)) <;> ((try simp only [sxh] at h); simp only [rx, reduceIte, zqa, zqb, zqc, zqd, zqe, zqf, zqg, zqh, zqi, zqj, zqk, zql, zqm, zqn, lim_call, h, hS, hn, hk, hx1, hx2, hx3, holds_cons, holds_nil, celld])
      | (with_reducible refine condK_split (fun h => ?_) (fun h => ?_)) <;> ((try simp only [sxh] at h); simp only [rx, reduceIte, zqa, zqb, zqc, zqd, zqe, zqf, zqg, zqh, zqi, zqj, zqk, zql, zqm, zqn, lim_call, h, hS, hn, hk, holds_cons, holds_nil, celld]))
    all_goals first
      | exact hfin (by simp only [peopleAt, rxc, *])
      | exact all_succ hP (by simp only [peopleAt, rxc, *])
  · intro hP T hS hn hk
    simp only [rx, reduceIte, zqa, zqb, zqc, zqd, zqe, zqf, zqg, zqh, zqi, zqj, zqk, zql, zqm, zqn, lim_call, judgePeople, allN_true hP]
end Go.Rx.Api

set_option linter.unusedSimpArgs false
set_option linter.unusedVariables false
set_option maxRecDepth 20000
namespace Go.Rx.Api
open Go.Rx
open Nat renaming reduceEqDiff → zqa, reduceAdd → zqb, reduceMul → zqc, reduceLeDiff → zqd, reduceBEq → zqe, reduceBNe → zqf, reduceSub → zqg, reduceLT → zqh
open Int renaming reduceLE → zqi, reduceLT → zqj, reduceToNat → zqk, reduceNeg → zql, reduceEq → zqm, reduceBEq → zqn
def Shelf.small (h : Shelf) : Prop := h.rooms.length ≤ 4096 ∧ h.exits.length ≤ 4096 ∧ h.items.length ≤ 4096 ∧ h.mails.length ≤ 4096 ∧ h.trades.length ≤ 4096 ∧ h.purses.length ≤ 4096 ∧ h.places.length ≤ 4096
def State.small (s : State) : Prop := s.shelves.length ≤ 4096 ∧ (∀ i, (nth s.shelves i).small) ∧ s.orders.length ≤ 4096 ∧ s.audit.length ≤ 4096 ∧ s.sessions.length ≤ 4096
theorem slots_mem {α : Type} [Inhabited α] {l : List α} {u : α → Bool} {n : Nat} {x : Int} (h : x ∈ slotsTo l u n) : 0 ≤ x ∧ x < n ∧ u (nth l x) = true := by
  unfold slotsTo at h
  obtain ⟨k, hk, rfl⟩ := List.mem_map.1 h
  rw [List.mem_filter, List.mem_range] at hk
  exact ⟨Int.natCast_nonneg _, by omega, hk.2⟩
theorem tradeUsed_ok (t : Trade) (m : Mem) : fin 69 [.agg (t : Trade).cells] m = some (.bool (t.used), m) := by
  refine fn_of state_judge_deals_1 (by kernel_rfl) rfl rfl (by simp only [nx]) ?_ m; simp only [rx, reduceIte, zqa, zqb, zqc, zqd, zqe, zqf, zqg, zqh, zqi, zqj, zqk, zql, zqm, zqn, lim_call, state_judge_deals_1]
def dealItem (h : Shelf) (i : Nat) : Bool := !((nth h.items i).kind == 3 && (!rowHas h.trades Trade.used (nth h.items i).who || !((nth h.trades (nth h.items i).who).give.item == (i : Int))))
def dealSlot (h : Shelf) (k : Int) : Bool := !(decide ((h.items.length : Int) ≤ (nth h.trades k).give.item) || decide ((h.items.length : Int) ≤ (nth h.trades k).want.item)) &&
  !(decide (0 ≤ (nth h.trades k).give.item) && (!((nth h.items (nth h.trades k).give.item).kind == 3) || !((nth h.items (nth h.trades k).give.item).who == k)))
def tradeSlots (h : Shelf) : List Int := slotsTo h.trades Trade.used h.trades.length
def dealsShelf (h : Shelf) : Bool := allN h.items.length (dealItem h) && allN (tradeSlots h).length (fun j => dealSlot h (nth (tradeSlots h) j))
def judgeDeals (s : State) : Bool := allN s.shelves.length (fun i => dealsShelf (nth s.shelves i))
theorem judgeDeals_ok (j : Judge) (hs : j.s.small) (m : Mem) : fin 27 [.agg (j : Judge).cells] m = some (.bool (judgeDeals j.s), m) := by
  refine fn_of state_judge_deals (by kernel_rfl) rfl rfl (by simp only [nx]) ?_ m; simp only [rx, reduceIte, zqa, zqb, zqc, zqd, zqe, zqf, zqg, zqh, zqi, zqj, zqk, zql, zqm, zqn, lim_call, state_judge_deals]
  refine wpK_range j.s.shelves.length (fun i => [(1, .iptr j.cells 0), (14, .sl .any (j.s.shelves.map Shelf.cells))]) (fun i => m0) (fun i => ∀ k : Nat, k < i → dealsShelf (nth j.s.shelves k) = true) (by have := hs.1; omega) (by decide) (by simp only [rx, reduceIte, zqa, zqb, zqc, zqd, zqe, zqf, zqg, zqh, zqi, zqj, zqk, zql, zqm, zqn, lim_call]) (by simp only [rx, reduceIte, zqa, zqb, zqc, zqd, zqe, zqf, zqg, zqh, zqi, zqj, zqk, zql, zqm, zqn, lim_call]) (by simp only [rx, reduceIte, zqa, zqb, zqc, zqd, zqe, zqf, zqg, zqh, zqi, zqj, zqk, zql, zqm, zqn, lim_call, holds_cons, holds_nil]) rfl (fun j hj => by omega) ?_ ?_
  · intro i hi hP T hS hn hk
    simp only [holds_cons, holds_nil, and_true, celld] at hS
    obtain ⟨hS1, hS14⟩ := hS
    have hfin : dealsShelf (nth j.s.shelves i) = false → some (V.bool false) = some (V.bool (judgeDeals j.s)) := fun h => by rw [judgeDeals, allN_false (p := fun i => dealsShelf (nth j.s.shelves i)) hi h]
    have hsm := hs.2.1 i
    generalize hh : nth j.s.shelves i = h at *
    obtain ⟨b1, b2, b3, b4, b5, b6, b7⟩ := hsm
    have r1 := rowOf_Trade_ok h.trades 69 b5
    have r2 := fun i => rowHas_Trade_ok i h.trades 69 Trade.used (fun x m => tradeUsed_ok x m)
    have r3 := rowSlots_Trade_ok h.trades 69 Trade.used b5 (fun x m => tradeUsed_ok x m)
    simp only [rx, reduceIte, zqa, zqb, zqc, zqd, zqe, zqf, zqg, zqh, zqi, zqj, zqk, zql, zqm, zqn, lim_call, hS1, hS14, hn, hk, hi, hh, r1]
    refine wpK_range h.items.length (fun _ => [(1, .iptr j.cells 0), (14, .sl .any (j.s.shelves.map Shelf.cells)), (15, .int .i64 j.s.shelves.length), (16, .int .i64 i), (4, .iptr h.cells 0), (5, .iptr [.sl .any (h.trades.map Trade.cells), .fn 69 [] []] 0), (24, .sl .any (h.items.map Item.cells))]) (fun i => m0) (fun i => ∀ k : Nat, k < i → dealItem h k = true) (by omega) (by decide) (by simp only [rx, reduceIte, zqa, zqb, zqc, zqd, zqe, zqf, zqg, zqh, zqi, zqj, zqk, zql, zqm, zqn, lim_call]) (by simp only [rx, reduceIte, zqa, zqb, zqc, zqd, zqe, zqf, zqg, zqh, zqi, zqj, zqk, zql, zqm, zqn, lim_call]) (by simp only [rx, reduceIte, zqa, zqb, zqc, zqd, zqe, zqf, zqg, zqh, zqi, zqj, zqk, zql, zqm, zqn, lim_call, holds_cons, holds_nil, hS1, hS14, hn, hk]) rfl (fun j hj => by omega) ?_ ?_
    · intro k hk2 hP2 T2 hT hn2 hk3
      simp only [holds_cons, holds_nil, and_true, celld] at hT
      obtain ⟨t1, t14, t15, t16, t4, t5, t24⟩ := hT
      have hfin2 : dealItem h k = false → some (V.bool false) = some (V.bool (judgeDeals j.s)) := fun e => hfin (by rw [dealsShelf, allN_false hk2 e]; rfl)
      simp only [rx, reduceIte, zqa, zqb, zqc, zqd, zqe, zqf, zqg, zqh, zqi, zqj, zqk, zql, zqm, zqn, lim_call, t1, t14, t15, t16, t4, t5, t24, hn2, hk3, hk2]
      refine guardK_split (fun g => ?_) (fun g => ?_)
      · simp only [rx, reduceIte, zqa, zqb, zqc, zqd, zqe, zqf, zqg, zqh, zqi, zqj, zqk, zql, zqm, zqn, lim_call, g, t1, t14, t15, t16, t4, t5, t24, hn2, hk3, hk2, r2]
        refine guardK_split (fun g2 => ?_) (fun g2 => ?_)
        · simp only [Bool.not_eq_true'] at g2
          simp only [rx, reduceIte, zqa, zqb, zqc, zqd, zqe, zqf, zqg, zqh, zqi, zqj, zqk, zql, zqm, zqn, lim_call, g, g2, t1, t14, t15, t16, t4, t5, t24, hn2, hk3, hk2, r2]
          exact hfin2 (by simp only [dealItem, g, g2, rxc])
        · simp only [Bool.not_eq_false'] at g2
          have hw := g2
          simp only [rowHas, Bool.and_eq_true, decide_eq_true_eq] at hw
          simp only [rx, reduceIte, zqa, zqb, zqc, zqd, zqe, zqf, zqg, zqh, zqi, zqj, zqk, zql, zqm, zqn, lim_call, g, g2, t1, t14, t15, t16, t4, t5, t24, hn2, hk3, hk2, r2, hw]
          refine condK_split (fun g3 => ?_) (fun g3 => ?_)
          · simp only [Bool.not_eq_true'] at g3
            simp only [rx, reduceIte, zqa, zqb, zqc, zqd, zqe, zqf, zqg, zqh, zqi, zqj, zqk, zql, zqm, zqn, lim_call, g, g2, g3]
            exact hfin2 (by simp only [dealItem, g, g2, g3, rxc])
          · simp only [Bool.not_eq_false'] at g3
            simp only [rx, reduceIte, zqa, zqb, zqc, zqd, zqe, zqf, zqg, zqh, zqi, zqj, zqk, zql, zqm, zqn, lim_call, holds_cons, holds_nil, celld, t1, t14, t15, t16, t4, t5, t24, hn2, hk3]
            exact all_succ hP2 (by simp only [dealItem, g, g2, g3, rxc])
      · simp only [rx, reduceIte, zqa, zqb, zqc, zqd, zqe, zqf, zqg, zqh, zqi, zqj, zqk, zql, zqm, zqn, lim_call, g, holds_cons, holds_nil, celld, t1, t14, t15, t16, t4, t5, t24, hn2, hk3, hk2, r2]
        exact all_succ hP2 (by simp only [dealItem, g, rxc])
    · intro hP2 T2 hT hn2 hk3
      have hd1 := allN_true hP2
      simp only [holds_cons, holds_nil, and_true, celld] at hT
      obtain ⟨t1, t14, t15, t16, t4, t5, t24⟩ := hT
      have hsl : (tradeSlots h).length ≤ h.trades.length := slotsTo_len _ _ _
      simp only [rx, reduceIte, zqa, zqb, zqc, zqd, zqe, zqf, zqg, zqh, zqi, zqj, zqk, zql, zqm, zqn, lim_call, t1, t14, t15, t16, t4, t5, t24, hn2, hk3, r3]
      refine wpK_range (tradeSlots h).length (fun _ => [(1, .iptr j.cells 0), (14, .sl .any (j.s.shelves.map Shelf.cells)), (15, .int .i64 j.s.shelves.length), (16, .int .i64 i), (4, .iptr h.cells 0), (55, .sl .any ((tradeSlots h).map icell))]) (fun i => m0) (fun i => ∀ k : Nat, k < i → dealSlot h (nth (tradeSlots h) k) = true) (by omega) (by decide) (by simp only [rx, reduceIte, zqa, zqb, zqc, zqd, zqe, zqf, zqg, zqh, zqi, zqj, zqk, zql, zqm, zqn, lim_call, tradeSlots]) (by simp only [rx, reduceIte, zqa, zqb, zqc, zqd, zqe, zqf, zqg, zqh, zqi, zqj, zqk, zql, zqm, zqn, lim_call]) (by simp only [rx, reduceIte, zqa, zqb, zqc, zqd, zqe, zqf, zqg, zqh, zqi, zqj, zqk, zql, zqm, zqn, lim_call, holds_cons, holds_nil, t1, t14, t15, t16, t4, tradeSlots]) rfl (fun j hj => by omega) ?_ ?_
      · intro k hk4 hP4 T4 hT4 hn4 hk5
        simp only [holds_cons, holds_nil, and_true, celld] at hT4
        obtain ⟨t1, t14, t15, t16, t4, t55⟩ := hT4
        have hfin2 : dealSlot h (nth (tradeSlots h) k) = false → some (V.bool false) = some (V.bool (judgeDeals j.s)) := fun e => hfin (by rw [dealsShelf, allN_false (p := fun j => dealSlot h (nth (tradeSlots h) j)) hk4 e, Bool.and_false])
        obtain ⟨s0, s1, s2⟩ := slots_mem (nth_mem (l := tradeSlots h) (Int.natCast_nonneg k) (by omega))
        generalize hz : nth (tradeSlots h) k = z at *
        simp only [rx, reduceIte, zqa, zqb, zqc, zqd, zqe, zqf, zqg, zqh, zqi, zqj, zqk, zql, zqm, zqn, lim_call, t1, t14, t15, t16, t4, t55, hn4, hk5, hk4, hz, s0, s1]
        refine guardK_split (fun g1 => ?_) (fun g1 => ?_)
        · simp only [sxh] at g1
          simp only [rx, reduceIte, zqa, zqb, zqc, zqd, zqe, zqf, zqg, zqh, zqi, zqj, zqk, zql, zqm, zqn, lim_call, g1, t1, t14, t15, t16, t4, t55, hn4, hk5, hk4, hz, s0, s1, holds_cons, holds_nil, celld]
          exact hfin2 (by simp only [dealSlot, g1, rxc])
        · have g1' := g1
          simp only [sx, Int.not_le] at g1'
          simp only [sxh] at g1
          simp only [rx, reduceIte, zqa, zqb, zqc, zqd, zqe, zqf, zqg, zqh, zqi, zqj, zqk, zql, zqm, zqn, lim_call, g1, g1', t1, t14, t15, t16, t4, t55, hn4, hk5, hk4, hz, s0, s1, holds_cons, holds_nil, celld]
          refine condK_split (fun g2 => ?_) (fun g2 => ?_)
          · simp only [sxh] at g2
            simp only [rx, reduceIte, zqa, zqb, zqc, zqd, zqe, zqf, zqg, zqh, zqi, zqj, zqk, zql, zqm, zqn, lim_call, g2, t1, t14, t15, t16, t4, t55, hn4, hk5, hk4, hz, s0, s1, holds_cons, holds_nil, celld]
            exact hfin2 (by simp only [dealSlot, g1, g2, rxc])
          · simp only [sxh] at g2
            simp only [rx, reduceIte, zqa, zqb, zqc, zqd, zqe, zqf, zqg, zqh, zqi, zqj, zqk, zql, zqm, zqn, lim_call, g1, g1', g2, t1, t14, t15, t16, t4, t55, hn4, hk5, hk4, hz, s0, s1, holds_cons, holds_nil, celld]
            refine guardK_split (fun g3 => ?_) (fun g3 => ?_)
            · simp only [sxh] at g3
              simp only [rx, reduceIte, zqa, zqb, zqc, zqd, zqe, zqf, zqg, zqh, zqi, zqj, zqk, zql, zqm, zqn, lim_call, g1, g1', g2, g3, t1, t14, t15, t16, t4, t55, hn4, hk5, hk4, hz, s0, s1, holds_cons, holds_nil, celld]
              refine guardK_split (fun g4 => ?_) (fun g4 => ?_)
              · simp only [sxh] at g4
                simp only [rx, reduceIte, zqa, zqb, zqc, zqd, zqe, zqf, zqg, zqh, zqi, zqj, zqk, zql, zqm, zqn, lim_call, g4, t1, t14, t15, t16, t4, t55, hn4, hk5, hk4, hz, s0, s1, holds_cons, holds_nil, celld]
                exact hfin2 (by simp only [dealSlot, g1, g2, g3, g4, rxc])
              · simp only [sxh] at g4
                simp only [rx, reduceIte, zqa, zqb, zqc, zqd, zqe, zqf, zqg, zqh, zqi, zqj, zqk, zql, zqm, zqn, lim_call, g1, g1', g2, g3, g4, t1, t14, t15, t16, t4, t55, hn4, hk5, hk4, hz, s0, s1, holds_cons, holds_nil, celld]
                refine condK_split (fun g5 => ?_) (fun g5 => ?_)
                · simp only [sxh] at g5
                  simp only [rx, reduceIte, zqa, zqb, zqc, zqd, zqe, zqf, zqg, zqh, zqi, zqj, zqk, zql, zqm, zqn, lim_call, g5, t1, t14, t15, t16, t4, t55, hn4, hk5, hk4, hz, s0, s1, holds_cons, holds_nil, celld]
                  exact hfin2 (by simp only [dealSlot, g1, g2, g3, g4, g5, rxc])
                · simp only [sxh] at g5
                  simp only [rx, reduceIte, zqa, zqb, zqc, zqd, zqe, zqf, zqg, zqh, zqi, zqj, zqk, zql, zqm, zqn, lim_call, g5, t1, t14, t15, t16, t4, t55, hn4, hk5, hk4, hz, s0, s1, holds_cons, holds_nil, celld]
                  exact all_succ hP4 (by simp only [hz, dealSlot, g1, g2, g3, g4, g5, rxc])
            · simp only [sxh] at g3
              simp only [rx, reduceIte, zqa, zqb, zqc, zqd, zqe, zqf, zqg, zqh, zqi, zqj, zqk, zql, zqm, zqn, lim_call, g3, t1, t14, t15, t16, t4, t55, hn4, hk5, hk4, hz, s0, s1, holds_cons, holds_nil, celld]
              exact all_succ hP4 (by simp only [hz, dealSlot, g1, g2, g3, rxc])
      · intro hP4 T4 hT4 hn4 hk5
        simp only [holds_cons, holds_nil, and_true, celld] at hT4
        obtain ⟨t1, t14, t15, t16, t4, t55⟩ := hT4
        have hd2 := allN_true (p := fun j => dealSlot h (nth (tradeSlots h) j)) hP4
        simp only [rx, reduceIte, zqa, zqb, zqc, zqd, zqe, zqf, zqg, zqh, zqi, zqj, zqk, zql, zqm, zqn, lim_call, holds_cons, holds_nil, celld, t1, t14, t15, t16]
        exact all_succ hP (by simp only [hh, dealsShelf, hd1, hd2, Bool.and_self])
  · intro hP T hS hn hk
    have := allN_true (p := fun i => dealsShelf (nth j.s.shelves i)) hP
    simp only [rx, reduceIte, zqa, zqb, zqc, zqd, zqe, zqf, zqg, zqh, zqi, zqj, zqk, zql, zqm, zqn, lim_call, judgeDeals, this]
end Go.Rx.Api

set_option linter.unusedSimpArgs false
set_option linter.unusedVariables false
set_option maxRecDepth 20000
namespace Go.Rx.Api
open Go.Rx
open Nat renaming reduceEqDiff → zqa, reduceAdd → zqb, reduceMul → zqc, reduceLeDiff → zqd, reduceBEq → zqe, reduceBNe → zqf, reduceSub → zqg, reduceLT → zqh
open Int renaming reduceLE → zqi, reduceLT → zqj, reduceToNat → zqk, reduceNeg → zql, reduceEq → zqm, reduceBEq → zqn
def Four.at_ (x : Four) (c : Int) : Int := if c = 0 then x.c0 else if c = 1 then x.c1 else if c = 2 then x.c2 else x.c3
theorem four_ix {a b d e c : Int} (h0 : 0 ≤ c) (h4 : c < 4) : [V.int .u64 a, V.int .u64 b, V.int .u64 d, V.int .u64 e][c.toNat]? = some (.int .u64 (Four.at_ ⟨a, b, d, e⟩ c)) := by
  have : c = 0 ∨ c = 1 ∨ c = 2 ∨ c = 3 := by omega
  rcases this with rfl | rfl | rfl | rfl <;> rfl
theorem eight_ix {a b d e a' b' d' e' c : Int} (h0 : 0 ≤ c) (h4 : c < 4) : [V.int .u64 a, V.int .u64 b, V.int .u64 d, V.int .u64 e, V.int .u64 a', V.int .u64 b', V.int .u64 d', V.int .u64 e'][c.toNat]? = some (.int .u64 (Four.at_ ⟨a, b, d, e⟩ c)) := by
  have : c = 0 ∨ c = 1 ∨ c = 2 ∨ c = 3 := by omega
  rcases this with rfl | rfl | rfl | rfl <;> rfl
theorem eight_ix_nat {a b d e a' b' d' e' : Int} {c : Nat} (h4 : c < 4) : [V.int .u64 a, V.int .u64 b, V.int .u64 d, V.int .u64 e, V.int .u64 a', V.int .u64 b', V.int .u64 d', V.int .u64 e'][c]? = some (.int .u64 (Four.at_ ⟨a, b, d, e⟩ c)) := by
  have := eight_ix (a := a) (b := b) (d := d) (e := e) (a' := a') (b' := b') (d' := d') (e' := e') (c := (c : Int)) (by omega) (by omega)
  rwa [Int.toNat_natCast] at this
theorem flat_one {α : Type} (g : α → V) : ∀ l : List α, (l.map fun x => [g x]).flatten = l.map g
  | [] => rfl
  | a :: l => by simp only [List.map_cons, List.flatten_cons, flat_one g l, List.cons_append, List.nil_append]
theorem flat_ucell (l : List Int) : (l.map ucell).flatten = l.map (V.int .u64) := flat_one (V.int .u64) l
theorem get_mapV {α : Type} [Inhabited α] {g : α → V} {l : List α} {i : Nat} (h : i < l.length) : (l.map g)[i]? = some (g (nth l i)) := by
  rw [List.getElem?_map, get_nth_nat h]; rfl
theorem coinSum_msl (l : List Int) (st gen : Nat) (ex : Bool) (hl : l.length < 9223372036854775808) : fin 139 [.msl 0 st 1 0 l.length ex] ⟨[some (.cells st (l.map (V.int .u64)))], gen⟩ = some (.tup [.int .u64 (coinSum l).1, .int .i64 (coinSum l).2], ⟨[some (.cells st (l.map (V.int .u64)))], gen⟩) := by
  refine fn_local coin_Sum (by kernel_rfl) rfl rfl (by simp only [nx]; rfl) ?_
  simp only [rx, reduceIte, zqa, zqb, zqc, zqd, zqe, zqf, zqg, zqh, zqi, zqj, zqk, zql, zqm, zqn, lim_call, coin_Sum]
  refine wpK_range l.length (fun i => [(4, .int .u64 ((tot (l.take i) : Nat) : Int)), (9, .msl 0 st 1 0 l.length ex)]) (fun i => ⟨[some (.cells st (l.map (V.int .u64)))], gen⟩) (fun i => tot (l.take i) ≤ 4611686018427387904) hl (by decide) (by simp only [rx, reduceIte, zqa, zqb, zqc, zqd, zqe, zqf, zqg, zqh, zqi, zqj, zqk, zql, zqm, zqn, lim_call]) (by simp only [rx, reduceIte, zqa, zqb, zqc, zqd, zqe, zqf, zqg, zqh, zqi, zqj, zqk, zql, zqm, zqn, lim_call]) (by simp only [rx, reduceIte, zqa, zqb, zqc, zqd, zqe, zqf, zqg, zqh, zqi, zqj, zqk, zql, zqm, zqn, lim_call, holds_cons, holds_nil]; rfl) rfl (by show (0 : Nat) ≤ _; decide) ?_ ?_
  · intro i hi hP T hS hn hk
    simp only [holds_cons, holds_nil, and_true] at hS
    obtain ⟨h4, h9⟩ := hS
    have ht := tot_take_succ hi
    have hle := tot_take_le l (i + 1)
    have hi1 : i + 1 ≤ l.length := hi
    have hg := get_mapV (g := V.int .u64) hi
    simp only [rx, reduceIte, zqa, zqb, zqc, zqd, zqe, zqf, zqg, zqh, zqi, zqj, zqk, zql, zqm, zqn, lim_call, h4, h9, hn, hk, hi, hi1, hg, coinPlus_r, coinPlus]
    by_cases h : tot (l.take i) + (nth l i).toNat ≤ 4611686018427387904
    · simp only [rx, reduceIte, zqa, zqb, zqc, zqd, zqe, zqf, zqg, zqh, zqi, zqj, zqk, zql, zqm, zqn, lim_call, h, h4, h9, hn, hk, ht, holds_cons, holds_nil]
    · have h2 : ¬ tot l ≤ 4611686018427387904 := by omega
      simp only [rx, reduceIte, zqa, zqb, zqc, zqd, zqe, zqf, zqg, zqh, zqi, zqj, zqk, zql, zqm, zqn, lim_call, h, h2, coinSum]
  · intro hP T hS hn hk
    simp only [holds_cons, holds_nil, and_true, List.take_length] at hS hP
    simp only [rx, reduceIte, zqa, zqb, zqc, zqd, zqe, zqf, zqg, zqh, zqi, zqj, zqk, zql, zqm, zqn, lim_call, hS, coinSum, hP]
theorem coinSum_acc (l : List Int) (hl : l.length < 9223372036854775808) : callK prog false 139 (allM (norm 24) [accV 0 0 1 (l.map ucell)]) [accV 0 0 1 (l.map ucell)] (accM [] 0 (l.map ucell)) = some (.tup [.int .u64 (coinSum l).1, .int .i64 (coinSum l).2], accM [] 0 (l.map ucell)) := by
  cases l with
  | nil => exact coinSum_ok [] (by simp) _
  | cons a l =>
    have := coinSum_msl (a :: l) ((a :: l).length - 1) (a :: l).length false hl
    rw [← flat_ucell] at this
    simp only [List.map_cons, accV, accM, List.length_cons, List.length_map, Nat.zero_add, List.nil_append] at this ⊢
    exact this
def coinOf (o : Order) : Int := if o.side = 2 then o.base else o.quote
theorem coinOf_ok (o : Order) (m : Mem) : fin 207 [.agg (o : Order).cells] m = some (.int .i64 (coinOf o), m) := by
  refine fn_of book_coinOf (by kernel_rfl) rfl rfl (by simp only [nx]) ?_ m; simp only [rx, reduceIte, zqa, zqb, zqc, zqd, zqe, zqf, zqg, zqh, zqi, zqj, zqk, zql, zqm, zqn, lim_call, book_coinOf, coinOf]
  exact autoT
theorem coinOf_r (o_used : Bool) (o_label : Int) (o_who : Int) (o_side : Int) (o_base : Int) (o_quote : Int) (o_price : Int) (o_left : Int) (o_reserve : Int) (o_seq : Int) (m : Mem) : fin 207 [.agg [.bool o_used, .int .i64 o_label, .int .i64 o_who, .int .i64 o_side, .int .i64 o_base, .int .i64 o_quote, .int .u64 o_price, .int .u64 o_left, .int .u64 o_reserve, .int .i64 o_seq]] m = some (.int .i64 (coinOf (⟨o_used, o_label, o_who, o_side, o_base, o_quote, o_price, o_left, o_reserve, o_seq⟩ : Order)), m) := coinOf_ok ⟨o_used, o_label, o_who, o_side, o_base, o_quote, o_price, o_left, o_reserve, o_seq⟩ m
theorem orderUsed_ok (o : Order) (m : Mem) : fin 247 [.agg (o : Order).cells] m = some (.bool (o.used), m) := by
  refine fn_of book_row_1 (by kernel_rfl) rfl rfl (by simp only [nx]) ?_ m; simp only [rx, reduceIte, zqa, zqb, zqc, zqd, zqe, zqf, zqg, zqh, zqi, zqj, zqk, zql, zqm, zqn, lim_call, book_row_1]
theorem bookRow_ok (l : List Order) (hl : l.length ≤ 4096) (m : Mem) : fin 232 [.sl .any ((l).map Order.cells)] m = some (.iptr [.sl .any (l.map Order.cells), .fn 247 [] []] 0, m) := by
  refine fn_of book_row (by kernel_rfl) rfl rfl (by simp only [nx]) ?_ m; simp only [rx, reduceIte, zqa, zqb, zqc, zqd, zqe, zqf, zqg, zqh, zqi, zqj, zqk, zql, zqm, zqn, lim_call, book_row, rowOf_Order_ok l 247 hl]
theorem bookRow_r (l : List Order) (hl : l.length ≤ 4096) (m : Mem) : fin 232 [.sl .any ((l).map Order.cells)] m = some (.iptr [.sl .any (l.map Order.cells), .fn 247 [] []] 0, m) := bookRow_ok l hl m
def bookSlots (l : List Order) : List Int := slotsTo l Order.used l.length
theorem bookSlots_ok (l : List Order) (hl : l.length ≤ 4096) (m : Mem) : fin 206 [.sl .any ((l).map Order.cells)] m = some (.sl .any ((bookSlots l).map icell), m) := by
  refine fn_of book_Slots (by kernel_rfl) rfl rfl (by simp only [nx]) ?_ m; simp only [rx, reduceIte, zqa, zqb, zqc, zqd, zqe, zqf, zqg, zqh, zqi, zqj, zqk, zql, zqm, zqn, lim_call, book_Slots, bookRow_r, hl, rowSlots_Order_ok l 247 Order.used hl (fun x m => orderUsed_ok x m), bookSlots]
theorem bookSlots_r (l : List Order) (hl : l.length ≤ 4096) (m : Mem) : fin 206 [.sl .any ((l).map Order.cells)] m = some (.sl .any ((bookSlots l).map icell), m) := bookSlots_ok l hl m
theorem take_succ_nth {α : Type} [Inhabited α] {l : List α} {i : Nat} (h : i < l.length) : l.take (i + 1) = l.take i ++ [nth l i] := by
  rw [List.take_add_one, get_nth_nat h]; rfl
def bookAmounts (l : List Order) (c : Int) (S : List Int) : List Int := (S.filter fun i => coinOf (nth l i) == c).map fun i => (nth l i).reserve
theorem bookAmounts_succ (l : List Order) (c : Int) (S : List Int) {i : Nat} (h : i < S.length) : bookAmounts l c (S.take (i + 1)) = if (coinOf (nth l (nth S i)) == c) = true then bookAmounts l c (S.take i) ++ [(nth l (nth S i)).reserve] else bookAmounts l c (S.take i) := by
  unfold bookAmounts
  rw [take_succ_nth h, List.filter_append, List.map_append]
  cases hq : coinOf (nth l (nth S i)) == c <;> simp [hq]
theorem bookAmounts_len (l : List Order) (c : Int) (S : List Int) : (bookAmounts l c S).length ≤ S.length := by
  unfold bookAmounts; rw [List.length_map]; exact List.length_filter_le _ _
def bookHeld (l : List Order) (c : Int) : Int × Int := if coinRight c = true then coinSum (bookAmounts l c (bookSlots l)) else (0, 1)
theorem bookHeld_ok (l : List Order) (c : Int) (hl : l.length ≤ 4096) (m : Mem) : fin 137 [.sl .any ((l).map Order.cells), .int .i64 (c)] m = some (.tup [.int .u64 ((bookHeld l c).1), .int .i64 ((bookHeld l c).2)], m) := by
  refine fn_of book_Held (by kernel_rfl) rfl rfl (by simp only [nx]) ?_ m; simp only [rx, reduceIte, zqa, zqb, zqc, zqd, zqe, zqf, zqg, zqh, zqi, zqj, zqk, zql, zqm, zqn, lim_call, book_Held, coinRight_r, bookSlots_r, coinOf_r, coinSum_r, hl, bookHeld]
  refine condK_split (fun h => ?_) (fun h => ?_)
  · simp only [Bool.not_eq_true'] at h
    simp only [rx, reduceIte, zqa, zqb, zqc, zqd, zqe, zqf, zqg, zqh, zqi, zqj, zqk, zql, zqm, zqn, lim_call, h]
  · simp only [Bool.not_eq_false'] at h
    have hsl : (bookSlots l).length ≤ l.length := slotsTo_len _ _ _
    simp only [rx, reduceIte, zqa, zqb, zqc, zqd, zqe, zqf, zqg, zqh, zqi, zqj, zqk, zql, zqm, zqn, lim_call, h, coinRight_r, bookSlots_r, coinOf_r, coinSum_r, hl]
    refine wpK_range (bookSlots l).length (fun i => [(0, .sl .any (l.map Order.cells)), (1, .int .i64 c), (13, .sl .any ((bookSlots l).map icell)), (6, accV 0 0 1 ((bookAmounts l c ((bookSlots l).take i)).map ucell))]) (fun i => accM [] 0 ((bookAmounts l c ((bookSlots l).take i)).map ucell)) (fun i => True) (by omega) (by decide) (by simp only [rx, reduceIte, zqa, zqb, zqc, zqd, zqe, zqf, zqg, zqh, zqi, zqj, zqk, zql, zqm, zqn, lim_call]) (by simp only [rx, reduceIte, zqa, zqb, zqc, zqd, zqe, zqf, zqg, zqh, zqi, zqj, zqk, zql, zqm, zqn, lim_call]) (by simp only [rx, reduceIte, zqa, zqb, zqc, zqd, zqe, zqf, zqg, zqh, zqi, zqj, zqk, zql, zqm, zqn, lim_call, holds_cons, holds_nil]; rfl) rfl trivial ?_ ?_
    · intro i hi hP T hS hn hk
      simp only [holds_cons, holds_nil, and_true] at hS
      obtain ⟨t0, t1, t13, t6⟩ := hS
      obtain ⟨s0, s1, s2⟩ := slots_mem (nth_mem (l := bookSlots l) (Int.natCast_nonneg i) (by omega))
      have hlen := bookAmounts_len l c ((bookSlots l).take i)
      rw [List.length_take] at hlen
      have hs := bookAmounts_succ l c (bookSlots l) hi
      have ha := acc_map (f := ucell) (bs := []) (g := 0) (sz := 1) (bytes := 8) (l := bookAmounts l c ((bookSlots l).take i)) (nth l (nth (bookSlots l) i)).reserve (fun _ => rfl) (by unfold wide; omega) (by decide)
      simp only [List.length_nil, ucell_ce] at ha
      simp only [rx, reduceIte, zqa, zqb, zqc, zqd, zqe, zqf, zqg, zqh, zqi, zqj, zqk, zql, zqm, zqn, lim_call, t0, t1, t13, t6, hn, hk, hi, s0, s1, coinRight_r, bookSlots_r, coinOf_r, coinSum_r]
      refine condK_split (fun h2 => ?_) (fun h2 => ?_)
      · rw [if_pos h2] at hs
        simp only [rx, reduceIte, zqa, zqb, zqc, zqd, zqe, zqf, zqg, zqh, zqi, zqj, zqk, zql, zqm, zqn, lim_call, t0, t1, t13, t6, hn, hk, hi, s0, s1, ha, hs, holds_cons, holds_nil]
      · rw [if_neg (by simp [h2])] at hs
        simp only [rx, reduceIte, zqa, zqb, zqc, zqd, zqe, zqf, zqg, zqh, zqi, zqj, zqk, zql, zqm, zqn, lim_call, t0, t1, t13, t6, hn, hk, hi, s0, s1, ha, hs, holds_cons, holds_nil]
    · intro hP T hS hn hk
      simp only [holds_cons, holds_nil, and_true, List.take_length] at hS
      obtain ⟨t0, t1, t13, t6⟩ := hS
      have hlen := bookAmounts_len l c (bookSlots l)
      have hq := coinSum_acc (bookAmounts l c (bookSlots l)) (by omega)
      simp only [allM_nil, allM_cons, Option.bind_some] at hq
      rw [List.take_length]
      simp only [rx, reduceIte, zqa, zqb, zqc, zqd, zqe, zqf, zqg, zqh, zqi, zqj, zqk, zql, zqm, zqn, lim_call, t0, t1, t13, t6, hn, hk, hq]
theorem bookHeld_r (l : List Order) (c : Int) (hl : l.length ≤ 4096) (m : Mem) : fin 137 [.sl .any ((l).map Order.cells), .int .i64 (c)] m = some (.tup [.int .u64 ((bookHeld l c).1), .int .i64 ((bookHeld l c).2)], m) := bookHeld_ok l c hl m
theorem tradeUsed2_ok (t : Trade) (m : Mem) : fin 234 [.agg (t : Trade).cells] m = some (.bool (t.used), m) := by
  refine fn_of trade_row_1 (by kernel_rfl) rfl rfl (by simp only [nx]) ?_ m; simp only [rx, reduceIte, zqa, zqb, zqc, zqd, zqe, zqf, zqg, zqh, zqi, zqj, zqk, zql, zqm, zqn, lim_call, trade_row_1]
theorem tradeRow_ok (l : List Trade) (hl : l.length ≤ 4096) (m : Mem) : fin 208 [.sl .any ((l).map Trade.cells)] m = some (.iptr [.sl .any (l.map Trade.cells), .fn 234 [] []] 0, m) := by
  refine fn_of trade_row (by kernel_rfl) rfl rfl (by simp only [nx]) ?_ m; simp only [rx, reduceIte, zqa, zqb, zqc, zqd, zqe, zqf, zqg, zqh, zqi, zqj, zqk, zql, zqm, zqn, lim_call, trade_row, rowOf_Trade_ok l 234 hl]
theorem tradeRow_r (l : List Trade) (hl : l.length ≤ 4096) (m : Mem) : fin 208 [.sl .any ((l).map Trade.cells)] m = some (.iptr [.sl .any (l.map Trade.cells), .fn 234 [] []] 0, m) := tradeRow_ok l hl m
def slotsT (l : List Trade) : List Int := slotsTo l Trade.used l.length
def tradeAmounts (l : List Trade) (c : Int) (S : List Int) : List Int := (S.filter fun i => (nth l i).give.coin == c).map fun i => (nth l i).give.amount
theorem tradeAmounts_succ (l : List Trade) (c : Int) (S : List Int) {i : Nat} (h : i < S.length) : tradeAmounts l c (S.take (i + 1)) = if ((nth l (nth S i)).give.coin == c) = true then tradeAmounts l c (S.take i) ++ [(nth l (nth S i)).give.amount] else tradeAmounts l c (S.take i) := by
  unfold tradeAmounts
  rw [take_succ_nth h, List.filter_append, List.map_append]
  cases hq : (nth l (nth S i)).give.coin == c <;> simp [hq]
theorem tradeAmounts_len (l : List Trade) (c : Int) (S : List Int) : (tradeAmounts l c S).length ≤ S.length := by
  unfold tradeAmounts; rw [List.length_map]; exact List.length_filter_le _ _
def tradeHeld (l : List Trade) (c : Int) : Int × Int := if coinRight c = true then coinSum (tradeAmounts l c (slotsT l)) else (0, 1)
theorem tradeHeld_ok (l : List Trade) (c : Int) (hl : l.length ≤ 4096) (m : Mem) : fin 138 [.sl .any ((l).map Trade.cells), .int .i64 (c)] m = some (.tup [.int .u64 ((tradeHeld l c).1), .int .i64 ((tradeHeld l c).2)], m) := by
  have r3 := rowSlots_Trade_ok l 234 Trade.used hl (fun x m => tradeUsed2_ok x m)
  refine fn_of trade_Held (by kernel_rfl) rfl rfl (by simp only [nx]) ?_ m; simp only [rx, reduceIte, zqa, zqb, zqc, zqd, zqe, zqf, zqg, zqh, zqi, zqj, zqk, zql, zqm, zqn, lim_call, trade_Held, coinRight_r, tradeRow_r, coinSum_r, hl, tradeHeld]
  refine condK_split (fun h => ?_) (fun h => ?_)
  · simp only [Bool.not_eq_true'] at h
    simp only [rx, reduceIte, zqa, zqb, zqc, zqd, zqe, zqf, zqg, zqh, zqi, zqj, zqk, zql, zqm, zqn, lim_call, h]
  · simp only [Bool.not_eq_false'] at h
    have hsl : (slotsT l).length ≤ l.length := slotsTo_len _ _ _
    simp only [rx, reduceIte, zqa, zqb, zqc, zqd, zqe, zqf, zqg, zqh, zqi, zqj, zqk, zql, zqm, zqn, lim_call, h, coinRight_r, tradeRow_r, coinSum_r, hl, r3]
    refine wpK_range (slotsT l).length (fun i => [(0, .sl .any (l.map Trade.cells)), (1, .int .i64 c), (14, .sl .any ((slotsT l).map icell)), (6, accV 0 0 1 ((tradeAmounts l c ((slotsT l).take i)).map ucell))]) (fun i => accM [] 0 ((tradeAmounts l c ((slotsT l).take i)).map ucell)) (fun i => True) (by omega) (by decide) (by simp only [rx, reduceIte, zqa, zqb, zqc, zqd, zqe, zqf, zqg, zqh, zqi, zqj, zqk, zql, zqm, zqn, lim_call, slotsT]) (by simp only [rx, reduceIte, zqa, zqb, zqc, zqd, zqe, zqf, zqg, zqh, zqi, zqj, zqk, zql, zqm, zqn, lim_call]) (by simp only [rx, reduceIte, zqa, zqb, zqc, zqd, zqe, zqf, zqg, zqh, zqi, zqj, zqk, zql, zqm, zqn, lim_call, holds_cons, holds_nil, slotsT]; rfl) rfl trivial ?_ ?_
    · intro i hi hP T hS hn hk
      simp only [holds_cons, holds_nil, and_true] at hS
      obtain ⟨t0, t1, t13, t6⟩ := hS
      obtain ⟨s0, s1, s2⟩ := slots_mem (nth_mem (l := slotsT l) (Int.natCast_nonneg i) (by omega))
      have hlen := tradeAmounts_len l c ((slotsT l).take i)
      rw [List.length_take] at hlen
      have hs := tradeAmounts_succ l c (slotsT l) hi
      have ha := acc_map (f := ucell) (bs := []) (g := 0) (sz := 1) (bytes := 8) (l := tradeAmounts l c ((slotsT l).take i)) (nth l (nth (slotsT l) i)).give.amount (fun _ => rfl) (by unfold wide; omega) (by decide)
      simp only [List.length_nil, ucell_ce] at ha
      simp only [rx, reduceIte, zqa, zqb, zqc, zqd, zqe, zqf, zqg, zqh, zqi, zqj, zqk, zql, zqm, zqn, lim_call, t0, t1, t13, t6, hn, hk, hi, s0, s1, coinRight_r, tradeRow_r, coinSum_r]
      refine condK_split (fun h2 => ?_) (fun h2 => ?_)
      · rw [if_pos h2] at hs
        simp only [rx, reduceIte, zqa, zqb, zqc, zqd, zqe, zqf, zqg, zqh, zqi, zqj, zqk, zql, zqm, zqn, lim_call, t0, t1, t13, t6, hn, hk, hi, s0, s1, ha, hs, holds_cons, holds_nil]
      · rw [if_neg (by simp [h2])] at hs
        simp only [rx, reduceIte, zqa, zqb, zqc, zqd, zqe, zqf, zqg, zqh, zqi, zqj, zqk, zql, zqm, zqn, lim_call, t0, t1, t13, t6, hn, hk, hi, s0, s1, ha, hs, holds_cons, holds_nil]
    · intro hP T hS hn hk
      simp only [holds_cons, holds_nil, and_true, List.take_length] at hS
      obtain ⟨t0, t1, t13, t6⟩ := hS
      have hlen := tradeAmounts_len l c (slotsT l)
      have hq := coinSum_acc (tradeAmounts l c (slotsT l)) (by omega)
      simp only [allM_nil, allM_cons, Option.bind_some] at hq
      rw [List.take_length]
      simp only [rx, reduceIte, zqa, zqb, zqc, zqd, zqe, zqf, zqg, zqh, zqi, zqj, zqk, zql, zqm, zqn, lim_call, t0, t1, t13, t6, hn, hk, hq]
theorem tradeHeld_r (l : List Trade) (c : Int) (hl : l.length ≤ 4096) (m : Mem) : fin 138 [.sl .any ((l).map Trade.cells), .int .i64 (c)] m = some (.tup [.int .u64 ((tradeHeld l c).1), .int .i64 ((tradeHeld l c).2)], m) := tradeHeld_ok l c hl m
theorem minted_ok (h : Shelf) (m : Mem) : fin 141 [.agg (h : Shelf).cells] m = some (.agg (h.minted : Four).cells, m) := by
  refine fn_of state_Made_1 (by kernel_rfl) rfl rfl (by simp only [nx]) ?_ m; simp only [rx, reduceIte, zqa, zqb, zqc, zqd, zqe, zqf, zqg, zqh, zqi, zqj, zqk, zql, zqm, zqn, lim_call, state_Made_1]
theorem burned_ok (h : Shelf) (m : Mem) : fin 142 [.agg (h : Shelf).cells] m = some (.agg (h.burned : Four).cells, m) := by
  refine fn_of state_Made_2 (by kernel_rfl) rfl rfl (by simp only [nx]) ?_ m; simp only [rx, reduceIte, zqa, zqb, zqc, zqd, zqe, zqf, zqg, zqh, zqi, zqj, zqk, zql, zqm, zqn, lim_call, state_Made_2]
def column (s : State) (c : Int) (f : Shelf → Four) : Int × Int := coinSum (s.shelves.map fun h => (f h).at_ c)
theorem column_ok (s : State) (c : Int) (tk : Nat) (f : Shelf → Four) (h0 : 0 ≤ c) (h4 : c < 4) (hl : s.shelves.length ≤ 4096) (hf : ∀ h m, lim prog tk [.agg (Shelf.cells h)] m = some (.agg (Four.cells (f h)), m)) (m : Mem) : fin 140 [.agg (s : State).cells, .int .i64 (c), .fn tk [] []] m = some (.tup [.int .u64 ((column s c f).1), .int .i64 ((column s c f).2)], m) := by
  simp only [rx, reduceIte, zqa, zqb, zqc, zqd, zqe, zqf, zqg, zqh, zqi, zqj, zqk, zql, zqm, zqn, lim_call] at hf
  have e4 : c.toNat + 1 ≤ 4 := by omega
  refine fn_of state_column (by kernel_rfl) rfl rfl (by simp only [nx]) ?_ m; simp only [rx, reduceIte, zqa, zqb, zqc, zqd, zqe, zqf, zqg, zqh, zqi, zqj, zqk, zql, zqm, zqn, lim_call, state_column, coinSum_r]
  refine wpK_range s.shelves.length (fun i => [(3, .iptr s.cells 0), (1, .int .i64 c), (2, .fn tk [] []), (12, .sl .any (s.shelves.map Shelf.cells)), (8, accV 0 0 1 (((s.shelves.take i).map fun h => (f h).at_ c).map ucell))]) (fun i => accM [] 0 (((s.shelves.take i).map fun h => (f h).at_ c).map ucell)) (fun i => True) (by omega) (by decide) (by simp only [rx, reduceIte, zqa, zqb, zqc, zqd, zqe, zqf, zqg, zqh, zqi, zqj, zqk, zql, zqm, zqn, lim_call]) (by simp only [rx, reduceIte, zqa, zqb, zqc, zqd, zqe, zqf, zqg, zqh, zqi, zqj, zqk, zql, zqm, zqn, lim_call]) (by simp only [rx, reduceIte, zqa, zqb, zqc, zqd, zqe, zqf, zqg, zqh, zqi, zqj, zqk, zql, zqm, zqn, lim_call, holds_cons, holds_nil]; rfl) rfl trivial ?_ ?_
  · intro i hi hP T hS hn hk
    simp only [holds_cons, holds_nil, and_true, celld] at hS
    obtain ⟨t3, t1, t2, t12, t8⟩ := hS
    have hlen : ((s.shelves.take i).map fun h => (f h).at_ c).length = i := by rw [List.length_map, List.length_take]; omega
    have ha := acc_map (f := ucell) (bs := []) (g := 0) (sz := 1) (bytes := 8) (l := (s.shelves.take i).map fun h => (f h).at_ c) ((f (nth s.shelves i)).at_ c) (fun _ => rfl) (by unfold wide; omega) (by decide)
    have ht : ((s.shelves.take (i + 1)).map fun h => (f h).at_ c) = ((s.shelves.take i).map fun h => (f h).at_ c) ++ [(f (nth s.shelves i)).at_ c] := by rw [take_succ_nth hi, List.map_append]; rfl
    have hfx := hf (nth s.shelves i)
    simp only [List.length_nil, ucell_ce] at ha
    simp only [rx, reduceIte, zqa, zqb, zqc, zqd, zqe, zqf, zqg, zqh, zqi, zqj, zqk, zql, zqm, zqn, lim_call, t3, t1, t2, t12, t8, hn, hk, hi, hfx, h0, h4, e4, four_ix, ha, ht, holds_cons, holds_nil]
  · intro hP T hS hn hk
    simp only [holds_cons, holds_nil, and_true, List.take_length, celld] at hS
    obtain ⟨t3, t1, t2, t12, t8⟩ := hS
    have hq := coinSum_acc (s.shelves.map fun h => (f h).at_ c) (by rw [List.length_map]; omega)
    simp only [allM_nil, allM_cons, Option.bind_some] at hq
    rw [List.take_length]
    simp only [rx, reduceIte, zqa, zqb, zqc, zqd, zqe, zqf, zqg, zqh, zqi, zqj, zqk, zql, zqm, zqn, lim_call, t3, t1, t2, t12, t8, hn, hk, hq, column]
def stateMade (s : State) (c : Int) : Int × Int := if coinRight c = true then (if (column s c Shelf.minted).2 = 0 then (if (column s c Shelf.burned).2 = 0 then coinMinus (column s c Shelf.minted).1 (column s c Shelf.burned).1 else (0, (column s c Shelf.burned).2)) else (0, (column s c Shelf.minted).2)) else (0, 1)
theorem stateMade_ok (s : State) (c : Int) (hl : s.shelves.length ≤ 4096) (m : Mem) : fin 73 [.agg (s : State).cells, .int .i64 (c)] m = some (.tup [.int .u64 ((stateMade s c).1), .int .i64 ((stateMade s c).2)], m) := by
  have hx1 := fun (h0 : 0 ≤ c) (h4 : c < 4) => column_ok s c 141 Shelf.minted h0 h4 hl (fun h m => minted_ok h m)
  have hx2 := fun (h0 : 0 ≤ c) (h4 : c < 4) => column_ok s c 142 Shelf.burned h0 h4 hl (fun h m => burned_ok h m)
  simp only [celld] at hx1 hx2
  refine fn_of state_Made (by kernel_rfl) rfl rfl (by simp only [nx]) ?_ m; simp only [rx, reduceIte, zqa, zqb, zqc, zqd, zqe, zqf, zqg, zqh, zqi, zqj, zqk, zql, zqm, zqn, lim_call, state_Made, coinRight_r, stateMade]
  repeat' ((with_reducible first | refine guardK_split (fun h => ?_) (fun h => ?_) | refine gdrawK_split (fun h => ?_) (fun h => ?_) | refine condK_split (fun h => ?_) (fun h => ?_)) <;>
    (have h' := h; (try simp only [sx, Int.not_le, Int.not_lt, Bool.and_eq_true, coinRight] at h'); (try simp only [sxh] at h); simp only [rx, reduceIte, zqa, zqb, zqc, zqd, zqe, zqf, zqg, zqh, zqi, zqj, zqk, zql, zqm, zqn, lim_call, *, coinRight_r, hx1, hx2, coinMinus_ok]))
theorem stateMade_r (s_round : Int) (s_shelves : List Shelf) (s_ranks : List (List Int)) (s_orders : List Order) (s_audit : List Entry) (s_sessions : List Int) (c : Int) (hl : (⟨s_round, s_shelves, s_ranks, s_orders, s_audit, s_sessions⟩ : State).shelves.length ≤ 4096) (m : Mem) : fin 73 [.agg [.int .u64 s_round, .sl .any (s_shelves.map Shelf.cells), .sl .any (s_ranks.map rcell), .sl .any (s_orders.map Order.cells), .sl .any (s_audit.map Entry.cells), .sl .any (s_sessions.map icell)], .int .i64 (c)] m = some (.tup [.int .u64 ((stateMade (⟨s_round, s_shelves, s_ranks, s_orders, s_audit, s_sessions⟩ : State) c).1), .int .i64 ((stateMade (⟨s_round, s_shelves, s_ranks, s_orders, s_audit, s_sessions⟩ : State) c).2)], m) := stateMade_ok ⟨s_round, s_shelves, s_ranks, s_orders, s_audit, s_sessions⟩ c hl m
end Go.Rx.Api

set_option linter.unusedSimpArgs false
set_option linter.unusedVariables false
set_option maxRecDepth 20000
namespace Go.Rx.Api
open Go.Rx
open Nat renaming reduceEqDiff → zqa, reduceAdd → zqb, reduceMul → zqc, reduceLeDiff → zqd, reduceBEq → zqe, reduceBNe → zqf, reduceSub → zqg, reduceLT → zqh
open Int renaming reduceLE → zqi, reduceLT → zqj, reduceToNat → zqk, reduceNeg → zql, reduceEq → zqm, reduceBEq → zqn
def accW (g sz : Nat) (h : List V) (rows : List (List V)) : V := match rows with | [] => .sl .exnn [h] | _ :: _ => .msl 0 (g + rows.length - 1) sz 0 (1 + rows.length) false
def accN (g : Nat) (h : List V) (rows : List (List V)) : Mem := match rows with | [] => ⟨[], g⟩ | _ :: _ => ⟨[some (.cells (g + rows.length - 1) (h :: rows).flatten)], g + rows.length⟩
theorem accW_append {g sz bytes : Nat} {h e : List V} {rows : List (List V)} (hh : h.length = sz) (he : e.length = sz) (hr : ∀ r ∈ rows, r.length = sz) (hb : (rows.length + 2) * bytes ≤ wide) (h0 : 0 < bytes) :
    appendV (accN g h rows) false sz bytes (accW g sz h rows) (.sl .exnn [e]) = some (accW g sz h (rows ++ [e]), accN g h (rows ++ [e])) := by
  have hfit : fitSz sz [e] = true := by simp [fitSz, he]
  have hfit2 : fitSz sz [h] = true := by simp [fitSz, hh]
  cases rows with
  | nil =>
    simp only [List.length_nil, Nat.zero_add] at hb
    simp only [appendV, elemsOf, Option.bind_some, hfit, if_true, accW, accN, List.nil_append, List.length_cons, List.length_nil, Nat.zero_add, if_false, SF.exact, hfit2, Bool.false_eq_true, Nat.reduceAdd,
      Mem.push, List.flatten_cons, List.flatten_nil, List.append_nil, h0, and_self, and_true, hb, Nat.add_sub_cancel, Nat.one_ne_zero, List.cons_append]
  | cons r rows =>
    have hl := flat_len (rows := h :: r :: rows) (sz := sz) (fun x hx => by
      rcases List.mem_cons.1 hx with rfl | hx
      · exact hh
      · exact hr x hx)
    simp only [appendV, elemsOf, Option.bind_some, hfit, if_true, accW, accN, Mem.cells, List.getElem?_cons_zero, List.length_cons, List.length_nil, Nat.zero_add, Nat.one_ne_zero, if_false]
    simp only [List.length_cons] at hl hb
    rw [if_pos ⟨by rw [show 1 + (rows.length + 1) + 1 = rows.length + 1 + 2 by omega]; exact hb, h0⟩, if_pos ⟨trivial, by rw [hl]; congr 1; omega⟩]
    simp only [List.cons_append, List.length_cons, List.length_append, List.length_nil, Nat.zero_add, List.set_cons_zero, List.flatten_cons, List.flatten_append, List.flatten_nil, List.append_nil, List.append_assoc]
    congr 1
theorem accW_map {α : Type} {f : α → List V} {g sz bytes : Nat} {h : List V} {l : List α} (x : α) (hh : h.length = sz) (hf : ∀ a, (f a).length = sz) (hb : (l.length + 2) * bytes ≤ wide) (h0 : 0 < bytes) :
    appendV (accN g h (l.map f)) false sz bytes (accW g sz h (l.map f)) (.sl .exnn [f x]) = some (accW g sz h ((l ++ [x]).map f), accN g h ((l ++ [x]).map f)) := by
  rw [accW_append hh (hf x) (fun r hr => by obtain ⟨a, _, rfl⟩ := List.mem_map.1 hr; exact hf a) (by rw [List.length_map]; exact hb) h0, List.map_append]
  rfl
theorem coinSumW (x : Int) (l : List Int) (hl : l.length + 1 < 9223372036854775808) : callK prog false 139 (allM (norm 24) [accW 0 1 [.int .u64 x] (l.map ucell)]) [accW 0 1 [.int .u64 x] (l.map ucell)] (accN 0 [.int .u64 x] (l.map ucell)) = some (.tup [.int .u64 (coinSum (x :: l)).1, .int .i64 (coinSum (x :: l)).2], accN 0 [.int .u64 x] (l.map ucell)) := by
  cases l with
  | nil => exact coinSum_ok [x] (by simp) _
  | cons a l =>
    have := coinSum_msl (x :: a :: l) ((a :: l).length - 1) (a :: l).length false hl
    rw [← flat_ucell] at this
    simp only [List.map_cons, accW, accN, List.length_cons, List.length_map, Nat.zero_add] at this ⊢
    rw [show 1 + (l.length + 1) = l.length + 1 + 1 by omega]
    exact this
def shelfHeld (h : Shelf) (c : Int) : List Int := (tradeHeld h.trades c).1 :: h.purses.map fun p => p.at_ c
def heldRows (l : List Shelf) (c : Int) : List Int := (l.map fun h => shelfHeld h c).flatten
theorem heldRows_succ {l : List Shelf} {c : Int} {i : Nat} (h : i < l.length) : heldRows (l.take (i + 1)) c = heldRows (l.take i) c ++ ((tradeHeld (nth l i).trades c).1 :: (nth l i).purses.map fun p => p.at_ c) := by
  unfold heldRows
  rw [take_succ_nth h, List.map_append, List.flatten_append]
  simp [shelfHeld]
theorem heldRows_len {c : Int} : ∀ {l : List Shelf}, (∀ h ∈ l, h.purses.length ≤ 4096) → (heldRows l c).length ≤ l.length * 4097
  | [], _ => by simp [heldRows]
  | h :: l, hh => by
    have ih := heldRows_len (c := c) (l := l) fun x hx => hh x (List.mem_cons_of_mem _ hx)
    have h0 := hh h (List.mem_cons_self ..)
    have e : heldRows (h :: l) c = shelfHeld h c ++ heldRows l c := rfl
    have e2 : (shelfHeld h c).length = h.purses.length + 1 := by simp [shelfHeld]
    rw [e, List.length_append, List.length_cons, e2]
    omega
def stateHeld (s : State) (c : Int) : Int × Int := if coinRight c = true then (if (bookHeld s.orders c).2 = 0 then (if cmpOr (s.shelves.map fun h => (tradeHeld h.trades c).2) = 0 then coinSum ((bookHeld s.orders c).1 :: heldRows s.shelves c) else (0, cmpOr (s.shelves.map fun h => (tradeHeld h.trades c).2))) else (0, (bookHeld s.orders c).2)) else (0, 1)
theorem nth_map {α β : Type} [Inhabited α] [Inhabited β] {f : α → β} {l : List α} {i : Nat} (h : i < l.length) : nth (l.map f) i = f (nth l i) := by
  refine nth_eq ?_
  rw [List.getElem?_map, get_nth_nat h]; rfl
theorem take_mem {α : Type} {l : List α} {i : Nat} {x : α} (h : x ∈ l.take i) : x ∈ l := List.mem_of_mem_take h
set_option maxHeartbeats 400000 in
theorem stateHeld_ok (s : State) (c : Int) (hs : s.small) (m : Mem) : fin 72 [.agg (s : State).cells, .int .i64 (c)] m = some (.tup [.int .u64 ((stateHeld s c).1), .int .i64 ((stateHeld s c).2)], m) := by
  have hs1 := hs.1
  have hs3 := hs.2.2.1
  refine fn_of state_Held (by kernel_rfl) rfl rfl (by simp only [nx]) ?_ m; simp only [rx, reduceIte, zqa, zqb, zqc, zqd, zqe, zqf, zqg, zqh, zqi, zqj, zqk, zql, zqm, zqn, lim_call, state_Held, coinRight_r, bookHeld_r, tradeHeld_r, coinSum_r, stateHeld, hs3]
  repeat' ((with_reducible first | refine guardK_split (fun h => ?_) (fun h => ?_) | refine gdrawK_split (fun h => ?_) (fun h => ?_) | refine condK_split (fun h => ?_) (fun h => ?_)) <;>
    (have h' := h; (try simp only [sx, Int.not_le, Int.not_lt, Bool.and_eq_true] at h'); (try simp only [sxh] at h); simp only [rx, reduceIte, zqa, zqb, zqc, zqd, zqe, zqf, zqg, zqh, zqi, zqj, zqk, zql, zqm, zqn, lim_call, *, coinRight_r, bookHeld_r, tradeHeld_r, coinSum_r]))
  have hc : coinRight c = true := by assumption
  have hb2 : (bookHeld s.orders c).2 = 0 := by assumption
  have hcc := hc
  simp only [coinRight, Bool.and_eq_true, decide_eq_true_eq] at hcc
  obtain ⟨h0, h4⟩ := hcc
  have e4 : c.toNat + 1 ≤ 4 := by omega
  have hz : heldRows [] c = [] := rfl
  have hLl : (s.shelves.map fun h => (tradeHeld h.trades c).2).length = s.shelves.length := List.length_map ..
  have hmap' := fun (i : Nat) (hi : i < s.shelves.length) => nth_map (f := fun h : Shelf => (tradeHeld h.trades c).2) hi
  generalize (s.shelves.map fun h => (tradeHeld h.trades c).2) = L at *
  have hz2 : ∀ h, accW 0 1 h [] = .sl .exnn [h] := fun _ => rfl
  have hz3 : ∀ h, accN 0 h [] = m0 := fun _ => rfl
  generalize hx : (bookHeld s.orders c).1 = x
  have hlenr : ∀ i, (heldRows (s.shelves.take i) c).length ≤ i * 4097 := fun i => by
    have := heldRows_len (c := c) (l := s.shelves.take i) fun h hh => by obtain ⟨k, _, rfl⟩ := mem_nth (take_mem hh); exact (hs.2.1 k).2.2.2.2.2.1
    rw [List.length_take] at this
    refine Nat.le_trans this (Nat.mul_le_mul_right _ (Nat.min_le_left _ _))
  refine wpK_range s.shelves.length (fun i => [(2, .iptr s.cells 0), (1, .int .i64 c), (31, .sl .any (s.shelves.map Shelf.cells)), (8, accW 0 1 [.int .u64 x] ((heldRows (s.shelves.take i) c).map ucell))]) (fun i => accN 0 [.int .u64 x] ((heldRows (s.shelves.take i) c).map ucell)) (fun i => ∀ k : Nat, k < i → nth L k = 0) (by omega) (by decide) (by simp only [rx, reduceIte, zqa, zqb, zqc, zqd, zqe, zqf, zqg, zqh, zqi, zqj, zqk, zql, zqm, zqn, lim_call]) (by simp only [rx, reduceIte, zqa, zqb, zqc, zqd, zqe, zqf, zqg, zqh, zqi, zqj, zqk, zql, zqm, zqn, lim_call]) (by simp only [rx, reduceIte, zqa, zqb, zqc, zqd, zqe, zqf, zqg, zqh, zqi, zqj, zqk, zql, zqm, zqn, lim_call, holds_cons, holds_nil, hx, hz, List.map_nil, hz2]) (by simp only [List.take_zero, hz, List.map_nil, hz3]) (fun k hk => by omega) ?_ ?_
  · intro i hi hP T hS hn hk
    simp only [holds_cons, holds_nil, and_true, celld] at hS
    obtain ⟨t2, t1, t31, t8⟩ := hS
    have hsm := hs.2.1 i
    obtain ⟨b1, b2, b3, b4, b5, b6, b7⟩ := hsm
    have hli := hlenr i
    have ha := accW_map (f := ucell) (g := 0) (sz := 1) (bytes := 8) (h := [.int .u64 x]) (l := heldRows (s.shelves.take i) c) (tradeHeld (nth s.shelves i).trades c).1 rfl (fun _ => rfl) (by unfold wide; omega) (by decide)
    have hmap := hmap' i hi
    simp only [ucell_ce] at ha
    have hth := tradeHeld_ok (nth s.shelves i).trades c b5
    simp only [rx, reduceIte, zqa, zqb, zqc, zqd, zqe, zqf, zqg, zqh, zqi, zqj, zqk, zql, zqm, zqn, lim_call, t2, t1, t31, t8, hn, hk, hi, hth]
    refine condK_split (fun g => ?_) (fun g => ?_)
    · simp only [sx] at g
      have hne : nth L (i : Int) ≠ 0 := by rw [hmap]; exact g
      have hcm := cmpOr_some (l := L) (i := i) (by rw [hLl]; exact hi) hP hne
      rw [hmap] at hcm
      simp only [rx, reduceIte, zqa, zqb, zqc, zqd, zqe, zqf, zqg, zqh, zqi, zqj, zqk, zql, zqm, zqn, lim_call, hcm, g]
    · have g' := g
      simp only [sx] at g'
      simp only [rx, reduceIte, zqa, zqb, zqc, zqd, zqe, zqf, zqg, zqh, zqi, zqj, zqk, zql, zqm, zqn, lim_call, g, t2, t1, t31, t8, hn, hk, hi, ha]
      refine wpK_range (nth s.shelves i).purses.length (fun k => [(2, .iptr s.cells 0), (1, .int .i64 c), (31, .sl .any (s.shelves.map Shelf.cells)), (32, .int .i64 s.shelves.length), (33, .int .i64 i), (52, .sl .any ((nth s.shelves i).purses.map Four.cells)), (8, accW 0 1 [.int .u64 x] ((heldRows (s.shelves.take i) c ++ ((tradeHeld (nth s.shelves i).trades c).1 :: ((nth s.shelves i).purses.take k).map fun p => p.at_ c)).map ucell))]) (fun k => accN 0 [.int .u64 x] ((heldRows (s.shelves.take i) c ++ ((tradeHeld (nth s.shelves i).trades c).1 :: ((nth s.shelves i).purses.take k).map fun p => p.at_ c)).map ucell)) (fun k => True) (by omega) (by decide) (by simp only [rx, reduceIte, zqa, zqb, zqc, zqd, zqe, zqf, zqg, zqh, zqi, zqj, zqk, zql, zqm, zqn, lim_call]) (by simp only [rx, reduceIte, zqa, zqb, zqc, zqd, zqe, zqf, zqg, zqh, zqi, zqj, zqk, zql, zqm, zqn, lim_call]) (by simp only [rx, reduceIte, zqa, zqb, zqc, zqd, zqe, zqf, zqg, zqh, zqi, zqj, zqk, zql, zqm, zqn, lim_call, holds_cons, holds_nil, t2, t1, t31, hn, hk]) rfl trivial ?_ ?_
      · intro k hk2 hP2 T2 hT hn2 hk3
        simp only [holds_cons, holds_nil, and_true, celld] at hT
        obtain ⟨u2, u1, u31, u32, u33, u52, u8⟩ := hT
        have hlen2 : (heldRows (s.shelves.take i) c ++ ((tradeHeld (nth s.shelves i).trades c).1 :: ((nth s.shelves i).purses.take k).map fun p => p.at_ c)).length ≤ i * 4097 + 4097 := by
          rw [List.length_append, List.length_cons, List.length_map, List.length_take]; omega
        have ha2 := accW_map (f := ucell) (g := 0) (sz := 1) (bytes := 8) (h := [.int .u64 x]) (l := heldRows (s.shelves.take i) c ++ ((tradeHeld (nth s.shelves i).trades c).1 :: ((nth s.shelves i).purses.take k).map fun p => p.at_ c)) ((nth (nth s.shelves i).purses k).at_ c) rfl (fun _ => rfl) (by unfold wide; omega) (by decide)
        have htk : heldRows (s.shelves.take i) c ++ ((tradeHeld (nth s.shelves i).trades c).1 :: ((nth s.shelves i).purses.take (k + 1)).map fun p => p.at_ c) = (heldRows (s.shelves.take i) c ++ ((tradeHeld (nth s.shelves i).trades c).1 :: ((nth s.shelves i).purses.take k).map fun p => p.at_ c)) ++ [(nth (nth s.shelves i).purses k).at_ c] := by
          rw [take_succ_nth hk2, List.map_append, List.append_assoc]; rfl
        simp only [ucell_ce] at ha2
        generalize heldRows (s.shelves.take i) c ++ ((tradeHeld (nth s.shelves i).trades c).1 :: ((nth s.shelves i).purses.take k).map fun p => p.at_ c) = L at *
        simp only [rx, reduceIte, zqa, zqb, zqc, zqd, zqe, zqf, zqg, zqh, zqi, zqj, zqk, zql, zqm, zqn, lim_call, u2, u1, u31, u32, u33, u52, u8, hn2, hk3, hk2, h0, h4, e4, four_ix, ha2, htk, holds_cons, holds_nil]
      · intro hP2 T2 hT hn2 hk3
        simp only [holds_cons, holds_nil, and_true, celld, List.take_length] at hT
        obtain ⟨u2, u1, u31, u32, u33, u52, u8⟩ := hT
        have hsucc := heldRows_succ (c := c) hi
        rw [List.take_length]
        rw [← hsucc] at u8 ⊢
        simp only [rx, reduceIte, zqa, zqb, zqc, zqd, zqe, zqf, zqg, zqh, zqi, zqj, zqk, zql, zqm, zqn, lim_call, u2, u1, u31, u32, u33, u52, u8, holds_cons, holds_nil, celld]
        exact all_succ hP (by rw [hmap]; exact g')
  · intro hP T hS hn hk
    simp only [holds_cons, holds_nil, and_true, List.take_length, celld] at hS
    obtain ⟨t2, t1, t31, t8⟩ := hS
    have hcm := cmpOr_none (l := L) (fun j hj => hP j (by rw [hLl] at hj; exact hj))
    have hli := hlenr s.shelves.length
    rw [List.take_length] at hli
    have hq := coinSumW x (heldRows s.shelves c) (by omega)
    simp only [allM_nil, allM_cons, Option.bind_some] at hq
    rw [List.take_length]
    simp only [rx, reduceIte, zqa, zqb, zqc, zqd, zqe, zqf, zqg, zqh, zqi, zqj, zqk, zql, zqm, zqn, lim_call, t2, t1, t31, t8, hn, hk, hq, hcm]
theorem stateHeld_r (s_round : Int) (s_shelves : List Shelf) (s_ranks : List (List Int)) (s_orders : List Order) (s_audit : List Entry) (s_sessions : List Int) (c : Int) (hs : (⟨s_round, s_shelves, s_ranks, s_orders, s_audit, s_sessions⟩ : State).small) (m : Mem) : fin 72 [.agg [.int .u64 s_round, .sl .any (s_shelves.map Shelf.cells), .sl .any (s_ranks.map rcell), .sl .any (s_orders.map Order.cells), .sl .any (s_audit.map Entry.cells), .sl .any (s_sessions.map icell)], .int .i64 (c)] m = some (.tup [.int .u64 ((stateHeld (⟨s_round, s_shelves, s_ranks, s_orders, s_audit, s_sessions⟩ : State) c).1), .int .i64 ((stateHeld (⟨s_round, s_shelves, s_ranks, s_orders, s_audit, s_sessions⟩ : State) c).2)], m) := stateHeld_ok ⟨s_round, s_shelves, s_ranks, s_orders, s_audit, s_sessions⟩ c hs m
end Go.Rx.Api

set_option linter.unusedSimpArgs false
set_option linter.unusedVariables false
set_option maxRecDepth 20000
namespace Go.Rx.Api
open Go.Rx
open Nat renaming reduceEqDiff → zqa, reduceAdd → zqb, reduceMul → zqc, reduceLeDiff → zqd, reduceBEq → zqe, reduceBNe → zqf, reduceSub → zqg, reduceLT → zqh
open Int renaming reduceLE → zqi, reduceLT → zqj, reduceToNat → zqk, reduceNeg → zql, reduceEq → zqm, reduceBEq → zqn
def capAt (r : Realm) (s : State) (c : Nat) (i : Nat) : Bool := !decide ((nth r.quotas i).cap < (nth s.shelves i).minted.at_ c)
def coinsAt (r : Realm) (s : State) (c : Nat) : Bool := allN s.shelves.length (capAt r s c) && ((stateHeld s c).2 == 0 && ((stateMade s c).2 == 0 && (stateHeld s c).1 == (stateMade s c).1))
def judgeCoins (r : Realm) (s : State) : Bool := allN 4 (coinsAt r s)
set_option maxHeartbeats 800000 in
theorem judgeCoins_ok (j : Judge) (hs : j.s.small) (hq : j.s.shelves.length ≤ j.r.quotas.length) (m : Mem) : fin 28 [.agg (j : Judge).cells] m = some (.bool (judgeCoins j.r j.s), m) := by
  refine fn_of state_judge_coins (by kernel_rfl) rfl rfl (by simp only [nx]) ?_ m; simp only [rx, reduceIte, zqa, zqb, zqc, zqd, zqe, zqf, zqg, zqh, zqi, zqj, zqk, zql, zqm, zqn, lim_call, state_judge_coins, stateHeld_r, stateMade_r]
  refine wpK_iter 4 (fun i T m => T 10 = .int .i64 i ∧ m = m0 ∧ T 1 = .iptr j.cells 0 ∧ ∀ k : Nat, k < i → coinsAt j.r j.s k = true) ?_ ?_
  · simp only [rx, reduceIte, zqa, zqb, zqc, zqd, zqe, zqf, zqg, zqh, zqi, zqj, zqk, zql, zqm, zqn, lim_call]
    exact fun k hk => by omega
  · rintro i T m' hi ⟨h10, rfl, h1, hP⟩
    simp only [celld] at h1
    simp only [rx, reduceIte, zqa, zqb, zqc, zqd, zqe, zqf, zqg, zqh, zqi, zqj, zqk, zql, zqm, zqn, lim_call, h10, h1]
    refine condK_split (fun g => ?_) (fun g => ?_)
    · simp only [decide_eq_true_eq] at g
      have hi4 : i < 4 := by omega
      have hic : (i : Int) < 4 := g
      have hfin : coinsAt j.r j.s i = false → some (V.bool false) = some (V.bool (judgeCoins j.r j.s)) := fun h => by rw [judgeCoins, allN_false hi4 h]
      have hw : IntKind.i64.wrap ((i : Int) + 1) = ((i + 1 : Nat) : Int) := by rw [wrap_i64 (by omega) (by omega)]; omega
      have hH := stateHeld_ok j.s i hs
      have hM := stateMade_ok j.s i hs.1
      simp only [celld] at hH hM
      have e7 : 7 + i = i + 7 := Nat.add_comm ..
      have e16 : i + 7 + 1 ≤ 15 := by omega
      simp only [rx, reduceIte, zqa, zqb, zqc, zqd, zqe, zqf, zqg, zqh, zqi, zqj, zqk, zql, zqm, zqn, lim_call, h10, h1]
      refine wpK_range j.s.shelves.length (fun _ => [(1, .iptr j.cells 0), (3, .int .i64 i), (10, .int .i64 i), (15, .sl .any (j.s.shelves.map Shelf.cells))]) (fun _ => m0) (fun n => ∀ k : Nat, k < n → capAt j.r j.s i k = true) (by have := hs.1; omega) (by decide) (by simp only [rx, reduceIte, zqa, zqb, zqc, zqd, zqe, zqf, zqg, zqh, zqi, zqj, zqk, zql, zqm, zqn, lim_call]) (by simp only [rx, reduceIte, zqa, zqb, zqc, zqd, zqe, zqf, zqg, zqh, zqi, zqj, zqk, zql, zqm, zqn, lim_call]) (by simp only [rx, reduceIte, zqa, zqb, zqc, zqd, zqe, zqf, zqg, zqh, zqi, zqj, zqk, zql, zqm, zqn, lim_call, holds_cons, holds_nil, h10, h1]) rfl (fun k hk => by omega) ?_ ?_
      · intro k hk hP2 T2 hT hn2 hk2
        simp only [holds_cons, holds_nil, and_true, celld] at hT
        obtain ⟨t1, t3, t10, t15⟩ := hT
        have hkq : k < j.r.quotas.length := by omega
        have hf2 : capAt j.r j.s i k = false → some (V.bool false) = some (V.bool (judgeCoins j.r j.s)) := fun h => hfin (by rw [coinsAt, allN_false hk h]; rfl)
        simp only [rx, reduceIte, zqa, zqb, zqc, zqd, zqe, zqf, zqg, zqh, zqi, zqj, zqk, zql, zqm, zqn, lim_call, t1, t3, t10, t15, hn2, hk2, hk, hic, hi4, e7, e16, eight_ix_nat, hkq]
        refine condK_split (fun g2 => ?_) (fun g2 => ?_)
        · simp only [rx, reduceIte, zqa, zqb, zqc, zqd, zqe, zqf, zqg, zqh, zqi, zqj, zqk, zql, zqm, zqn, lim_call]
          exact hf2 (by rw [capAt, g2]; rfl)
        · simp only [rx, reduceIte, zqa, zqb, zqc, zqd, zqe, zqf, zqg, zqh, zqi, zqj, zqk, zql, zqm, zqn, lim_call, t1, t3, t10, t15, hn2, hk2, holds_cons, holds_nil, celld]
          exact all_succ hP2 (by rw [capAt, g2]; rfl)
      · intro hP2 T2 hT hn2 hk2
        have hcap := allN_true hP2
        simp only [holds_cons, holds_nil, and_true, celld] at hT
        obtain ⟨t1, t3, t10, t15⟩ := hT
        simp only [rx, reduceIte, zqa, zqb, zqc, zqd, zqe, zqf, zqg, zqh, zqi, zqj, zqk, zql, zqm, zqn, lim_call, t1, t3, t10, t15, hH, hM]
        refine guardK_split (fun g2 => ?_) (fun g2 => ?_)
        · simp only [sxh] at g2
          simp only [rx, reduceIte, zqa, zqb, zqc, zqd, zqe, zqf, zqg, zqh, zqi, zqj, zqk, zql, zqm, zqn, lim_call, g2, t1, t3, t10, t15]
          exact hfin (by simp only [coinsAt, g2, rxc])
        · simp only [sxh] at g2
          simp only [rx, reduceIte, zqa, zqb, zqc, zqd, zqe, zqf, zqg, zqh, zqi, zqj, zqk, zql, zqm, zqn, lim_call, g2, t1, t3, t10, t15]
          refine guardK_split (fun g3 => ?_) (fun g3 => ?_)
          · simp only [sxh] at g3
            simp only [rx, reduceIte, zqa, zqb, zqc, zqd, zqe, zqf, zqg, zqh, zqi, zqj, zqk, zql, zqm, zqn, lim_call, g2, g3, t1, t3, t10, t15]
            exact hfin (by simp only [coinsAt, g2, g3, rxc])
          · simp only [sxh] at g3
            simp only [rx, reduceIte, zqa, zqb, zqc, zqd, zqe, zqf, zqg, zqh, zqi, zqj, zqk, zql, zqm, zqn, lim_call, g2, g3, t1, t3, t10, t15]
            refine condK_split (fun g4 => ?_) (fun g4 => ?_)
            · simp only [sxh] at g4
              simp only [rx, reduceIte, zqa, zqb, zqc, zqd, zqe, zqf, zqg, zqh, zqi, zqj, zqk, zql, zqm, zqn, lim_call]
              exact hfin (by simp only [coinsAt, g2, g3, g4, rxc])
            · simp only [sxh] at g4
              simp only [rx, reduceIte, zqa, zqb, zqc, zqd, zqe, zqf, zqg, zqh, zqi, zqj, zqk, zql, zqm, zqn, lim_call, t1, t3, t10, t15, hw, celld]
              exact ⟨hi4, all_succ hP (by simp only [coinsAt, hcap, g2, g3, g4, rxc])⟩
    · simp only [decide_eq_false_iff_not, Int.not_lt] at g
      have : i = 4 := by omega
      subst this
      simp only [rx, reduceIte, zqa, zqb, zqc, zqd, zqe, zqf, zqg, zqh, zqi, zqj, zqk, zql, zqm, zqn, lim_call, judgeCoins, allN_true hP]
theorem nth_or {α : Type} [Inhabited α] (l : List α) (i : Int) : (∃ k : Nat, k < l.length ∧ nth l i = nth l k) ∨ nth l i = default := by
  by_cases h : i.toNat < l.length
  · refine .inl ⟨i.toNat, h, ?_⟩
    simp only [nth, Int.toNat_natCast]
  · refine .inr ?_
    unfold nth
    rw [List.getElem?_eq_none (by omega)]; rfl
theorem quotaNums_le {q : Quota} (h : quotaNums q = false) : (0 ≤ q.rooms ∧ q.rooms ≤ 12) ∧ (0 ≤ q.exits ∧ q.exits ≤ 12) ∧ (0 ≤ q.items ∧ q.items ≤ 12) ∧ (0 ≤ q.mails ∧ q.mails ≤ 12) ∧ (0 ≤ q.trades ∧ q.trades ≤ 12) := by
  simp only [quotaNums, within, List.any_cons, List.any_nil, Bool.or_eq_false_iff, Bool.not_eq_false', Bool.and_eq_true, decide_eq_true_eq] at h
  omega
structure Sized (r : Realm) (s : State) : Prop where
  ok : RealmOk r
  shelves : s.shelves.length = r.labels.length
  orders : (s.orders.length : Int) = r.orders
  audit : (s.audit.length : Int) ≤ r.audits
  sessions : s.sessions.length = r.lines.length
  rooms : ∀ i : Nat, i < s.shelves.length → ((nth s.shelves i).rooms.length : Int) = (nth r.quotas i).rooms
  exits : ∀ i : Nat, i < s.shelves.length → ((nth s.shelves i).exits.length : Int) = (nth r.quotas i).exits
  items : ∀ i : Nat, i < s.shelves.length → ((nth s.shelves i).items.length : Int) = (nth r.quotas i).items
  mails : ∀ i : Nat, i < s.shelves.length → ((nth s.shelves i).mails.length : Int) = (nth r.quotas i).mails
  trades : ∀ i : Nat, i < s.shelves.length → ((nth s.shelves i).trades.length : Int) = (nth r.quotas i).trades
  purses : ∀ i : Nat, i < s.shelves.length → (nth s.shelves i).purses.length = r.accounts.length
  places : ∀ i : Nat, i < s.shelves.length → (nth s.shelves i).places.length = r.accounts.length
theorem sized {r : Realm} {s : State} (h : judgeSizes r s = true) : Sized r s := by
  simp only [judgeSizes, Bool.and_eq_true, beq_iff_eq, Bool.not_eq_true', decide_eq_false_iff_not] at h
  obtain ⟨h1, h2, h3, h4, h5, h6, h7⟩ := h
  have ok := realmOk h1
  have hz : ∀ i : Nat, i < s.shelves.length → sizesAt r s i = true := allN_iff.1 h7
  refine ⟨ok, by omega, h3, by omega, by omega, ?_, ?_, ?_, ?_, ?_, ?_, ?_⟩ <;> intro i hi <;> have := hz i hi <;> simp only [sizesAt, Bool.and_eq_true, beq_iff_eq] at this <;> omega
theorem Sized.nums {r : Realm} {s : State} (h : Sized r s) (i : Nat) (hi : i < s.shelves.length) : quotaNums (nth r.quotas i) = false := h.ok.quota i (by omega) (by have := h.ok.quotas; have := h.shelves; omega)
theorem Sized.small {r : Realm} {s : State} (h : Sized r s) : s.small := by
  have l8 := h.ok.labels8
  have l1 := h.ok.lines8
  have o := h.ok.orders
  have a := h.ok.audits
  have a8 := h.ok.accounts8
  refine ⟨by have := h.shelves; omega, fun i => ?_, by have := h.orders; omega, by have := h.audit; omega, by have := h.sessions; omega⟩
  rcases nth_or s.shelves i with ⟨k, hk, e⟩ | e
  · rw [e]
    have q := quotaNums_le (h.nums k hk)
    have := h.rooms k hk; have := h.exits k hk; have := h.items k hk; have := h.mails k hk; have := h.trades k hk; have := h.purses k hk; have := h.places k hk
    refine ⟨?_, ?_, ?_, ?_, ?_, ?_, ?_⟩ <;> omega
  · rw [e]
    refine ⟨?_, ?_, ?_, ?_, ?_, ?_, ?_⟩ <;> decide
def stateRule (r : Realm) (s : State) : Nat → Bool
  | 0 => judgeSizes r s
  | 1 => judgeSlots s
  | 2 => judgePublic r s
  | 3 => judgeRooms r s
  | 4 => judgePeople r s
  | 5 => judgeDeals s
  | _ => judgeCoins r s
def stateRight (r : Realm) (s : State) : Bool := judgeSizes r s && (judgeSlots s && (judgePublic r s && (judgeRooms r s && (judgePeople r s && (judgeDeals s && judgeCoins r s)))))
theorem fit_one (a b c d e f g : V) : fitSz 1 [[a], [b], [c], [d], [e], [f], [g]] = true := rfl
set_option maxHeartbeats 800000 in
theorem stateRight_ok (r : Realm) (s : State) (hr : r.wf) (hs : s.wf) (m : Mem) : fin 6 [.agg (r : Realm).cells, .agg (s : State).cells] m = some (.bool (stateRight r s), m) := by
  have c0 := judgeSizes_ok ⟨r, s⟩ hr hs.1
  have c1 := judgeSlots_ok ⟨r, s⟩ hs
  have c2 := judgePublic_ok ⟨r, s⟩ hr hs
  have c3 := judgeRooms_ok ⟨r, s⟩ hs
  have c4 := judgePeople_ok ⟨r, s⟩ hs
  have c5 := fun h => judgeDeals_ok ⟨r, s⟩ h
  have c6 := fun h => judgeCoins_ok ⟨r, s⟩ h
  simp only [celld] at c0 c1 c2 c3 c4 c5 c6
  refine fn_of state_Right (by kernel_rfl) rfl rfl (by simp only [nx]) ?_ m; simp only [rx, reduceIte, zqa, zqb, zqc, zqd, zqe, zqf, zqg, zqh, zqi, zqj, zqk, zql, zqm, zqn, lim_call, state_Right]
  refine wpK_range 7 (fun i => [(6, .bool true), (26, .sl .exnn [[.fn 22 [.agg (Judge.cells ⟨r, s⟩)] []], [.fn 23 [.agg (Judge.cells ⟨r, s⟩)] []], [.fn 24 [.agg (Judge.cells ⟨r, s⟩)] []], [.fn 25 [.agg (Judge.cells ⟨r, s⟩)] []], [.fn 26 [.agg (Judge.cells ⟨r, s⟩)] []], [.fn 27 [.agg (Judge.cells ⟨r, s⟩)] []], [.fn 28 [.agg (Judge.cells ⟨r, s⟩)] []]])]) (fun i => m0) (fun i => ∀ j : Nat, j < i → stateRule r s j = true) (by decide) (by decide) (by simp only [rx, reduceIte, zqa, zqb, zqc, zqd, zqe, zqf, zqg, zqh, zqi, zqj, zqk, zql, zqm, zqn, lim_call]) (by simp only [rx, reduceIte, zqa, zqb, zqc, zqd, zqe, zqf, zqg, zqh, zqi, zqj, zqk, zql, zqm, zqn, lim_call]) (by simp only [rx, reduceIte, zqa, zqb, zqc, zqd, zqe, zqf, zqg, zqh, zqi, zqj, zqk, zql, zqm, zqn, lim_call, holds_cons, holds_nil]) rfl (fun j hj => by omega) ?_ ?_
  · intro i hi hP T hS hn hk
    simp only [holds_cons, holds_nil, and_true, celld] at hS
    obtain ⟨t6, t26⟩ := hS
    have hall : stateRule r s i = false → stateRight r s = false := by
      intro hb
      have : i = 0 ∨ i = 1 ∨ i = 2 ∨ i = 3 ∨ i = 4 ∨ i = 5 ∨ i = 6 := by omega
      rcases this with rfl | rfl | rfl | rfl | rfl | rfl | rfl <;> simp only [stateRule] at hb <;> simp [stateRight, hb]
    have hsm : 0 < i → s.small := fun h => (sized (hP 0 h)).small
    have hq : 0 < i → s.shelves.length ≤ r.quotas.length := fun h => by have z := sized (hP 0 h); have := z.shelves; have := z.ok.quotas; omega
    have : i = 0 ∨ i = 1 ∨ i = 2 ∨ i = 3 ∨ i = 4 ∨ i = 5 ∨ i = 6 := by omega
    rcases this with rfl | rfl | rfl | rfl | rfl | rfl | rfl
    all_goals
      simp only [rx, reduceIte, zqa, zqb, zqc, zqd, zqe, zqf, zqg, zqh, zqi, zqj, zqk, zql, zqm, zqn, lim_call, t6, t26, hn, hk, fit_one, c0, c1, c2, c3, c4, c5, c6, hsm, hq]
      refine condK_split (fun h => ?_) (fun h => ?_)
      · simp only [Bool.not_eq_true'] at h
        simp only [stateRule, h, forall_const] at hall
        simp only [rx, reduceIte, zqa, zqb, zqc, zqd, zqe, zqf, zqg, zqh, zqi, zqj, zqk, zql, zqm, zqn, lim_call, h, hall]
      · simp only [Bool.not_eq_false'] at h
        simp only [rx, reduceIte, zqa, zqb, zqc, zqd, zqe, zqf, zqg, zqh, zqi, zqj, zqk, zql, zqm, zqn, lim_call, h, t6, t26, hn, hk, holds_cons, holds_nil, celld]
        exact all_succ hP h
  · intro hP T hS hn hk
    simp only [holds_cons, holds_nil, and_true, celld] at hS
    obtain ⟨t6, t26⟩ := hS
    have h0 := hP 0 (by omega)
    have h1 := hP 1 (by omega)
    have h2 := hP 2 (by omega)
    have h3 := hP 3 (by omega)
    have h4 := hP 4 (by omega)
    have h5 := hP 5 (by omega)
    have h6 := hP 6 (by omega)
    simp only [stateRule] at h0 h1 h2 h3 h4 h5 h6
    simp only [rx, reduceIte, zqa, zqb, zqc, zqd, zqe, zqf, zqg, zqh, zqi, zqj, zqk, zql, zqm, zqn, lim_call, stateRight, t6, h0, h1, h2, h3, h4, h5, h6]
theorem stateRight_r (r_labels : List Lab) (r_lines : List Int) (r_accounts : List Account) (r_guilds : List Guild) (r_quotas : List Quota) (r_orders : Int) (r_audits : Int) (r_rate : Int) (r_rounds : Int) (s_round : Int) (s_shelves : List Shelf) (s_ranks : List (List Int)) (s_orders : List Order) (s_audit : List Entry) (s_sessions : List Int) (hr : (⟨r_labels, r_lines, r_accounts, r_guilds, r_quotas, r_orders, r_audits, r_rate, r_rounds⟩ : Realm).wf) (hs : (⟨s_round, s_shelves, s_ranks, s_orders, s_audit, s_sessions⟩ : State).wf) (m : Mem) : fin 6 [.agg [.sl .any (r_labels.map Lab.cells), .sl .any (r_lines.map icell), .sl .any (r_accounts.map Account.cells), .sl .any (r_guilds.map Guild.cells), .sl .any (r_quotas.map Quota.cells), .int .i64 r_orders, .int .i64 r_audits, .int .i64 r_rate, .int .i64 r_rounds], .agg [.int .u64 s_round, .sl .any (s_shelves.map Shelf.cells), .sl .any (s_ranks.map rcell), .sl .any (s_orders.map Order.cells), .sl .any (s_audit.map Entry.cells), .sl .any (s_sessions.map icell)]] m = some (.bool (stateRight (⟨r_labels, r_lines, r_accounts, r_guilds, r_quotas, r_orders, r_audits, r_rate, r_rounds⟩ : Realm) (⟨s_round, s_shelves, s_ranks, s_orders, s_audit, s_sessions⟩ : State)), m) := stateRight_ok ⟨r_labels, r_lines, r_accounts, r_guilds, r_quotas, r_orders, r_audits, r_rate, r_rounds⟩ ⟨s_round, s_shelves, s_ranks, s_orders, s_audit, s_sessions⟩ hr hs m
def isMe (r : Realm) (s : State) (me : Me) : Bool := stateRight r s && (decide (0 ≤ me.line) && (decide (me.line < r.lines.length) && (me.label == nth r.lines me.line && (decide (0 ≤ me.who) && decide (me.who < r.accounts.length)))))
theorem isMe_ok (r : Realm) (s : State) (me : Me) (hr : r.wf) (hs : s.wf) (m : Mem) : fin 5 [.agg (r : Realm).cells, .agg (s : State).cells, .agg (me : Me).cells] m = some (.bool (isMe r s me), m) := by
  refine fn_of state_IsMe (by kernel_rfl) rfl rfl (by simp only [nx]) ?_ m; simp only [rx, reduceIte, zqa, zqb, zqc, zqd, zqe, zqf, zqg, zqh, zqi, zqj, zqk, zql, zqm, zqn, lim_call, state_IsMe, stateRight_r, isMe, hr, hs]
  have _ := @stateRight_r; exact autoT
theorem isMe_r (r_labels : List Lab) (r_lines : List Int) (r_accounts : List Account) (r_guilds : List Guild) (r_quotas : List Quota) (r_orders : Int) (r_audits : Int) (r_rate : Int) (r_rounds : Int) (s_round : Int) (s_shelves : List Shelf) (s_ranks : List (List Int)) (s_orders : List Order) (s_audit : List Entry) (s_sessions : List Int) (me_line : Int) (me_label : Int) (me_who : Int) (hr : (⟨r_labels, r_lines, r_accounts, r_guilds, r_quotas, r_orders, r_audits, r_rate, r_rounds⟩ : Realm).wf) (hs : (⟨s_round, s_shelves, s_ranks, s_orders, s_audit, s_sessions⟩ : State).wf) (m : Mem) : fin 5 [.agg [.sl .any (r_labels.map Lab.cells), .sl .any (r_lines.map icell), .sl .any (r_accounts.map Account.cells), .sl .any (r_guilds.map Guild.cells), .sl .any (r_quotas.map Quota.cells), .int .i64 r_orders, .int .i64 r_audits, .int .i64 r_rate, .int .i64 r_rounds], .agg [.int .u64 s_round, .sl .any (s_shelves.map Shelf.cells), .sl .any (s_ranks.map rcell), .sl .any (s_orders.map Order.cells), .sl .any (s_audit.map Entry.cells), .sl .any (s_sessions.map icell)], .agg [.int .i64 me_line, .int .i64 me_label, .int .i64 me_who]] m = some (.bool (isMe (⟨r_labels, r_lines, r_accounts, r_guilds, r_quotas, r_orders, r_audits, r_rate, r_rounds⟩ : Realm) (⟨s_round, s_shelves, s_ranks, s_orders, s_audit, s_sessions⟩ : State) (⟨me_line, me_label, me_who⟩ : Me)), m) := isMe_ok ⟨r_labels, r_lines, r_accounts, r_guilds, r_quotas, r_orders, r_audits, r_rate, r_rounds⟩ ⟨s_round, s_shelves, s_ranks, s_orders, s_audit, s_sessions⟩ ⟨me_line, me_label, me_who⟩ hr hs m
end Go.Rx.Api

set_option linter.unusedSimpArgs false
set_option linter.unusedVariables false
set_option maxRecDepth 20000
namespace Go.Rx.Api
open Go.Rx
open Nat renaming reduceEqDiff → zqa, reduceAdd → zqb, reduceMul → zqc, reduceLeDiff → zqd, reduceBEq → zqe, reduceBNe → zqf, reduceSub → zqg, reduceLT → zqh
open Int renaming reduceLE → zqi, reduceLT → zqj, reduceToNat → zqk, reduceNeg → zql, reduceEq → zqm, reduceBEq → zqn
def goodsItems (s : State) (me : Me) : List Item := (nth s.shelves me.label).items
theorem goodsItems_ok (s : State) (me : Me) (h0 : 0 ≤ me.label) (h1 : me.label < s.shelves.length) (m : Mem) : fin 31 [.agg (s : State).cells, .agg (me : Me).cells] m = some (.sl .any ((goodsItems s me).map Item.cells), m) := by
  refine fn_of goods_items (by kernel_rfl) rfl rfl (by simp only [nx]) ?_ m; simp only [rx, reduceIte, zqa, zqb, zqc, zqd, zqe, zqf, zqg, zqh, zqi, zqj, zqk, zql, zqm, zqn, lim_call, goods_items, goodsItems, h0, h1]
def goodsPlace (s : State) (me : Me) : Ref := nth (nth s.shelves me.label).places me.who
theorem goodsPlace_ok (s : State) (me : Me) (h0 : 0 ≤ me.label) (h1 : me.label < s.shelves.length) (h2 : 0 ≤ me.who) (h3 : me.who < (nth s.shelves me.label).places.length) (m : Mem) : fin 34 [.agg (s : State).cells, .agg (me : Me).cells] m = some (.agg (goodsPlace s me : Ref).cells, m) := by
  refine fn_of goods_place (by kernel_rfl) rfl rfl (by simp only [nx]) ?_ m; simp only [rx, reduceIte, zqa, zqb, zqc, zqd, zqe, zqf, zqg, zqh, zqi, zqj, zqk, zql, zqm, zqn, lim_call, goods_place, goodsPlace, h0, h1, h2, h3]
theorem goodsPlace_r (s_round : Int) (s_shelves : List Shelf) (s_ranks : List (List Int)) (s_orders : List Order) (s_audit : List Entry) (s_sessions : List Int) (me_line : Int) (me_label : Int) (me_who : Int) (h0 : 0 ≤ (⟨me_line, me_label, me_who⟩ : Me).label) (h1 : (⟨me_line, me_label, me_who⟩ : Me).label < (⟨s_round, s_shelves, s_ranks, s_orders, s_audit, s_sessions⟩ : State).shelves.length) (h2 : 0 ≤ (⟨me_line, me_label, me_who⟩ : Me).who) (h3 : (⟨me_line, me_label, me_who⟩ : Me).who < (nth (⟨s_round, s_shelves, s_ranks, s_orders, s_audit, s_sessions⟩ : State).shelves (⟨me_line, me_label, me_who⟩ : Me).label).places.length) (m : Mem) : fin 34 [.agg [.int .u64 s_round, .sl .any (s_shelves.map Shelf.cells), .sl .any (s_ranks.map rcell), .sl .any (s_orders.map Order.cells), .sl .any (s_audit.map Entry.cells), .sl .any (s_sessions.map icell)], .agg [.int .i64 me_line, .int .i64 me_label, .int .i64 me_who]] m = some (.agg (goodsPlace (⟨s_round, s_shelves, s_ranks, s_orders, s_audit, s_sessions⟩ : State) (⟨me_line, me_label, me_who⟩ : Me) : Ref).cells, m) := goodsPlace_ok ⟨s_round, s_shelves, s_ranks, s_orders, s_audit, s_sessions⟩ ⟨me_line, me_label, me_who⟩ h0 h1 h2 h3 m
def viewFits (r : Realm) (s : State) : Bool := (s.shelves.length : Int) == (r.labels.length : Int) && ((s.ranks.length : Int) == (r.guilds.length : Int) && (s.sessions.length : Int) == (r.lines.length : Int))
theorem viewFits_ok (r : Realm) (s : State) (m : Mem) : fin 74 [.agg (r : Realm).cells, .agg (s : State).cells] m = some (.bool (viewFits r s), m) := by
  refine fn_of view_fits (by kernel_rfl) rfl rfl (by simp only [nx]) ?_ m; simp only [rx, reduceIte, zqa, zqb, zqc, zqd, zqe, zqf, zqg, zqh, zqi, zqj, zqk, zql, zqm, zqn, lim_call, view_fits, viewFits]
  exact autoT
theorem viewFits_r (r_labels : List Lab) (r_lines : List Int) (r_accounts : List Account) (r_guilds : List Guild) (r_quotas : List Quota) (r_orders : Int) (r_audits : Int) (r_rate : Int) (r_rounds : Int) (s_round : Int) (s_shelves : List Shelf) (s_ranks : List (List Int)) (s_orders : List Order) (s_audit : List Entry) (s_sessions : List Int) (m : Mem) : fin 74 [.agg [.sl .any (r_labels.map Lab.cells), .sl .any (r_lines.map icell), .sl .any (r_accounts.map Account.cells), .sl .any (r_guilds.map Guild.cells), .sl .any (r_quotas.map Quota.cells), .int .i64 r_orders, .int .i64 r_audits, .int .i64 r_rate, .int .i64 r_rounds], .agg [.int .u64 s_round, .sl .any (s_shelves.map Shelf.cells), .sl .any (s_ranks.map rcell), .sl .any (s_orders.map Order.cells), .sl .any (s_audit.map Entry.cells), .sl .any (s_sessions.map icell)]] m = some (.bool (viewFits (⟨r_labels, r_lines, r_accounts, r_guilds, r_quotas, r_orders, r_audits, r_rate, r_rounds⟩ : Realm) (⟨s_round, s_shelves, s_ranks, s_orders, s_audit, s_sessions⟩ : State)), m) := viewFits_ok ⟨r_labels, r_lines, r_accounts, r_guilds, r_quotas, r_orders, r_audits, r_rate, r_rounds⟩ ⟨s_round, s_shelves, s_ranks, s_orders, s_audit, s_sessions⟩ m
def sameShelf (a b : Shelf) : Bool := eqL Room.eqb a.rooms b.rooms && (eqL Exit.eqb a.exits b.exits && (eqL Item.eqb a.items b.items && (eqL Mail.eqb a.mails b.mails && (eqL Trade.eqb a.trades b.trades && (eqL Four.eqb a.purses b.purses && (eqL Ref.eqb a.places b.places && (a.minted.eqb b.minted && a.burned.eqb b.burned)))))))
theorem sameShelf_ok (a : Shelf) (b : Shelf) (hw : a.wf) (m : Mem) : fin 83 [.agg (a : Shelf).cells, .agg (b : Shelf).cells] m = some (.bool (sameShelf a b), m) := by
  simp only [Shelf.wf] at hw
  refine fn_of state_sameShelf (by kernel_rfl) rfl rfl (by simp only [nx]) ?_ m; simp only [rx, reduceIte, zqa, zqb, zqc, zqd, zqe, zqf, zqg, zqh, zqi, zqj, zqk, zql, zqm, zqn, lim_call, state_sameShelf, equal_Room_r, equal_Exit_r, equal_Item_r, equal_Mail_r, equal_Trade_r, equal_Four_r, equal_Ref_r, sameShelf, hw, Four.eqb]
  have _ := @equal_Room_r; have _ := @equal_Exit_r; have _ := @equal_Item_r; have _ := @equal_Mail_r; have _ := @equal_Trade_r; have _ := @equal_Four_r; have _ := @equal_Ref_r; exact autoT
theorem sameShelf_r (a_rooms : List Room) (a_exits : List Exit) (a_items : List Item) (a_mails : List Mail) (a_trades : List Trade) (a_purses : List Four) (a_places : List Ref) (a_minted_c0 : Int) (a_minted_c1 : Int) (a_minted_c2 : Int) (a_minted_c3 : Int) (a_burned_c0 : Int) (a_burned_c1 : Int) (a_burned_c2 : Int) (a_burned_c3 : Int) (b_rooms : List Room) (b_exits : List Exit) (b_items : List Item) (b_mails : List Mail) (b_trades : List Trade) (b_purses : List Four) (b_places : List Ref) (b_minted_c0 : Int) (b_minted_c1 : Int) (b_minted_c2 : Int) (b_minted_c3 : Int) (b_burned_c0 : Int) (b_burned_c1 : Int) (b_burned_c2 : Int) (b_burned_c3 : Int) (hw : (⟨a_rooms, a_exits, a_items, a_mails, a_trades, a_purses, a_places, ⟨a_minted_c0, a_minted_c1, a_minted_c2, a_minted_c3⟩, ⟨a_burned_c0, a_burned_c1, a_burned_c2, a_burned_c3⟩⟩ : Shelf).wf) (m : Mem) : fin 83 [.agg [.sl .any (a_rooms.map Room.cells), .sl .any (a_exits.map Exit.cells), .sl .any (a_items.map Item.cells), .sl .any (a_mails.map Mail.cells), .sl .any (a_trades.map Trade.cells), .sl .any (a_purses.map Four.cells), .sl .any (a_places.map Ref.cells), .int .u64 a_minted_c0, .int .u64 a_minted_c1, .int .u64 a_minted_c2, .int .u64 a_minted_c3, .int .u64 a_burned_c0, .int .u64 a_burned_c1, .int .u64 a_burned_c2, .int .u64 a_burned_c3], .agg [.sl .any (b_rooms.map Room.cells), .sl .any (b_exits.map Exit.cells), .sl .any (b_items.map Item.cells), .sl .any (b_mails.map Mail.cells), .sl .any (b_trades.map Trade.cells), .sl .any (b_purses.map Four.cells), .sl .any (b_places.map Ref.cells), .int .u64 b_minted_c0, .int .u64 b_minted_c1, .int .u64 b_minted_c2, .int .u64 b_minted_c3, .int .u64 b_burned_c0, .int .u64 b_burned_c1, .int .u64 b_burned_c2, .int .u64 b_burned_c3]] m = some (.bool (sameShelf (⟨a_rooms, a_exits, a_items, a_mails, a_trades, a_purses, a_places, ⟨a_minted_c0, a_minted_c1, a_minted_c2, a_minted_c3⟩, ⟨a_burned_c0, a_burned_c1, a_burned_c2, a_burned_c3⟩⟩ : Shelf) (⟨b_rooms, b_exits, b_items, b_mails, b_trades, b_purses, b_places, ⟨b_minted_c0, b_minted_c1, b_minted_c2, b_minted_c3⟩, ⟨b_burned_c0, b_burned_c1, b_burned_c2, b_burned_c3⟩⟩ : Shelf)), m) := sameShelf_ok ⟨a_rooms, a_exits, a_items, a_mails, a_trades, a_purses, a_places, ⟨a_minted_c0, a_minted_c1, a_minted_c2, a_minted_c3⟩, ⟨a_burned_c0, a_burned_c1, a_burned_c2, a_burned_c3⟩⟩ ⟨b_rooms, b_exits, b_items, b_mails, b_trades, b_purses, b_places, ⟨b_minted_c0, b_minted_c1, b_minted_c2, b_minted_c3⟩, ⟨b_burned_c0, b_burned_c1, b_burned_c2, b_burned_c3⟩⟩ hw m
theorem equalFunc_Shelf_ok (l : List Shelf) (k : List Shelf) (hl : l.length < 9223372036854775808) (hw : ∀ i, (nth l i).wf) (m : Mem) : fin 82 [.sl .any ((l).map Shelf.cells), .sl .any ((k).map Shelf.cells), .fn 83 [] []] m = some (.bool (eqL sameShelf l k), m) := by
  refine fn_of slices_EqualFunc_Shelf_Shelf_Shelf_Shelf (by kernel_rfl) rfl rfl (by simp only [nx]) ?_ m; simp only [rx, reduceIte, zqa, zqb, zqc, zqd, zqe, zqf, zqg, zqh, zqi, zqj, zqk, zql, zqm, zqn, lim_call, slices_EqualFunc_Shelf_Shelf_Shelf_Shelf]
  refine condK_split (fun h => ?_) (fun h => ?_)
  · simp only [sx] at h
    have h' : l.length ≠ k.length := by omega
    simp only [rx, reduceIte, zqa, zqb, zqc, zqd, zqe, zqf, zqg, zqh, zqi, zqj, zqk, zql, zqm, zqn, lim_call, eqL_len h']
  · simp only [sx] at h
    have h' : l.length = k.length := by omega
    simp only [rx, reduceIte, zqa, zqb, zqc, zqd, zqe, zqf, zqg, zqh, zqi, zqj, zqk, zql, zqm, zqn, lim_call]
    refine wpK_range l.length (fun i => [(0, .sl .any (l.map Shelf.cells)), (1, .sl .any (k.map Shelf.cells)), (2, .fn 83 [] []), (15, .sl .any (l.map Shelf.cells))]) (fun i => m0) (fun i => ∀ j : Nat, j < i → sameShelf (nth l j) (nth k j) = true) hl (by decide) (by simp only [rx, reduceIte, zqa, zqb, zqc, zqd, zqe, zqf, zqg, zqh, zqi, zqj, zqk, zql, zqm, zqn, lim_call]) (by simp only [rx, reduceIte, zqa, zqb, zqc, zqd, zqe, zqf, zqg, zqh, zqi, zqj, zqk, zql, zqm, zqn, lim_call]) (by simp only [rx, reduceIte, zqa, zqb, zqc, zqd, zqe, zqf, zqg, zqh, zqi, zqj, zqk, zql, zqm, zqn, lim_call, holds_cons, holds_nil]) rfl (fun j hj => by omega) ?_ ?_
    · intro i hi hP T hS hn hk
      have hi2 : i < k.length := by omega
      simp only [holds_cons, holds_nil, and_true] at hS
      obtain ⟨t0, t1, t2, t15⟩ := hS
      have hw2 := hw i
      simp only [rx, reduceIte, zqa, zqb, zqc, zqd, zqe, zqf, zqg, zqh, zqi, zqj, zqk, zql, zqm, zqn, lim_call, t0, t1, t2, t15, hn, hk, hi, hi2, sameShelf_r, hw2]
      refine condK_split (fun h => ?_) (fun h => ?_)
      · simp only [Bool.not_eq_true'] at h
        simp only [rx, reduceIte, zqa, zqb, zqc, zqd, zqe, zqf, zqg, zqh, zqi, zqj, zqk, zql, zqm, zqn, lim_call, eqL_false h' hi h]
      · simp only [Bool.not_eq_false'] at h
        simp only [rx, reduceIte, zqa, zqb, zqc, zqd, zqe, zqf, zqg, zqh, zqi, zqj, zqk, zql, zqm, zqn, lim_call, holds_cons, holds_nil, t0, t1, t2, t15, hn, hk]
        exact all_succ hP h
    · intro hP T hS hn hk
      simp only [rx, reduceIte, zqa, zqb, zqc, zqd, zqe, zqf, zqg, zqh, zqi, zqj, zqk, zql, zqm, zqn, lim_call, eqL_true h' hP]
theorem equalFunc_Shelf_r (l : List Shelf) (k : List Shelf) (hl : l.length < 9223372036854775808) (hw : ∀ i, (nth l i).wf) (m : Mem) : fin 82 [.sl .any ((l).map Shelf.cells), .sl .any ((k).map Shelf.cells), .fn 83 [] []] m = some (.bool (eqL sameShelf l k), m) := equalFunc_Shelf_ok l k hl hw m
theorem equalFunc_Ranks_ok (l : List (List Int)) (k : List (List Int)) (hl : l.length < 9223372036854775808) (hw : ∀ i, (nth l i).length < 9223372036854775808) (m : Mem) : fin 84 [.sl .any ((l).map rcell), .sl .any ((k).map rcell), .fn 85 [] []] m = some (.bool (eqL (eqL int_eqb) l k), m) := by
  refine fn_of slices_EqualFunc_int_int_int_int (by kernel_rfl) rfl rfl (by simp only [nx]) ?_ m; simp only [rx, reduceIte, zqa, zqb, zqc, zqd, zqe, zqf, zqg, zqh, zqi, zqj, zqk, zql, zqm, zqn, lim_call, slices_EqualFunc_int_int_int_int]
  refine condK_split (fun h => ?_) (fun h => ?_)
  · simp only [sx] at h
    have h' : l.length ≠ k.length := by omega
    simp only [rx, reduceIte, zqa, zqb, zqc, zqd, zqe, zqf, zqg, zqh, zqi, zqj, zqk, zql, zqm, zqn, lim_call, eqL_len h']
  · simp only [sx] at h
    have h' : l.length = k.length := by omega
    simp only [rx, reduceIte, zqa, zqb, zqc, zqd, zqe, zqf, zqg, zqh, zqi, zqj, zqk, zql, zqm, zqn, lim_call]
    refine wpK_range l.length (fun i => [(0, .sl .any (l.map rcell)), (1, .sl .any (k.map rcell)), (2, .fn 85 [] []), (15, .sl .any (l.map rcell))]) (fun i => m0) (fun i => ∀ j : Nat, j < i → eqL int_eqb (nth l j) (nth k j) = true) hl (by decide) (by simp only [rx, reduceIte, zqa, zqb, zqc, zqd, zqe, zqf, zqg, zqh, zqi, zqj, zqk, zql, zqm, zqn, lim_call]) (by simp only [rx, reduceIte, zqa, zqb, zqc, zqd, zqe, zqf, zqg, zqh, zqi, zqj, zqk, zql, zqm, zqn, lim_call]) (by simp only [rx, reduceIte, zqa, zqb, zqc, zqd, zqe, zqf, zqg, zqh, zqi, zqj, zqk, zql, zqm, zqn, lim_call, holds_cons, holds_nil]) rfl (fun j hj => by omega) ?_ ?_
    · intro i hi hP T hS hn hk
      have hi2 : i < k.length := by omega
      simp only [holds_cons, holds_nil, and_true] at hS
      obtain ⟨t0, t1, t2, t15⟩ := hS
      have hw2 := hw i
      simp only [rx, reduceIte, zqa, zqb, zqc, zqd, zqe, zqf, zqg, zqh, zqi, zqj, zqk, zql, zqm, zqn, lim_call, t0, t1, t2, t15, hn, hk, hi, hi2, equal_Int_r, hw2]
      refine condK_split (fun h => ?_) (fun h => ?_)
      · simp only [Bool.not_eq_true'] at h
        simp only [rx, reduceIte, zqa, zqb, zqc, zqd, zqe, zqf, zqg, zqh, zqi, zqj, zqk, zql, zqm, zqn, lim_call, eqL_false h' hi h]
      · simp only [Bool.not_eq_false'] at h
        simp only [rx, reduceIte, zqa, zqb, zqc, zqd, zqe, zqf, zqg, zqh, zqi, zqj, zqk, zql, zqm, zqn, lim_call, holds_cons, holds_nil, t0, t1, t2, t15, hn, hk]
        exact all_succ hP h
    · intro hP T hS hn hk
      simp only [rx, reduceIte, zqa, zqb, zqc, zqd, zqe, zqf, zqg, zqh, zqi, zqj, zqk, zql, zqm, zqn, lim_call, eqL_true h' hP]
theorem equalFunc_Ranks_r (l : List (List Int)) (k : List (List Int)) (hl : l.length < 9223372036854775808) (hw : ∀ i, (nth l i).length < 9223372036854775808) (m : Mem) : fin 84 [.sl .any ((l).map rcell), .sl .any ((k).map rcell), .fn 85 [] []] m = some (.bool (eqL (eqL int_eqb) l k), m) := equalFunc_Ranks_ok l k hl hw m
def stateSame (a b : State) : Bool := a.round == b.round && (eqL sameShelf a.shelves b.shelves && (eqL (eqL int_eqb) a.ranks b.ranks && (eqL Order.eqb a.orders b.orders && (eqL Entry.eqb a.audit b.audit && eqL int_eqb a.sessions b.sessions))))
theorem stateSame_ok (a : State) (b : State) (hw : a.wf) (m : Mem) : fin 30 [.agg (a : State).cells, .agg (b : State).cells] m = some (.bool (stateSame a b), m) := by
  simp only [State.wf] at hw
  obtain ⟨w1, w2, w3, w4, w5, w6, w7⟩ := hw
  refine fn_of state_Same (by kernel_rfl) rfl rfl (by simp only [nx]) ?_ m; simp only [rx, reduceIte, zqa, zqb, zqc, zqd, zqe, zqf, zqg, zqh, zqi, zqj, zqk, zql, zqm, zqn, lim_call, state_Same, equalFunc_Shelf_r, equalFunc_Ranks_r, equal_Order_r, equal_Entry_r, equal_Int_r, stateSame, w1, w2, w3, w4, w5, w6, w7]
  have _ := @equalFunc_Shelf_r; have _ := @equalFunc_Ranks_r; have _ := @equal_Order_r; have _ := @equal_Entry_r; have _ := @equal_Int_r; exact autoT
theorem stateSame_r (a_round : Int) (a_shelves : List Shelf) (a_ranks : List (List Int)) (a_orders : List Order) (a_audit : List Entry) (a_sessions : List Int) (b_round : Int) (b_shelves : List Shelf) (b_ranks : List (List Int)) (b_orders : List Order) (b_audit : List Entry) (b_sessions : List Int) (hw : (⟨a_round, a_shelves, a_ranks, a_orders, a_audit, a_sessions⟩ : State).wf) (m : Mem) : fin 30 [.agg [.int .u64 a_round, .sl .any (a_shelves.map Shelf.cells), .sl .any (a_ranks.map rcell), .sl .any (a_orders.map Order.cells), .sl .any (a_audit.map Entry.cells), .sl .any (a_sessions.map icell)], .agg [.int .u64 b_round, .sl .any (b_shelves.map Shelf.cells), .sl .any (b_ranks.map rcell), .sl .any (b_orders.map Order.cells), .sl .any (b_audit.map Entry.cells), .sl .any (b_sessions.map icell)]] m = some (.bool (stateSame (⟨a_round, a_shelves, a_ranks, a_orders, a_audit, a_sessions⟩ : State) (⟨b_round, b_shelves, b_ranks, b_orders, b_audit, b_sessions⟩ : State)), m) := stateSame_ok ⟨a_round, a_shelves, a_ranks, a_orders, a_audit, a_sessions⟩ ⟨b_round, b_shelves, b_ranks, b_orders, b_audit, b_sessions⟩ hw m
end Go.Rx.Api

set_option linter.unusedSimpArgs false
set_option linter.unusedVariables false
set_option maxRecDepth 20000
namespace Go.Rx.Api
open Go.Rx
open Nat renaming reduceEqDiff → zqa, reduceAdd → zqb, reduceMul → zqc, reduceLeDiff → zqd, reduceBEq → zqe, reduceBNe → zqf, reduceSub → zqg, reduceLT → zqh
open Int renaming reduceLE → zqi, reduceLT → zqj, reduceToNat → zqk, reduceNeg → zql, reduceEq → zqm, reduceBEq → zqn
def chooseTo {α : Type} [Inhabited α] (p : Int → Bool) (a b : List α) (n : Nat) : List α := (List.range n).map fun i : Nat => if p i = true then nth a i else nth b i
theorem chooseTo_succ {α : Type} [Inhabited α] (p : Int → Bool) (a b : List α) (n : Nat) : chooseTo p a b (n + 1) = chooseTo p a b n ++ [if p n = true then nth a n else nth b n] := by
  unfold chooseTo; rw [List.range_succ, List.map_append]; rfl
theorem chooseTo_len {α : Type} [Inhabited α] (p : Int → Bool) (a b : List α) (n : Nat) : (chooseTo p a b n).length = n := by simp [chooseTo]
theorem chooseTo_nth {α : Type} [Inhabited α] {p : Int → Bool} {a b : List α} {n i : Nat} (h : i < n) : nth (chooseTo p a b n) i = if p i = true then nth a i else nth b i := by
  refine nth_eq ?_
  unfold chooseTo
  rw [List.getElem?_map, List.getElem?_range h]; rfl
theorem choose_Shelf_ok (l : List Shelf) (k : List Shelf) (cpid : Nat) (fs : List V) (cs : List V) (p : Int → Bool) (hl : l.length ≤ 4096) (hk : l.length ≤ k.length) (hf : ∀ n, allM (norm (n + 12)) fs = some fs) (hc : ∀ n, allM (norm (n + 12)) cs = some cs) (hp : ∀ i : Nat, i < l.length → ∀ m, lim prog cpid (fs ++ [.int .i64 i] ++ cs) m = some (.bool (p i), m)) (m : Mem) : fin 78 [.sl .any ((l).map Shelf.cells), .sl .any ((k).map Shelf.cells), .fn cpid fs cs] m = some (.sl .any ((chooseTo p l k l.length).map Shelf.cells), m) := by
  refine fn_of view_choose_Shelf (by kernel_rfl) rfl rfl (by simp only [nx, hf, hc]) ?_ m; simp only [rx, reduceIte, zqa, zqb, zqc, zqd, zqe, zqf, zqg, zqh, zqi, zqj, zqk, zql, zqm, zqn, view_choose_Shelf, hf, hc]
  refine wpK_range l.length (fun i => [(0, .sl .any (l.map Shelf.cells)), (1, .sl .any (k.map Shelf.cells)), (2, .fn cpid fs cs), (7, accV 0 0 15 ((chooseTo p l k i).map Shelf.cells))]) (fun i => accM [] 0 ((chooseTo p l k i).map Shelf.cells)) (fun i => True) (by omega) (by decide) (by simp only [rx, reduceIte, zqa, zqb, zqc, zqd, zqe, zqf, zqg, zqh, zqi, zqj, zqk, zql, zqm, zqn]) (by simp only [rx, reduceIte, zqa, zqb, zqc, zqd, zqe, zqf, zqg, zqh, zqi, zqj, zqk, zql, zqm, zqn]) (by simp only [rx, reduceIte, zqa, zqb, zqc, zqd, zqe, zqf, zqg, zqh, zqi, zqj, zqk, zql, zqm, zqn, holds_cons, holds_nil]; rfl) rfl trivial ?_ ?_
  · intro i hi hP T hS hn hk2
    simp only [holds_cons, holds_nil, and_true] at hS
    obtain ⟨t0, t1, t2, t7⟩ := hS
    have hi2 : i < k.length := by omega
    have hx := hp i hi
    have hs := chooseTo_succ p l k i
    have hlen := chooseTo_len p l k i
    have ha := fun x => acc_map (f := Shelf.cells) (bs := []) (g := 0) (sz := 15) (bytes := 232) (l := chooseTo p l k i) x (fun _ => rfl) (by unfold wide; omega) (by decide)
    have ha1 := ha (nth l i)
    have ha2 := ha (nth k i)
    simp only [List.length_nil, Shelf.ce] at ha1 ha2
    simp only [rx, reduceIte, zqa, zqb, zqc, zqd, zqe, zqf, zqg, zqh, zqi, zqj, zqk, zql, zqm, zqn, t0, t1, t2, t7, hn, hk2, hi, hi2, hx]
    refine condK_split (fun h => ?_) (fun h => ?_)
    · rw [if_pos h] at hs
      simp only [rx, reduceIte, zqa, zqb, zqc, zqd, zqe, zqf, zqg, zqh, zqi, zqj, zqk, zql, zqm, zqn, t0, t1, t2, t7, hn, hk2, hi, hi2, ha1, hs, holds_cons, holds_nil]
    · rw [if_neg (by simp [h])] at hs
      simp only [rx, reduceIte, zqa, zqb, zqc, zqd, zqe, zqf, zqg, zqh, zqi, zqj, zqk, zql, zqm, zqn, t0, t1, t2, t7, hn, hk2, hi, hi2, ha2, hs, holds_cons, holds_nil]
  · intro hP T hS hn hk2
    simp only [holds_cons, holds_nil, and_true] at hS
    obtain ⟨t0, t1, t2, t7⟩ := hS
    simp only [rx, reduceIte, zqa, zqb, zqc, zqd, zqe, zqf, zqg, zqh, zqi, zqj, zqk, zql, zqm, zqn, t0, t1, t2, t7]
    exact frz_acc (f := Shelf.cells) (bs := []) (g := 0) (fun _ => rfl) (Nat.zero_le _) (fun a => by simp only [celld, allM_nil, allM_cons, frz_r, frzs, Option.bind_some])
theorem choose_Ranks_ok (l : List (List Int)) (k : List (List Int)) (cpid : Nat) (fs : List V) (cs : List V) (p : Int → Bool) (hl : l.length ≤ 4096) (hk : l.length ≤ k.length) (hf : ∀ n, allM (norm (n + 12)) fs = some fs) (hc : ∀ n, allM (norm (n + 12)) cs = some cs) (hp : ∀ i : Nat, i < l.length → ∀ m, lim prog cpid (fs ++ [.int .i64 i] ++ cs) m = some (.bool (p i), m)) (m : Mem) : fin 79 [.sl .any ((l).map rcell), .sl .any ((k).map rcell), .fn cpid fs cs] m = some (.sl .any ((chooseTo p l k l.length).map rcell), m) := by
  refine fn_of view_choose_int (by kernel_rfl) rfl rfl (by simp only [nx, hf, hc]) ?_ m; simp only [rx, reduceIte, zqa, zqb, zqc, zqd, zqe, zqf, zqg, zqh, zqi, zqj, zqk, zql, zqm, zqn, view_choose_int, hf, hc]
  refine wpK_range l.length (fun i => [(0, .sl .any (l.map rcell)), (1, .sl .any (k.map rcell)), (2, .fn cpid fs cs), (7, accV 0 0 1 ((chooseTo p l k i).map rcell))]) (fun i => accM [] 0 ((chooseTo p l k i).map rcell)) (fun i => True) (by omega) (by decide) (by simp only [rx, reduceIte, zqa, zqb, zqc, zqd, zqe, zqf, zqg, zqh, zqi, zqj, zqk, zql, zqm, zqn]) (by simp only [rx, reduceIte, zqa, zqb, zqc, zqd, zqe, zqf, zqg, zqh, zqi, zqj, zqk, zql, zqm, zqn]) (by simp only [rx, reduceIte, zqa, zqb, zqc, zqd, zqe, zqf, zqg, zqh, zqi, zqj, zqk, zql, zqm, zqn, holds_cons, holds_nil]; rfl) rfl trivial ?_ ?_
  · intro i hi hP T hS hn hk2
    simp only [holds_cons, holds_nil, and_true] at hS
    obtain ⟨t0, t1, t2, t7⟩ := hS
    have hi2 : i < k.length := by omega
    have hx := hp i hi
    have hs := chooseTo_succ p l k i
    have hlen := chooseTo_len p l k i
    have ha := fun x => acc_map (f := rcell) (bs := []) (g := 0) (sz := 1) (bytes := 24) (l := chooseTo p l k i) x (fun _ => rfl) (by unfold wide; omega) (by decide)
    have ha1 := ha (nth l i)
    have ha2 := ha (nth k i)
    simp only [List.length_nil, rcell_ce] at ha1 ha2
    simp only [rx, reduceIte, zqa, zqb, zqc, zqd, zqe, zqf, zqg, zqh, zqi, zqj, zqk, zql, zqm, zqn, t0, t1, t2, t7, hn, hk2, hi, hi2, hx]
    refine condK_split (fun h => ?_) (fun h => ?_)
    · rw [if_pos h] at hs
      simp only [rx, reduceIte, zqa, zqb, zqc, zqd, zqe, zqf, zqg, zqh, zqi, zqj, zqk, zql, zqm, zqn, t0, t1, t2, t7, hn, hk2, hi, hi2, ha1, hs, holds_cons, holds_nil]
    · rw [if_neg (by simp [h])] at hs
      simp only [rx, reduceIte, zqa, zqb, zqc, zqd, zqe, zqf, zqg, zqh, zqi, zqj, zqk, zql, zqm, zqn, t0, t1, t2, t7, hn, hk2, hi, hi2, ha2, hs, holds_cons, holds_nil]
  · intro hP T hS hn hk2
    simp only [holds_cons, holds_nil, and_true] at hS
    obtain ⟨t0, t1, t2, t7⟩ := hS
    simp only [rx, reduceIte, zqa, zqb, zqc, zqd, zqe, zqf, zqg, zqh, zqi, zqj, zqk, zql, zqm, zqn, t0, t1, t2, t7]
    exact frz_acc (f := rcell) (bs := []) (g := 0) (fun _ => rfl) (Nat.zero_le _) (fun a => by simp only [celld, allM_nil, allM_cons, frz_r, frzs, Option.bind_some])
theorem choose_Int_ok (l : List Int) (k : List Int) (cpid : Nat) (fs : List V) (cs : List V) (p : Int → Bool) (hl : l.length ≤ 4096) (hk : l.length ≤ k.length) (hf : ∀ n, allM (norm (n + 12)) fs = some fs) (hc : ∀ n, allM (norm (n + 12)) cs = some cs) (hp : ∀ i : Nat, i < l.length → ∀ m, lim prog cpid (fs ++ [.int .i64 i] ++ cs) m = some (.bool (p i), m)) (m : Mem) : fin 80 [.sl .any ((l).map icell), .sl .any ((k).map icell), .fn cpid fs cs] m = some (.sl .any ((chooseTo p l k l.length).map icell), m) := by
  refine fn_of view_choose_int_ (by kernel_rfl) rfl rfl (by simp only [nx, hf, hc]) ?_ m; simp only [rx, reduceIte, zqa, zqb, zqc, zqd, zqe, zqf, zqg, zqh, zqi, zqj, zqk, zql, zqm, zqn, view_choose_int_, hf, hc]
  refine wpK_range l.length (fun i => [(0, .sl .any (l.map icell)), (1, .sl .any (k.map icell)), (2, .fn cpid fs cs), (7, accV 0 0 1 ((chooseTo p l k i).map icell))]) (fun i => accM [] 0 ((chooseTo p l k i).map icell)) (fun i => True) (by omega) (by decide) (by simp only [rx, reduceIte, zqa, zqb, zqc, zqd, zqe, zqf, zqg, zqh, zqi, zqj, zqk, zql, zqm, zqn]) (by simp only [rx, reduceIte, zqa, zqb, zqc, zqd, zqe, zqf, zqg, zqh, zqi, zqj, zqk, zql, zqm, zqn]) (by simp only [rx, reduceIte, zqa, zqb, zqc, zqd, zqe, zqf, zqg, zqh, zqi, zqj, zqk, zql, zqm, zqn, holds_cons, holds_nil]; rfl) rfl trivial ?_ ?_
  · intro i hi hP T hS hn hk2
    simp only [holds_cons, holds_nil, and_true] at hS
    obtain ⟨t0, t1, t2, t7⟩ := hS
    have hi2 : i < k.length := by omega
    have hx := hp i hi
    have hs := chooseTo_succ p l k i
    have hlen := chooseTo_len p l k i
    have ha := fun x => acc_map (f := icell) (bs := []) (g := 0) (sz := 1) (bytes := 8) (l := chooseTo p l k i) x (fun _ => rfl) (by unfold wide; omega) (by decide)
    have ha1 := ha (nth l i)
    have ha2 := ha (nth k i)
    simp only [List.length_nil, icell_ce] at ha1 ha2
    simp only [rx, reduceIte, zqa, zqb, zqc, zqd, zqe, zqf, zqg, zqh, zqi, zqj, zqk, zql, zqm, zqn, t0, t1, t2, t7, hn, hk2, hi, hi2, hx]
    refine condK_split (fun h => ?_) (fun h => ?_)
    · rw [if_pos h] at hs
      simp only [rx, reduceIte, zqa, zqb, zqc, zqd, zqe, zqf, zqg, zqh, zqi, zqj, zqk, zql, zqm, zqn, t0, t1, t2, t7, hn, hk2, hi, hi2, ha1, hs, holds_cons, holds_nil]
    · rw [if_neg (by simp [h])] at hs
      simp only [rx, reduceIte, zqa, zqb, zqc, zqd, zqe, zqf, zqg, zqh, zqi, zqj, zqk, zql, zqm, zqn, t0, t1, t2, t7, hn, hk2, hi, hi2, ha2, hs, holds_cons, holds_nil]
  · intro hP T hS hn hk2
    simp only [holds_cons, holds_nil, and_true] at hS
    obtain ⟨t0, t1, t2, t7⟩ := hS
    simp only [rx, reduceIte, zqa, zqb, zqc, zqd, zqe, zqf, zqg, zqh, zqi, zqj, zqk, zql, zqm, zqn, t0, t1, t2, t7]
    exact frz_acc (f := icell) (bs := []) (g := 0) (fun _ => rfl) (Nat.zero_le _) (fun a => by simp only [celld, allM_nil, allM_cons, frz_r, frzs, Option.bind_some])
def seesLab (r : Realm) (a : Lab) (i : Int) : Bool := leq (nth r.labels i) a
theorem seesLab_ok (i : Int) (r : Realm) (a : Lab) (h0 : 0 ≤ i) (h1 : i < r.labels.length) (m : Mem) : fin 75 [.int .i64 (i), .iptr (Realm.cells r) 0, .iptr (Lab.cells a) 0] m = some (.bool (seesLab r a i), m) := by
  refine fn_of view_From_1 (by kernel_rfl) rfl rfl (by simp only [nx]) ?_ m; simp only [rx, reduceIte, zqa, zqb, zqc, zqd, zqe, zqf, zqg, zqh, zqi, zqj, zqk, zql, zqm, zqn, lim_call, view_From_1, leq_r, seesLab, h0, h1]
def seesGuild (r : Realm) (a : Lab) (i : Int) : Bool := leq (hallOf (nth r.guilds i).bit).1 a
theorem seesGuild_ok (i : Int) (r : Realm) (a : Lab) (h0 : 0 ≤ i) (h1 : i < r.guilds.length) (m : Mem) : fin 76 [.int .i64 (i), .iptr (Realm.cells r) 0, .iptr (Lab.cells a) 0] m = some (.bool (seesGuild r a i), m) := by
  refine fn_of view_From_2 (by kernel_rfl) rfl rfl (by simp only [nx]) ?_ m; simp only [rx, reduceIte, zqa, zqb, zqc, zqd, zqe, zqf, zqg, zqh, zqi, zqj, zqk, zql, zqm, zqn, lim_call, view_From_2, hallOf_r, leq_r, seesGuild, h0, h1]
def seesLine (r : Realm) (a : Lab) (i : Int) : Bool := seesLab r a (nth r.lines i)
theorem seesLine_ok (i : Int) (r : Realm) (a : Lab) (h0 : 0 ≤ i) (h1 : i < r.lines.length) (h2 : 0 ≤ nth r.lines i) (h3 : nth r.lines i < r.labels.length) (m : Mem) : fin 77 [.int .i64 (i), .iptr [.fn 75 [] [.iptr (Realm.cells r) 0, .iptr (Lab.cells a) 0]] 0, .iptr (Realm.cells r) 0] m = some (.bool (seesLine r a i), m) := by
  have hx := seesLab_ok (nth r.lines i) r a h2 h3
  simp only [celld] at hx
  refine fn_of view_From_3 (by kernel_rfl) rfl rfl (by simp only [nx]) ?_ m; simp only [rx, reduceIte, zqa, zqb, zqc, zqd, zqe, zqf, zqg, zqh, zqi, zqj, zqk, zql, zqm, zqn, lim_call, view_From_3, seesLine, h0, h1, hx]
def usedIn (l : List Item) : Nat := (l.filter Item.used).length
def usedAll (l : List Shelf) : Nat := (l.map fun h => usedIn h.items).sum
theorem usedIn_succ {l : List Item} {i : Nat} (h : i < l.length) : usedIn (l.take (i + 1)) = usedIn (l.take i) + if (nth l i).used = true then 1 else 0 := by
  unfold usedIn
  rw [take_succ_nth h, List.filter_append, List.length_append]
  cases hu : (nth l i).used <;> simp [hu]
theorem usedIn_le (l : List Item) : usedIn l ≤ l.length := List.length_filter_le _ _
theorem usedAll_succ {l : List Shelf} {i : Nat} (h : i < l.length) : usedAll (l.take (i + 1)) = usedAll (l.take i) + usedIn (nth l i).items := by
  unfold usedAll
  rw [take_succ_nth h, List.map_append, List.sum_append]; simp
theorem usedAll_le : ∀ {l : List Shelf}, (∀ h ∈ l, h.items.length ≤ 4096) → usedAll l ≤ l.length * 4096
  | [], _ => by simp [usedAll]
  | h :: l, hh => by
    have ih := usedAll_le (l := l) fun x hx => hh x (List.mem_cons_of_mem _ hx)
    have h0 := hh h (List.mem_cons_self ..)
    have h1 := usedIn_le h.items
    have e : usedAll (h :: l) = usedIn h.items + usedAll l := rfl
    rw [e, List.length_cons]; omega
theorem used_ok (s : State) (hs : s.small) (m : Mem) : fin 7 [.agg (s : State).cells] m = some (.int .i64 ((usedAll s.shelves : Int)), m) := by
  have hs1 := hs.1
  have hle : ∀ i, usedAll (s.shelves.take i) ≤ i * 4096 := fun i => by
    have := usedAll_le (l := s.shelves.take i) fun h hh => by obtain ⟨k, _, rfl⟩ := mem_nth (take_mem hh); exact (hs.2.1 k).2.2.1
    rw [List.length_take] at this
    exact Nat.le_trans this (Nat.mul_le_mul_right _ (Nat.min_le_left _ _))
  refine fn_of rialtolaw29_used (by kernel_rfl) rfl rfl (by simp only [nx]) ?_ m; simp only [rx, reduceIte, zqa, zqb, zqc, zqd, zqe, zqf, zqg, zqh, zqi, zqj, zqk, zql, zqm, zqn, lim_call, rialtolaw29_used]
  refine wpK_iter s.shelves.length (fun i T m => T 4 = .int .i64 i ∧ m = m0 ∧ T 1 = .iptr s.cells 0 ∧ T 3 = .int .i64 (usedAll (s.shelves.take i) : Nat)) ?_ ?_
  · simp only [rx, reduceIte, zqa, zqb, zqc, zqd, zqe, zqf, zqg, zqh, zqi, zqj, zqk, zql, zqm, zqn, lim_call]; rfl
  · rintro i T m' hi ⟨t4, rfl, t1, t3⟩
    have hwi : IntKind.i64.wrap ((i : Int) + 1) = ((i + 1 : Nat) : Int) := by rw [wrap_i64 (by omega) (by omega)]; omega
    simp only [celld] at t1
    simp only [rx, reduceIte, zqa, zqb, zqc, zqd, zqe, zqf, zqg, zqh, zqi, zqj, zqk, zql, zqm, zqn, lim_call, t4, t1, t3]
    refine condK_split (fun g => ?_) (fun g => ?_)
    · simp only [decide_eq_true_eq] at g
      have hil : i < s.shelves.length := by omega
      have hin := (hs.2.1 i).2.2.1
      have hli := hle i
      simp only [rx, reduceIte, zqa, zqb, zqc, zqd, zqe, zqf, zqg, zqh, zqi, zqj, zqk, zql, zqm, zqn, lim_call, t4, t1, t3, hil]
      refine wpK_iter (nth s.shelves i).items.length (fun k T m => T 5 = .int .i64 k ∧ T 4 = .int .i64 i ∧ m = m0 ∧ T 1 = .iptr s.cells 0 ∧ T 3 = .int .i64 ((usedAll (s.shelves.take i) + usedIn ((nth s.shelves i).items.take k) : Nat) : Int)) ?_ ?_
      · simp only [rx, reduceIte, zqa, zqb, zqc, zqd, zqe, zqf, zqg, zqh, zqi, zqj, zqk, zql, zqm, zqn, lim_call, celld, t4, t1, t3]; rfl
      · rintro k T2 m2 hk ⟨u5, u4, rfl, u1, u3⟩
        have hwk : IntKind.i64.wrap ((k : Int) + 1) = ((k + 1 : Nat) : Int) := by rw [wrap_i64 (by omega) (by omega)]; omega
        simp only [celld] at u1
        simp only [rx, reduceIte, zqa, zqb, zqc, zqd, zqe, zqf, zqg, zqh, zqi, zqj, zqk, zql, zqm, zqn, lim_call, u5, u4, u1, u3, hil]
        refine condK_split (fun g2 => ?_) (fun g2 => ?_)
        · simp only [decide_eq_true_eq] at g2
          have hkl : k < (nth s.shelves i).items.length := by omega
          have hsu := usedIn_succ hkl
          have hub := usedIn_le ((nth s.shelves i).items.take k)
          rw [List.length_take] at hub
          have hwn : IntKind.i64.wrap (((usedAll (s.shelves.take i) + usedIn ((nth s.shelves i).items.take k) : Nat) : Int) + 1) = ((usedAll (s.shelves.take i) + (usedIn ((nth s.shelves i).items.take k) + 1) : Nat) : Int) := by rw [wrap_i64 (by omega) (by omega)]; omega
          simp only [rx, reduceIte, zqa, zqb, zqc, zqd, zqe, zqf, zqg, zqh, zqi, zqj, zqk, zql, zqm, zqn, lim_call, u5, u4, u1, u3, hil, hkl]
          refine condK_split (fun g3 => ?_) (fun g3 => ?_)
          · rw [if_pos g3] at hsu
            simp only [rx, reduceIte, zqa, zqb, zqc, zqd, zqe, zqf, zqg, zqh, zqi, zqj, zqk, zql, zqm, zqn, lim_call, u5, u4, u1, u3, hil, hkl, hwk, hwn, hsu, celld]
          · rw [if_neg (by simp [g3])] at hsu
            simp only [rx, reduceIte, zqa, zqb, zqc, zqd, zqe, zqf, zqg, zqh, zqi, zqj, zqk, zql, zqm, zqn, lim_call, u5, u4, u1, u3, hil, hkl, hwk, hsu, celld]
        · simp only [decide_eq_false_iff_not, Int.not_lt] at g2
          have : k = (nth s.shelves i).items.length := by omega
          subst this
          have hsa := usedAll_succ hil
          rw [List.take_length] at u3
          simp only [rx, reduceIte, zqa, zqb, zqc, zqd, zqe, zqf, zqg, zqh, zqi, zqj, zqk, zql, zqm, zqn, lim_call, u5, u4, u1, u3, hwi, hsa, hil, celld]
    · simp only [decide_eq_false_iff_not, Int.not_lt] at g
      have : i = s.shelves.length := by omega
      subst this
      rw [List.take_length] at t3
      simp only [rx, reduceIte, zqa, zqb, zqc, zqd, zqe, zqf, zqg, zqh, zqi, zqj, zqk, zql, zqm, zqn, lim_call, t4, t1, t3]
theorem used_r (s_round : Int) (s_shelves : List Shelf) (s_ranks : List (List Int)) (s_orders : List Order) (s_audit : List Entry) (s_sessions : List Int) (hs : (⟨s_round, s_shelves, s_ranks, s_orders, s_audit, s_sessions⟩ : State).small) (m : Mem) : fin 7 [.agg [.int .u64 s_round, .sl .any (s_shelves.map Shelf.cells), .sl .any (s_ranks.map rcell), .sl .any (s_orders.map Order.cells), .sl .any (s_audit.map Entry.cells), .sl .any (s_sessions.map icell)]] m = some (.int .i64 ((usedAll (⟨s_round, s_shelves, s_ranks, s_orders, s_audit, s_sessions⟩ : State).shelves : Int)), m) := used_ok ⟨s_round, s_shelves, s_ranks, s_orders, s_audit, s_sessions⟩ hs m
end Go.Rx.Api
