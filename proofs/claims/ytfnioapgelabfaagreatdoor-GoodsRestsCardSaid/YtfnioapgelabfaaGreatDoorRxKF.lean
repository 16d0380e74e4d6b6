/-
A part of the proof: lemmas on the machine that the printed functions run on, or contracts of functions.
-/
import Derived.Test.YtfnioapgelabfaaGreatDoorRxKE
import Derived.Test.YtfnioapgelabfaaGreatDoorRxMono
import Derived.Test.YtfnioapgelabfaaGreatDoorRxAlive29
import Derived.Test.YtfnioapgelabfaaGreatDoorRxTy
import Derived.Test.YtfnioapgelabfaaGreatDoorRxJoin
set_option linter.unusedSimpArgs false
set_option linter.unusedVariables false
set_option maxRecDepth 20000
namespace Go.Rx.Api
open Go.Rx
open Nat renaming reduceEqDiff → zqa, reduceAdd → zqb, reduceMul → zqc, reduceLeDiff → zqd, reduceBEq → zqe, reduceBNe → zqf, reduceSub → zqg, reduceLT → zqh
open Int renaming reduceLE → zqi, reduceLT → zqj, reduceToNat → zqk, reduceNeg → zql, reduceEq → zqm, reduceBEq → zqn
theorem smallR_wf {s : State} (h : s.smallR) : s.wf := by
  obtain ⟨⟨w1, w2, w3, w4, w5⟩, w6, w7⟩ := h
  refine ⟨by omega, fun i => ?_, by omega, fun i => ?_, by omega, by omega, by omega⟩
  · obtain ⟨a1, a2, a3, a4, a5, a6, a7⟩ := w2 i
    exact ⟨by omega, by omega, by omega, by omega, by omega, by omega, by omega⟩
  · have := w7 i; omega
theorem noState_small : noState.smallR := by
  refine ⟨⟨Nat.zero_le _, fun i => ?_, Nat.zero_le _, Nat.zero_le _, Nat.zero_le _⟩, Nat.zero_le _, fun i => ?_⟩
  · rw [show nth noState.shelves i = default from by simp [noState, nth]]; exact default_small
  · rw [show nth noState.ranks i = default from by simp [noState, nth]]; exact Nat.zero_le _
theorem noState_wf : noState.wf := smallR_wf noState_small
theorem viewFrom_wf {r : Realm} {s : State} {a : Lab} (hs : s.smallR) : (viewFrom r s a).1.wf := by
  unfold viewFrom
  split
  · rename_i h
    split
    · split
      · exact smallR_wf (viewSeen_small h hs)
      · exact noState_wf
    · exact noState_wf
  · exact noState_wf
def viewSame (r : Realm) (s t : State) (a : Lab) : Bool := (viewFrom r s a).2 == 0 && ((viewFrom r t a).2 == 0 && stateSame (viewFrom r s a).1 (viewFrom r t a).1)
theorem viewSame_ok (r : Realm) (s : State) (t : State) (a : Lab) (hr : r.wf) (hs : s.smallR) (ht : t.smallR) (m : Mem) : fin 10 [.agg (r : Realm).cells, .agg (s : State).cells, .agg (t : State).cells, .agg (a : Lab).cells] m = some (.bool (viewSame r s t a), m) := by
  have hw := viewFrom_wf (r := r) (a := a) hs
  refine fn_of view_Same (by kernel_rfl) rfl rfl (by simp only [nx]) ?_ m; simp only [rx, reduceIte, zqa, zqb, zqc, zqd, zqe, zqf, zqg, zqh, zqi, zqj, zqk, zql, zqm, zqn, lim_call, view_Same, viewFrom_r, stateSame_r, viewSame, hr, hs, ht, hw]
  have _ := @viewFrom_r; have _ := @stateSame_r; exact autoT
theorem viewSame_r (r_labels : List Lab) (r_lines : List Int) (r_accounts : List Account) (r_guilds : List Guild) (r_quotas : List Quota) (r_orders : Int) (r_audits : Int) (r_rate : Int) (r_rounds : Int) (s_round : Int) (s_shelves : List Shelf) (s_ranks : List (List Int)) (s_orders : List Order) (s_audit : List Entry) (s_sessions : List Int) (t_round : Int) (t_shelves : List Shelf) (t_ranks : List (List Int)) (t_orders : List Order) (t_audit : List Entry) (t_sessions : List Int) (a_level : Int) (a_comps : Int) (hr : (⟨r_labels, r_lines, r_accounts, r_guilds, r_quotas, r_orders, r_audits, r_rate, r_rounds⟩ : Realm).wf) (hs : (⟨s_round, s_shelves, s_ranks, s_orders, s_audit, s_sessions⟩ : State).smallR) (ht : (⟨t_round, t_shelves, t_ranks, t_orders, t_audit, t_sessions⟩ : State).smallR) (m : Mem) : fin 10 [.agg [.sl .any (r_labels.map Lab.cells), .sl .any (r_lines.map icell), .sl .any (r_accounts.map Account.cells), .sl .any (r_guilds.map Guild.cells), .sl .any (r_quotas.map Quota.cells), .int .i64 r_orders, .int .i64 r_audits, .int .i64 r_rate, .int .i64 r_rounds], .agg [.int .u64 s_round, .sl .any (s_shelves.map Shelf.cells), .sl .any (s_ranks.map rcell), .sl .any (s_orders.map Order.cells), .sl .any (s_audit.map Entry.cells), .sl .any (s_sessions.map icell)], .agg [.int .u64 t_round, .sl .any (t_shelves.map Shelf.cells), .sl .any (t_ranks.map rcell), .sl .any (t_orders.map Order.cells), .sl .any (t_audit.map Entry.cells), .sl .any (t_sessions.map icell)], .agg [.int .i64 a_level, .int .u64 a_comps]] m = some (.bool (viewSame (⟨r_labels, r_lines, r_accounts, r_guilds, r_quotas, r_orders, r_audits, r_rate, r_rounds⟩ : Realm) (⟨s_round, s_shelves, s_ranks, s_orders, s_audit, s_sessions⟩ : State) (⟨t_round, t_shelves, t_ranks, t_orders, t_audit, t_sessions⟩ : State) (⟨a_level, a_comps⟩ : Lab)), m) := viewSame_ok ⟨r_labels, r_lines, r_accounts, r_guilds, r_quotas, r_orders, r_audits, r_rate, r_rounds⟩ ⟨s_round, s_shelves, s_ranks, s_orders, s_audit, s_sessions⟩ ⟨t_round, t_shelves, t_ranks, t_orders, t_audit, t_sessions⟩ ⟨a_level, a_comps⟩ hr hs ht m
theorem run_any {n pid : Nat} {f : PF} {args as : List V} {v : V} {m1 : Mem} (hp : prog pid = some f) (hr : f.raw = false) (hn : allM (norm depth) args = some as) (h : callN prog n pid args m0 = some (v, m1)) (m : Mem) : callN prog n pid args m = some (v, m) := by
  cases n with
  | zero => cases h
  | succ n =>
    simp only [callN, hp, Option.bind_some, callWith, hr, hn, Bool.false_and, Bool.false_eq_true, if_false] at h ⊢
    cases hc : callPure (callN prog n) n f as with
    | none => rw [hc] at h; cases h
    | some u =>
      rw [hc] at h
      simp only [Option.bind_some, Option.some.injEq, Prod.mk.injEq] at h ⊢
      exact ⟨h.1, trivial⟩
theorem alive29 (m : Mem) : fin 4 [] m = some (.bool true, m) := lim_of_run (run_any (f := rialtolaw29_alive) (by kernel_rfl) rfl rfl t4 m)
end Go.Rx.Api

set_option linter.unusedSimpArgs false
set_option linter.unusedVariables false
set_option maxRecDepth 20000
namespace Go.Rx.Api
open Go.Rx
open Nat renaming reduceEqDiff → zqa, reduceAdd → zqb, reduceMul → zqc, reduceLeDiff → zqd, reduceBEq → zqe, reduceBNe → zqf, reduceSub → zqg, reduceLT → zqh
open Int renaming reduceLE → zqi, reduceLT → zqj, reduceToNat → zqk, reduceNeg → zql, reduceEq → zqm, reduceBEq → zqn
theorem nth_set_same {α : Type} [Inhabited α] {l : List α} {k : Nat} {x : α} (h : k < l.length) : nth (l.set k x) (k : Int) = x := nth_eq (List.getElem?_set_self h)
theorem nth_set_ne {α : Type} [Inhabited α] {l : List α} {k : Nat} {x : α} {i : Int} (h : i.toNat ≠ k) : nth (l.set k x) i = nth l i := by
  unfold nth
  rw [List.getElem?_set_ne (Ne.symm h)]
theorem all_set {α : Type} {l : List α} {k : Nat} {x : α} {p : α → Bool} (h : l.all p = true) (hx : p x = true) : (l.set k x).all p = true := by
  rw [List.all_eq_true] at h ⊢
  intro y hy
  rcases List.mem_or_eq_of_mem_set hy with hy | rfl
  · exact h y hy
  · exact hx
theorem map_set_same {α β : Type} [Inhabited α] {l : List α} {k : Nat} {x : α} {f : α → β} (hk : k < l.length) (h : f x = f (nth l k)) : (l.set k x).map f = l.map f := by
  rw [List.map_set, h]
  apply List.ext_getElem? 
  intro i
  rw [List.getElem?_set]
  split
  · rename_i e
    subst e
    rw [List.length_map, if_pos hk, List.getElem?_map, get_nth_nat hk]; rfl
  · rfl
theorem sum_set {α : Type} [Inhabited α] {g : α → Nat} {x : α} : ∀ {l : List α} {k : Nat}, k < l.length → ((l.set k x).map g).sum + g (nth l k) = (l.map g).sum + g x
  | [], k, h => by simp at h
  | a :: l, 0, _ => by
    rw [show nth (a :: l) ((0 : Nat) : Int) = a from nth_eq rfl]
    simp only [List.set_cons_zero, List.map_cons, List.sum_cons]; omega
  | a :: l, k + 1, h => by
    have ih := sum_set (g := g) (x := x) (l := l) (k := k) (by simpa using h)
    rw [show nth (a :: l) ((k + 1 : Nat) : Int) = nth l k from rfl]
    simp only [List.set_cons_succ, List.map_cons, List.sum_cons]; omega
def oneIf (b : Bool) : Nat := if b = true then 1 else 0
theorem usedIn_sum (l : List Item) : usedIn l = (l.map fun x => oneIf x.used).sum := by
  induction l with
  | nil => rfl
  | cons x l ih =>
    unfold usedIn at ih ⊢
    cases h : x.used with
    | true => rw [List.filter_cons_of_pos h, List.length_cons, ih, List.map_cons, List.sum_cons, h]; simp only [oneIf, if_true]; omega
    | false => rw [List.filter_cons_of_neg (by simp [h]), ih, List.map_cons, List.sum_cons, h]; simp only [oneIf, Bool.false_eq_true, if_false]; omega
structure Step (l l' : List Item) (k : Nat) (y : Item) : Prop where
  lt : k < l.length
  eq : l' = l.set k y
  all : thingRight l = true
  right : thingWrong y = false
  old3 : (nth l k).kind ≠ 3
  new3 : y.kind ≠ 3
theorem thingRight_iff {l : List Item} : thingRight l = true ↔ ∀ x ∈ l, thingWrong x = false := by
  simp only [thingRight, Bool.not_eq_true', List.any_eq_false, Bool.not_eq_true]
theorem Step.length {l l' : List Item} {k : Nat} {y : Item} (h : Step l l' k y) : l'.length = l.length := by rw [h.eq, List.length_set]
theorem Step.rights {l l' : List Item} {k : Nat} {y : Item} (h : Step l l' k y) : thingRight l' = true := by
  rw [thingRight_iff, h.eq]
  intro x hx
  rcases List.mem_or_eq_of_mem_set hx with hx | rfl
  · exact thingRight_iff.1 h.all x hx
  · exact h.right
theorem Step.at_k {l l' : List Item} {k : Nat} {y : Item} (h : Step l l' k y) : nth l' (k : Int) = y := by rw [h.eq]; exact nth_set_same h.lt
theorem Step.at_ne {l l' : List Item} {k : Nat} {y : Item} (h : Step l l' k y) {i : Int} (hi : i.toNat ≠ k) : nth l' i = nth l i := by rw [h.eq]; exact nth_set_ne hi
section withs
variable {s : State} {me : Me} {l' : List Item}
theorem with_len : (withState s me l').shelves.length = s.shelves.length := by simp [withState]
theorem with_at (h : me.label.toNat < s.shelves.length) (i : Int) (hi : i.toNat = me.label.toNat) : nth (withState s me l').shelves i = { nth s.shelves me.label with items := l' } := by
  have := nth_set_same (x := ({ nth s.shelves me.label with items := l' } : Shelf)) h
  rw [← this]
  simp only [withState, nth, Int.toNat_natCast, hi]
theorem with_ne (i : Int) (hi : i.toNat ≠ me.label.toNat) : nth (withState s me l').shelves i = nth s.shelves i := nth_set_ne hi
theorem nth_same {α : Type} [Inhabited α] {l : List α} {i j : Int} (h : i.toNat = j.toNat) : nth l i = nth l j := by simp only [nth, h]
theorem with_rooms (h : me.label.toNat < s.shelves.length) (i : Int) : (nth (withState s me l').shelves i).rooms = (nth s.shelves i).rooms := by
  by_cases hi : i.toNat = me.label.toNat
  · rw [with_at h i hi, nth_same hi]
  · rw [with_ne i hi]
theorem with_exits (h : me.label.toNat < s.shelves.length) (i : Int) : (nth (withState s me l').shelves i).exits = (nth s.shelves i).exits := by
  by_cases hi : i.toNat = me.label.toNat
  · rw [with_at h i hi, nth_same hi]
  · rw [with_ne i hi]
theorem with_mails (h : me.label.toNat < s.shelves.length) (i : Int) : (nth (withState s me l').shelves i).mails = (nth s.shelves i).mails := by
  by_cases hi : i.toNat = me.label.toNat
  · rw [with_at h i hi, nth_same hi]
  · rw [with_ne i hi]
theorem with_trades (h : me.label.toNat < s.shelves.length) (i : Int) : (nth (withState s me l').shelves i).trades = (nth s.shelves i).trades := by
  by_cases hi : i.toNat = me.label.toNat
  · rw [with_at h i hi, nth_same hi]
  · rw [with_ne i hi]
theorem with_purses (h : me.label.toNat < s.shelves.length) (i : Int) : (nth (withState s me l').shelves i).purses = (nth s.shelves i).purses := by
  by_cases hi : i.toNat = me.label.toNat
  · rw [with_at h i hi, nth_same hi]
  · rw [with_ne i hi]
theorem with_places (h : me.label.toNat < s.shelves.length) (i : Int) : (nth (withState s me l').shelves i).places = (nth s.shelves i).places := by
  by_cases hi : i.toNat = me.label.toNat
  · rw [with_at h i hi, nth_same hi]
  · rw [with_ne i hi]
theorem with_minted (h : me.label.toNat < s.shelves.length) (i : Int) : (nth (withState s me l').shelves i).minted = (nth s.shelves i).minted := by
  by_cases hi : i.toNat = me.label.toNat
  · rw [with_at h i hi, nth_same hi]
  · rw [with_ne i hi]
theorem with_items (h : me.label.toNat < s.shelves.length) (i : Int) : (nth (withState s me l').shelves i).items = if i.toNat = me.label.toNat then l' else (nth s.shelves i).items := by
  by_cases hi : i.toNat = me.label.toNat
  · rw [with_at h i hi, if_pos hi]
  · rw [with_ne i hi, if_neg hi]
theorem with_there (h : me.label.toNat < s.shelves.length) : there (withState s me l') = there s := by
  funext a
  simp only [there, with_rooms h, with_len]
theorem with_map {β : Type} {f : Shelf → β} (h : me.label.toNat < s.shelves.length) (hf : f { nth s.shelves me.label with items := l' } = f (nth s.shelves me.label)) : (withState s me l').shelves.map f = s.shelves.map f := by
  refine map_set_same h ?_
  rw [hf]; rfl
theorem with_coins (h : me.label.toNat < s.shelves.length) (r : Realm) : judgeCoins r (withState s me l') = judgeCoins r s := by
  have e : ∀ c, coinsAt r (withState s me l') c = coinsAt r s c := by
    intro c
    have h1 : stateHeld (withState s me l') c = stateHeld s c := by
      simp only [stateHeld, heldRows]
      rw [with_map (l' := l') (f := fun h => (tradeHeld h.trades c).2) h rfl, with_map (l' := l') (f := fun h => shelfHeld h c) h rfl]
      rfl
    have h2 : stateMade (withState s me l') c = stateMade s c := by
      have q1 : column (withState s me l') c Shelf.minted = column s c Shelf.minted := by
        unfold column
        rw [with_map (l' := l') (f := fun h => h.minted.at_ c) h rfl]
      have q2 : column (withState s me l') c Shelf.burned = column s c Shelf.burned := by
        unfold column
        rw [with_map (l' := l') (f := fun h => h.burned.at_ c) h rfl]
      simp only [stateMade, q1, q2]
    have h3 : capAt r (withState s me l') c = capAt r s c := by
      funext i
      simp only [capAt, with_minted h]
    simp only [coinsAt, h1, h2, h3, with_len]
  simp only [judgeCoins, funext e]
end withs
theorem deal_step {h : Shelf} {l' : List Item} {k : Nat} {y : Item} (st : Step h.items l' k y) (hd : dealsShelf h = true) : dealsShelf { h with items := l' } = true := by
  simp only [dealsShelf, Bool.and_eq_true, allN_iff, st.length] at hd ⊢
  obtain ⟨h1, h2⟩ := hd
  refine ⟨fun i hi => ?_, fun j hj => ?_⟩
  · by_cases hk : i = k
    · subst hk
      have := st.new3
      simp only [dealItem, st.at_k]
      simp [this]
    · have := h1 i hi
      simp only [dealItem] at this ⊢
      rw [st.at_ne (by simpa using hk)]
      exact this
  · have := h2 j hj
    have ht : tradeSlots { h with items := l' } = tradeSlots h := rfl
    rw [ht]
    generalize nth (tradeSlots h) j = q at this ⊢
    simp only [dealSlot, st.length, Bool.and_eq_true] at this ⊢
    refine ⟨this.1, ?_⟩
    have h3 := this.2
    by_cases g0 : 0 ≤ (nth h.trades q).give.item
    · by_cases gk : (nth h.trades q).give.item.toNat = k
      · exfalso
        have e : nth h.items (nth h.trades q).give.item = nth h.items k := nth_same (by simpa using gk)
        rw [e] at h3
        have := st.old3
        simp [g0, this] at h3
      · rw [st.at_ne gk]; exact h3
    · simp [g0]
theorem right_step {r : Realm} {s : State} {me : Me} {l' : List Item} {k : Nat} {y : Item} (hm : isMe r s me = true) (st : Step (goodsItems s me) l' k y)
    (hy1 : roomsItem r s me.label y = true) (hy2 : peopleItem r y = true) : stateRight r (withState s me l') = true := by
  obtain ⟨hR, l0, l1, _⟩ := isMe_facts hm
  have h : me.label.toNat < s.shelves.length := by omega
  have hcast : ((me.label.toNat : Nat) : Int) = me.label := by omega
  have hbel : belowRoom r (withState s me l') = belowRoom r s := by
    funext i a; simp only [belowRoom, with_there h]
  simp only [stateRight, Bool.and_eq_true] at hR ⊢
  obtain ⟨r1, r2, r3, r4, r5, r6, r7⟩ := hR
  refine ⟨?_, ?_, ?_, ?_, ?_, ?_, ?_⟩
  · have e : sizesAt r (withState s me l') = sizesAt r s := by
      funext i
      have hl : (nth (withState s me l').shelves (i : Int)).items.length = (nth s.shelves (i : Int)).items.length := by
        rw [with_items h]
        split
        · rename_i e
          rw [st.length, goodsItems, nth_same e]
        · rfl
      simp only [sizesAt, with_rooms h, with_exits h, with_mails h, with_trades h, with_purses h, with_places h, hl]
    rw [← r1]
    simp only [judgeSizes, with_len, e]
    rfl
  · simp only [judgeSlots] at r2 ⊢
    refine all_set r2 ?_
    have := List.all_eq_true.1 r2 (nth s.shelves me.label) (nth_mem l0 l1)
    simp only [slotsShelf, Bool.and_eq_true] at this ⊢
    exact ⟨this.1, this.2.1, st.rights, this.2.2.2.1, this.2.2.2.2⟩
  · rw [← r3]
    simp only [judgePublic, with_there h]
    rfl
  · simp only [judgeRooms, allN_iff, with_len] at r4 ⊢
    intro j hj
    have hj' := r4 j hj
    simp only [roomsAt, Bool.and_eq_true] at hj' ⊢
    obtain ⟨a1, a2, a3⟩ := hj'
    have e1 : roomsExit r (withState s me l') = roomsExit r s := by funext i x; simp only [roomsExit, hbel]
    have e2 : roomsItem r (withState s me l') = roomsItem r s := by funext i x; simp only [roomsItem, hbel]
    rw [with_exits h, with_places h, with_items h, e1, e2, hbel]
    refine ⟨a1, ?_, a3⟩
    split
    · rename_i e
      rw [st.eq]
      have ej : (j : Int) = me.label := by omega
      rw [ej] at a2
      rw [ej]
      exact all_set a2 hy1
    · exact a2
  · simp only [judgePeople, allN_iff, with_len] at r5 ⊢
    intro j hj
    have hj' := r5 j hj
    simp only [peopleAt, Bool.and_eq_true] at hj' ⊢
    obtain ⟨a1, a2, a3⟩ := hj'
    rw [with_mails h, with_trades h, with_items h]
    refine ⟨?_, a2, a3⟩
    split
    · rename_i e
      rw [st.eq]
      have ej : (j : Int) = me.label := by omega
      rw [ej] at a1
      exact all_set a1 hy2
    · exact a1
  · simp only [judgeDeals, allN_iff, with_len] at r6 ⊢
    intro j hj
    have hj' := r6 j hj
    by_cases e : ((j : Nat) : Int).toNat = me.label.toNat
    · rw [with_at h j e]
      have ej : (j : Int) = me.label := by omega
      rw [ej] at hj'
      exact deal_step st hj'
    · rw [with_ne j e]; exact hj'
  · rw [with_coins h]; exact r7
theorem used_step {s : State} {me : Me} {l' : List Item} {k : Nat} {y : Item} (h : me.label.toNat < s.shelves.length) (st : Step (goodsItems s me) l' k y) :
    usedAll (withState s me l').shelves + oneIf (nth (goodsItems s me) k).used = usedAll s.shelves + oneIf y.used := by
  have h1 := sum_set (g := fun h : Shelf => usedIn h.items) (x := ({ nth s.shelves me.label with items := l' } : Shelf)) h
  have h2 := sum_set (g := fun x : Item => oneIf x.used) (x := y) st.lt
  rw [← st.eq, ← usedIn_sum, ← usedIn_sum] at h2
  have e : nth s.shelves ((me.label.toNat : Nat) : Int) = nth s.shelves me.label := rfl
  rw [e] at h1
  simp only [goodsItems] at h2 ⊢
  simp only [usedAll, withState] at h1 ⊢
  omega
end Go.Rx.Api

set_option linter.unusedSimpArgs false
set_option linter.unusedVariables false
set_option maxRecDepth 20000
namespace Go.Rx.Api
open Go.Rx
open Nat renaming reduceEqDiff → zqa, reduceAdd → zqb, reduceMul → zqc, reduceLeDiff → zqd, reduceBEq → zqe, reduceBNe → zqf, reduceSub → zqg, reduceLT → zqh
open Int renaming reduceLE → zqi, reduceLT → zqj, reduceToNat → zqk, reduceNeg → zql, reduceEq → zqm, reduceBEq → zqn
structure Done (r : Realm) (s : State) (me : Me) (t : State) (d : Int) : Prop where
  is : isMe r s me = true
  ex : ∃ l' k y, t = withState s me l' ∧ Step (goodsItems s me) l' k y ∧ roomsItem r s me.label y = true ∧ peopleItem r y = true ∧ (oneIf y.used : Int) = oneIf (nth (goodsItems s me) k).used + d
theorem with_ok {r : Realm} {s : State} {me : Me} {p : List Item × Int} (h : (goodsWith r s me p).2 = 0) : isMe r s me = true ∧ p.2 = 0 ∧ (goodsWith r s me p).1 = withState s me p.1 := by
  unfold goodsWith at h ⊢
  by_cases h1 : isMe r s me = true
  · by_cases h2 : p.2 = 0
    · rw [if_pos h1, if_pos h2]; exact ⟨h1, h2, rfl⟩
    · rw [if_pos h1, if_neg h2] at h; exact (h2 h).elim
  · rw [if_neg h1] at h; cases h
theorem with_no {r : Realm} {s : State} {me : Me} {p : List Item × Int} (h : (goodsWith r s me p).2 ≠ 0) : (goodsWith r s me p).1 = noState ∧ (isMe r s me = true ∨ (goodsWith r s me p).2 = 1) := by
  unfold goodsWith at h ⊢
  by_cases h1 : isMe r s me = true
  · by_cases h2 : p.2 = 0
    · rw [if_pos h1, if_pos h2] at h; exact (h rfl).elim
    · rw [if_pos h1, if_neg h2]; exact ⟨rfl, .inl h1⟩
  · rw [if_neg h1]; exact ⟨rfl, .inr rfl⟩
theorem put_ok {l : List Item} {i : Int} {x : Item} {p : List Item × Int} (hp : rowPut l i x = p) (h : p.2 = 0) : ∃ k : Nat, i = k ∧ k < l.length ∧ p.1 = l.set k x := by
  unfold rowPut at hp
  split at hp
  · subst hp; cases h
  · split at hp
    · subst hp; cases h
    · subst hp; exact ⟨i.toNat, by omega, by omega, rfl⟩
theorem move_ok {l : List Item} {i : Int} {h n : Holder} {p : List Item × Int} (hp : thingMove l i h n = p) (hz : p.2 = 0) :
    thingRight l = true ∧ holderMay n = true ∧ ∃ k : Nat, i = k ∧ k < l.length ∧ p.1 = l.set k (thingTo (nth l k) n) ∧ (nth l k).used = true ∧ (thingOf (nth l k)).eqb h = true := by
  unfold thingMove at hp
  split at hp
  · subst hp; cases hz
  split at hp
  · subst hp; cases hz
  split at hp
  · subst hp; cases hz
  split at hp
  · subst hp; cases hz
  split at hp
  · subst hp; cases hz
  rename_i a1 a2 a3 a4 a5
  obtain ⟨k, rfl, hk, e⟩ := put_ok hp hz
  simp only [Bool.not_eq_false] at a1 a3 a4 a5
  simp only [rowHas, Bool.and_eq_true] at a4
  exact ⟨a1, a3, k, rfl, hk, e, a4.2.2, a5⟩
theorem item_named {l : List Item} {k : Nat} (h : thingRight l = true) (hk : k < l.length) (hu : (nth l k).used = true) : nameRight (nth l k).name = true := by
  have := thingRight_iff.1 h (nth l k) (nth_mem (by omega) (by omega))
  unfold thingWrong at this
  rw [if_pos hu] at this
  simp only [Bool.or_eq_false_iff, Bool.not_eq_false'] at this
  exact this.1
theorem move_step {l : List Item} {i : Int} {h n : Holder} (hz : (thingMove l i h n).2 = 0) (h3 : h.kind ≠ 3) (n3 : n.kind ≠ 3) :
    ∃ k y, Step l (thingMove l i h n).1 k y ∧ i = (k : Nat) ∧ y = thingTo (nth l k) n ∧ (nth l k).used = true ∧ holderMay n = true := by
  obtain ⟨a1, a2, k, rfl, hk, e, hu, ho⟩ := move_ok rfl hz
  refine ⟨k, thingTo (nth l k) n, ⟨hk, e, a1, ?_, ?_, n3⟩, rfl, rfl, hu, a2⟩
  · have hn := item_named a1 hk hu
    unfold thingWrong
    rw [if_pos (show (thingTo (nth l k) n).used = true from hu)]
    have : thingOf (thingTo (nth l k) n) = n := rfl
    rw [this, a2, show (thingTo (nth l k) n).name = (nth l k).name from rfl, hn]; rfl
  · simp only [Holder.eqb, thingOf, Bool.and_eq_true, beq_iff_eq] at ho
    rw [ho.1]; exact h3
theorem noItem_ok : thingWrong noItem = false := by decide +kernel
theorem free_ok {l : List Item} {x : Item} (h : thingRight l = true) (hx : x ∈ l) (hu : x.used = false) : x.kind = 0 := by
  have := thingRight_iff.1 h x hx
  unfold thingWrong at this
  rw [if_neg (by simp [hu])] at this
  simp only [Bool.not_eq_false', Item.eqb, Bool.and_eq_true, beq_iff_eq] at this
  exact this.2.2.1
theorem idxOf_at {α : Type} [Inhabited α] {l : List α} {p : α → Bool} (h : ¬ idxOf l p < 0) : ∃ k : Nat, idxOf l p = k ∧ k < l.length ∧ p (nth l k) = true := by
  unfold idxOf at h ⊢
  cases hf : l.findIdx? p with
  | none => rw [hf] at h; exact (h (by decide)).elim
  | some k =>
    obtain ⟨hk, hp, _⟩ := List.findIdx?_eq_some_iff_getElem.1 hf
    refine ⟨k, rfl, hk, ?_⟩
    rw [nth_eq (List.getElem?_eq_getElem hk)]; exact hp
theorem me_there {r : Realm} {s : State} {me : Me} (hm : isMe r s me = true) : judgeAccount r me.who = true := by
  obtain ⟨_, _, _, w0, _, _, w1⟩ := isMe_facts hm
  simp only [judgeAccount, Bool.and_eq_true, decide_eq_true_eq]; exact ⟨w0, w1⟩
theorem place_there {r : Realm} {s : State} {me : Me} (hm : isMe r s me = true) : belowRoom r s me.label (goodsPlace s me) = true := by
  obtain ⟨hR, l0, l1, w0, w1, _, _⟩ := isMe_facts hm
  simp only [stateRight, Bool.and_eq_true] at hR
  have := allN_iff.1 hR.2.2.2.1 me.label.toNat (by omega)
  simp only [roomsAt, Bool.and_eq_true] at this
  have e : ((me.label.toNat : Nat) : Int) = me.label := by omega
  rw [e] at this
  exact List.all_eq_true.1 this.2.2 _ (nth_mem w0 w1)
theorem scrap_done {r : Realm} {s : State} {me : Me} {i : Int} (h : (goodsScrap r s me i).2 = 0) : Done r s me (goodsScrap r s me i).1 (-1) := by
  obtain ⟨hm, hp, e⟩ := with_ok h
  refine ⟨hm, ?_⟩
  unfold goodsScrap
  rw [e]
  unfold thingScrap at hp ⊢
  split at hp
  · rename_i hz
    obtain ⟨k, y, st, rfl, rfl, hu, _⟩ := move_step hz (show (1 : Int) ≠ 3 from by decide) (show (1 : Int) ≠ 3 from by decide)
    obtain ⟨k', hk', hl', e'⟩ := put_ok rfl hp
    have : k = k' := by omega
    subst this
    rw [if_pos hz]
    refine ⟨_, k, noItem, rfl, ⟨st.lt, e', st.all, noItem_ok, st.old3, by decide⟩, rfl, rfl, ?_⟩
    rw [hu]; rfl
  · rename_i hz; exact (hz hp).elim
theorem drop_done {r : Realm} {s : State} {me : Me} {i : Int} (h : (goodsDrop r s me i).2 = 0) : Done r s me (goodsDrop r s me i).1 0 := by
  obtain ⟨hm, hp, e⟩ := with_ok h
  refine ⟨hm, ?_⟩
  unfold goodsDrop
  rw [e]
  unfold thingDrop at hp ⊢
  obtain ⟨k, y, st, rfl, rfl, hu, _⟩ := move_step hp (show (1 : Int) ≠ 3 from by decide) (show (2 : Int) ≠ 3 from by decide)
  refine ⟨_, k, _, rfl, st, ?_, rfl, ?_⟩
  · simp only [roomsItem, thingTo, beq_self_eq_true, Bool.not_true, Bool.false_or]; exact place_there hm
  · simp only [thingTo, Int.add_zero]
theorem take_done {r : Realm} {s : State} {me : Me} {i : Int} (h : (goodsTake r s me i).2 = 0) : Done r s me (goodsTake r s me i).1 0 := by
  obtain ⟨hm, hp, e⟩ := with_ok h
  refine ⟨hm, ?_⟩
  unfold goodsTake
  rw [e]
  unfold thingTake at hp ⊢
  obtain ⟨k, y, st, rfl, rfl, hu, _⟩ := move_step hp (show (2 : Int) ≠ 3 from by decide) (show (1 : Int) ≠ 3 from by decide)
  refine ⟨_, k, _, rfl, st, rfl, ?_, ?_⟩
  · simp only [peopleItem, thingTo, beq_self_eq_true, Bool.not_true, Bool.false_or]; exact me_there hm
  · simp only [thingTo, Int.add_zero]
theorem pass_done {r : Realm} {s : State} {me : Me} {i who : Int} (h : (goodsPass r s me i who).2 = 0) : Done r s me (goodsPass r s me i who).1 0 := by
  obtain ⟨hm, hp, e⟩ := with_ok h
  refine ⟨hm, ?_⟩
  unfold goodsPass
  rw [e]
  generalize hq : passP r s me i who (goodsItems s me) = q at hp ⊢
  unfold passP at hq
  split at hq
  · subst hq; cases hp
  split at hq
  · subst hq; cases hp
  rename_i hw hi
  simp only [Bool.not_eq_false] at hi
  split at hq
  · split at hq
    · subst hq
      unfold thingPass at hp ⊢
      obtain ⟨k, y, st, rfl, rfl, hu, _⟩ := move_step hp (show (1 : Int) ≠ 3 from by decide) (show (1 : Int) ≠ 3 from by decide)
      refine ⟨_, k, _, rfl, st, rfl, ?_, ?_⟩
      · simp only [peopleItem, thingTo, beq_self_eq_true, Bool.not_true, Bool.false_or]; exact me_there hi
      · simp only [thingTo, Int.add_zero]
    · subst hq; cases hp
  · rename_i hz; subst hq; exact (hz hp).elim
theorem make_done {r : Realm} {s : State} {me : Me} {name : ByteArray} (h : (goodsMake r s me name).2.2 = 0) : Done r s me (goodsMake r s me name).1 1 := by
  unfold goodsMake at h ⊢
  obtain ⟨hm, hp, e⟩ := with_ok h
  refine ⟨hm, ?_⟩
  simp only at hp ⊢
  rw [e]
  simp only
  unfold thingMake at hp ⊢
  split at hp
  · cases hp
  split at hp
  · cases hp
  split at hp
  · cases hp
  rename_i a1 a2 a3
  rw [if_neg a1, if_neg a2, if_neg a3]
  simp only [Bool.not_eq_false] at a1 a2 a3
  unfold rowAdd at hp ⊢
  split at hp
  · cases hp
  · rename_i hi
    obtain ⟨k, hk, hl, hu⟩ := idxOf_at hi
    rw [if_neg hi, hk]
    simp only [Bool.not_eq_true'] at hu
    refine ⟨_, k, _, rfl, ⟨hl, by rw [Int.toNat_natCast], a1, ?_, ?_, show (1 : Int) ≠ 3 from by decide⟩, rfl, ?_, ?_⟩
    · unfold thingWrong
      rw [if_pos (show (thingTo ⟨true, name, 0, 0, ⟨0, 0⟩⟩ ⟨1, me.who, ⟨0, 0⟩⟩).used = true from rfl)]
      show (!nameRight name || !holderMay ⟨1, me.who, ⟨0, 0⟩⟩) = false
      rw [a2, a3]; rfl
    · rw [free_ok a1 (nth_mem (by omega) (by omega)) hu]; decide
    · simp only [peopleItem, thingTo, beq_self_eq_true, Bool.not_true, Bool.false_or]; exact me_there hm
    · rw [hu]; rfl
def goodsMore (x : Deed) : Int := if x.kind = 2 then -1 else if x.kind = 1 then 1 else 0
theorem do_done {r : Realm} {s : State} {me : Me} {x : Deed} (h : (goodsDo r s me x).2.2 = 0) : Done r s me (goodsDo r s me x).1 (goodsMore x) := by
  unfold goodsDo at h ⊢
  unfold goodsMore
  by_cases h1 : x.kind = 1
  · rw [if_pos h1] at h ⊢; rw [if_neg (by omega), if_pos h1]; exact make_done h
  rw [if_neg h1] at h ⊢; rw [if_neg h1]
  by_cases h2 : x.kind = 2
  · rw [if_pos h2] at h ⊢; rw [if_pos h2]; exact scrap_done h
  rw [if_neg h2] at h ⊢; rw [if_neg h2]
  by_cases h3 : x.kind = 3
  · rw [if_pos h3] at h ⊢; exact drop_done h
  rw [if_neg h3] at h ⊢
  by_cases h4 : x.kind = 4
  · rw [if_pos h4] at h ⊢; exact take_done h
  rw [if_neg h4] at h ⊢; exact pass_done h
theorem do_no {r : Realm} {s : State} {me : Me} {x : Deed} (h : (goodsDo r s me x).2.2 ≠ 0) : (goodsDo r s me x).1 = noState ∧ (isMe r s me = true ∨ (goodsDo r s me x).2.2 = 1) := by
  unfold goodsDo at h ⊢
  by_cases h1 : x.kind = 1
  · rw [if_pos h1] at h ⊢; exact with_no h
  rw [if_neg h1] at h ⊢
  by_cases h2 : x.kind = 2
  · rw [if_pos h2] at h ⊢; exact with_no h
  rw [if_neg h2] at h ⊢
  by_cases h3 : x.kind = 3
  · rw [if_pos h3] at h ⊢; exact with_no h
  rw [if_neg h3] at h ⊢
  by_cases h4 : x.kind = 4
  · rw [if_pos h4] at h ⊢; exact with_no h
  rw [if_neg h4] at h ⊢; exact with_no h
theorem sameShelf_refl (a : Shelf) : sameShelf a a = true := by
  simp only [sameShelf, eqL_refl (q := Room.eqb) (fun a => by simp [Room.eqb]), eqL_refl (q := Exit.eqb) (fun a => by simp [Exit.eqb]), eqL_refl (q := Item.eqb) (fun a => by simp [Item.eqb]), eqL_refl (q := Mail.eqb) (fun a => by simp [Mail.eqb]), eqL_refl (q := Trade.eqb) (fun a => by simp [Trade.eqb]), eqL_refl (q := Four.eqb) (fun a => by simp [Four.eqb]), eqL_refl (q := Ref.eqb) (fun a => by simp [Ref.eqb])]
  simp [Four.eqb]
theorem stateSame_refl (s : State) : stateSame s s = true := by
  simp only [stateSame, beq_self_eq_true, eqL_refl (q := sameShelf) sameShelf_refl, eqL_refl (q := eqL int_eqb) (eqL_refl (q := int_eqb) (fun a => by simp [int_eqb])), eqL_refl (q := Order.eqb) (fun a => by simp [Order.eqb]), eqL_refl (q := Entry.eqb) (fun a => by simp [Entry.eqb]), eqL_refl (q := int_eqb) (fun a => by simp [int_eqb]), Bool.and_self]
theorem fits_of {r : Realm} {s : State} (h : stateRight r s = true) : viewFits r s = true := by
  simp only [stateRight, Bool.and_eq_true] at h
  have h1 := h.1
  have h3 := h.2.2.1
  simp only [judgeSizes, Bool.and_eq_true, beq_iff_eq] at h1
  simp only [judgePublic, hallRight, Bool.and_eq_true, beq_iff_eq] at h3
  simp only [viewFits, Bool.and_eq_true, beq_iff_eq]
  refine ⟨h1.2.1, ?_, h1.2.2.2.2.1⟩
  exact h3.1.2.1
theorem realm_of {r : Realm} {s : State} (h : stateRight r s = true) : realmRight r = true := by
  simp only [stateRight, judgeSizes, Bool.and_eq_true] at h
  exact h.1.1
theorem seen_with {r : Realm} {s : State} {me : Me} {l' : List Item} {a : Lab} (l0 : 0 ≤ me.label) (h : seesLab r a me.label = false) : viewSeen r (withState s me l') a = viewSeen r s a := by
  have e : chooseTo (seesLab r a) (withState s me l').shelves (newState r).shelves (withState s me l').shelves.length = chooseTo (seesLab r a) s.shelves (newState r).shelves s.shelves.length := by
    rw [with_len]
    unfold chooseTo
    refine List.map_congr_left fun i hi => ?_
    by_cases hs : seesLab r a i = true
    · rw [if_pos hs, if_pos hs]
      refine with_ne i fun hc => ?_
      have : (i : Int) = me.label := by omega
      rw [this, h] at hs; cases hs
    · rw [if_neg hs, if_neg hs]
  unfold viewSeen
  rw [e]; rfl
theorem same_with {r : Realm} {s : State} {me : Me} {l' : List Item} {a : Lab} (hm : isMe r s me = true) (ha : labRight a = true) (hR : stateRight r (withState s me l') = true) (h : leq (nth r.labels me.label) a = false) : viewSame r s (withState s me l') a = true := by
  obtain ⟨h0, l0, _⟩ := isMe_facts hm
  have e1 : viewFrom r s a = (viewSeen r s a, 0) := by unfold viewFrom; rw [if_pos (realm_of h0), if_pos ha, if_pos (fits_of h0)]
  have e2 : viewFrom r (withState s me l') a = (viewSeen r s a, 0) := by unfold viewFrom; rw [if_pos (realm_of h0), if_pos ha, if_pos (fits_of hR), seen_with l0 h]
  simp only [viewSame, e1, e2, stateSame_refl]; rfl
end Go.Rx.Api

set_option linter.unusedSimpArgs false
set_option linter.unusedVariables false
set_option maxRecDepth 20000
namespace Go.Rx.Api
open Go.Rx
open Nat renaming reduceEqDiff → zqa, reduceAdd → zqb, reduceMul → zqc, reduceLeDiff → zqd, reduceBEq → zqe, reduceBNe → zqf, reduceSub → zqg, reduceLT → zqh
open Int renaming reduceLE → zqi, reduceLT → zqj, reduceToNat → zqk, reduceNeg → zql, reduceEq → zqm, reduceBEq → zqn
theorem goodsRests_ok (r : Realm) (s : State) (me : Me) (x : Deed) (a : Lab) (hr : r.wf) (hs : s.wf) (m : Mem) : fin 1 [.agg (r : Realm).cells, .agg (s : State).cells, .agg (me : Me).cells, .agg (x : Deed).cells, .agg (a : Lab).cells] m = some (.bool (true), m) := by
  by_cases he : (goodsDo r s me x).2.2 = 0
  · have hd := do_done he
    obtain ⟨hm, l', k, y, ht, st, hy1, hy2, hu⟩ := hd
    obtain ⟨hR, l0, l1, w0, w1, l2, w2⟩ := isMe_facts hm
    have hl : me.label.toNat < s.shelves.length := by omega
    have hRt := right_step hm st hy1 hy2
    have hus := used_step hl st
    have hsm := State.smallR_of hR
    have htm := State.smallR_of hRt
    have hwt := smallR_wf htm
    have hv := fun (ha : labRight a = true) h => same_with (l' := l') (a := a) hm ha hRt h
    rw [← ht] at hRt hus hwt htm hv
    have hus2 : (usedAll (goodsDo r s me x).1.shelves : Int) = usedAll s.shelves + goodsMore x := by omega
    have hub := usedAll_le (l := s.shelves) fun h hh => by obtain ⟨k, _, rfl⟩ := mem_nth hh; exact (hsm.1.2.1 k).2.2.1
    have hul := hsm.1.1
    have hu16 : usedAll s.shelves ≤ 4096 * 4096 := Nat.le_trans hub (Nat.mul_le_mul_right _ hul)
    have hsw := hsm.1
    have htw := htm.1
    have hdo := goodsDo_ok r s me x hr hs
    generalize hq : goodsDo r s me x = q at *
    obtain ⟨t, n, e⟩ := q
    simp only at he hRt hus2 hwt htm hv hdo htw
    subst he
    have hmore : goodsMore x = if x.kind = 2 then -1 else if x.kind = 1 then 1 else 0 := rfl
    simp only [celld] at hdo
    have hkind : ∃ b1 b2 d, (x.kind == 1) = b1 ∧ (x.kind == 2) = b2 ∧ goodsMore x = d ∧ ((b1 = true ∧ b2 = false ∧ d = 1) ∨ (b1 = false ∧ b2 = true ∧ d = -1) ∨ (b1 = false ∧ b2 = false ∧ d = 0)) := by
      refine ⟨_, _, _, rfl, rfl, hmore, ?_⟩
      by_cases k1 : x.kind = 1
      · simp [k1]
      · by_cases k2 : x.kind = 2
        · simp [k2]
        · simp [k1, k2]
    obtain ⟨b1, b2, d, k1, k2, k3, hk⟩ := hkind
    rw [k3] at hus2
    have hwd : IntKind.i64.wrap ((usedAll s.shelves : Int) + d) = usedAll s.shelves + d := wrap_i64 (by omega) (by omega)
    have hns : (!((usedAll t.shelves : Int) == IntKind.i64.wrap ((usedAll s.shelves : Int) + d))) = false := by rw [hwd, hus2]; simp
    clear hq ht hus hmore hu hy1 hy2 st hub hul hu16
    rcases hk with ⟨rfl, rfl, rfl⟩ | ⟨rfl, rfl, rfl⟩ | ⟨rfl, rfl, rfl⟩
    · refine fn_of rialtolaw29_GoodsRests (by kernel_rfl) rfl rfl (by simp only [nx]) ?_ m; simp only [rx, reduceIte, zqa, zqb, zqc, zqd, zqe, zqf, zqg, zqh, zqi, zqj, zqk, zql, zqm, zqn, lim_call, rialtolaw29_GoodsRests, goodsDo_r, isMe_r, stateRight_r, used_r, leq_r, labRight_r, viewSame_r, hr, hs, hdo, k1, k2, l0, l2, hwt, hRt, htw, hsw, hns, alive29]
      have _ := @goodsDo_r; have _ := @isMe_r; have _ := @stateRight_r; have _ := @used_r; have _ := @leq_r; have _ := @labRight_r; have _ := @viewSame_r; have _ := @alive29; exact autoT
    · refine fn_of rialtolaw29_GoodsRests (by kernel_rfl) rfl rfl (by simp only [nx]) ?_ m; simp only [rx, reduceIte, zqa, zqb, zqc, zqd, zqe, zqf, zqg, zqh, zqi, zqj, zqk, zql, zqm, zqn, lim_call, rialtolaw29_GoodsRests, goodsDo_r, isMe_r, stateRight_r, used_r, leq_r, labRight_r, viewSame_r, hr, hs, hdo, k1, k2, l0, l2, hwt, hRt, htw, hsw, hns, alive29]
      have _ := @goodsDo_r; have _ := @isMe_r; have _ := @stateRight_r; have _ := @used_r; have _ := @leq_r; have _ := @labRight_r; have _ := @viewSame_r; have _ := @alive29; exact autoT
    · refine fn_of rialtolaw29_GoodsRests (by kernel_rfl) rfl rfl (by simp only [nx]) ?_ m; simp only [rx, reduceIte, zqa, zqb, zqc, zqd, zqe, zqf, zqg, zqh, zqi, zqj, zqk, zql, zqm, zqn, lim_call, rialtolaw29_GoodsRests, goodsDo_r, isMe_r, stateRight_r, used_r, leq_r, labRight_r, viewSame_r, hr, hs, hdo, k1, k2, l0, l2, hwt, hRt, htw, hsw, hns, alive29]
      have _ := @goodsDo_r; have _ := @isMe_r; have _ := @stateRight_r; have _ := @used_r; have _ := @leq_r; have _ := @labRight_r; have _ := @viewSame_r; have _ := @alive29; exact autoT
  · have hd := do_no he
    have hdo := goodsDo_ok r s me x hr hs
    generalize hq : goodsDo r s me x = q at *
    obtain ⟨t, n, e⟩ := q
    simp only at he hd hdo
    obtain ⟨rfl, hd⟩ := hd
    have he' : (e == 0) = false := by simpa using he
    simp only [celld, noState] at hdo
    refine fn_of rialtolaw29_GoodsRests (by kernel_rfl) rfl rfl (by simp only [nx]) ?_ m; simp only [rx, reduceIte, zqa, zqb, zqc, zqd, zqe, zqf, zqg, zqh, zqi, zqj, zqk, zql, zqm, zqn, lim_call, rialtolaw29_GoodsRests, goodsDo_r, isMe_r, stateRight_r, used_r, leq_r, labRight_r, viewSame_r, hr, hs, hdo, he, he', alive29, noState]
    repeat' ((with_reducible first | refine guardK_split (fun h => ?_) (fun h => ?_) | refine gdrawK_split (fun h => ?_) (fun h => ?_) | refine condK_split (fun h => ?_) (fun h => ?_)) <;>
    (have h' := h; (try simp only [sx, Int.not_le, Int.not_lt, Bool.and_eq_true] at h'); (try simp only [sxh] at h); simp only [rx, reduceIte, zqa, zqb, zqc, zqd, zqe, zqf, zqg, zqh, zqi, zqj, zqk, zql, zqm, zqn, lim_call, *, goodsDo_r, isMe_r, stateRight_r, used_r, leq_r, labRight_r, viewSame_r, hdo, he, he', alive29, noState]))
    all_goals (rcases hd with hd | hd <;> simp_all)
end Go.Rx.Api

set_option linter.unusedSimpArgs false
set_option linter.unusedVariables false
set_option maxRecDepth 20000
namespace Go.Rx.Api
open Go.Rx
open Nat renaming reduceEqDiff → zqa, reduceAdd → zqb, reduceMul → zqc, reduceLeDiff → zqd, reduceBEq → zqe, reduceBNe → zqf, reduceSub → zqg, reduceLT → zqh
open Int renaming reduceLE → zqi, reduceLT → zqj, reduceToNat → zqk, reduceNeg → zql, reduceEq → zqm, reduceBEq → zqn
theorem goodsRests_law (vs : List V) (h : ArgVs [Realm.ty, State.ty, Me.ty, Deed.ty, Lab.ty] vs) : ∃ n m', callN prog n 1 vs m0 = some (.bool true, m') := by
  match vs, h with
  | [v1, v2, v3, v4, v5], ⟨⟨c1, t1, e1⟩, ⟨c2, t2, e2⟩, ⟨c3, t3, e3⟩, ⟨c4, t4, e4⟩, ⟨c5, t5, e5⟩, _⟩ =>
    obtain ⟨r, rfl, hr⟩ := Realm.of t1
    obtain ⟨s, rfl, hs⟩ := State.of t2
    obtain ⟨me, rfl, _⟩ := Me.of t3
    obtain ⟨x, rfl, _⟩ := Deed.of t4
    obtain ⟨a, rfl, _⟩ := Lab.of t5
    subst e1 e2 e3 e4 e5
    have hf := goodsRests_ok r s me x a hr hs m0
    obtain ⟨N, hN⟩ := (lim_run prog).1 hf
    exact ⟨N, m0, hN N (Nat.le_refl _)⟩
end Go.Rx.Api
