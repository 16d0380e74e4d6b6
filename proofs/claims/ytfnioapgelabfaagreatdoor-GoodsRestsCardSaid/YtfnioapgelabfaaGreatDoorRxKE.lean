/-
A part of the proof: lemmas on the machine that the printed functions run on, or contracts of functions.
-/
import Derived.Test.YtfnioapgelabfaaGreatDoorRxKD
set_option linter.unusedSimpArgs false
set_option linter.unusedVariables false
set_option maxRecDepth 20000
namespace Go.Rx
theorem cells_lt {m : Mem} {id st : Nat} {cs : List V} (h : m.cells id st = some cs) : id < m.bs.length := by
  unfold Mem.cells at h
  split at h
  · rename_i e
    exact (List.getElem?_eq_some_iff.1 e).1
  · cases h
theorem push_len (m : Mem) (c : List V) : (m.push c).bs.length = m.bs.length + 1 := by simp [Mem.push]
theorem push_gen (m : Mem) (c : List V) : (m.push c).gen = m.gen + 1 := rfl
theorem put_len (m : Mem) (id st : Nat) (c : List V) : (m.put id st c).bs.length = m.bs.length := by simp [Mem.put]
theorem put_gen (m : Mem) (id st : Nat) (c : List V) : (m.put id st c).gen = m.gen := rfl
theorem cells_push_new (m : Mem) (c : List V) : (m.push c).cells m.bs.length m.gen = some c := by
  simp [Mem.push, Mem.cells]
theorem cells_push_old {m : Mem} {c : List V} {id st : Nat} (h : id < m.bs.length) : (m.push c).cells id st = m.cells id st := by
  simp only [Mem.push, Mem.cells, List.getElem?_append_left h]
theorem cells_put_same {m : Mem} {id st : Nat} {c : List V} (h : id < m.bs.length) : (m.put id st c).cells id st = some c := by
  simp only [Mem.put, Mem.cells, List.getElem?_set_self h, if_true]
theorem cells_put_other {m : Mem} {id id' st st' : Nat} {c : List V} (h : id ≠ id') : (m.put id st c).cells id' st' = m.cells id' st' := by
  simp only [Mem.put, Mem.cells, List.getElem?_set_ne h]
def Mem.grow (m : Mem) (id : Nat) (c : List V) : Mem := { bs := m.bs.set id (some (.cells m.gen c)), gen := m.gen + 1 }
theorem grow_len (m : Mem) (id : Nat) (c : List V) : (m.grow id c).bs.length = m.bs.length := by simp [Mem.grow]
theorem cells_grow_same {m : Mem} {id : Nat} {c : List V} (h : id < m.bs.length) : (m.grow id c).cells id m.gen = some c := by
  simp only [Mem.grow, Mem.cells, List.getElem?_set_self h, if_true]
theorem cells_grow_other {m : Mem} {id id' st' : Nat} {c : List V} (h : id ≠ id') : (m.grow id c).cells id' st' = m.cells id' st' := by
  simp only [Mem.grow, Mem.cells, List.getElem?_set_ne h]
theorem append_first {m : Mem} {sz bytes : Nat} {e : List V} (he : e.length = sz) (hb : bytes ≤ wide) (h0 : 0 < bytes) : appendV m false sz bytes (.sl .nil []) (.sl .exnn [e]) = some (.msl m.bs.length m.gen sz 0 1 false, m.push e) := by
  have hfit : fitSz sz [e] = true := by simp [fitSz, he]
  have hn0 : fitSz sz [] = true := rfl
  have hb1 : 1 * bytes ≤ wide := by rw [Nat.one_mul]; exact hb
  simp only [appendV, elemsOf, Option.bind_some, hfit, if_true, List.nil_append, List.length_cons, List.length_nil, Nat.zero_add, if_false, SF.exact, hn0, Bool.false_eq_true, List.flatten_cons, List.flatten_nil, List.append_nil, h0, and_self, and_true, hb1, Nat.one_ne_zero]
theorem append_more {m : Mem} {sz bytes id st len : Nat} {ex : Bool} {e cs : List V} (hc : m.cells id st = some cs) (hl : len * sz = cs.length) (he : e.length = sz) (hb : (len + 1) * bytes ≤ wide) (h0 : 0 < bytes) : appendV m false sz bytes (.msl id st sz 0 len ex) (.sl .exnn [e]) = some (.msl id m.gen sz 0 (len + 1) false, m.grow id (cs ++ e)) := by
  have hfit : fitSz sz [e] = true := by simp [fitSz, he]
  simp only [appendV, elemsOf, Option.bind_some, hfit, if_true, hc, List.length_cons, List.length_nil, Nat.zero_add, if_false, Nat.one_ne_zero]
  rw [if_pos ⟨hb, h0⟩, if_pos ⟨trivial, hl⟩]
  simp only [List.flatten_cons, List.flatten_nil, List.append_nil, Mem.grow]
def Mem.dels (m : Mem) (D : List Nat) : Mem := { m with bs := m.bs.mapIdx fun i b => if D.contains i then none else b }
theorem cells_dels {m : Mem} {D : List Nat} {id st : Nat} : (m.dels D).cells id st = if D.contains id then none else m.cells id st := by
  simp only [Mem.dels, Mem.cells, List.getElem?_mapIdx]
  cases hb : m.bs[id]? with
  | none => simp
  | some b => cases hd : D.contains id <;> simp
def Mem.Le (m m' : Mem) : Prop := ∀ id st cs, m.cells id st = some cs → m'.cells id st = some cs
theorem Mem.Le.refl (m : Mem) : m.Le m := fun _ _ _ h => h
theorem Mem.Le.trans {a b c : Mem} (h : a.Le b) (k : b.Le c) : a.Le c := fun id st cs e => k id st cs (h id st cs e)
theorem allM_le {α β : Type} {f g : α → Option β} (h : ∀ a b, f a = some b → g a = some b) : ∀ {l : List α} {k : List β}, allM f l = some k → allM g l = some k
  | [], k, e => e
  | a :: l, k, e => by
    simp only [allM] at e ⊢
    cases hx : f a with
    | none => simp [hx] at e
    | some y =>
      cases hl : allM f l with
      | none => simp [hx, hl] at e
      | some ys =>
        simp only [hx, hl, Option.bind_some] at e
        simp only [h a y hx, allM_le h hl, Option.bind_some]; exact e
theorem frz_le {m m' : Mem} {b : Nat} (h : m.Le m') : ∀ (n : Nat) (v u : V), frz m b n v = some u → frz m' b n v = some u
  | 0, v, u, e => by cases e
  | n + 1, v, u, e => by
    have ih := frz_le (b := b) h n
    have ih1 := fun {l k : List V} => allM_le (l := l) (k := k) ih
    have ih2 := fun {l k : List (List V)} => allM_le (l := l) (k := k) (fun a b => allM_le (l := a) (k := b) ih)
    cases v <;> simp only [frz] at e ⊢ <;> try exact e
    case ptr id st off =>
      split at e
      · rename_i hl; rw [if_pos hl]; exact e
      · rename_i hl
        rw [if_neg hl]
        cases hc : m.cells id st with
        | none => simp [hc] at e
        | some cs =>
          rw [h id st cs hc]
          simp only [hc, Option.bind_some] at e ⊢
          cases hx : allM (frz m b n) cs with
          | none => simp [hx] at e
          | some ys => simp only [hx, Option.bind_some] at e; simp only [ih1 hx, Option.bind_some]; exact e
    case msl id st sz off len ex =>
      split at e
      · rename_i hl; rw [if_pos hl]; exact e
      · rename_i hl
        rw [if_neg hl]
        cases hc : m.cells id st with
        | none => simp [hc] at e
        | some cs =>
          rw [h id st cs hc]
          simp only [hc, Option.bind_some] at e ⊢
          split at e
          · rename_i ho
            rw [if_pos ho]
            cases hx : allM (allM (frz m b n)) (chunks sz len (cs.drop off)) with
            | none => simp [hx] at e
            | some ys => simp only [hx, Option.bind_some] at e; simp only [ih2 hx, Option.bind_some]; exact e
          · cases e
    case iptr cs off =>
      cases hx : allM (frz m b n) cs with
      | none => simp [hx] at e
      | some ys => simp only [hx, Option.bind_some] at e; simp only [ih1 hx, Option.bind_some]; exact e
    case sl f es =>
      cases hx : allM (allM (frz m b n)) es with
      | none => simp [hx] at e
      | some ys => simp only [hx, Option.bind_some] at e; simp only [ih2 hx, Option.bind_some]; exact e
    case agg cs =>
      cases hx : allM (frz m b n) cs with
      | none => simp [hx] at e
      | some ys => simp only [hx, Option.bind_some] at e; simp only [ih1 hx, Option.bind_some]; exact e
    case tup cs =>
      cases hx : allM (frz m b n) cs with
      | none => simp [hx] at e
      | some ys => simp only [hx, Option.bind_some] at e; simp only [ih1 hx, Option.bind_some]; exact e
    case fn p a c =>
      cases hx : allM (frz m b n) a with
      | none => simp [hx] at e
      | some ys =>
        cases hy : allM (frz m b n) c with
        | none => simp [hx, hy] at e
        | some zs => simp only [hx, hy, Option.bind_some] at e; simp only [ih1 hx, ih1 hy, Option.bind_some]; exact e
theorem allM_app {α β : Type} {f : α → Option β} : ∀ {l k : List α} {x y : List β}, allM f l = some x → allM f k = some y → allM f (l ++ k) = some (x ++ y)
  | [], k, x, y, h, h' => by cases h; exact h'
  | a :: l, k, x, y, h, h' => by
    simp only [allM] at h
    cases hx : f a with
    | none => simp [hx] at h
    | some b =>
      cases hl : allM f l with
      | none => simp [hx, hl] at h
      | some bs =>
        simp only [hx, hl, Option.bind_some, Option.some.injEq] at h
        subst h
        simp only [List.cons_append, allM, hx, allM_app hl h', Option.bind_some]
def Grown (N : Nat) (m : Mem) (D : List Nat) (v : V) (sz : Nat) (out : List (List V)) : Prop :=
  (out = [] ∧ v = .sl .nil []) ∨ ∃ (a sa : Nat) (rows : List (List V)), v = .msl a sa sz 0 out.length false ∧ a ∉ D ∧ m.cells a sa = some rows.flatten ∧ (∀ r ∈ rows, r.length = sz) ∧ rows.length = out.length ∧ allM (allM (frz (m.dels (a :: D)) 0 N)) rows = some out
theorem Grown.mono {N : Nat} {m m' : Mem} {D : List Nat} {v : V} {sz : Nat} {out : List (List V)} (h : Grown N m D v sz out) (k : ∀ id st cs, id ∉ D → m.cells id st = some cs → m'.cells id st = some cs) : Grown N m' D v sz out := by
  rcases h with h | ⟨a, sa, rows, hv, ha, hc, hr, hl, hz⟩
  · exact .inl h
  · refine .inr ⟨a, sa, rows, hv, ha, k a sa _ ha hc, hr, hl, ?_⟩
    refine allM_le (fun x y => allM_le fun p q => frz_le (fun id st cs e => ?_) N p q) hz
    rw [cells_dels] at e ⊢
    split at e
    · cases e
    · rename_i hd
      rw [if_neg hd]
      exact k id st cs (fun e => hd (by simp [e])) e
theorem Grown.append {N : Nat} {m : Mem} {D : List Nat} {v : V} {sz bytes : Nat} {out : List (List V)} {e e' : List V} (h : Grown N m D v sz out) (hD : ∀ d ∈ D, d < m.bs.length) (he : e.length = sz) (hb : (out.length + 1) * bytes ≤ wide) (h0 : 0 < bytes)
    (hz : ∀ a, (∀ sa rows, v = .msl a sa sz 0 out.length false → m.cells a sa = some rows → allM (frz (m.dels (a :: D)) 0 N) e = some e')) (hz0 : v = .sl .nil [] → allM (frz (m.dels D) 0 N) e = some e') :
    ∃ v' m', appendV m false sz bytes v (.sl .exnn [e]) = some (v', m') ∧ Grown N m' D v' sz (out ++ [e']) ∧ m.bs.length ≤ m'.bs.length ∧ (∀ d ∈ D, ∀ st, m'.cells d st = m.cells d st) := by
  rcases h with ⟨rfl, rfl⟩ | ⟨a, sa, rows, rfl, ha, hc, hr, hl, hzr⟩
  · refine ⟨_, _, append_first he (by simpa using hb) h0, .inr ⟨m.bs.length, m.gen, [e], rfl, fun hm => Nat.lt_irrefl _ (hD _ hm), by rw [cells_push_new]; simp, fun r hr => by rw [List.mem_singleton.1 hr]; exact he, rfl, ?_⟩, by rw [push_len]; omega, fun d hd st => cells_push_old (hD d hd)⟩
    have := hz0 rfl
    have h2 : allM (frz ((m.push e).dels (m.bs.length :: D)) 0 N) e = some e' := allM_le (fun p q => frz_le (fun id st cs hx => by
      rw [cells_dels] at hx ⊢
      split at hx
      · cases hx
      · rename_i hd
        have hlt := cells_lt hx
        rw [if_neg (by simp only [List.contains_cons, Bool.or_eq_true, beq_iff_eq, not_or]; exact ⟨by omega, hd⟩), cells_push_old hlt]; exact hx) N p q) this
    simp only [allM, h2, Option.bind_some, List.nil_append]
  · have hfl := flat_len hr
    have hlt := cells_lt hc
    refine ⟨_, _, append_more hc (by rw [hfl, hl]) he hb h0, .inr ⟨a, m.gen, rows ++ [e], by simp, ha, by rw [cells_grow_same hlt]; simp, fun r hx => ?_, by simp [hl], ?_⟩, by rw [grow_len]; omega, fun d hd st => cells_grow_other (fun e => ha (e ▸ hd))⟩
    · rcases List.mem_append.1 hx with hx | hx
      · exact hr r hx
      · rw [List.mem_singleton.1 hx]; exact he
    · have hz' := hz a sa _ rfl hc
      have hle : (m.dels (a :: D)).Le ((m.grow a (rows.flatten ++ e)).dels (a :: D)) := fun id st cs hx => by
        rw [cells_dels] at hx ⊢
        split at hx
        · cases hx
        · rename_i hd
          rw [if_neg hd]
          have hda : a ≠ id := fun e => hd (by simp [e])
          rw [cells_grow_other hda]; exact hx
      refine allM_app (allM_le (fun x y => allM_le fun p q => frz_le hle N p q) hzr) ?_
      simp only [allM, allM_le (frz_le hle N) hz', Option.bind_some]
theorem Grown.frz {N : Nat} {m : Mem} {D : List Nat} {v : V} {sz : Nat} {out : List (List V)} (h : Grown N m D v sz out) : frz m 0 (N + 1) v = some (.sl .any out) := by
  rcases h with ⟨rfl, rfl⟩ | ⟨a, sa, rows, rfl, ha, hc, hr, hl, hz⟩
  · rfl
  · have hfl := flat_len hr
    have hch := chunks_flat hr
    have hle : (m.dels (a :: D)).Le m := fun id st cs hx => by
      rw [cells_dels] at hx
      split at hx
      · cases hx
      · exact hx
    simp only [Go.Rx.frz]
    rw [if_neg (Nat.not_lt_zero _), hc]
    simp only [Option.bind_some, Nat.zero_add, hfl, hl, Nat.le_refl, if_true, List.drop_zero]
    rw [← hl, hch, allM_le (fun x y => allM_le fun p q => frz_le hle N p q) hz]
    rfl
end Go.Rx

set_option linter.unusedSimpArgs false
set_option linter.unusedVariables false
set_option maxRecDepth 20000
namespace Go.Rx.Api
open Go.Rx
open Nat renaming reduceEqDiff → zqa, reduceAdd → zqb, reduceMul → zqc, reduceLeDiff → zqd, reduceBEq → zqe, reduceBNe → zqf, reduceSub → zqg, reduceLT → zqh
open Int renaming reduceLE → zqi, reduceLT → zqj, reduceToNat → zqk, reduceNeg → zql, reduceEq → zqm, reduceBEq → zqn
theorem grown_lt {N : Nat} {m : Mem} {D : List Nat} {v : V} {sz : Nat} {out : List (List V)} (h : Grown N m D v sz out) {a sa : Nat} (e : v = .msl a sa sz 0 out.length false) : a < m.bs.length ∧ a ∉ D := by
  rcases h with ⟨_, hv⟩ | ⟨a', sa', rows, hv, ha, hc, _⟩
  · rw [e] at hv; cases hv
  · rw [e] at hv; cases hv; exact ⟨cells_lt hc, ha⟩
theorem rep_flat {α : Type} {f : α → List V} (n : Nat) (x : α) : (List.replicate n (f x)).flatten = ((List.replicate n x).map f).flatten := by rw [List.map_replicate]
def hallRow (r : Realm) (g : Guild) : List Int := (List.replicate r.accounts.length 0).set g.founder.toNat 2
def hallNew (r : Realm) : List (List Int) := if realmRight r = true then r.guilds.map (hallRow r) else []
theorem hallNew_ok (r : Realm) (hw : r.wf) (m : Mem) : fin 43 [.agg (r : Realm).cells] m = some (.sl .any ((hallNew r).map rcell), m) := by
  refine fn_of hall_New (by kernel_rfl) rfl rfl (by simp only [nx]) ?_ m; simp only [rx, reduceIte, zqa, zqb, zqc, zqd, zqe, zqf, zqg, zqh, zqi, zqj, zqk, zql, zqm, zqn, lim_call, hall_New, realmRight_r, hw, hallNew]
  refine condK_split (fun h => ?_) (fun h => ?_)
  · simp only [Bool.not_eq_true'] at h
    simp only [rx, reduceIte, zqa, zqb, zqc, zqd, zqe, zqf, zqg, zqh, zqi, zqj, zqk, zql, zqm, zqn, lim_call, h]
  · simp only [Bool.not_eq_false'] at h
    have ok := realmOk h
    have g8 := ok.guilds8
    have a8 := ok.accounts8
    simp only [rx, reduceIte, zqa, zqb, zqc, zqd, zqe, zqf, zqg, zqh, zqi, zqj, zqk, zql, zqm, zqn, lim_call, h]
    refine wpK_rangeI r.guilds.length (fun i T m => Grown 23 m [] (T 3) 1 (((r.guilds.take i).map (hallRow r)).map rcell) ∧ T 1 = .iptr r.cells 0 ∧ T 11 = .sl .any (r.guilds.map Guild.cells)) (by omega) (by decide) (by simp only [rx, reduceIte, zqa, zqb, zqc, zqd, zqe, zqf, zqg, zqh, zqi, zqj, zqk, zql, zqm, zqn, lim_call]) (by simp only [rx, reduceIte, zqa, zqb, zqc, zqd, zqe, zqf, zqg, zqh, zqi, zqj, zqk, zql, zqm, zqn, lim_call]) ⟨.inl ⟨rfl, by simp only [rx, reduceIte, zqa, zqb, zqc, zqd, zqe, zqf, zqg, zqh, zqi, zqj, zqk, zql, zqm, zqn, lim_call]⟩, by simp only [rx, reduceIte, zqa, zqb, zqc, zqd, zqe, zqf, zqg, zqh, zqi, zqj, zqk, zql, zqm, zqn, lim_call], by simp only [rx, reduceIte, zqa, zqb, zqc, zqd, zqe, zqf, zqg, zqh, zqi, zqj, zqk, zql, zqm, zqn, lim_call]⟩ ?_ ?_
    · rintro i hi T m ⟨hG, t1, t11⟩ hn hk
      simp only [celld] at t1
      generalize hv : T 3 = v at hG
      obtain ⟨f0, f1⟩ := ok.founder i (by omega) (by omega)
      have flt : (nth r.guilds i).founder.toNat < r.accounts.length := by omega
      have hw1 : (r.accounts.length : Int) * 8 ≤ (wide : Nat) := by unfold wide; omega
      have hw2 : (r.accounts.length : Int) ≤ (wide : Nat) := by unfold wide; omega
      have hrep : (List.replicate r.accounts.length [V.int .i64 0]).flatten = ((List.replicate r.accounts.length (0 : Int)).map icell).flatten := rep_flat (f := icell) _ _
      have hc1 := cells_push_new m ((List.replicate r.accounts.length (0 : Int)).map icell).flatten
      have hfl : ((List.replicate r.accounts.length (0 : Int)).map icell).flatten.length = r.accounts.length := by rw [flat_map_len (sz := 1) (fun _ => rfl)]; simp
      have hle : (nth r.guilds i).founder.toNat + 1 ≤ r.accounts.length := flt
      have hsp := splice_map (f := icell) (l := List.replicate r.accounts.length (0 : Int)) (i := (nth r.guilds i).founder.toNat) (sz := 1) 2 (fun _ => rfl) (by simpa using flt)
      simp only [icell_ce, Nat.mul_one] at hsp
      have hrow : (List.replicate r.accounts.length (0 : Int)).set (nth r.guilds i).founder.toNat 2 = hallRow r (nth r.guilds i) := rfl
      rw [hrow] at hsp
      have hrl : (hallRow r (nth r.guilds i)).length = r.accounts.length := by simp [hallRow]
      generalize hm2 : Mem.put (m.push ((List.replicate r.accounts.length (0 : Int)).map icell).flatten) m.bs.length m.gen ((hallRow r (nth r.guilds i)).map icell).flatten = m2
      have l2 : m2.bs.length = m.bs.length + 1 := by rw [← hm2, put_len, push_len]
      have hc2 : m2.cells m.bs.length m.gen = some ((hallRow r (nth r.guilds i)).map icell).flatten := by rw [← hm2, cells_put_same (by rw [push_len]; omega)]
      have hG2 : Grown 23 m2 [] v 1 (((r.guilds.take i).map (hallRow r)).map rcell) := hG.mono fun id st cs _ e => by
        have hlt := cells_lt e
        rw [← hm2, cells_put_other (by omega), cells_push_old hlt]; exact e
      have hzz : ∀ D, m.bs.length ∉ D → allM (frz (m2.dels D) 0 23) [V.msl m.bs.length m.gen 1 0 r.accounts.length true] = some [.sl .any ((hallRow r (nth r.guilds i)).map icell)] := fun D hD => by
        have hcd : (m2.dels D).cells m.bs.length m.gen = some ((hallRow r (nth r.guilds i)).map icell).flatten := by
          rw [cells_dels, if_neg (by simpa using hD)]; exact hc2
        have := frz_rows (f := icell) (l := hallRow r (nth r.guilds i)) (sz := 1) (n := 22) (b := 0) (ex := true) hcd (Nat.zero_le _) (fun _ => rfl) (fun _ => rfl)
        rw [hrl] at this
        simp only [allM, this, Option.bind_some]
      obtain ⟨v', m', ha, hG', _, _⟩ := hG2.append (bytes := 24) (fun d hd => by cases hd) (e := [V.msl m.bs.length m.gen 1 0 r.accounts.length true]) (e' := [.sl .any ((hallRow r (nth r.guilds i)).map icell)]) rfl (by rw [List.length_map, List.length_map, List.length_take]; unfold wide; omega) (by decide)
        (fun a sa rows e _ => hzz [a] (by simp only [List.mem_singleton]; have := (grown_lt hG e).1; omega)) (fun _ => hzz [] (by simp))
      have hts : ((r.guilds.take (i + 1)).map (hallRow r)).map rcell = ((r.guilds.take i).map (hallRow r)).map rcell ++ [[.sl .any ((hallRow r (nth r.guilds i)).map icell)]] := by
        rw [take_succ_nth hi, List.map_append, List.map_append]; rfl
      simp only [rx, reduceIte, zqa, zqb, zqc, zqd, zqe, zqf, zqg, zqh, zqi, zqj, zqk, zql, zqm, zqn, lim_call, push_len, push_gen, put_len, put_gen, cells_push_new, t1, t11, hv, hn, hk, hi, hw1, hw2, hrep, hc1, hfl, f0, flt, hle, hsp, hm2, ha, hts, celld]
      rw [← hts] at hG' ⊢
      exact hG'
    · rintro T m ⟨hG, t1, t11⟩ hn hk
      have := hG.frz
      rw [List.take_length] at this
      simp only [rx, reduceIte, zqa, zqb, zqc, zqd, zqe, zqf, zqg, zqh, zqi, zqj, zqk, zql, zqm, zqn, lim_call, push_len, push_gen, put_len, put_gen, cells_push_new, this]
theorem hallNew_r (r_labels : List Lab) (r_lines : List Int) (r_accounts : List Account) (r_guilds : List Guild) (r_quotas : List Quota) (r_orders : Int) (r_audits : Int) (r_rate : Int) (r_rounds : Int) (hw : (⟨r_labels, r_lines, r_accounts, r_guilds, r_quotas, r_orders, r_audits, r_rate, r_rounds⟩ : Realm).wf) (m : Mem) : fin 43 [.agg [.sl .any (r_labels.map Lab.cells), .sl .any (r_lines.map icell), .sl .any (r_accounts.map Account.cells), .sl .any (r_guilds.map Guild.cells), .sl .any (r_quotas.map Quota.cells), .int .i64 r_orders, .int .i64 r_audits, .int .i64 r_rate, .int .i64 r_rounds]] m = some (.sl .any ((hallNew (⟨r_labels, r_lines, r_accounts, r_guilds, r_quotas, r_orders, r_audits, r_rate, r_rounds⟩ : Realm)).map rcell), m) := hallNew_ok ⟨r_labels, r_lines, r_accounts, r_guilds, r_quotas, r_orders, r_audits, r_rate, r_rounds⟩ hw m
end Go.Rx.Api

set_option linter.unusedSimpArgs false
set_option linter.unusedVariables false
set_option maxRecDepth 20000
namespace Go.Rx.Api
open Go.Rx
open Nat renaming reduceEqDiff → zqa, reduceAdd → zqb, reduceMul → zqc, reduceLeDiff → zqd, reduceBEq → zqe, reduceBNe → zqf, reduceSub → zqg, reduceLT → zqh
open Int renaming reduceLE → zqi, reduceLT → zqj, reduceToNat → zqk, reduceNeg → zql, reduceEq → zqm, reduceBEq → zqn
theorem drawK_pend {prog : Nat → Option PF} {rest : List RO} {T : Tm} {m : Mem} {k t sz lo hi lo' hi' : Nat} {imm : Bool} {x : Opd} {past : List Mem} {due : List Due} :
    drawK prog (⟨some t, .pend sz, none, lo, hi⟩ :: ⟨some t, .init imm sz t x, none, lo', hi'⟩ :: rest) T m k past due = dstepK prog (stepOp (lim prog) (upd T t .undef) m (.init imm sz t x)) (!imm) false (some t) (.init imm sz t x) lo' hi' rest (upd T t .undef) m k past due := by
  unfold dstepK
  simp only [drawK, evDraw, wantedG, Option.bind_some, pendStep, List.filter, stepOp, updO, ROp.effect, ROp.reads, Bool.false_eq_true, if_false, List.contains_cons, beq_self_eq_true, Bool.true_or, Bool.and_self, if_true, bne_self_eq_false, dueK, pastK]
  cases (if (x.get (upd T t .undef)).cells.length = sz ∧ (x.get (upd T t .undef)).fits = true then (if imm = true then some (V.iptr (x.get (upd T t .undef)).cells 0, m) else some (V.ptr m.bs.length m.gen 0, m.push (x.get (upd T t .undef)).cells)) else none) with
  | none => rfl
  | some q =>
    obtain ⟨v, m'⟩ := q
    cases imm <;> simp
theorem frz_msl {m : Mem} {id st sz len n b : Nat} {ex : Bool} {rows out : List (List V)} (hc : m.cells id st = some rows.flatten) (hr : ∀ r ∈ rows, r.length = sz) (hl : rows.length = len) (hb : b ≤ id) (hz : allM (allM (frz m b n)) rows = some out) : frz m b (n + 1) (.msl id st sz 0 len ex) = some (.sl .any out) := by
  have hfl := flat_len hr
  have hch := chunks_flat hr
  simp only [frz]
  rw [if_neg (by omega), hc]
  simp only [Option.bind_some, Nat.zero_add, hfl, hl, Nat.le_refl, if_true, List.drop_zero]
  rw [← hl, hch, hz]
  rfl
theorem allM_range {α β : Type} {f : α → Option β} {g : Nat → α} {h : Nat → β} : ∀ {n : Nat}, (∀ k, k < n → f (g k) = some (h k)) → allM f ((List.range n).map g) = some ((List.range n).map h)
  | 0, _ => rfl
  | n + 1, hk => by
    rw [List.range_succ, List.map_append, List.map_append]
    exact allM_app (allM_range fun k hk' => hk k (by omega)) (by simp [allM, hk n (by omega)])
def noRoom : Room := ⟨false, ⟨#[]⟩⟩
def zero4 : Four := ⟨0, 0, 0, 0⟩
def freshShelf (r : Realm) (q : Quota) : Shelf := ⟨List.replicate q.rooms.toNat noRoom, List.replicate q.exits.toNat noExit, List.replicate q.items.toNat noItem, List.replicate q.mails.toNat noMail, List.replicate q.trades.toNat noTrade, List.replicate r.accounts.length zero4, List.replicate r.accounts.length ⟨0, 0⟩, zero4, zero4⟩
def shelfRef (r : Realm) (q : Quota) (id st : Nat) : List V := [.msl id st 2 0 q.rooms.toNat true, .sl .exnn ((List.replicate q.exits.toNat noExit).map Exit.cells), .sl .exnn ((List.replicate q.items.toNat noItem).map Item.cells), .sl .exnn ((List.replicate q.mails.toNat noMail).map Mail.cells), .sl .exnn ((List.replicate q.trades.toNat noTrade).map Trade.cells), .sl .exnn ((List.replicate r.accounts.length zero4).map Four.cells), .sl .exnn ((List.replicate r.accounts.length (⟨0, 0⟩ : Ref)).map Ref.cells), .int .u64 0, .int .u64 0, .int .u64 0, .int .u64 0, .int .u64 0, .int .u64 0, .int .u64 0, .int .u64 0]
def shelfMem (r : Realm) (q : Quota) (m : Mem) : Mem := ((m.push [.sl .nil [], .sl .nil [], .sl .nil [], .sl .nil [], .sl .nil [], .sl .nil [], .sl .nil [], .int .u64 0, .int .u64 0, .int .u64 0, .int .u64 0, .int .u64 0, .int .u64 0, .int .u64 0, .int .u64 0]).push ((List.replicate q.rooms.toNat noRoom).map Room.cells).flatten).put m.bs.length m.gen (shelfRef r q (m.bs.length + 1) (m.gen + 1))
theorem stateShelf_ok (r : Realm) (q : Quota) (m : Mem) (hq : quotaNums q = false) (ha : r.accounts.length ≤ 8) : fin 44 [.agg r.cells, .agg q.cells] m = some (.agg (shelfRef r q (m.bs.length + 1) (m.gen + 1)), shelfMem r q m) := by
  obtain ⟨⟨r0, r1⟩, ⟨e0, e1⟩, ⟨i0, i1⟩, ⟨m1, m2⟩, ⟨t0, t1⟩⟩ := quotaNums_le hq
  have w : ∀ (n b : Int), 0 ≤ n → n ≤ 12 → 0 ≤ b → b ≤ 80 → n * b ≤ (wide : Nat) := fun n b h0 h1 h2 h3 => by
    have := Int.mul_le_mul h1 h3 h2 (by omega)
    unfold wide; omega
  have w2 : ∀ (n : Int), n ≤ 12 → n ≤ (wide : Nat) := fun n h => by unfold wide; omega
  have a0 : (0 : Int) ≤ r.accounts.length := by omega
  have a1 : (r.accounts.length : Int) ≤ 12 := by omega
  have wr := w q.rooms 24 r0 r1 (by decide) (by decide)
  have we := w q.exits 48 e0 e1 (by decide) (by decide)
  have wi := w q.items 56 i0 i1 (by decide) (by decide)
  have wm := w q.mails 48 m1 m2 (by decide) (by decide)
  have wt := w q.trades 72 t0 t1 (by decide) (by decide)
  have wp := w r.accounts.length 32 a0 a1 (by decide) (by decide)
  have wpl := w r.accounts.length 16 a0 a1 (by decide) (by decide)
  have wr2 := w2 q.rooms r1
  have we2 := w2 q.exits e1
  have wi2 := w2 q.items i1
  have wm2 := w2 q.mails m2
  have wt2 := w2 q.trades t1
  have wa2 := w2 r.accounts.length a1
  have z : ∀ (l : List V), (m.push l).cells m.bs.length m.gen = some l := fun l => cells_push_new m l
  have z2 : ∀ (l k : List V), ((m.push l).push k).cells m.bs.length m.gen = some l := fun l k => by rw [cells_push_old (by rw [push_len]; omega), cells_push_new]
  have rep : ∀ {α : Type} (f : α → List V) (n : Nat) (x : α), List.replicate n (f x) = (List.replicate n x).map f := fun f n x => by rw [List.map_replicate]
  have p1 := rep Room.cells q.rooms.toNat noRoom
  have p2 := rep Exit.cells q.exits.toNat noExit
  have p3 := rep Item.cells q.items.toNat noItem
  have p4 := rep Mail.cells q.mails.toNat noMail
  have p5 := rep Trade.cells q.trades.toNat noTrade
  have p6 := rep Four.cells r.accounts.length zero4
  have p7 := rep Ref.cells r.accounts.length (⟨0, 0⟩ : Ref)
  simp only [celld, noRoom, noExit, noItem, noMail, noTrade, zero4] at p1 p2 p3 p4 p5 p6 p7
  clear rep w w2
  have lp : ∀ (m' : Mem) (l : List V), m.bs.length < m'.bs.length → (m'.put m.bs.length m.gen l).cells m.bs.length m.gen = some l := fun m' l h => cells_put_same h
  refine fn_raw state_shelf (by kernel_rfl) rfl (by rfl) ?_
  simp only [rx, reduceIte, zqa, zqb, zqc, zqd, zqe, zqf, zqg, zqh, zqi, zqj, zqk, zql, zqm, zqn, lim_call, push_len, push_gen, put_len, put_gen, cells_push_new, read_more, state_shelf, *]
  rw [lp _ _ (by rw [push_len, push_len]; omega)]
  simp only [rx, reduceIte, zqa, zqb, zqc, zqd, zqe, zqf, zqg, zqh, zqi, zqj, zqk, zql, zqm, zqn, lim_call, push_len, push_gen, put_len, put_gen, cells_push_new, read_more, *]
  simp only [shelfRef, shelfMem, noRoom, noExit, noItem, noMail, noTrade, zero4, and_self]
end Go.Rx.Api

set_option linter.unusedSimpArgs false
set_option linter.unusedVariables false
set_option maxRecDepth 20000
namespace Go.Rx.Api
open Go.Rx
open Nat renaming reduceEqDiff → zqa, reduceAdd → zqb, reduceMul → zqc, reduceLeDiff → zqd, reduceBEq → zqe, reduceBNe → zqf, reduceSub → zqg, reduceLT → zqh
open Int renaming reduceLE → zqi, reduceLT → zqj, reduceToNat → zqk, reduceNeg → zql, reduceEq → zqm, reduceBEq → zqn
def plaza : Room := ⟨true, ⟨#[112, 108, 97, 122, 97]⟩⟩
def newShelf (r : Realm) (k : Nat) : Shelf := if k = 0 then { freshShelf r (nth r.quotas 0) with rooms := (freshShelf r (nth r.quotas 0)).rooms.set 0 plaza } else freshShelf r (nth r.quotas k)
def noState : State := ⟨0, [], [], [], [], []⟩
def newState (r : Realm) : State := ⟨0, (List.range r.quotas.length).map (newShelf r), hallNew r, List.replicate r.orders.toNat noOrder, [], List.replicate r.lines.length (-1)⟩
def stateNew (r : Realm) : State × Int := if realmRight r = true then (newState r, 0) else (noState, 1)
def zeroCells : List V := [.int .u64 0, .sl .nil [], .sl .nil [], .sl .nil [], .sl .nil [], .sl .nil []]
def sCells (r : Realm) (sh ses : V) : List V := [.int .u64 0, sh, .sl .any ((hallNew r).map rcell), .sl .exnn ((List.replicate r.orders.toNat noOrder).map Order.cells), .sl .nil [], ses]
def rowsOf (r : Realm) (refs : List (Nat × Nat)) : List (List V) := (List.range refs.length).map fun k : Nat => shelfRef r (nth r.quotas k) (nth refs k).1 (nth refs k).2
theorem nth_app_lt {α : Type} [Inhabited α] {l k : List α} {i : Nat} (h : i < l.length) : nth (l ++ k) (i : Int) = nth l i := by
  unfold nth; rw [Int.toNat_natCast, List.getElem?_append_left h]
theorem nth_app_eq {α : Type} [Inhabited α] {l : List α} {x : α} {i : Nat} (h : i = l.length) : nth (l ++ [x]) (i : Int) = x := by
  subst h; unfold nth; rw [Int.toNat_natCast]; simp
theorem rowsOf_app (r : Realm) (refs : List (Nat × Nat)) (p : Nat × Nat) : rowsOf r (refs ++ [p]) = rowsOf r refs ++ [shelfRef r (nth r.quotas refs.length) p.1 p.2] := by
  unfold rowsOf
  rw [List.length_append, List.length_singleton, List.range_succ, List.map_append]
  congr 1
  · refine List.map_congr_left fun k hk => ?_
    rw [nth_app_lt (List.mem_range.1 hk)]
  · simp only [List.map_cons, List.map_nil]
    rw [nth_app_eq rfl]
theorem rowsOf_len (r : Realm) (refs : List (Nat × Nat)) : (rowsOf r refs).length = refs.length := by simp [rowsOf]
theorem rowsOf_sz (r : Realm) (refs : List (Nat × Nat)) : ∀ x ∈ rowsOf r refs, x.length = 15 := fun x hx => by
  obtain ⟨k, _, rfl⟩ := List.mem_map.1 hx; rfl
structure NewInv (r : Realm) (m : Mem) (sh : V) (refs : List (Nat × Nat)) : Prop where
  c0 : m.cells 0 0 = some zeroCells
  c1 : m.cells 1 1 = some (sCells r sh (.sl .nil []))
  sh : (refs = [] ∧ sh = .sl .nil []) ∨ ∃ a sa, sh = .msl a sa 15 0 refs.length false ∧ 2 ≤ a ∧ m.cells a sa = some (rowsOf r refs).flatten ∧ ∀ k : Nat, k < refs.length → (nth refs k).1 ≠ a
  each : ∀ k : Nat, k < refs.length → 2 ≤ (nth refs k).1 ∧ m.cells (nth refs k).1 (nth refs k).2 = some ((List.replicate (nth r.quotas k).rooms.toNat noRoom).map Room.cells).flatten
  apart : ∀ j k : Nat, j < k → k < refs.length → (nth refs j).1 ≠ (nth refs k).1
theorem shelfMem_len (r : Realm) (q : Quota) (m : Mem) : (shelfMem r q m).bs.length = m.bs.length + 2 := by rw [shelfMem, put_len, push_len, push_len]
theorem shelfMem_old {r : Realm} {q : Quota} {m : Mem} {id st : Nat} (h : id < m.bs.length) : (shelfMem r q m).cells id st = m.cells id st := by
  rw [shelfMem, cells_put_other (by omega), cells_push_old (by rw [push_len]; omega), cells_push_old h]
theorem shelfMem_new (r : Realm) (q : Quota) (m : Mem) : (shelfMem r q m).cells (m.bs.length + 1) (m.gen + 1) = some ((List.replicate q.rooms.toNat noRoom).map Room.cells).flatten := by
  rw [shelfMem, cells_put_other (by omega)]
  have := cells_push_new (m.push [.sl .nil [], .sl .nil [], .sl .nil [], .sl .nil [], .sl .nil [], .sl .nil [], .sl .nil [], .int .u64 0, .int .u64 0, .int .u64 0, .int .u64 0, .int .u64 0, .int .u64 0, .int .u64 0, .int .u64 0]) ((List.replicate q.rooms.toNat noRoom).map Room.cells).flatten
  rw [push_len, push_gen] at this
  exact this
theorem newStep {r : Realm} {m : Mem} {sh : V} {refs : List (Nat × Nat)} (h : NewInv r m sh refs) (hb : refs.length ≤ 8) :
    ∃ v' m2, appendV (shelfMem r (nth r.quotas refs.length) m) false 15 232 sh (.sl .exnn [shelfRef r (nth r.quotas refs.length) (m.bs.length + 1) (m.gen + 1)]) = some (v', m2) ∧ m2.cells 1 1 = some (sCells r sh (.sl .nil [])) ∧
      NewInv r (m2.put 1 1 (sCells r v' (.sl .nil []))) v' (refs ++ [(m.bs.length + 1, m.gen + 1)]) := by
  have l1 := cells_lt h.c1
  have l0 := cells_lt h.c0
  have ml := shelfMem_len r (nth r.quotas refs.length) m
  have hrow : (shelfRef r (nth r.quotas refs.length) (m.bs.length + 1) (m.gen + 1)).length = 15 := rfl
  have key : ∃ v' m2 a sa, appendV (shelfMem r (nth r.quotas refs.length) m) false 15 232 sh (.sl .exnn [shelfRef r (nth r.quotas refs.length) (m.bs.length + 1) (m.gen + 1)]) = some (v', m2) ∧ v' = .msl a sa 15 0 (refs.length + 1) false ∧ 2 ≤ a ∧ a ≠ m.bs.length + 1 ∧
      m2.cells a sa = some ((rowsOf r refs).flatten ++ shelfRef r (nth r.quotas refs.length) (m.bs.length + 1) (m.gen + 1)) ∧ (∀ id st, id ≠ a → id < m.bs.length + 2 → m2.cells id st = (shelfMem r (nth r.quotas refs.length) m).cells id st) ∧ (∀ k : Nat, k < refs.length → (nth refs k).1 ≠ a) ∧ m.bs.length + 2 ≤ m2.bs.length := by
    rcases h.sh with ⟨rfl, rfl⟩ | ⟨a, sa, rfl, ha2, hc, hne⟩
    · refine ⟨_, _, _, _, append_first hrow (by decide) (by decide), rfl, by rw [ml]; omega, by rw [ml]; omega, ?_, fun id st hid hlt => ?_, fun k hk => by simp at hk, by rw [push_len, ml]; omega⟩
      · rw [cells_push_new]; rfl
      · rw [cells_push_old (by rw [ml]; exact hlt)]
    · have hla := cells_lt hc
      have hc' : (shelfMem r (nth r.quotas refs.length) m).cells a sa = some (rowsOf r refs).flatten := by rw [shelfMem_old hla]; exact hc
      have hfl := flat_len (rowsOf_sz r refs)
      rw [rowsOf_len] at hfl
      refine ⟨_, _, _, _, append_more hc' hfl.symm hrow (by unfold wide; omega) (by decide), rfl, ha2, by omega, cells_grow_same (by rw [ml]; omega), fun id st hid hlt => cells_grow_other (fun e => hid e.symm), hne, by rw [grow_len, ml]; omega⟩
  obtain ⟨v', m2, a, sa, hap, rfl, ha2, hane, hca, hold, hne, hlen⟩ := key
  refine ⟨_, m2, hap, by rw [hold 1 1 (by omega) (by omega), shelfMem_old l1]; exact h.c1, ?_⟩
  have pl : (1 : Nat) < m2.bs.length := by omega
  refine ⟨?_, cells_put_same pl, .inr ⟨a, sa, by rw [List.length_append]; rfl, ha2, ?_, fun k hk => ?_⟩, fun k hk => ?_, fun j k hjk hk => ?_⟩
  · rw [cells_put_other (by decide), hold 0 0 (by omega) (by omega), shelfMem_old l0]; exact h.c0
  · rw [cells_put_other (by omega), hca, rowsOf_app, List.flatten_append]; simp
  · rw [List.length_append, List.length_singleton] at hk
    rcases Nat.lt_or_ge k refs.length with hlt | hge
    · rw [nth_app_lt hlt]; exact hne k hlt
    · rw [nth_app_eq (by omega)]; exact hane.symm
  · rw [List.length_append, List.length_singleton] at hk
    rcases Nat.lt_or_ge k refs.length with hlt | hge
    · rw [nth_app_lt hlt]
      obtain ⟨e1, e2⟩ := h.each k hlt
      have := cells_lt e2
      refine ⟨e1, ?_⟩
      rw [cells_put_other (by omega), hold _ _ (hne k hlt) (by omega), shelfMem_old this]; exact e2
    · have : k = refs.length := by omega
      subst this
      rw [nth_app_eq rfl]
      refine ⟨by show 2 ≤ m.bs.length + 1; omega, ?_⟩
      show Mem.cells _ (m.bs.length + 1) (m.gen + 1) = _
      rw [cells_put_other (by omega), hold _ _ hane.symm (by omega), shelfMem_new]
  · rw [List.length_append, List.length_singleton] at hk
    rcases Nat.lt_or_ge k refs.length with hlt | hge
    · rw [nth_app_lt hlt, nth_app_lt (by omega)]; exact h.apart j k hjk hlt
    · rw [nth_app_lt (show j < refs.length by omega), nth_app_eq (show k = refs.length by omega)]
      have := cells_lt (h.each j (by omega)).2
      show _ ≠ m.bs.length + 1
      omega
theorem frz_shelf {r : Realm} {q : Quota} {m : Mem} {id st n : Nat} {rooms : List Room} (hc : m.cells id st = some (rooms.map Room.cells).flatten) (hl : rooms.length = q.rooms.toNat) :
    allM (frz m 0 (n + 4)) (shelfRef r q id st) = some (Shelf.cells { freshShelf r q with rooms := rooms }) := by
  have h1 := frz_rows (f := Room.cells) (l := rooms) (sz := 2) (n := n + 3) (b := 0) (ex := true) hc (Nat.zero_le _) (fun _ => rfl) (fun _ => rfl)
  rw [hl] at h1
  simp only [shelfRef, allM, h1, frzs, frz_r, Option.bind_some]
  rfl
theorem frz_new {r : Realm} {m : Mem} {a sa n : Nat} {refs : List (Nat × Nat)} (hr : refs.length = r.quotas.length) (hc : m.cells a sa = some (rowsOf r refs).flatten)
    (hk : ∀ k : Nat, k < refs.length → m.cells (nth refs k).1 (nth refs k).2 = some ((newShelf r k).rooms.map Room.cells).flatten) : frz m 0 (n + 5) (.msl a sa 15 0 refs.length false) = some (.sl .any ((newState r).shelves.map Shelf.cells)) := by
  refine frz_msl hc (rowsOf_sz r refs) (rowsOf_len r refs) (Nat.zero_le _) ?_
  unfold rowsOf newState
  rw [List.map_map, hr]
  refine allM_range fun k hk2 => ?_
  have hrooms : (newShelf r k).rooms.length = (nth r.quotas k).rooms.toNat := by
    unfold newShelf
    by_cases h0 : k = 0
    · subst h0; simp [freshShelf]
    · rw [if_neg h0]; simp [freshShelf]
  have := frz_shelf (r := r) (q := nth r.quotas k) (n := n) (hk k (by omega)) hrooms
  rw [this]
  congr 1
  show _ = Shelf.cells (newShelf r k)
  unfold newShelf
  by_cases h0 : k = 0
  · subst h0; rfl
  · rw [if_neg h0]
set_option maxHeartbeats 1600000 in
theorem stateNew_ok (r : Realm) (hw : r.wf) (m : Mem) : fin 21 [.agg (r : Realm).cells] m = some (.tup [.agg ((stateNew r).1 : State).cells, .int .i64 ((stateNew r).2)], m) := by
  have hH := hallNew_ok r hw
  simp only [celld] at hH
  refine fn_of state_New (by kernel_rfl) rfl rfl (by simp only [nx]) ?_ m; simp only [rx, reduceIte, zqa, zqb, zqc, zqd, zqe, zqf, zqg, zqh, zqi, zqj, zqk, zql, zqm, zqn, lim_call, state_New, realmRight_r, hallNew_r, hw, stateNew, noState]
  refine condK_split (fun h => ?_) (fun h => ?_)
  · simp only [Bool.not_eq_true'] at h
    simp only [rx, reduceIte, zqa, zqb, zqc, zqd, zqe, zqf, zqg, zqh, zqi, zqj, zqk, zql, zqm, zqn, lim_call, h]
  · simp only [Bool.not_eq_false'] at h
    have ok := realmOk h
    have q8 := ok.labels8
    have qe := ok.quotas
    obtain ⟨o0, o1⟩ := ok.orders
    have ow1 : r.orders * 80 ≤ (wide : Nat) := by unfold wide; omega
    have ow2 : r.orders ≤ (wide : Nat) := by unfold wide; omega
    have po : List.replicate r.orders.toNat (Order.cells noOrder) = (List.replicate r.orders.toNat noOrder).map Order.cells := by rw [List.map_replicate]
    simp only [celld, noOrder] at po
    simp only [rx, reduceIte, zqa, zqb, zqc, zqd, zqe, zqf, zqg, zqh, zqi, zqj, zqk, zql, zqm, zqn, lim_call, drawK_pend, read_more, h, hH, o0, ow1, ow2, po]
    refine wpK_rangeI r.quotas.length (fun i T m => (∃ sh refs, refs.length = i ∧ NewInv r m sh refs) ∧ T 1 = .iptr r.cells 0 ∧ T 2 = .ptr 0 0 0 ∧ T 4 = .ptr 1 1 0 ∧ T 18 = .sl .any (r.quotas.map Quota.cells)) (by omega) (by decide) (by simp only [rx, reduceIte, zqa, zqb, zqc, zqd, zqe, zqf, zqg, zqh, zqi, zqj, zqk, zql, zqm, zqn, lim_call]) (by simp only [rx, reduceIte, zqa, zqb, zqc, zqd, zqe, zqf, zqg, zqh, zqi, zqj, zqk, zql, zqm, zqn, lim_call]) ⟨⟨.sl .nil [], [], rfl, rfl, rfl, .inl ⟨rfl, rfl⟩, fun k hk => by simp at hk, fun j k _ hk => by simp at hk⟩, by simp only [rx, reduceIte, zqa, zqb, zqc, zqd, zqe, zqf, zqg, zqh, zqi, zqj, zqk, zql, zqm, zqn, lim_call], by simp only [rx, reduceIte, zqa, zqb, zqc, zqd, zqe, zqf, zqg, zqh, zqi, zqj, zqk, zql, zqm, zqn, lim_call], by simp only [rx, reduceIte, zqa, zqb, zqc, zqd, zqe, zqf, zqg, zqh, zqi, zqj, zqk, zql, zqm, zqn, lim_call], by simp only [rx, reduceIte, zqa, zqb, zqc, zqd, zqe, zqf, zqg, zqh, zqi, zqj, zqk, zql, zqm, zqn, lim_call]⟩ ?_ ?_
    · rintro i hi T m ⟨⟨sh, refs, rfl, hN⟩, t1, t2, t4, t18⟩ hn hk
      simp only [celld] at t1
      obtain ⟨v', m2, hap, hc2, hN'⟩ := newStep hN (by omega)
      have hq := ok.quota refs.length (by omega) (by omega)
      have hsh := stateShelf_ok r (nth r.quotas refs.length) m hq ok.accounts8
      simp only [celld] at hsh
      have hc1 := hN.c1
      have l1 := cells_lt hc1
      have hc1' : (shelfMem r (nth r.quotas refs.length) m).cells 1 1 = some (sCells r sh (.sl .nil [])) := by rw [shelfMem_old l1]; exact hc1
      have hrow : (shelfRef r (nth r.quotas refs.length) (m.bs.length + 1) (m.gen + 1)).length = 15 := rfl
      have hsp : splice [V.sl SF.nil [], V.sl SF.nil [], V.sl SF.nil [], V.sl SF.nil [], V.sl SF.nil [], V.sl SF.nil [], V.sl SF.nil [], V.int .u64 0, V.int .u64 0, V.int .u64 0, V.int .u64 0, V.int .u64 0, V.int .u64 0, V.int .u64 0, V.int .u64 0] 0 (shelfRef r (nth r.quotas refs.length) (m.bs.length + 1) (m.gen + 1)) = shelfRef r (nth r.quotas refs.length) (m.bs.length + 1) (m.gen + 1) := rfl
      have htk : (shelfRef r (nth r.quotas refs.length) (m.bs.length + 1) (m.gen + 1)).take 15 = shelfRef r (nth r.quotas refs.length) (m.bs.length + 1) (m.gen + 1) := rfl
      have hg1 : (sCells r sh (.sl .nil []))[1]? = some sh := rfl
      have hl1 : (sCells r sh (.sl .nil [])).length = 6 := rfl
      have hf : v'.fits = true := by
        rcases hN'.sh with ⟨e, _⟩ | ⟨a, sa, rfl, _⟩
        · simp at e
        · rfl
      have hcs : v'.cells = [v'] := by
        rcases hN'.sh with ⟨e, _⟩ | ⟨a, sa, rfl, _⟩
        · simp at e
        · rfl
      have hsp2 : splice (sCells r sh (.sl .nil [])) 1 [v'] = sCells r v' (.sl .nil []) := rfl
      simp only [rx, reduceIte, zqa, zqb, zqc, zqd, zqe, zqf, zqg, zqh, zqi, zqj, zqk, zql, zqm, zqn, lim_call, push_len, push_gen, put_len, put_gen, cells_push_new, read_more, t1, t2, t4, t18, hn, hk, hi, hc1, hc1', hc2, hsh, hrow, hsp, htk, hap, hg1, hl1, hf, hcs, hsp2, celld]
      exact ⟨_, _, by simp, hN'⟩
    · rintro T m ⟨⟨sh, refs, hrl, hN⟩, t1, t2, t4, t18⟩ hn hk
      simp only [celld] at t1
      have hq0 : 0 < refs.length := by have := ok.labels1; omega
      have hc1 := hN.c1
      have l1 := cells_lt hc1
      rcases hN.sh with ⟨e, _⟩ | ⟨a, sa, rfl, ha2, hca, hne⟩
      · rw [e] at hq0; simp at hq0
      obtain ⟨p2, hc0⟩ := hN.each 0 hq0
      have hla := cells_lt hca
      have hidlt := cells_lt hc0
      have hR : 0 < (nth r.quotas 0).rooms.toNat := by have := ok.rooms0; omega
      have hrows0 : (rowsOf r refs)[0]? = some (shelfRef r (nth r.quotas 0) (nth refs 0).1 (nth refs 0).2) := by
        unfold rowsOf; rw [List.getElem?_map, List.getElem?_range hq0]; rfl
      have h00 : (rowsOf r refs).flatten[0]? = some (V.msl (nth refs 0).1 (nth refs 0).2 2 0 (nth r.quotas 0).rooms.toNat true) := by
        have := flat_at (sz := 15) (rowsOf_sz r refs) hrows0
        rw [Nat.zero_mul, List.drop_zero] at this
        have h2 := congrArg (fun l => l[0]?) this
        simp only [List.getElem?_take] at h2
        exact h2
      have hfl : (rowsOf r refs).flatten.length = refs.length * 15 := by rw [flat_len (rowsOf_sz r refs), rowsOf_len]
      have h1le : 1 ≤ refs.length * 15 := by omega
      have hg1 : (sCells r (V.msl a sa 15 0 refs.length false) (.sl .nil []))[1]? = some (V.msl a sa 15 0 refs.length false) := rfl
      have hl1 : ∀ sh ses, (sCells r sh ses).length = 6 := fun _ _ => rfl
      have hfr : ((List.replicate (nth r.quotas 0).rooms.toNat noRoom).map Room.cells).flatten.length = (nth r.quotas 0).rooms.toNat * 2 := by rw [flat_map_len (sz := 2) (fun _ => rfl)]; simp
      have h2le : 2 ≤ (nth r.quotas 0).rooms.toNat * 2 := by omega
      have hsp := splice_map (f := Room.cells) (l := List.replicate (nth r.quotas 0).rooms.toNat noRoom) (i := 0) (sz := 2) plaza (fun _ => rfl) (by simpa using hR)
      have hpl : Room.cells plaza = [.bool true, .str ⟨#[112, 108, 97, 122, 97]⟩] := rfl
      rw [hpl, Nat.zero_mul] at hsp
      have hns : (newShelf r 0).rooms = (List.replicate (nth r.quotas 0).rooms.toNat noRoom).set 0 plaza := rfl
      rw [← hns] at hsp
      simp only [Int.natCast_zero] at hc0 p2 hidlt
      have q0 : (nth refs 0).1 ≠ a := hne 0 hq0
      simp only [rx, reduceIte, zqa, zqb, zqc, zqd, zqe, zqf, zqg, zqh, zqi, zqj, zqk, zql, zqm, zqn, lim_call, push_len, push_gen, put_len, put_gen, cells_push_new, t1, t2, t4, t18, hc1, hca, h00, hfl, h1le, hg1, hl1, hq0, hR, hc0, hfr, h2le, hsp]
      generalize hm1 : m.put (nth refs 0).1 (nth refs 0).2 ((newShelf r 0).rooms.map Room.cells).flatten = m1
      have e0 : m1.cells 0 0 = some zeroCells := by rw [← hm1, cells_put_other (by omega)]; exact hN.c0
      have e1 : m1.cells 1 1 = some (sCells r (V.msl a sa 15 0 refs.length false) (.sl .nil [])) := by rw [← hm1, cells_put_other (by omega)]; exact hc1
      have ea : m1.cells a sa = some (rowsOf r refs).flatten := by rw [← hm1, cells_put_other q0]; exact hca
      have ek : ∀ k : Nat, k < refs.length → m1.cells (nth refs k).1 (nth refs k).2 = some ((newShelf r k).rooms.map Room.cells).flatten := fun k hk2 => by
        by_cases hk0 : k = 0
        · subst hk0; rw [← hm1]; exact cells_put_same hidlt
        · rw [← hm1, cells_put_other (show (nth refs 0).1 ≠ (nth refs k).1 from hN.apart 0 k (by omega) hk2), (hN.each k hk2).2]
          unfold newShelf; rw [if_neg hk0]; rfl
      generalize hsh : V.msl a sa 15 0 refs.length false = sh at *
      have hD : ∀ d ∈ (0 :: 1 :: a :: refs.map Prod.fst), d < m1.bs.length := fun d hd => by
        simp only [List.mem_cons] at hd
        rcases hd with rfl | rfl | rfl | hd
        · exact cells_lt e0
        · exact cells_lt e1
        · exact cells_lt ea
        · obtain ⟨p, hp, rfl⟩ := List.mem_map.1 hd
          obtain ⟨k, hk2, rfl⟩ := mem_nth hp
          exact cells_lt (ek k hk2)
      generalize hDD : (0 :: 1 :: a :: refs.map Prod.fst) = D at hD
      have d1 : 1 ∈ D := by rw [← hDD]; simp
      have d0 : 0 ∈ D := by rw [← hDD]; simp
      have l8 := ok.lines8
      refine wpK_rangeI r.lines.length (fun i T m => (∃ ses, m.cells 1 1 = some (sCells r sh ses) ∧ Grown 21 m D ses 1 ((List.replicate i (-1)).map icell) ∧ (∀ d ∈ D, d ≠ 1 → ∀ st, m.cells d st = m1.cells d st) ∧ m1.bs.length ≤ m.bs.length) ∧ T 2 = .ptr 0 0 0 ∧ T 4 = .ptr 1 1 0) (by omega) (by decide) (by simp only [rx, reduceIte, zqa, zqb, zqc, zqd, zqe, zqf, zqg, zqh, zqi, zqj, zqk, zql, zqm, zqn, lim_call]) (by simp only [rx, reduceIte, zqa, zqb, zqc, zqd, zqe, zqf, zqg, zqh, zqi, zqj, zqk, zql, zqm, zqn, lim_call]) ⟨⟨.sl .nil [], e1, .inl ⟨rfl, rfl⟩, fun _ _ _ _ => rfl, Nat.le_refl _⟩, by simp only [rx, reduceIte, zqa, zqb, zqc, zqd, zqe, zqf, zqg, zqh, zqi, zqj, zqk, zql, zqm, zqn, lim_call, t2], by simp only [rx, reduceIte, zqa, zqb, zqc, zqd, zqe, zqf, zqg, zqh, zqi, zqj, zqk, zql, zqm, zqn, lim_call, t4]⟩ ?_ ?_
      · rintro i hi T2 m3 ⟨⟨ses, f1, fG, fD, flen⟩, u2, u4⟩ hn2 hk2
        obtain ⟨v', m4, hap, hG', hlen, hold⟩ := fG.append (bytes := 8) (e := [.int .i64 (-1)]) (e' := [.int .i64 (-1)]) (fun d hd => Nat.lt_of_lt_of_le (hD d hd) flen) rfl (by rw [List.length_map, List.length_replicate]; unfold wide; omega) (by decide) (fun _ _ _ _ _ => rfl) (fun _ => rfl)
        have g1 : m4.cells 1 1 = some (sCells r sh ses) := by rw [hold 1 d1]; exact f1
        have l41 := cells_lt g1
        have hg5 : (sCells r sh ses)[5]? = some ses := rfl
        have hf : v'.fits = true ∧ v'.cells = [v'] := by
          rcases hG' with ⟨_, rfl⟩ | ⟨_, _, _, rfl, _⟩ <;> exact ⟨rfl, rfl⟩
        obtain ⟨hf1, hf2⟩ := hf
        have hsp2 : splice (sCells r sh ses) 5 [v'] = sCells r sh v' := rfl
        have hrep : (List.replicate (i + 1) (-1 : Int)).map icell = (List.replicate i (-1 : Int)).map icell ++ [[.int .i64 (-1)]] := by rw [List.replicate_succ', List.map_append]; rfl
        simp only [rx, reduceIte, zqa, zqb, zqc, zqd, zqe, zqf, zqg, zqh, zqi, zqj, zqk, zql, zqm, zqn, lim_call, push_len, push_gen, put_len, put_gen, cells_push_new, read_more, u2, u4, hn2, hk2, f1, g1, hl1, hg5, hap, hf1, hf2, hsp2]
        refine ⟨v', cells_put_same l41, ?_, fun d hd hd1 st => ?_, by omega⟩
        · have hrep' : [V.int .i64 (-1)] :: (List.replicate i (-1 : Int)).map icell = (List.replicate i (-1 : Int)).map icell ++ [[.int .i64 (-1)]] := by rw [← hrep]; rfl
          rw [hrep']
          exact hG'.mono fun id st cs hid e => by
            rw [cells_put_other (show (1 : Nat) ≠ id from fun hh => hid (hh ▸ d1))]; exact e
        · rw [cells_put_other (fun e1 => hd1 e1.symm), hold d hd, fD d hd hd1]
      · rintro T2 m3 ⟨⟨ses, f1, fG, fD, flen⟩, u2, u4⟩ hn2 hk2
        have f0 : m3.cells 0 0 = some zeroCells := by rw [fD 0 d0 (by decide)]; exact e0
        have l30 := cells_lt f0
        have hz6 : zeroCells.length = 6 := rfl
        have hdr : (sCells r sh ses).take 6 = sCells r sh ses := rfl
        have hsp3 : splice zeroCells 0 (sCells r sh ses) = sCells r sh ses := rfl
        have g0 : (m3.put 0 0 (sCells r sh ses)).cells 0 0 = some (sCells r sh ses) := cells_put_same l30
        have hses : frz (m3.put 0 0 (sCells r sh ses)) 0 22 ses = some (.sl .any ((List.replicate r.lines.length (-1)).map icell)) := (fG.mono fun id st cs hid e => by
          rw [cells_put_other (show (0 : Nat) ≠ id from fun hh => hid (hh ▸ d0))]; exact e).frz
        have hshf : frz (m3.put 0 0 (sCells r sh ses)) 0 22 sh = some (.sl .any ((newState r).shelves.map Shelf.cells)) := by
          rw [← hsh]
          refine frz_new (n := 17) hrl ?_ fun k hk3 => ?_
          · rw [cells_put_other (by omega), fD a (by rw [← hDD]; simp) (by omega)]; exact ea
          · have hkm : (nth refs k).1 ∈ D := by rw [← hDD]; simp only [List.mem_cons]; exact .inr (.inr (.inr (List.mem_map.2 ⟨_, nth_mem (Int.natCast_nonneg k) (by omega), rfl⟩)))
            have hk2' := (hN.each k hk3).1
            rw [cells_put_other (by omega), fD _ hkm (by omega)]; exact ek k hk3
        simp only [rx, reduceIte, zqa, zqb, zqc, zqd, zqe, zqf, zqg, zqh, zqi, zqj, zqk, zql, zqm, zqn, lim_call, push_len, push_gen, put_len, put_gen, cells_push_new, u2, u4, f1, f0, hl1, hz6, hdr, hsp3, g0]
        simp only [sCells] at hses hshf
        simp only [sCells, rx, reduceIte, zqa, zqb, zqc, zqd, zqe, zqf, zqg, zqh, zqi, zqj, zqk, zql, zqm, zqn, lim_call, push_len, push_gen, put_len, put_gen, cells_push_new, hses, hshf, newState]
theorem stateNew_r (r_labels : List Lab) (r_lines : List Int) (r_accounts : List Account) (r_guilds : List Guild) (r_quotas : List Quota) (r_orders : Int) (r_audits : Int) (r_rate : Int) (r_rounds : Int) (hw : (⟨r_labels, r_lines, r_accounts, r_guilds, r_quotas, r_orders, r_audits, r_rate, r_rounds⟩ : Realm).wf) (m : Mem) : fin 21 [.agg [.sl .any (r_labels.map Lab.cells), .sl .any (r_lines.map icell), .sl .any (r_accounts.map Account.cells), .sl .any (r_guilds.map Guild.cells), .sl .any (r_quotas.map Quota.cells), .int .i64 r_orders, .int .i64 r_audits, .int .i64 r_rate, .int .i64 r_rounds]] m = some (.tup [.agg ((stateNew (⟨r_labels, r_lines, r_accounts, r_guilds, r_quotas, r_orders, r_audits, r_rate, r_rounds⟩ : Realm)).1 : State).cells, .int .i64 ((stateNew (⟨r_labels, r_lines, r_accounts, r_guilds, r_quotas, r_orders, r_audits, r_rate, r_rounds⟩ : Realm)).2)], m) := stateNew_ok ⟨r_labels, r_lines, r_accounts, r_guilds, r_quotas, r_orders, r_audits, r_rate, r_rounds⟩ hw m
end Go.Rx.Api

set_option linter.unusedSimpArgs false
set_option linter.unusedVariables false
set_option maxRecDepth 20000
namespace Go.Rx.Api
open Go.Rx
open Nat renaming reduceEqDiff → zqa, reduceAdd → zqb, reduceMul → zqc, reduceLeDiff → zqd, reduceBEq → zqe, reduceBNe → zqf, reduceSub → zqg, reduceLT → zqh
open Int renaming reduceLE → zqi, reduceLT → zqj, reduceToNat → zqk, reduceNeg → zql, reduceEq → zqm, reduceBEq → zqn
theorem put_same {m : Mem} {id st : Nat} {cs : List V} (h : m.cells id st = some cs) : m.put id st cs = m := by
  have hlt := cells_lt h
  unfold Mem.cells at h
  split at h
  · rename_i s c e
    split at h
    · rename_i hs
      cases h
      obtain ⟨bs, g⟩ := m
      simp only [Mem.put, Mem.mk.injEq, and_true]
      simp only at e hlt
      subst hs
      rw [List.getElem?_eq_some_iff] at e
      obtain ⟨h1, h2⟩ := e
      rw [← h2, List.set_getElem_self]
    · cases h
  · cases h
def Pre (m m' : Mem) : Prop := m.bs.length ≤ m'.bs.length ∧ m'.bs.take m.bs.length = m.bs
theorem Pre.refl (m : Mem) : Pre m m := ⟨Nat.le_refl _, List.take_length⟩
theorem Pre.push {m m' : Mem} (h : Pre m m') (c : List V) : Pre m (m'.push c) := ⟨by rw [push_len]; have := h.1; omega, by simp only [Mem.push]; rw [List.take_append_of_le_length h.1]; exact h.2⟩
theorem Pre.put {m m' : Mem} (h : Pre m m') {id : Nat} (st : Nat) (c : List V) (hi : m.bs.length ≤ id) : Pre m (m'.put id st c) := ⟨by rw [put_len]; exact h.1, by simp only [Mem.put]; rw [List.take_set_of_le hi, h.2]⟩
theorem Pre.cells {m m' : Mem} (h : Pre m m') {id st : Nat} (hi : id < m.bs.length) : m'.cells id st = m.cells id st := by
  unfold Mem.cells
  have : m'.bs[id]? = m.bs[id]? := by rw [← h.2, List.getElem?_take, if_pos hi]
  rw [this]
theorem Pre.trans {a b c : Mem} (h : Pre a b) (k : Pre b c) : Pre a c := ⟨Nat.le_trans h.1 k.1, by
  rw [← h.2]
  conv => rhs; rw [← k.2]
  rw [List.take_take, Nat.min_eq_left h.1]
  rw [h.2]⟩
theorem rawClone_Ranks (l : List (List Int)) (m : Mem) (hne : l ≠ []) (hl : l.length ≤ 4096) : fin 269 [.sl .any (l.map rcell)] m = some (.msl m.bs.length m.gen 1 0 l.length false, m.push (l.map rcell).flatten) := by
  have hne' : l.map rcell ≠ [] := fun h => hne (List.map_eq_nil_iff.1 h)
  have he : emptyFirst [.sl .any (l.map rcell)] = false := by cases l with | nil => exact (hne rfl).elim | cons a l => rfl
  refine fn_raw slices_Clone_int_int_raw (by kernel_rfl) rfl (by rw [he]; rfl) ?_
  have h1 := append_rows (m := m) (fl := .any) (fit_rcell l) hne' (bytes := 24) (by rw [List.length_map]; unfold wide; omega) (by decide)
  simp only [rx, reduceIte, zqa, zqb, zqc, zqd, zqe, zqf, zqg, zqh, zqi, zqj, zqk, zql, zqm, zqn, lim_call, slices_Clone_int_int_raw, eqK_rows hne', h1]
theorem rawCloneNil_Ranks (m : Mem) : fin 269 [.sl .any []] m = some (.sl .any [], m) := by
  obtain ⟨v1, m1, h1, e1⟩ := body_run (prog := prog) (f := slices_Clone_int_int_raw) (args := [.sl .nil []]) (m := m0) (R := fun v0 m => frz m 0 depth v0 = some (.sl .any [])) (body_K (by simp only [rx, reduceIte, zqa, zqb, zqc, zqd, zqe, zqf, zqg, zqh, zqi, zqj, zqk, zql, zqm, zqn, lim_call, slices_Clone_int_int_raw]))
  obtain ⟨v2, m2, h2, e2⟩ := body_run (prog := prog) (f := slices_Clone_int_int_raw) (args := [.sl .nn []]) (m := m0) (R := fun v0 m => frz m 0 depth v0 = some (.sl .any [])) (body_K (by simp only [rx, reduceIte, zqa, zqb, zqc, zqd, zqe, zqf, zqg, zqh, zqi, zqj, zqk, zql, zqm, zqn, lim_call, slices_Clone_int_int_raw, append_none]))
  refine (lim_run prog).2 (Ev.succ (e1.mono2 e2 fun n x y => ?_))
  have hp : prog 269 = some slices_Clone_int_int_raw := by kernel_rfl
  simp only [callN, hp, Option.bind_some, callWith, show slices_Clone_int_int_raw.raw = true from rfl, show slices_Clone_int_int_raw.split = true from rfl, emptyFirst, allM, norm, depth, callPure, runPure, x, y, Bool.and_self, Bool.not_true, Bool.and_false, Bool.false_eq_true, if_false, if_true]
  simp only [depth] at h1 h2
  simp only [h1, h2, Option.bind_some, V.beq_same, if_true]
theorem rawClone_Shelf (l : List Shelf) (m : Mem) (hne : l ≠ []) (hl : l.length ≤ 4096) : fin 270 [.sl .any (l.map Shelf.cells)] m = some (.msl m.bs.length m.gen 15 0 l.length false, m.push (l.map Shelf.cells).flatten) := by
  have hne' : l.map Shelf.cells ≠ [] := fun h => hne (List.map_eq_nil_iff.1 h)
  have he : emptyFirst [.sl .any (l.map Shelf.cells)] = false := by cases l with | nil => exact (hne rfl).elim | cons a l => rfl
  refine fn_raw slices_Clone_Shelf_Shelf_raw (by kernel_rfl) rfl (by rw [he]; rfl) ?_
  have h1 := append_rows (m := m) (fl := .any) (fit_Shelf l) hne' (bytes := 232) (by rw [List.length_map]; unfold wide; omega) (by decide)
  simp only [rx, reduceIte, zqa, zqb, zqc, zqd, zqe, zqf, zqg, zqh, zqi, zqj, zqk, zql, zqm, zqn, lim_call, slices_Clone_Shelf_Shelf_raw, eqK_rows hne', h1]
theorem rawCloneNil_Shelf (m : Mem) : fin 270 [.sl .any []] m = some (.sl .any [], m) := by
  obtain ⟨v1, m1, h1, e1⟩ := body_run (prog := prog) (f := slices_Clone_Shelf_Shelf_raw) (args := [.sl .nil []]) (m := m0) (R := fun v0 m => frz m 0 depth v0 = some (.sl .any [])) (body_K (by simp only [rx, reduceIte, zqa, zqb, zqc, zqd, zqe, zqf, zqg, zqh, zqi, zqj, zqk, zql, zqm, zqn, lim_call, slices_Clone_Shelf_Shelf_raw]))
  obtain ⟨v2, m2, h2, e2⟩ := body_run (prog := prog) (f := slices_Clone_Shelf_Shelf_raw) (args := [.sl .nn []]) (m := m0) (R := fun v0 m => frz m 0 depth v0 = some (.sl .any [])) (body_K (by simp only [rx, reduceIte, zqa, zqb, zqc, zqd, zqe, zqf, zqg, zqh, zqi, zqj, zqk, zql, zqm, zqn, lim_call, slices_Clone_Shelf_Shelf_raw, append_none]))
  refine (lim_run prog).2 (Ev.succ (e1.mono2 e2 fun n x y => ?_))
  have hp : prog 270 = some slices_Clone_Shelf_Shelf_raw := by kernel_rfl
  simp only [callN, hp, Option.bind_some, callWith, show slices_Clone_Shelf_Shelf_raw.raw = true from rfl, show slices_Clone_Shelf_Shelf_raw.split = true from rfl, emptyFirst, allM, norm, depth, callPure, runPure, x, y, Bool.and_self, Bool.not_true, Bool.and_false, Bool.false_eq_true, if_false, if_true]
  simp only [depth] at h1 h2
  simp only [h1, h2, Option.bind_some, V.beq_same, if_true]
structure Cloned (s : State) (m m' : Mem) (sh rk : V) : Prop where
  pre : Pre m m'
  sh : (s.shelves = [] ∧ sh = .sl .any []) ∨ ∃ a sa, sh = .msl a sa 15 0 s.shelves.length false ∧ m.bs.length ≤ a ∧ m'.cells a sa = some (s.shelves.map Shelf.cells).flatten ∧ ∀ b sb, rk = .msl b sb 1 0 s.ranks.length false → a ≠ b
  rk : (s.ranks = [] ∧ rk = .sl .any []) ∨ ∃ b sb, rk = .msl b sb 1 0 s.ranks.length false ∧ m.bs.length ≤ b ∧ m'.cells b sb = some (s.ranks.map rcell).flatten
def cloneV (s : State) (sh rk : V) : V := .agg [.int .u64 s.round, sh, rk, .sl .any (s.orders.map Order.cells), .sl .any (s.audit.map Entry.cells), .sl .any (s.sessions.map icell)]
def State.smallR (s : State) : Prop := s.small ∧ s.ranks.length ≤ 4096 ∧ ∀ i, (nth s.ranks i).length ≤ 4096
end Go.Rx.Api

set_option linter.unusedSimpArgs false
set_option linter.unusedVariables false
set_option maxRecDepth 20000
namespace Go.Rx.Api
open Go.Rx
open Nat renaming reduceEqDiff → zqa, reduceAdd → zqb, reduceMul → zqc, reduceLeDiff → zqd, reduceBEq → zqe, reduceBNe → zqf, reduceSub → zqg, reduceLT → zqh
open Int renaming reduceLE → zqi, reduceLT → zqj, reduceToNat → zqk, reduceNeg → zql, reduceEq → zqm, reduceBEq → zqn
theorem put_push_same (m : Mem) (c : List V) : (m.push c).put m.bs.length m.gen c = m.push c := put_same (cells_push_new m c)
theorem set_nth_self {α : Type} [Inhabited α] {l : List α} {i : Nat} (h : i < l.length) : l.set i (nth l i) = l := by
  have := get_nth_nat h
  rw [List.getElem?_eq_getElem h] at this
  rw [← Option.some.inj this, List.set_getElem_self]
def rv (l : List Int) : V := .sl .any (l.map icell)
theorem flat_rcell (l : List (List Int)) : (l.map rcell).flatten = l.map rv := flat_one rv l
def RawOf (n sz : Nat) (flat : List V) (m m' : Mem) (v : V) : Prop := (n = 0 ∧ v = .sl .any [] ∧ m' = m) ∨ (v = .msl m.bs.length m.gen sz 0 n false ∧ m' = m.push flat)
set_option maxHeartbeats 1600000 in
theorem cloneWp (s : State) (m : Mem) (hs : s.smallR) : wpK prog state_Clone.body (start [.agg s.cells]) m [] fun e st => match e with
    | .exit _ => False
    | _ => match resV state_Clone.res st.1 st.2 with | some v0 => ∃ sh rk, v0 = cloneV s sh rk ∧ Cloned s m st.2 sh rk | none => False := by
  obtain ⟨⟨w1, w2, w3, w4, w5⟩, w6, w7⟩ := hs
  have hc1 := cells_push_new m s.cells
  have hc2 := cells_push_new (m.push s.cells) zeroCells
  have hR : ∃ rk m3, fin 269 [.sl .any (s.ranks.map rcell)] ((m.push s.cells).push zeroCells) = some (rk, m3) ∧ RawOf s.ranks.length 1 (s.ranks.map rv) ((m.push s.cells).push zeroCells) m3 rk := by
    cases hr : s.ranks with
    | nil => exact ⟨_, _, rawCloneNil_Ranks _, .inl ⟨rfl, rfl, rfl⟩⟩
    | cons a l =>
      refine ⟨_, _, rawClone_Ranks _ _ (by simp) (by rw [← hr]; exact w6), .inr ⟨rfl, ?_⟩⟩
      rw [flat_rcell]
  obtain ⟨rk, m3, h269, hrk⟩ := hR
  generalize hm2 : (m.push s.cells).push zeroCells = m2 at *
  have L1 : m.bs.length < m2.bs.length := by rw [← hm2, push_len, push_len]; omega
  have c1 : m2.cells m.bs.length m.gen = some s.cells := by rw [← hm2, cells_push_old (by rw [push_len]; omega)]; exact hc1
  have pre2 : Pre m m2 := by rw [← hm2]; exact ((Pre.refl m).push _).push _
  have p1 := put_same c1
  simp only [celld] at c1 hm2 p1
  simp only [zeroCells] at hm2
  have hrkf : rk.fits = true ∧ rk.cells = [rk] := by rcases hrk with ⟨_, rfl, _⟩ | ⟨rfl, _⟩ <;> exact ⟨rfl, rfl⟩
  obtain ⟨hrk1, hrk2⟩ := hrkf
  have pre3 : Pre m m3 := by
    rcases hrk with ⟨_, _, rfl⟩ | ⟨_, rfl⟩
    · exact pre2
    · exact pre2.push _
  have c3 : m3.cells m.bs.length m.gen = some [.int .u64 s.round, .sl .any (s.shelves.map Shelf.cells), .sl .any (s.ranks.map rcell), .sl .any (s.orders.map Order.cells), .sl .any (s.audit.map Entry.cells), .sl .any (s.sessions.map icell)] := by
    rcases hrk with ⟨_, _, rfl⟩ | ⟨_, rfl⟩
    · exact c1
    · rw [cells_push_old L1]; exact c1
  simp only [rx, reduceIte, zqa, zqb, zqc, zqd, zqe, zqf, zqg, zqh, zqi, zqj, zqk, zql, zqm, zqn, lim_call, push_len, push_gen, put_len, put_gen, cells_push_new, state_Clone, hm2, c1, p1, h269, w3, w4, w5, clone_Order_r, clone_Entry_r, clone_Int_r, c3, hrk1, hrk2]
  have L3 : m.bs.length < m3.bs.length := Nat.lt_of_lt_of_le L1 (by rcases hrk with ⟨_, _, rfl⟩ | ⟨_, rfl⟩ <;> first | exact Nat.le_refl _ | (rw [push_len]; omega))
  have z2 : m2.cells (m.bs.length + 1) (m.gen + 1) = some zeroCells := by rw [push_len, push_gen] at hc2; exact hc2
  have L2 := cells_lt z2
  have c4' : ∀ cs, (m3.put m.bs.length m.gen cs).cells m.bs.length m.gen = some cs := fun cs => cells_put_same L3
  have z4' : ∀ cs, (m3.put m.bs.length m.gen cs).cells (m.bs.length + 1) (m.gen + 1) = some zeroCells := fun cs => by
    rw [cells_put_other (by omega)]
    rcases hrk with ⟨_, _, rfl⟩ | ⟨_, rfl⟩
    · exact z2
    · rw [cells_push_old L2]; exact z2
  have pre4' : ∀ cs, Pre m (m3.put m.bs.length m.gen cs) := fun cs => pre3.put _ _ (Nat.le_refl _)
  have hb4' : ∀ cs, (s.ranks.length = 0 ∧ rk = .sl .any []) ∨ (rk = .msl m2.bs.length m2.gen 1 0 s.ranks.length false ∧ (m3.put m.bs.length m.gen cs).cells m2.bs.length m2.gen = some (s.ranks.map rv)) := fun cs => by
    rcases hrk with ⟨h0, h1, _⟩ | ⟨h1, rfl⟩
    · exact .inl ⟨h0, h1⟩
    · exact .inr ⟨h1, by rw [cells_put_other (by omega), cells_push_new]⟩
  generalize hm4 : m3.put m.bs.length m.gen [.int .u64 s.round, .sl .any (s.shelves.map Shelf.cells), rk, .sl .any (s.orders.map Order.cells), .sl .any (s.audit.map Entry.cells), .sl .any (s.sessions.map icell)] = m4
  have c4 := c4' [.int .u64 s.round, .sl .any (s.shelves.map Shelf.cells), rk, .sl .any (s.orders.map Order.cells), .sl .any (s.audit.map Entry.cells), .sl .any (s.sessions.map icell)]
  have z4 := z4' [.int .u64 s.round, .sl .any (s.shelves.map Shelf.cells), rk, .sl .any (s.orders.map Order.cells), .sl .any (s.audit.map Entry.cells), .sl .any (s.sessions.map icell)]
  have pre4 := pre4' [.int .u64 s.round, .sl .any (s.shelves.map Shelf.cells), rk, .sl .any (s.orders.map Order.cells), .sl .any (s.audit.map Entry.cells), .sl .any (s.sessions.map icell)]
  have hb4 := hb4' [.int .u64 s.round, .sl .any (s.shelves.map Shelf.cells), rk, .sl .any (s.orders.map Order.cells), .sl .any (s.audit.map Entry.cells), .sl .any (s.sessions.map icell)]
  rw [hm4] at c4 z4 pre4 hb4
  have hbid : m.bs.length + 1 < m2.bs.length := L2
  clear c4' z4' pre4' hb4' hrk h269 c3 pre3 L3 hm2 c1 p1 pre2 z2 hc1 hc2 L1 L2 hm4
  generalize m2.bs.length = b at *
  generalize m2.gen = sb at *
  clear m2 m3
  have hlen4 := cells_lt c4
  have hlz4 := cells_lt z4
  have hG : ∀ (T : Tm), T 1 = .ptr m.bs.length m.gen 0 → T 2 = .ptr (m.bs.length + 1) (m.gen + 1) 0 → T 24 = rk → T 25 = .int .i64 s.ranks.length → T 26 = .int .i64 0 → True := fun _ _ _ _ _ _ => trivial
  have hS : ∃ sh m5, fin 270 [.sl .any (s.shelves.map Shelf.cells)] m4 = some (sh, m5) ∧ RawOf s.shelves.length 15 (s.shelves.map Shelf.cells).flatten m4 m5 sh := by
    cases hr : s.shelves with
    | nil => exact ⟨_, _, rawCloneNil_Shelf _, .inl ⟨rfl, rfl, rfl⟩⟩
    | cons a l => exact ⟨_, _, rawClone_Shelf _ _ (by simp) (by rw [← hr]; exact w1), .inr ⟨rfl, rfl⟩⟩
  obtain ⟨sh, m5, h270, hsh⟩ := hS
  have hshf : sh.fits = true ∧ sh.cells = [sh] := by rcases hsh with ⟨_, rfl, _⟩ | ⟨rfl, _⟩ <;> exact ⟨rfl, rfl⟩
  obtain ⟨hsh1, hsh2⟩ := hshf
  have pre45 : Pre m4 m5 := by rcases hsh with ⟨_, _, rfl⟩ | ⟨_, rfl⟩; exact Pre.refl _; exact (Pre.refl _).push _
  have c5 : m5.cells m.bs.length m.gen = some [.int .u64 s.round, .sl .any (s.shelves.map Shelf.cells), rk, .sl .any (s.orders.map Order.cells), .sl .any (s.audit.map Entry.cells), .sl .any (s.sessions.map icell)] := by rw [pre45.cells hlen4]; exact c4
  have hlen5 := cells_lt c5
  generalize hm6 : m5.put m.bs.length m.gen [.int .u64 s.round, sh, rk, .sl .any (s.orders.map Order.cells), .sl .any (s.audit.map Entry.cells), .sl .any (s.sessions.map icell)] = m6
  have c6 : m6.cells m.bs.length m.gen = some [.int .u64 s.round, sh, rk, .sl .any (s.orders.map Order.cells), .sl .any (s.audit.map Entry.cells), .sl .any (s.sessions.map icell)] := by rw [← hm6]; exact cells_put_same hlen5
  have z6 : m6.cells (m.bs.length + 1) (m.gen + 1) = some zeroCells := by rw [← hm6, cells_put_other (by omega), pre45.cells hlz4]; exact z4
  have pre6 : Pre m m6 := by rw [← hm6]; exact (pre4.trans pre45).put _ _ (Nat.le_refl _)
  have hb6 : (s.ranks.length = 0 ∧ rk = .sl .any []) ∨ (rk = .msl b sb 1 0 s.ranks.length false ∧ m6.cells b sb = some (s.ranks.map rv)) := by
    rcases hb4 with h | ⟨h, hc⟩
    · exact .inl h
    · exact .inr ⟨h, by rw [← hm6, cells_put_other (by omega), pre45.cells (cells_lt hc)]; exact hc⟩
  have hs6 : (s.shelves.length = 0 ∧ sh = .sl .any []) ∨ (sh = .msl m4.bs.length m4.gen 15 0 s.shelves.length false ∧ m6.cells m4.bs.length m4.gen = some (s.shelves.map Shelf.cells).flatten) := by
    rcases hsh with ⟨h0, h1, _⟩ | ⟨h1, rfl⟩
    · exact .inl ⟨h0, h1⟩
    · exact .inr ⟨h1, by rw [← hm6, cells_put_other (by omega), cells_push_new]⟩
  have hbm4 : rk = .msl b sb 1 0 s.ranks.length false → b < m4.bs.length := fun e => by
    rcases hb4 with ⟨_, h⟩ | ⟨_, hc⟩
    · rw [e] at h; cases h
    · exact cells_lt hc
  have hlm4 : m.bs.length < m4.bs.length := hlen4
  clear hsh
  rcases hb4 with ⟨hr0, hrk⟩ | ⟨hrk, hcb⟩
  · simp only [rx, reduceIte, zqa, zqb, zqc, zqd, zqe, zqf, zqg, zqh, zqi, zqj, zqk, zql, zqm, zqn, lim_call, push_len, push_gen, put_len, put_gen, cells_push_new, c4, hrk]
    refine wpK_range s.ranks.length (fun _ => [(1, .ptr m.bs.length m.gen 0), (2, .ptr (m.bs.length + 1) (m.gen + 1) 0)]) (fun _ => m4) (fun _ => True) (by omega) (by decide) (by simp only [rx, reduceIte, zqa, zqb, zqc, zqd, zqe, zqf, zqg, zqh, zqi, zqj, zqk, zql, zqm, zqn, lim_call, push_len, push_gen, put_len, put_gen, cells_push_new, hr0]) (by simp only [rx, reduceIte, zqa, zqb, zqc, zqd, zqe, zqf, zqg, zqh, zqi, zqj, zqk, zql, zqm, zqn, lim_call, push_len, push_gen, put_len, put_gen, cells_push_new]) (by simp only [rx, reduceIte, zqa, zqb, zqc, zqd, zqe, zqf, zqg, zqh, zqi, zqj, zqk, zql, zqm, zqn, lim_call, push_len, push_gen, put_len, put_gen, cells_push_new, holds_cons, holds_nil]) rfl trivial (fun i hi => by omega) ?_
    clear hrk hr0
    intro hP T hS hn hk
    simp only [holds_cons, holds_nil, and_true] at hS
    obtain ⟨t1, t2⟩ := hS
    simp only [rx, reduceIte, zqa, zqb, zqc, zqd, zqe, zqf, zqg, zqh, zqi, zqj, zqk, zql, zqm, zqn, lim_call, push_len, push_gen, put_len, put_gen, cells_push_new, t1, t2, c4, h270, hsh1, hsh2, c5, hm6, c6]
    have hs6' := hs6
    rcases hs6 with ⟨hs0, hsh⟩ | ⟨hsh, hca⟩
    · simp only [rx, reduceIte, zqa, zqb, zqc, zqd, zqe, zqf, zqg, zqh, zqi, zqj, zqk, zql, zqm, zqn, lim_call, push_len, push_gen, put_len, put_gen, cells_push_new, hsh]
      refine wpK_range s.shelves.length (fun _ => [(1, .ptr m.bs.length m.gen 0), (2, .ptr (m.bs.length + 1) (m.gen + 1) 0)]) (fun _ => m6) (fun _ => True) (by omega) (by decide) (by simp only [rx, reduceIte, zqa, zqb, zqc, zqd, zqe, zqf, zqg, zqh, zqi, zqj, zqk, zql, zqm, zqn, lim_call, push_len, push_gen, put_len, put_gen, cells_push_new, hs0]) (by simp only [rx, reduceIte, zqa, zqb, zqc, zqd, zqe, zqf, zqg, zqh, zqi, zqj, zqk, zql, zqm, zqn, lim_call, push_len, push_gen, put_len, put_gen, cells_push_new]) (by simp only [rx, reduceIte, zqa, zqb, zqc, zqd, zqe, zqf, zqg, zqh, zqi, zqj, zqk, zql, zqm, zqn, lim_call, push_len, push_gen, put_len, put_gen, cells_push_new, holds_cons, holds_nil, t1, t2]) rfl trivial (fun i hi => by omega) ?_
      intro hP T hS hn hk
      simp only [holds_cons, holds_nil, and_true] at hS
      obtain ⟨t1, t2⟩ := hS
      obtain ⟨m7, hm7⟩ : ∃ x, x = m6 := ⟨_, rfl⟩
      rw [← hm7]
      have hp7 : Pre m6 m7 := hm7 ▸ Pre.refl _
      have d6 : m7.cells m.bs.length m.gen = some [.int .u64 s.round, sh, rk, .sl .any (s.orders.map Order.cells), .sl .any (s.audit.map Entry.cells), .sl .any (s.sessions.map icell)] := by rw [hp7.cells (cells_lt c6)]; exact c6
      have dz : m7.cells (m.bs.length + 1) (m.gen + 1) = some zeroCells := by rw [hp7.cells (cells_lt z6)]; exact z6
      have dl := cells_lt dz
      have hz6 : zeroCells.length = 6 := rfl
      have hzs : ∀ a b c d e f : V, splice zeroCells 0 [a, b, c, d, e, f] = [a, b, c, d, e, f] := fun _ _ _ _ _ _ => rfl
      have hpc : ∀ cs, (m7.put (m.bs.length + 1) (m.gen + 1) cs).cells (m.bs.length + 1) (m.gen + 1) = some cs := fun cs => cells_put_same dl
      simp only [rx, reduceIte, zqa, zqb, zqc, zqd, zqe, zqf, zqg, zqh, zqi, zqj, zqk, zql, zqm, zqn, lim_call, push_len, push_gen, put_len, put_gen, cells_push_new, t1, t2, d6, dz, hz6, hzs, hpc]
      refine ⟨sh, rk, rfl, (pre6.trans hp7).put _ _ (by omega), ?_, ?_⟩
      · rcases hs6' with ⟨h0, h1⟩ | ⟨h1, h2⟩
        · exact .inl ⟨List.length_eq_zero_iff.1 h0, h1⟩
        · exact .inr ⟨_, _, h1, by omega, by rw [cells_put_other (by omega), hp7.cells (cells_lt h2)]; exact h2, fun b' sb' e => by
            rcases hb6 with ⟨_, h⟩ | ⟨h, hc⟩
            · rw [e] at h; cases h
            · have := hbm4 h
              rw [e] at h; cases h; omega⟩
      · rcases hb6 with ⟨h0, h1⟩ | ⟨h1, h2⟩
        · exact .inl ⟨List.length_eq_zero_iff.1 h0, h1⟩
        · exact .inr ⟨_, _, h1, by omega, by rw [cells_put_other (by omega), hp7.cells (cells_lt h2), flat_rcell]; exact h2⟩
    · simp only [rx, reduceIte, zqa, zqb, zqc, zqd, zqe, zqf, zqg, zqh, zqi, zqj, zqk, zql, zqm, zqn, lim_call, push_len, push_gen, put_len, put_gen, cells_push_new, hsh]
      refine wpK_rangeI s.shelves.length (fun i T m' => Pre m6 m' ∧ T 1 = .ptr m.bs.length m.gen 0 ∧ T 2 = .ptr (m.bs.length + 1) (m.gen + 1) 0 ∧ T 43 = .msl m4.bs.length m4.gen 15 0 s.shelves.length false) (by omega) (by decide) (by simp only [rx, reduceIte, zqa, zqb, zqc, zqd, zqe, zqf, zqg, zqh, zqi, zqj, zqk, zql, zqm, zqn, lim_call, push_len, push_gen, put_len, put_gen, cells_push_new]) (by simp only [rx, reduceIte, zqa, zqb, zqc, zqd, zqe, zqf, zqg, zqh, zqi, zqj, zqk, zql, zqm, zqn, lim_call, push_len, push_gen, put_len, put_gen, cells_push_new]) ⟨Pre.refl _, by simp only [rx, reduceIte, zqa, zqb, zqc, zqd, zqe, zqf, zqg, zqh, zqi, zqj, zqk, zql, zqm, zqn, lim_call, push_len, push_gen, put_len, put_gen, cells_push_new, t1], by simp only [rx, reduceIte, zqa, zqb, zqc, zqd, zqe, zqf, zqg, zqh, zqi, zqj, zqk, zql, zqm, zqn, lim_call, push_len, push_gen, put_len, put_gen, cells_push_new, t2], by simp only [rx, reduceIte, zqa, zqb, zqc, zqd, zqe, zqf, zqg, zqh, zqi, zqj, zqk, zql, zqm, zqn, lim_call, push_len, push_gen, put_len, put_gen, cells_push_new]⟩ ?_ ?_
      · rintro i hi T m7 ⟨hp7, t1, t2, t43⟩ hn hk
        obtain ⟨b1, b2, b3, b4, b5, b6, b7⟩ := w2 i
        have d6 : m7.cells m.bs.length m.gen = some [.int .u64 s.round, sh, rk, .sl .any (s.orders.map Order.cells), .sl .any (s.audit.map Entry.cells), .sl .any (s.sessions.map icell)] := by rw [hp7.cells (cells_lt c6)]; exact c6
        have dca : m7.cells m4.bs.length m4.gen = some (s.shelves.map Shelf.cells).flatten := by rw [hp7.cells (cells_lt hca)]; exact hca
        have d6l := cells_lt d6
        have dcal := cells_lt dca
        have d6' : ∀ c, (m7.push c).cells m.bs.length m.gen = some [.int .u64 s.round, sh, rk, .sl .any (s.orders.map Order.cells), .sl .any (s.audit.map Entry.cells), .sl .any (s.sessions.map icell)] := fun c => by rw [cells_push_old d6l]; exact d6
        have dca' : ∀ c, (m7.push c).cells m4.bs.length m4.gen = some (s.shelves.map Shelf.cells).flatten := fun c => by rw [cells_push_old dcal]; exact dca
        have hfl : (s.shelves.map Shelf.cells).flatten.length = s.shelves.length * 15 := flat_map_len fun _ => rfl
        have hle : i * 15 + 15 ≤ s.shelves.length * 15 := by omega
        have hat := flat_map_at (f := Shelf.cells) (l := s.shelves) (i := i) (sz := 15) (fun _ => rfl) hi
        have hsp := splice_map (f := Shelf.cells) (l := s.shelves) (i := i) (sz := 15) (nth s.shelves i) (fun _ => rfl) hi
        rw [set_nth_self hi] at hsp
        have hps : ∀ c, (m7.push c).put m4.bs.length m4.gen (s.shelves.map Shelf.cells).flatten = m7.push c := fun c => put_same (dca' c)
        rw [hsh] at d6'
        simp only [celld] at hat hsp
        simp only [rx, reduceIte, zqa, zqb, zqc, zqd, zqe, zqf, zqg, zqh, zqi, zqj, zqk, zql, zqm, zqn, lim_call, push_len, push_gen, put_len, put_gen, cells_push_new, t1, t2, t43, hn, hk, hi, dca, dca', d6', hfl, hle, hat, hsp, hps, b1, b2, b3, b4, b5, b6, b7, put_push_same, clone_Room_r, clone_Exit_r, clone_Item_r, clone_Mail_r, clone_Trade_r, clone_Four_r, clone_Ref_r]
        exact hp7.push _
      · rintro T m7 ⟨hp7, t1, t2, t43⟩ hn hk
        have d6 : m7.cells m.bs.length m.gen = some [.int .u64 s.round, sh, rk, .sl .any (s.orders.map Order.cells), .sl .any (s.audit.map Entry.cells), .sl .any (s.sessions.map icell)] := by rw [hp7.cells (cells_lt c6)]; exact c6
        have dz : m7.cells (m.bs.length + 1) (m.gen + 1) = some zeroCells := by rw [hp7.cells (cells_lt z6)]; exact z6
        have dl := cells_lt dz
        have hz6 : zeroCells.length = 6 := rfl
        have hzs : ∀ a b c d e f : V, splice zeroCells 0 [a, b, c, d, e, f] = [a, b, c, d, e, f] := fun _ _ _ _ _ _ => rfl
        have hpc : ∀ cs, (m7.put (m.bs.length + 1) (m.gen + 1) cs).cells (m.bs.length + 1) (m.gen + 1) = some cs := fun cs => cells_put_same dl
        simp only [rx, reduceIte, zqa, zqb, zqc, zqd, zqe, zqf, zqg, zqh, zqi, zqj, zqk, zql, zqm, zqn, lim_call, push_len, push_gen, put_len, put_gen, cells_push_new, t1, t2, d6, dz, hz6, hzs, hpc]
        refine ⟨sh, rk, rfl, (pre6.trans hp7).put _ _ (by omega), ?_, ?_⟩
        · rcases hs6' with ⟨h0, h1⟩ | ⟨h1, h2⟩
          · exact .inl ⟨List.length_eq_zero_iff.1 h0, h1⟩
          · exact .inr ⟨_, _, h1, by omega, by rw [cells_put_other (by omega), hp7.cells (cells_lt h2)]; exact h2, fun b' sb' e => by
              rcases hb6 with ⟨_, h⟩ | ⟨h, hc⟩
              · rw [e] at h; cases h
              · have := hbm4 h
                rw [e] at h; cases h; omega⟩
        · rcases hb6 with ⟨h0, h1⟩ | ⟨h1, h2⟩
          · exact .inl ⟨List.length_eq_zero_iff.1 h0, h1⟩
          · exact .inr ⟨_, _, h1, by omega, by rw [cells_put_other (by omega), hp7.cells (cells_lt h2), flat_rcell]; exact h2⟩
  · simp only [rx, reduceIte, zqa, zqb, zqc, zqd, zqe, zqf, zqg, zqh, zqi, zqj, zqk, zql, zqm, zqn, lim_call, push_len, push_gen, put_len, put_gen, cells_push_new, c4, hrk]
    refine wpK_range s.ranks.length (fun _ => [(1, .ptr m.bs.length m.gen 0), (2, .ptr (m.bs.length + 1) (m.gen + 1) 0), (24, .msl b sb 1 0 s.ranks.length false)]) (fun _ => m4) (fun _ => True) (by omega) (by decide) (by simp only [rx, reduceIte, zqa, zqb, zqc, zqd, zqe, zqf, zqg, zqh, zqi, zqj, zqk, zql, zqm, zqn, lim_call, push_len, push_gen, put_len, put_gen, cells_push_new]) (by simp only [rx, reduceIte, zqa, zqb, zqc, zqd, zqe, zqf, zqg, zqh, zqi, zqj, zqk, zql, zqm, zqn, lim_call, push_len, push_gen, put_len, put_gen, cells_push_new]) (by simp only [rx, reduceIte, zqa, zqb, zqc, zqd, zqe, zqf, zqg, zqh, zqi, zqj, zqk, zql, zqm, zqn, lim_call, push_len, push_gen, put_len, put_gen, cells_push_new, holds_cons, holds_nil]) rfl trivial ?_ ?_
    · intro i hi hP T hS hn hk
      simp only [holds_cons, holds_nil, and_true] at hS
      obtain ⟨t1, t2, t24⟩ := hS
      have hw := w7 i
      have hgr := get_mapV (g := rv) hi
      have hle : i + 1 ≤ s.ranks.length := hi
      have hsp := splice_map (f := rcell) (l := s.ranks) (i := i) (sz := 1) (nth s.ranks i) (fun _ => rfl) hi
      rw [set_nth_self hi, flat_rcell, Nat.mul_one] at hsp
      have hrv : rcell (nth s.ranks i) = [.sl .any ((nth s.ranks i).map icell)] := rfl
      rw [hrv] at hsp
      have hps := put_same hcb
      rw [hrk] at c4
      have hrvd : rv = fun l : List Int => V.sl .any (l.map icell) := rfl
      simp only [rx, reduceIte, zqa, zqb, zqc, zqd, zqe, zqf, zqg, zqh, zqi, zqj, zqk, zql, zqm, zqn, lim_call, push_len, push_gen, put_len, put_gen, cells_push_new, t1, t2, t24, hn, hk, hi, c4, hcb, hgr, hle, rv, clone_Int_r, hw]
      simp only [rx, reduceIte, zqa, zqb, zqc, zqd, zqe, zqf, zqg, zqh, zqi, zqj, zqk, zql, zqm, zqn, lim_call, push_len, push_gen, put_len, put_gen, cells_push_new, hsp, hps, holds_cons, holds_nil, t1, t2, t24, hn, hk]
    · clear hcb hrk
      intro hP T hS hn hk
      simp only [holds_cons, holds_nil, and_true] at hS
      obtain ⟨t1, t2, _⟩ := hS
      simp only [rx, reduceIte, zqa, zqb, zqc, zqd, zqe, zqf, zqg, zqh, zqi, zqj, zqk, zql, zqm, zqn, lim_call, push_len, push_gen, put_len, put_gen, cells_push_new, t1, t2, c4, h270, hsh1, hsh2, c5, hm6, c6]
      have hs6' := hs6
      rcases hs6 with ⟨hs0, hsh⟩ | ⟨hsh, hca⟩
      · simp only [rx, reduceIte, zqa, zqb, zqc, zqd, zqe, zqf, zqg, zqh, zqi, zqj, zqk, zql, zqm, zqn, lim_call, push_len, push_gen, put_len, put_gen, cells_push_new, hsh]
        refine wpK_range s.shelves.length (fun _ => [(1, .ptr m.bs.length m.gen 0), (2, .ptr (m.bs.length + 1) (m.gen + 1) 0)]) (fun _ => m6) (fun _ => True) (by omega) (by decide) (by simp only [rx, reduceIte, zqa, zqb, zqc, zqd, zqe, zqf, zqg, zqh, zqi, zqj, zqk, zql, zqm, zqn, lim_call, push_len, push_gen, put_len, put_gen, cells_push_new, hs0]) (by simp only [rx, reduceIte, zqa, zqb, zqc, zqd, zqe, zqf, zqg, zqh, zqi, zqj, zqk, zql, zqm, zqn, lim_call, push_len, push_gen, put_len, put_gen, cells_push_new]) (by simp only [rx, reduceIte, zqa, zqb, zqc, zqd, zqe, zqf, zqg, zqh, zqi, zqj, zqk, zql, zqm, zqn, lim_call, push_len, push_gen, put_len, put_gen, cells_push_new, holds_cons, holds_nil, t1, t2]) rfl trivial (fun i hi => by omega) ?_
        intro hP T hS hn hk
        simp only [holds_cons, holds_nil, and_true] at hS
        obtain ⟨t1, t2⟩ := hS
        obtain ⟨m7, hm7⟩ : ∃ x, x = m6 := ⟨_, rfl⟩
        rw [← hm7]
        have hp7 : Pre m6 m7 := hm7 ▸ Pre.refl _
        have d6 : m7.cells m.bs.length m.gen = some [.int .u64 s.round, sh, rk, .sl .any (s.orders.map Order.cells), .sl .any (s.audit.map Entry.cells), .sl .any (s.sessions.map icell)] := by rw [hp7.cells (cells_lt c6)]; exact c6
        have dz : m7.cells (m.bs.length + 1) (m.gen + 1) = some zeroCells := by rw [hp7.cells (cells_lt z6)]; exact z6
        have dl := cells_lt dz
        have hz6 : zeroCells.length = 6 := rfl
        have hzs : ∀ a b c d e f : V, splice zeroCells 0 [a, b, c, d, e, f] = [a, b, c, d, e, f] := fun _ _ _ _ _ _ => rfl
        have hpc : ∀ cs, (m7.put (m.bs.length + 1) (m.gen + 1) cs).cells (m.bs.length + 1) (m.gen + 1) = some cs := fun cs => cells_put_same dl
        simp only [rx, reduceIte, zqa, zqb, zqc, zqd, zqe, zqf, zqg, zqh, zqi, zqj, zqk, zql, zqm, zqn, lim_call, push_len, push_gen, put_len, put_gen, cells_push_new, t1, t2, d6, dz, hz6, hzs, hpc]
        refine ⟨sh, rk, rfl, (pre6.trans hp7).put _ _ (by omega), ?_, ?_⟩
        · rcases hs6' with ⟨h0, h1⟩ | ⟨h1, h2⟩
          · exact .inl ⟨List.length_eq_zero_iff.1 h0, h1⟩
          · exact .inr ⟨_, _, h1, by omega, by rw [cells_put_other (by omega), hp7.cells (cells_lt h2)]; exact h2, fun b' sb' e => by
              rcases hb6 with ⟨_, h⟩ | ⟨h, hc⟩
              · rw [e] at h; cases h
              · have := hbm4 h
                rw [e] at h; cases h; omega⟩
        · rcases hb6 with ⟨h0, h1⟩ | ⟨h1, h2⟩
          · exact .inl ⟨List.length_eq_zero_iff.1 h0, h1⟩
          · exact .inr ⟨_, _, h1, by omega, by rw [cells_put_other (by omega), hp7.cells (cells_lt h2), flat_rcell]; exact h2⟩
      · simp only [rx, reduceIte, zqa, zqb, zqc, zqd, zqe, zqf, zqg, zqh, zqi, zqj, zqk, zql, zqm, zqn, lim_call, push_len, push_gen, put_len, put_gen, cells_push_new, hsh]
        refine wpK_rangeI s.shelves.length (fun i T m' => Pre m6 m' ∧ T 1 = .ptr m.bs.length m.gen 0 ∧ T 2 = .ptr (m.bs.length + 1) (m.gen + 1) 0 ∧ T 43 = .msl m4.bs.length m4.gen 15 0 s.shelves.length false) (by omega) (by decide) (by simp only [rx, reduceIte, zqa, zqb, zqc, zqd, zqe, zqf, zqg, zqh, zqi, zqj, zqk, zql, zqm, zqn, lim_call, push_len, push_gen, put_len, put_gen, cells_push_new]) (by simp only [rx, reduceIte, zqa, zqb, zqc, zqd, zqe, zqf, zqg, zqh, zqi, zqj, zqk, zql, zqm, zqn, lim_call, push_len, push_gen, put_len, put_gen, cells_push_new]) ⟨Pre.refl _, by simp only [rx, reduceIte, zqa, zqb, zqc, zqd, zqe, zqf, zqg, zqh, zqi, zqj, zqk, zql, zqm, zqn, lim_call, push_len, push_gen, put_len, put_gen, cells_push_new, t1], by simp only [rx, reduceIte, zqa, zqb, zqc, zqd, zqe, zqf, zqg, zqh, zqi, zqj, zqk, zql, zqm, zqn, lim_call, push_len, push_gen, put_len, put_gen, cells_push_new, t2], by simp only [rx, reduceIte, zqa, zqb, zqc, zqd, zqe, zqf, zqg, zqh, zqi, zqj, zqk, zql, zqm, zqn, lim_call, push_len, push_gen, put_len, put_gen, cells_push_new]⟩ ?_ ?_
        · rintro i hi T m7 ⟨hp7, t1, t2, t43⟩ hn hk
          obtain ⟨b1, b2, b3, b4, b5, b6, b7⟩ := w2 i
          have d6 : m7.cells m.bs.length m.gen = some [.int .u64 s.round, sh, rk, .sl .any (s.orders.map Order.cells), .sl .any (s.audit.map Entry.cells), .sl .any (s.sessions.map icell)] := by rw [hp7.cells (cells_lt c6)]; exact c6
          have dca : m7.cells m4.bs.length m4.gen = some (s.shelves.map Shelf.cells).flatten := by rw [hp7.cells (cells_lt hca)]; exact hca
          have d6l := cells_lt d6
          have dcal := cells_lt dca
          have d6' : ∀ c, (m7.push c).cells m.bs.length m.gen = some [.int .u64 s.round, sh, rk, .sl .any (s.orders.map Order.cells), .sl .any (s.audit.map Entry.cells), .sl .any (s.sessions.map icell)] := fun c => by rw [cells_push_old d6l]; exact d6
          have dca' : ∀ c, (m7.push c).cells m4.bs.length m4.gen = some (s.shelves.map Shelf.cells).flatten := fun c => by rw [cells_push_old dcal]; exact dca
          have hfl : (s.shelves.map Shelf.cells).flatten.length = s.shelves.length * 15 := flat_map_len fun _ => rfl
          have hle : i * 15 + 15 ≤ s.shelves.length * 15 := by omega
          have hat := flat_map_at (f := Shelf.cells) (l := s.shelves) (i := i) (sz := 15) (fun _ => rfl) hi
          have hsp := splice_map (f := Shelf.cells) (l := s.shelves) (i := i) (sz := 15) (nth s.shelves i) (fun _ => rfl) hi
          rw [set_nth_self hi] at hsp
          have hps : ∀ c, (m7.push c).put m4.bs.length m4.gen (s.shelves.map Shelf.cells).flatten = m7.push c := fun c => put_same (dca' c)
          rw [hsh] at d6'
          simp only [celld] at hat hsp
          simp only [rx, reduceIte, zqa, zqb, zqc, zqd, zqe, zqf, zqg, zqh, zqi, zqj, zqk, zql, zqm, zqn, lim_call, push_len, push_gen, put_len, put_gen, cells_push_new, t1, t2, t43, hn, hk, hi, dca, dca', d6', hfl, hle, hat, hsp, hps, b1, b2, b3, b4, b5, b6, b7, put_push_same, clone_Room_r, clone_Exit_r, clone_Item_r, clone_Mail_r, clone_Trade_r, clone_Four_r, clone_Ref_r]
          exact hp7.push _
        · rintro T m7 ⟨hp7, t1, t2, t43⟩ hn hk
          have d6 : m7.cells m.bs.length m.gen = some [.int .u64 s.round, sh, rk, .sl .any (s.orders.map Order.cells), .sl .any (s.audit.map Entry.cells), .sl .any (s.sessions.map icell)] := by rw [hp7.cells (cells_lt c6)]; exact c6
          have dz : m7.cells (m.bs.length + 1) (m.gen + 1) = some zeroCells := by rw [hp7.cells (cells_lt z6)]; exact z6
          have dl := cells_lt dz
          have hz6 : zeroCells.length = 6 := rfl
          have hzs : ∀ a b c d e f : V, splice zeroCells 0 [a, b, c, d, e, f] = [a, b, c, d, e, f] := fun _ _ _ _ _ _ => rfl
          have hpc : ∀ cs, (m7.put (m.bs.length + 1) (m.gen + 1) cs).cells (m.bs.length + 1) (m.gen + 1) = some cs := fun cs => cells_put_same dl
          simp only [rx, reduceIte, zqa, zqb, zqc, zqd, zqe, zqf, zqg, zqh, zqi, zqj, zqk, zql, zqm, zqn, lim_call, push_len, push_gen, put_len, put_gen, cells_push_new, t1, t2, d6, dz, hz6, hzs, hpc]
          refine ⟨sh, rk, rfl, (pre6.trans hp7).put _ _ (by omega), ?_, ?_⟩
          · rcases hs6' with ⟨h0, h1⟩ | ⟨h1, h2⟩
            · exact .inl ⟨List.length_eq_zero_iff.1 h0, h1⟩
            · exact .inr ⟨_, _, h1, by omega, by rw [cells_put_other (by omega), hp7.cells (cells_lt h2)]; exact h2, fun b' sb' e => by
                rcases hb6 with ⟨_, h⟩ | ⟨h, hc⟩
                · rw [e] at h; cases h
                · have := hbm4 h
                  rw [e] at h; cases h; omega⟩
          · rcases hb6 with ⟨h0, h1⟩ | ⟨h1, h2⟩
            · exact .inl ⟨List.length_eq_zero_iff.1 h0, h1⟩
            · exact .inr ⟨_, _, h1, by omega, by rw [cells_put_other (by omega), hp7.cells (cells_lt h2), flat_rcell]; exact h2⟩
theorem clone_raw (s : State) (m : Mem) (hs : s.smallR) : ∃ sh rk m', fin 268 [.agg s.cells] m = some (cloneV s sh rk, m') ∧ Cloned s m m' sh rk := by
  obtain ⟨v1, m1, ⟨sh, rk, rfl, hc⟩, e1⟩ := body_run (prog := prog) (f := state_Clone_raw) (args := [.agg s.cells]) (m := m) (R := fun v0 m1 => ∃ sh rk, v0 = cloneV s sh rk ∧ Cloned s m m1 sh rk) (body_K (cloneWp s m hs))
  refine ⟨sh, rk, m1, (lim_run prog).2 (Ev.succ (e1.mono fun n x => ?_)), hc⟩
  have hp : prog 268 = some state_Clone_raw := by kernel_rfl
  simp only [callN, hp, Option.bind_some, callWith, show state_Clone_raw.raw = true from rfl, show state_Clone_raw.split = false from rfl, x, Bool.false_and, Bool.not_false, Bool.and_self, if_true]
theorem clone_ok (s : State) (hs : s.smallR) (m : Mem) : fin 81 [.agg (s : State).cells] m = some (.agg (s : State).cells, m) := by
  refine fn_of state_Clone (by kernel_rfl) rfl rfl (by simp only [nx, norms]) ?_ m
  unfold wpK
  refine wpE_mono (fun e st h => ?_) (cloneWp s m0 hs)
  obtain ⟨T, m'⟩ := st
  have fin2 : ∀ v0, (∃ sh rk, v0 = cloneV s sh rk ∧ Cloned s m0 m' sh rk) → frz m' 0 depth v0 = some (.agg s.cells) := by
    rintro v0 ⟨sh, rk, rfl, hc⟩
    have h1 : frz m' 0 23 sh = some (.sl .any (s.shelves.map Shelf.cells)) := by
      rcases hc.sh with ⟨h0, rfl⟩ | ⟨a, sa, rfl, _, hca, _⟩
      · rw [h0]; rfl
      · exact frz_rows (f := Shelf.cells) (n := 22) hca (Nat.zero_le _) (fun _ => rfl) (fun a => by simp only [celld, allM_nil, allM_cons, frz_r, frzs, Option.bind_some])
    have h2 : frz m' 0 23 rk = some (.sl .any (s.ranks.map rcell)) := by
      rcases hc.rk with ⟨h0, rfl⟩ | ⟨b, sb, rfl, _, hcb⟩
      · rw [h0]; rfl
      · exact frz_rows (f := rcell) (n := 22) hcb (Nat.zero_le _) (fun _ => rfl) (fun a => by simp only [celld, allM_nil, allM_cons, frz_r, frzs, Option.bind_some])
    simp only [cloneV, depth, frz_r, allM_nil, allM_cons, h1, h2, frzs, Option.bind_some, celld]
  cases e with
  | exit => exact h.elim
  | normal =>
    rw [popK_nil]
    have h' : match resV state_Clone.res T m' with | some v0 => ∃ sh rk, v0 = cloneV s sh rk ∧ Cloned s m0 m' sh rk | none => False := h
    show match resV state_Clone.res T m' with | some v0 => frz m' 0 depth v0 = some (.agg s.cells) | none => False
    cases hr : resV state_Clone.res T m' with
    | none => rw [hr] at h'; exact h'.elim
    | some v0 => rw [hr] at h'; exact fin2 v0 h'
  | ret =>
    rw [popK_nil]
    have h' : match resV state_Clone.res T m' with | some v0 => ∃ sh rk, v0 = cloneV s sh rk ∧ Cloned s m0 m' sh rk | none => False := h
    show match resV state_Clone.res T m' with | some v0 => frz m' 0 depth v0 = some (.agg s.cells) | none => False
    cases hr : resV state_Clone.res T m' with
    | none => rw [hr] at h'; exact h'.elim
    | some v0 => rw [hr] at h'; exact fin2 v0 h'
theorem clone_r (s_round : Int) (s_shelves : List Shelf) (s_ranks : List (List Int)) (s_orders : List Order) (s_audit : List Entry) (s_sessions : List Int) (hs : (⟨s_round, s_shelves, s_ranks, s_orders, s_audit, s_sessions⟩ : State).smallR) (m : Mem) : fin 81 [.agg [.int .u64 s_round, .sl .any (s_shelves.map Shelf.cells), .sl .any (s_ranks.map rcell), .sl .any (s_orders.map Order.cells), .sl .any (s_audit.map Entry.cells), .sl .any (s_sessions.map icell)]] m = some (.agg ((⟨s_round, s_shelves, s_ranks, s_orders, s_audit, s_sessions⟩ : State) : State).cells, m) := clone_ok ⟨s_round, s_shelves, s_ranks, s_orders, s_audit, s_sessions⟩ hs m
end Go.Rx.Api

set_option linter.unusedSimpArgs false
set_option linter.unusedVariables false
set_option maxRecDepth 20000
namespace Go.Rx.Api
open Go.Rx
open Nat renaming reduceEqDiff → zqa, reduceAdd → zqb, reduceMul → zqc, reduceLeDiff → zqd, reduceBEq → zqe, reduceBNe → zqf, reduceSub → zqg, reduceLT → zqh
open Int renaming reduceLE → zqi, reduceLT → zqj, reduceToNat → zqk, reduceNeg → zql, reduceEq → zqm, reduceBEq → zqn
theorem flat_set_at {sz k : Nat} {rows : List (List V)} {i : Nat} {r : List V} {v : V} (hr : ∀ r ∈ rows, r.length = sz) (h : rows[i]? = some r) (hk : k < sz) : splice rows.flatten (i * sz + k) [v] = (rows.set i (splice r k [v])).flatten := by
  induction rows generalizing i with
  | nil => simp at h
  | cons a rows ih =>
    have ha := hr a (List.mem_cons_self ..)
    cases i with
    | zero =>
      simp only [List.getElem?_cons_zero, Option.some.injEq] at h
      subst h
      simp only [splice, Nat.zero_mul, Nat.zero_add, List.flatten_cons, List.set_cons_zero, List.length_singleton]
      rw [List.take_append_of_le_length (by omega), List.drop_append_of_le_length (by omega)]
      simp only [List.append_assoc, List.cons_append, List.nil_append]
    | succ i =>
      simp only [List.getElem?_cons_succ] at h
      have := ih (i := i) (fun r h => hr r (List.mem_cons_of_mem _ h)) h
      simp only [splice, List.flatten_cons, List.set_cons_succ, List.length_singleton] at this ⊢
      rw [← this, Nat.succ_mul, show i * sz + sz + k = sz + (i * sz + k) by omega, List.take_append, List.drop_append, ha, List.take_of_length_le (by omega), List.drop_eq_nil_of_le (by omega), Nat.add_sub_cancel_left, List.nil_append, List.append_assoc]
      congr 3
      congr 1
      omega
theorem State.smallR_of {r : Realm} {s : State} (h : stateRight r s = true) : s.smallR := by
  simp only [stateRight, Bool.and_eq_true] at h
  obtain ⟨h1, h2, h3, _⟩ := h
  have z := sized h1
  simp only [judgePublic, hallRight, Bool.and_eq_true, beq_iff_eq] at h3
  obtain ⟨⟨_, hl, ha⟩, _⟩ := h3
  have g8 := z.ok.guilds8
  have a8 := z.ok.accounts8
  refine ⟨z.small, by omega, fun i => ?_⟩
  rcases nth_or s.ranks i with ⟨k, hk, e⟩ | e
  · rw [e]
    have := allN_iff.1 ha k hk
    simp only [hallOk, Bool.and_eq_true, beq_iff_eq] at this
    omega
  · rw [e]; exact Nat.zero_le _
def withState (s : State) (me : Me) (l : List Item) : State := { s with shelves := s.shelves.set me.label.toNat { nth s.shelves me.label with items := l } }
def goodsWith (r : Realm) (s : State) (me : Me) (p : List Item × Int) : State × Int := if isMe r s me = true then (if p.2 = 0 then (withState s me p.1, 0) else (noState, p.2)) else (noState, 1)
theorem isMe_facts {r : Realm} {s : State} {me : Me} (h : isMe r s me = true) : stateRight r s = true ∧ 0 ≤ me.label ∧ me.label < s.shelves.length ∧ 0 ≤ me.who ∧ me.who < (nth s.shelves me.label).places.length ∧ me.label < r.labels.length ∧ me.who < r.accounts.length := by
  simp only [isMe, Bool.and_eq_true, decide_eq_true_eq, beq_iff_eq] at h
  obtain ⟨h1, h2, h3, h4, h5, h6⟩ := h
  have h1' := h1
  simp only [stateRight, Bool.and_eq_true] at h1'
  have z := sized h1'.1
  have hl := z.ok.lineAt me.line h2 h3
  have hlen := z.shelves
  have hp := z.places me.label.toNat (by omega)
  have e : nth s.shelves ((me.label.toNat : Nat) : Int) = nth s.shelves me.label := by simp only [nth, Int.toNat_natCast]
  rw [e] at hp
  refine ⟨h1, by omega, by omega, h5, by omega, by omega, h6⟩
set_option maxHeartbeats 800000 in
theorem withWp (r : Realm) (s : State) (me : Me) (cpid : Nat) (fs cs : List V) (m m1 : Mem) (l : List Item) (e : Int) (hr : r.wf) (hs : s.wf)
    (hcall : isMe r s me = true → lim prog cpid (fs ++ [.sl .any ((goodsItems s me).map Item.cells)] ++ cs) (m.push zeroCells) = some (.tup [.sl .any (l.map Item.cells), .int .i64 e], m1))
    (hm1 : isMe r s me = true → m1.cells m.bs.length m.gen = some zeroCells) : wpK prog goods_with.body (start [.agg r.cells, .agg s.cells, .agg me.cells, .fn cpid fs cs]) m [] fun ex st => match ex with
    | .exit _ => False
    | _ => match resV goods_with.res st.1 st.2 with
      | some v0 => frz st.2 m.bs.length depth v0 = some (.tup [.agg (goodsWith r s me (l, e)).1.cells, .int .i64 (goodsWith r s me (l, e)).2]) ∧ st.2.bs.take m.bs.length = (if isMe r s me = true then m1.bs.take m.bs.length else m.bs)
      | none => False := by
  have hz := cells_push_new m zeroCells
  have hps := put_push_same m zeroCells
  have htk : (m.push zeroCells).bs.take m.bs.length = m.bs := ((Pre.refl m).push _).2
  have hz6 : zeroCells.length = 6 := rfl
  have hme := isMe_ok r s me hr hs
  simp only [celld] at hme
  cases h : isMe r s me with
  | false =>
    simp only [zeroCells] at hz hps htk
    simp only [rx, reduceIte, zqa, zqb, zqc, zqd, zqe, zqf, zqg, zqh, zqi, zqj, zqk, zql, zqm, zqn, lim_call, push_len, push_gen, put_len, put_gen, cells_push_new, goods_with, hme, h, hz, hps, htk, goodsWith, noState, Nat.lt_irrefl]
  | true =>
    obtain ⟨hR, l0, l1, _⟩ := isMe_facts h
    have hit := goodsItems_ok s me l0 l1
    have hcall' := hcall h
    have hm1' := hm1 h
    rw [lim_call] at hcall'
    simp only [celld] at hit
    have h1len := cells_lt hm1'
    simp only [zeroCells] at hcall' hm1' hz
    simp only [rx, reduceIte, zqa, zqb, zqc, zqd, zqe, zqf, zqg, zqh, zqi, zqj, zqk, zql, zqm, zqn, lim_call, push_len, push_gen, put_len, put_gen, cells_push_new] at hcall'
    by_cases he : e = 0
    · subst he
      obtain ⟨sh, rk, m2, h268, hcl⟩ := clone_raw s m1 (State.smallR_of hR)
      simp only [celld] at h268
      rcases hcl.sh with ⟨h0, _⟩ | ⟨a, sa, rfl, ha, hca, hab⟩
      · rw [h0] at l1; simp at l1; omega
      have hrkf : rk.fits = true ∧ rk.cells = [rk] := by rcases hcl.rk with ⟨_, rfl⟩ | ⟨_, _, rfl, _⟩ <;> exact ⟨rfl, rfl⟩
      have hl2 : me.label.toNat < s.shelves.length := by omega
      have hfl : (s.shelves.map Shelf.cells).flatten.length = s.shelves.length * 15 := flat_map_len fun _ => rfl
      have hle : me.label.toNat * 15 + 2 + 1 ≤ s.shelves.length * 15 := by omega
      have hm2 : m2.cells m.bs.length m.gen = some zeroCells := by rw [hcl.pre.cells h1len]; exact hm1 h
      have hsp := flat_set_at (sz := 15) (k := 2) (rows := s.shelves.map Shelf.cells) (i := me.label.toNat) (r := Shelf.cells (nth s.shelves me.label)) (v := .sl .any (l.map Item.cells)) (fun r hr => by obtain ⟨a, _, rfl⟩ := List.mem_map.1 hr; rfl) (get_map l0 l1) (by decide)
      have hrow : splice (Shelf.cells (nth s.shelves me.label)) 2 [.sl .any (l.map Item.cells)] = Shelf.cells { nth s.shelves me.label with items := l } := rfl
      rw [hrow, ← List.map_set] at hsp
      have hws : s.shelves.set me.label.toNat { nth s.shelves me.label with items := l } = (withState s me l).shelves := rfl
      rw [hws] at hsp
      have hlen' : (withState s me l).shelves.length = s.shelves.length := by simp [withState]
      have hm3 : ∀ cs, (m2.put a sa cs).cells m.bs.length m.gen = some zeroCells := fun cs => by rw [cells_put_other (by omega)]; exact hm2
      have hal := cells_lt hca
      have hl3 := cells_lt hm2
      have hm4 : ∀ cs ds, ((m2.put a sa cs).put m.bs.length m.gen ds).cells m.bs.length m.gen = some ds := fun cs ds => cells_put_same (by rw [put_len]; exact hl3)
      have hzs : ∀ a b c d e f : V, splice zeroCells 0 [a, b, c, d, e, f] = [a, b, c, d, e, f] := fun _ _ _ _ _ _ => rfl
      have hfs : ∀ ds, frz ((m2.put a sa ((withState s me l).shelves.map Shelf.cells).flatten).put m.bs.length m.gen ds) m.bs.length 22 (.msl a sa 15 0 s.shelves.length false) = some (.sl .any ((withState s me l).shelves.map Shelf.cells)) := fun ds => by
        have hc : ((m2.put a sa ((withState s me l).shelves.map Shelf.cells).flatten).put m.bs.length m.gen ds).cells a sa = some ((withState s me l).shelves.map Shelf.cells).flatten := by
          rw [cells_put_other (by omega), cells_put_same hal]
        have := frz_rows (f := Shelf.cells) (l := (withState s me l).shelves) (sz := 15) (n := 21) (b := m.bs.length) (ex := false) hc (by omega) (fun _ => rfl) (fun a => by simp only [celld, allM_nil, allM_cons, frz_r, frzs, Option.bind_some])
        rw [hlen'] at this
        exact this
      have hfr : ∀ ds, frz ((m2.put a sa ((withState s me l).shelves.map Shelf.cells).flatten).put m.bs.length m.gen ds) m.bs.length 22 rk = some (.sl .any (s.ranks.map rcell)) := fun ds => by
        rcases hcl.rk with ⟨h0, rfl⟩ | ⟨b, sb, rfl, hb, hcb⟩
        · rw [h0]; rfl
        · have hne := hab b sb rfl
          have hc : ((m2.put a sa ((withState s me l).shelves.map Shelf.cells).flatten).put m.bs.length m.gen ds).cells b sb = some (s.ranks.map rcell).flatten := by
            rw [cells_put_other (by omega), cells_put_other hne]; exact hcb
          exact frz_rows (f := rcell) (n := 21) hc (by omega) (fun _ => rfl) (fun a => by simp only [celld, allM_nil, allM_cons, frz_r, frzs, Option.bind_some])
      have htk2 : ∀ cs ds, ((m2.put a sa cs).put m.bs.length m.gen ds).bs.take m.bs.length = m1.bs.take m.bs.length := fun cs ds => by
        simp only [Mem.put]
        rw [List.take_set_of_le (Nat.le_refl _), List.take_set_of_le (by omega)]
        have := congrArg (fun l => List.take m.bs.length l) hcl.pre.2
        simp only [List.take_take] at this
        rw [Nat.min_eq_left (by omega)] at this
        exact this
      obtain ⟨hrk1, hrk2⟩ := hrkf
      have hpw : (goodsWith r s me (l, 0)) = (withState s me l, 0) := by unfold goodsWith; rw [if_pos h, if_pos rfl]
      rw [hpw]
      simp only [rx, reduceIte, zqa, zqb, zqc, zqd, zqe, zqf, zqg, zqh, zqi, zqj, zqk, zql, zqm, zqn, lim_call, push_len, push_gen, put_len, put_gen, cells_push_new, goods_with, hme, h, hit, hcall', h268, cloneV, l0, hl2, hca, hfl, hle, hsp, hm3, hz6, hrk1, hrk2, hzs, hm4, hfs, hfr, htk2]
      simp only [withState]
    · have hps1 := put_same hm1'
      have he' : (e == 0) = false := by simpa using he
      simp only [rx, reduceIte, zqa, zqb, zqc, zqd, zqe, zqf, zqg, zqh, zqi, zqj, zqk, zql, zqm, zqn, lim_call, push_len, push_gen, put_len, put_gen, cells_push_new, goods_with, hme, h, hit, hcall', he, he', hm1', hps1, goodsWith, noState]
end Go.Rx.Api

set_option linter.unusedSimpArgs false
set_option linter.unusedVariables false
set_option maxRecDepth 20000
namespace Go.Rx.Api
open Go.Rx
open Nat renaming reduceEqDiff → zqa, reduceAdd → zqb, reduceMul → zqc, reduceLeDiff → zqd, reduceBEq → zqe, reduceBNe → zqf, reduceSub → zqg, reduceLT → zqh
open Int renaming reduceLE → zqi, reduceLT → zqj, reduceToNat → zqk, reduceNeg → zql, reduceEq → zqm, reduceBEq → zqn
theorem with_pure (r : Realm) (s : State) (me : Me) (cpid : Nat) (fs cs : List V) (l : List Item) (e : Int) (hr : r.wf) (hs : s.wf) (hf : ∀ n, allM (norm (n + 12)) fs = some fs) (hc : ∀ n, allM (norm (n + 12)) cs = some cs)
    (hcall : isMe r s me = true → ∀ m, lim prog cpid (fs ++ [.sl .any ((goodsItems s me).map Item.cells)] ++ cs) m = some (.tup [.sl .any (l.map Item.cells), .int .i64 e], m)) (m : Mem) :
    fin 37 [.agg r.cells, .agg s.cells, .agg me.cells, .fn cpid fs cs] m = some (.tup [.agg (goodsWith r s me (l, e)).1.cells, .int .i64 (goodsWith r s me (l, e)).2], m) := by
  refine fn_of goods_with (by kernel_rfl) rfl rfl (by simp only [nx, norms, hf, hc]) ?_ m
  unfold wpK
  refine wpE_mono (fun ex st h => ?_) (withWp r s me cpid fs cs m0 (m0.push zeroCells) l e hr hs (fun h => hcall h _) (fun _ => cells_push_new m0 zeroCells))
  obtain ⟨T, m'⟩ := st
  rw [popK_nil] at h
  rw [popK_nil]
  cases ex with
  | exit => exact h.elim
  | normal =>
    have h' : match resV goods_with.res T m' with | some v0 => frz m' 0 depth v0 = some (.tup [.agg (goodsWith r s me (l, e)).1.cells, .int .i64 (goodsWith r s me (l, e)).2]) ∧ m'.bs.take 0 = (if isMe r s me = true then (m0.push zeroCells).bs.take 0 else []) | none => False := h
    show match resV goods_with.res T m' with | some v0 => frz m' 0 depth v0 = some (.tup [.agg (goodsWith r s me (l, e)).1.cells, .int .i64 (goodsWith r s me (l, e)).2]) | none => False
    cases hv : resV goods_with.res T m' with
    | none => rw [hv] at h'; exact h'.elim
    | some v0 => rw [hv] at h'; exact h'.1
  | ret =>
    have h' : match resV goods_with.res T m' with | some v0 => frz m' 0 depth v0 = some (.tup [.agg (goodsWith r s me (l, e)).1.cells, .int .i64 (goodsWith r s me (l, e)).2]) ∧ m'.bs.take 0 = (if isMe r s me = true then (m0.push zeroCells).bs.take 0 else []) | none => False := h
    show match resV goods_with.res T m' with | some v0 => frz m' 0 depth v0 = some (.tup [.agg (goodsWith r s me (l, e)).1.cells, .int .i64 (goodsWith r s me (l, e)).2]) | none => False
    cases hv : resV goods_with.res T m' with
    | none => rw [hv] at h'; exact h'.elim
    | some v0 => rw [hv] at h'; exact h'.1
theorem with_local (r : Realm) (s : State) (me : Me) (cpid : Nat) (fs cs : List V) (m m1 : Mem) (l : List Item) (e : Int) (hr : r.wf) (hs : s.wf) (hn : allM (norm depth) [.agg r.cells, .agg s.cells, .agg me.cells, .fn cpid fs cs] = none)
    (hcall : isMe r s me = true → lim prog cpid (fs ++ [.sl .any ((goodsItems s me).map Item.cells)] ++ cs) (m.push zeroCells) = some (.tup [.sl .any (l.map Item.cells), .int .i64 e], m1))
    (hm1 : isMe r s me = true → m1.cells m.bs.length m.gen = some zeroCells) :
    ∃ g, fin 37 [.agg r.cells, .agg s.cells, .agg me.cells, .fn cpid fs cs] m = some (.tup [.agg (goodsWith r s me (l, e)).1.cells, .int .i64 (goodsWith r s me (l, e)).2], ⟨if isMe r s me = true then m1.bs.take m.bs.length else m.bs, g⟩) := by
  obtain ⟨v1, m', ⟨h1, h2⟩, e1⟩ := body_run (prog := prog) (f := goods_with) (args := [.agg r.cells, .agg s.cells, .agg me.cells, .fn cpid fs cs]) (m := m) (R := fun v0 m' => frz m' m.bs.length depth v0 = some (.tup [.agg (goodsWith r s me (l, e)).1.cells, .int .i64 (goodsWith r s me (l, e)).2]) ∧ m'.bs.take m.bs.length = (if isMe r s me = true then m1.bs.take m.bs.length else m.bs)) (body_K (withWp r s me cpid fs cs m m1 l e hr hs hcall hm1))
  refine ⟨m'.gen, (lim_run prog).2 (Ev.succ (e1.mono fun n x => ?_))⟩
  have hp : prog 37 = some goods_with := by kernel_rfl
  simp only [callN, hp, Option.bind_some, callWith, show goods_with.raw = false from rfl, show goods_with.split = false from rfl, hn, x, h1, h2, Bool.false_and, Bool.false_eq_true, if_false]
theorem scrap1_ok (l : List Item) (i : Int) (me : Me) (hl : l.length ≤ 4096) (m : Mem) : fin 38 [.sl .any ((l).map Item.cells), .iptr [.int .i64 i] 0, .iptr (Me.cells me) 0] m = some (.tup [.sl .any (((thingScrap l i me.who).1).map Item.cells), .int .i64 ((thingScrap l i me.who).2)], m) := by
  refine fn_of goods_Scrap_1 (by kernel_rfl) rfl rfl (by simp only [nx]) ?_ m; simp only [rx, reduceIte, zqa, zqb, zqc, zqd, zqe, zqf, zqg, zqh, zqi, zqj, zqk, zql, zqm, zqn, lim_call, goods_Scrap_1, thingScrap_r, hl]
theorem drop1_ok (l : List Item) (i : Int) (me : Me) (s : State) (hl : l.length ≤ 4096) (h0 : 0 ≤ me.label) (h1 : me.label < s.shelves.length) (h2 : 0 ≤ me.who) (h3 : me.who < (nth s.shelves me.label).places.length) (m : Mem) : fin 39 [.sl .any ((l).map Item.cells), .iptr [.int .i64 i] 0, .iptr (Me.cells me) 0, .iptr (State.cells s) 0] m = some (.tup [.sl .any (((thingDrop l i me.who (goodsPlace s me)).1).map Item.cells), .int .i64 ((thingDrop l i me.who (goodsPlace s me)).2)], m) := by
  refine fn_of goods_Drop_1 (by kernel_rfl) rfl rfl (by simp only [nx]) ?_ m; simp only [rx, reduceIte, zqa, zqb, zqc, zqd, zqe, zqf, zqg, zqh, zqi, zqj, zqk, zql, zqm, zqn, lim_call, goods_Drop_1, goodsPlace_r, thingDrop_r, hl, h0, h1, h2, h3]
theorem take1_ok (l : List Item) (i : Int) (me : Me) (s : State) (hl : l.length ≤ 4096) (h0 : 0 ≤ me.label) (h1 : me.label < s.shelves.length) (h2 : 0 ≤ me.who) (h3 : me.who < (nth s.shelves me.label).places.length) (m : Mem) : fin 40 [.sl .any ((l).map Item.cells), .iptr [.int .i64 i] 0, .iptr (Me.cells me) 0, .iptr (State.cells s) 0] m = some (.tup [.sl .any (((thingTake l i me.who (goodsPlace s me)).1).map Item.cells), .int .i64 ((thingTake l i me.who (goodsPlace s me)).2)], m) := by
  refine fn_of goods_Take_1 (by kernel_rfl) rfl rfl (by simp only [nx]) ?_ m; simp only [rx, reduceIte, zqa, zqb, zqc, zqd, zqe, zqf, zqg, zqh, zqi, zqj, zqk, zql, zqm, zqn, lim_call, goods_Take_1, goodsPlace_r, thingTake_r, hl, h0, h1, h2, h3]
def passP (r : Realm) (s : State) (me : Me) (i who : Int) (l : List Item) : List Item × Int :=
  if who = me.who then ([], 1) else if isMe r s ⟨me.line, me.label, who⟩ = false then ([], 1) else
  if (thingPass l i me.who who).2 = 0 then (if (goodsPlace s ⟨me.line, me.label, who⟩).eqb (goodsPlace s me) = true then thingPass l i me.who who else ((thingPass l i me.who who).1, 5)) else thingPass l i me.who who
theorem pass1_ok (l : List Item) (me : Me) (who : Int) (r : Realm) (s : State) (i : Int) (hr : r.wf) (hs : s.wf) (hl : l.length ≤ 4096) (h0 : 0 ≤ me.label) (h1 : me.label < s.shelves.length) (h2 : 0 ≤ me.who) (h3 : me.who < (nth s.shelves me.label).places.length) (m : Mem) : fin 41 [.sl .any ((l).map Item.cells), .iptr (Me.cells me) 0, .iptr [.int .i64 who] 0, .iptr (Realm.cells r) 0, .iptr (State.cells s) 0, .iptr [.int .i64 i] 0] m = some (.tup [.sl .any (((passP r s me i who l).1).map Item.cells), .int .i64 ((passP r s me i who l).2)], m) := by
  have hf := fun h : isMe r s ⟨me.line, me.label, who⟩ = true => isMe_facts h
  refine fn_of goods_Pass_1 (by kernel_rfl) rfl rfl (by simp only [nx]) ?_ m; simp only [rx, reduceIte, zqa, zqb, zqc, zqd, zqe, zqf, zqg, zqh, zqi, zqj, zqk, zql, zqm, zqn, lim_call, goods_Pass_1, isMe_r, thingPass_r, goodsPlace_r, hl, hr, hs, h0, h1, h2, h3, passP, Ref.eqb]
  have _ := @isMe_r; have _ := @thingPass_r; have _ := @goodsPlace_r; exact autoT
def goodsScrap (r : Realm) (s : State) (me : Me) (i : Int) : State × Int := goodsWith r s me (thingScrap (goodsItems s me) i me.who)
theorem items_small {r : Realm} {s : State} {me : Me} (h : isMe r s me = true) : (goodsItems s me).length ≤ 4096 := ((State.smallR_of (isMe_facts h).1).1.2.1 me.label).2.2.1
theorem goodsScrap_ok (r : Realm) (s : State) (me : Me) (i : Int) (hr : r.wf) (hs : s.wf) (m : Mem) : fin 16 [.agg (r : Realm).cells, .agg (s : State).cells, .agg (me : Me).cells, .int .i64 (i)] m = some (.tup [.agg ((goodsScrap r s me i).1 : State).cells, .int .i64 ((goodsScrap r s me i).2)], m) := by
  have hx := with_pure r s me 38 [] [.iptr [.int .i64 i] 0, .iptr me.cells 0] _ _ hr hs (fun _ => rfl) (fun n => by simp only [nx]) (fun h m => scrap1_ok (goodsItems s me) i me (items_small h) m)
  simp only [celld] at hx
  refine fn_of goods_Scrap (by kernel_rfl) rfl rfl (by simp only [nx]) ?_ m; simp only [rx, reduceIte, zqa, zqb, zqc, zqd, zqe, zqf, zqg, zqh, zqi, zqj, zqk, zql, zqm, zqn, lim_call, goods_Scrap, hx, goodsScrap]
theorem goodsScrap_r (r_labels : List Lab) (r_lines : List Int) (r_accounts : List Account) (r_guilds : List Guild) (r_quotas : List Quota) (r_orders : Int) (r_audits : Int) (r_rate : Int) (r_rounds : Int) (s_round : Int) (s_shelves : List Shelf) (s_ranks : List (List Int)) (s_orders : List Order) (s_audit : List Entry) (s_sessions : List Int) (me_line : Int) (me_label : Int) (me_who : Int) (i : Int) (hr : (⟨r_labels, r_lines, r_accounts, r_guilds, r_quotas, r_orders, r_audits, r_rate, r_rounds⟩ : Realm).wf) (hs : (⟨s_round, s_shelves, s_ranks, s_orders, s_audit, s_sessions⟩ : State).wf) (m : Mem) : fin 16 [.agg [.sl .any (r_labels.map Lab.cells), .sl .any (r_lines.map icell), .sl .any (r_accounts.map Account.cells), .sl .any (r_guilds.map Guild.cells), .sl .any (r_quotas.map Quota.cells), .int .i64 r_orders, .int .i64 r_audits, .int .i64 r_rate, .int .i64 r_rounds], .agg [.int .u64 s_round, .sl .any (s_shelves.map Shelf.cells), .sl .any (s_ranks.map rcell), .sl .any (s_orders.map Order.cells), .sl .any (s_audit.map Entry.cells), .sl .any (s_sessions.map icell)], .agg [.int .i64 me_line, .int .i64 me_label, .int .i64 me_who], .int .i64 (i)] m = some (.tup [.agg ((goodsScrap (⟨r_labels, r_lines, r_accounts, r_guilds, r_quotas, r_orders, r_audits, r_rate, r_rounds⟩ : Realm) (⟨s_round, s_shelves, s_ranks, s_orders, s_audit, s_sessions⟩ : State) (⟨me_line, me_label, me_who⟩ : Me) i).1 : State).cells, .int .i64 ((goodsScrap (⟨r_labels, r_lines, r_accounts, r_guilds, r_quotas, r_orders, r_audits, r_rate, r_rounds⟩ : Realm) (⟨s_round, s_shelves, s_ranks, s_orders, s_audit, s_sessions⟩ : State) (⟨me_line, me_label, me_who⟩ : Me) i).2)], m) := goodsScrap_ok ⟨r_labels, r_lines, r_accounts, r_guilds, r_quotas, r_orders, r_audits, r_rate, r_rounds⟩ ⟨s_round, s_shelves, s_ranks, s_orders, s_audit, s_sessions⟩ ⟨me_line, me_label, me_who⟩ i hr hs m
def goodsDrop (r : Realm) (s : State) (me : Me) (i : Int) : State × Int := goodsWith r s me (thingDrop (goodsItems s me) i me.who (goodsPlace s me))
theorem goodsDrop_ok (r : Realm) (s : State) (me : Me) (i : Int) (hr : r.wf) (hs : s.wf) (m : Mem) : fin 17 [.agg (r : Realm).cells, .agg (s : State).cells, .agg (me : Me).cells, .int .i64 (i)] m = some (.tup [.agg ((goodsDrop r s me i).1 : State).cells, .int .i64 ((goodsDrop r s me i).2)], m) := by
  have hx := with_pure r s me 39 [] [.iptr [.int .i64 i] 0, .iptr me.cells 0, .iptr s.cells 0] _ _ hr hs (fun _ => rfl) (fun n => by simp only [nx, norms]) (fun h m => by
    obtain ⟨f1, f2, f3, f4, f5, _⟩ := isMe_facts h
    exact drop1_ok (goodsItems s me) i me s (items_small h) f2 f3 f4 f5 m)
  simp only [celld] at hx
  refine fn_of goods_Drop (by kernel_rfl) rfl rfl (by simp only [nx]) ?_ m; simp only [rx, reduceIte, zqa, zqb, zqc, zqd, zqe, zqf, zqg, zqh, zqi, zqj, zqk, zql, zqm, zqn, lim_call, goods_Drop, hx, goodsDrop]
theorem goodsDrop_r (r_labels : List Lab) (r_lines : List Int) (r_accounts : List Account) (r_guilds : List Guild) (r_quotas : List Quota) (r_orders : Int) (r_audits : Int) (r_rate : Int) (r_rounds : Int) (s_round : Int) (s_shelves : List Shelf) (s_ranks : List (List Int)) (s_orders : List Order) (s_audit : List Entry) (s_sessions : List Int) (me_line : Int) (me_label : Int) (me_who : Int) (i : Int) (hr : (⟨r_labels, r_lines, r_accounts, r_guilds, r_quotas, r_orders, r_audits, r_rate, r_rounds⟩ : Realm).wf) (hs : (⟨s_round, s_shelves, s_ranks, s_orders, s_audit, s_sessions⟩ : State).wf) (m : Mem) : fin 17 [.agg [.sl .any (r_labels.map Lab.cells), .sl .any (r_lines.map icell), .sl .any (r_accounts.map Account.cells), .sl .any (r_guilds.map Guild.cells), .sl .any (r_quotas.map Quota.cells), .int .i64 r_orders, .int .i64 r_audits, .int .i64 r_rate, .int .i64 r_rounds], .agg [.int .u64 s_round, .sl .any (s_shelves.map Shelf.cells), .sl .any (s_ranks.map rcell), .sl .any (s_orders.map Order.cells), .sl .any (s_audit.map Entry.cells), .sl .any (s_sessions.map icell)], .agg [.int .i64 me_line, .int .i64 me_label, .int .i64 me_who], .int .i64 (i)] m = some (.tup [.agg ((goodsDrop (⟨r_labels, r_lines, r_accounts, r_guilds, r_quotas, r_orders, r_audits, r_rate, r_rounds⟩ : Realm) (⟨s_round, s_shelves, s_ranks, s_orders, s_audit, s_sessions⟩ : State) (⟨me_line, me_label, me_who⟩ : Me) i).1 : State).cells, .int .i64 ((goodsDrop (⟨r_labels, r_lines, r_accounts, r_guilds, r_quotas, r_orders, r_audits, r_rate, r_rounds⟩ : Realm) (⟨s_round, s_shelves, s_ranks, s_orders, s_audit, s_sessions⟩ : State) (⟨me_line, me_label, me_who⟩ : Me) i).2)], m) := goodsDrop_ok ⟨r_labels, r_lines, r_accounts, r_guilds, r_quotas, r_orders, r_audits, r_rate, r_rounds⟩ ⟨s_round, s_shelves, s_ranks, s_orders, s_audit, s_sessions⟩ ⟨me_line, me_label, me_who⟩ i hr hs m
def goodsTake (r : Realm) (s : State) (me : Me) (i : Int) : State × Int := goodsWith r s me (thingTake (goodsItems s me) i me.who (goodsPlace s me))
theorem goodsTake_ok (r : Realm) (s : State) (me : Me) (i : Int) (hr : r.wf) (hs : s.wf) (m : Mem) : fin 18 [.agg (r : Realm).cells, .agg (s : State).cells, .agg (me : Me).cells, .int .i64 (i)] m = some (.tup [.agg ((goodsTake r s me i).1 : State).cells, .int .i64 ((goodsTake r s me i).2)], m) := by
  have hx := with_pure r s me 40 [] [.iptr [.int .i64 i] 0, .iptr me.cells 0, .iptr s.cells 0] _ _ hr hs (fun _ => rfl) (fun n => by simp only [nx, norms]) (fun h m => by
    obtain ⟨f1, f2, f3, f4, f5, _⟩ := isMe_facts h
    exact take1_ok (goodsItems s me) i me s (items_small h) f2 f3 f4 f5 m)
  simp only [celld] at hx
  refine fn_of goods_Take (by kernel_rfl) rfl rfl (by simp only [nx]) ?_ m; simp only [rx, reduceIte, zqa, zqb, zqc, zqd, zqe, zqf, zqg, zqh, zqi, zqj, zqk, zql, zqm, zqn, lim_call, goods_Take, hx, goodsTake]
theorem goodsTake_r (r_labels : List Lab) (r_lines : List Int) (r_accounts : List Account) (r_guilds : List Guild) (r_quotas : List Quota) (r_orders : Int) (r_audits : Int) (r_rate : Int) (r_rounds : Int) (s_round : Int) (s_shelves : List Shelf) (s_ranks : List (List Int)) (s_orders : List Order) (s_audit : List Entry) (s_sessions : List Int) (me_line : Int) (me_label : Int) (me_who : Int) (i : Int) (hr : (⟨r_labels, r_lines, r_accounts, r_guilds, r_quotas, r_orders, r_audits, r_rate, r_rounds⟩ : Realm).wf) (hs : (⟨s_round, s_shelves, s_ranks, s_orders, s_audit, s_sessions⟩ : State).wf) (m : Mem) : fin 18 [.agg [.sl .any (r_labels.map Lab.cells), .sl .any (r_lines.map icell), .sl .any (r_accounts.map Account.cells), .sl .any (r_guilds.map Guild.cells), .sl .any (r_quotas.map Quota.cells), .int .i64 r_orders, .int .i64 r_audits, .int .i64 r_rate, .int .i64 r_rounds], .agg [.int .u64 s_round, .sl .any (s_shelves.map Shelf.cells), .sl .any (s_ranks.map rcell), .sl .any (s_orders.map Order.cells), .sl .any (s_audit.map Entry.cells), .sl .any (s_sessions.map icell)], .agg [.int .i64 me_line, .int .i64 me_label, .int .i64 me_who], .int .i64 (i)] m = some (.tup [.agg ((goodsTake (⟨r_labels, r_lines, r_accounts, r_guilds, r_quotas, r_orders, r_audits, r_rate, r_rounds⟩ : Realm) (⟨s_round, s_shelves, s_ranks, s_orders, s_audit, s_sessions⟩ : State) (⟨me_line, me_label, me_who⟩ : Me) i).1 : State).cells, .int .i64 ((goodsTake (⟨r_labels, r_lines, r_accounts, r_guilds, r_quotas, r_orders, r_audits, r_rate, r_rounds⟩ : Realm) (⟨s_round, s_shelves, s_ranks, s_orders, s_audit, s_sessions⟩ : State) (⟨me_line, me_label, me_who⟩ : Me) i).2)], m) := goodsTake_ok ⟨r_labels, r_lines, r_accounts, r_guilds, r_quotas, r_orders, r_audits, r_rate, r_rounds⟩ ⟨s_round, s_shelves, s_ranks, s_orders, s_audit, s_sessions⟩ ⟨me_line, me_label, me_who⟩ i hr hs m
def goodsPass (r : Realm) (s : State) (me : Me) (i who : Int) : State × Int := goodsWith r s me (passP r s me i who (goodsItems s me))
theorem goodsPass_ok (r : Realm) (s : State) (me : Me) (i : Int) (who : Int) (hr : r.wf) (hs : s.wf) (m : Mem) : fin 19 [.agg (r : Realm).cells, .agg (s : State).cells, .agg (me : Me).cells, .int .i64 (i), .int .i64 (who)] m = some (.tup [.agg ((goodsPass r s me i who).1 : State).cells, .int .i64 ((goodsPass r s me i who).2)], m) := by
  have hx := with_pure r s me 41 [] [.iptr me.cells 0, .iptr [.int .i64 who] 0, .iptr r.cells 0, .iptr s.cells 0, .iptr [.int .i64 i] 0] _ _ hr hs (fun _ => rfl) (fun n => by simp only [nx, norms]) (fun h m => by
    obtain ⟨f1, f2, f3, f4, f5, _⟩ := isMe_facts h
    exact pass1_ok (goodsItems s me) me who r s i hr hs (items_small h) f2 f3 f4 f5 m)
  simp only [celld] at hx
  refine fn_of goods_Pass (by kernel_rfl) rfl rfl (by simp only [nx]) ?_ m; simp only [rx, reduceIte, zqa, zqb, zqc, zqd, zqe, zqf, zqg, zqh, zqi, zqj, zqk, zql, zqm, zqn, lim_call, goods_Pass, hx, goodsPass]
theorem goodsPass_r (r_labels : List Lab) (r_lines : List Int) (r_accounts : List Account) (r_guilds : List Guild) (r_quotas : List Quota) (r_orders : Int) (r_audits : Int) (r_rate : Int) (r_rounds : Int) (s_round : Int) (s_shelves : List Shelf) (s_ranks : List (List Int)) (s_orders : List Order) (s_audit : List Entry) (s_sessions : List Int) (me_line : Int) (me_label : Int) (me_who : Int) (i : Int) (who : Int) (hr : (⟨r_labels, r_lines, r_accounts, r_guilds, r_quotas, r_orders, r_audits, r_rate, r_rounds⟩ : Realm).wf) (hs : (⟨s_round, s_shelves, s_ranks, s_orders, s_audit, s_sessions⟩ : State).wf) (m : Mem) : fin 19 [.agg [.sl .any (r_labels.map Lab.cells), .sl .any (r_lines.map icell), .sl .any (r_accounts.map Account.cells), .sl .any (r_guilds.map Guild.cells), .sl .any (r_quotas.map Quota.cells), .int .i64 r_orders, .int .i64 r_audits, .int .i64 r_rate, .int .i64 r_rounds], .agg [.int .u64 s_round, .sl .any (s_shelves.map Shelf.cells), .sl .any (s_ranks.map rcell), .sl .any (s_orders.map Order.cells), .sl .any (s_audit.map Entry.cells), .sl .any (s_sessions.map icell)], .agg [.int .i64 me_line, .int .i64 me_label, .int .i64 me_who], .int .i64 (i), .int .i64 (who)] m = some (.tup [.agg ((goodsPass (⟨r_labels, r_lines, r_accounts, r_guilds, r_quotas, r_orders, r_audits, r_rate, r_rounds⟩ : Realm) (⟨s_round, s_shelves, s_ranks, s_orders, s_audit, s_sessions⟩ : State) (⟨me_line, me_label, me_who⟩ : Me) i who).1 : State).cells, .int .i64 ((goodsPass (⟨r_labels, r_lines, r_accounts, r_guilds, r_quotas, r_orders, r_audits, r_rate, r_rounds⟩ : Realm) (⟨s_round, s_shelves, s_ranks, s_orders, s_audit, s_sessions⟩ : State) (⟨me_line, me_label, me_who⟩ : Me) i who).2)], m) := goodsPass_ok ⟨r_labels, r_lines, r_accounts, r_guilds, r_quotas, r_orders, r_audits, r_rate, r_rounds⟩ ⟨s_round, s_shelves, s_ranks, s_orders, s_audit, s_sessions⟩ ⟨me_line, me_label, me_who⟩ i who hr hs m
theorem make1 (l : List Item) (name : ByteArray) (me : Me) (m : Mem) (c : V) (hl : l.length ≤ 4096) (hc : m.cells 1 1 = some [c]) : ∃ m', fin 36 [.sl .any (l.map Item.cells), .iptr [.str name] 0, .iptr me.cells 0, .ptr 1 1 0] m = some (.tup [.sl .any ((thingMake l name me.who).1.map Item.cells), .int .i64 (thingMake l name me.who).2.2], m') ∧ m' = m.put 1 1 [.int .i64 (thingMake l name me.who).2.1] := by
  refine ⟨_, ?_, rfl⟩
  have hcl := cells_lt hc
  obtain ⟨v1, m', ⟨h1, h2⟩, e1⟩ := body_run (prog := prog) (f := goods_Make_1) (args := [.sl .any (l.map Item.cells), .iptr [.str name] 0, .iptr me.cells 0, .ptr 1 1 0]) (m := m)
    (R := fun v0 m' => frz m' m.bs.length depth v0 = some (.tup [.sl .any ((thingMake l name me.who).1.map Item.cells), .int .i64 (thingMake l name me.who).2.2]) ∧ m' = m.put 1 1 [.int .i64 (thingMake l name me.who).2.1])
    (body_K (by simp only [rx, reduceIte, zqa, zqb, zqc, zqd, zqe, zqf, zqg, zqh, zqi, zqj, zqk, zql, zqm, zqn, lim_call, push_len, push_gen, put_len, put_gen, cells_push_new, goods_Make_1, hc, thingMake_r, hl]))
  refine (lim_run prog).2 (Ev.succ (e1.mono fun n x => ?_))
  rw [h2] at h1 x
  have hp : prog 36 = some goods_Make_1 := by kernel_rfl
  have hn : allM (norm depth) [.sl .any (l.map Item.cells), .iptr [.str name] 0, .iptr me.cells 0, .ptr 1 1 0] = none := by simp only [nx, norms]; rfl
  simp only [callN, hp, Option.bind_some, callWith, show goods_Make_1.raw = false from rfl, show goods_Make_1.split = false from rfl, hn, x, h1, h2, Bool.false_and, Bool.false_eq_true, if_false]
  rw [show (m.put 1 1 [.int .i64 (thingMake l name me.who).2.1]).bs.take m.bs.length = (m.put 1 1 [.int .i64 (thingMake l name me.who).2.1]).bs from by rw [← put_len m 1 1 [.int .i64 (thingMake l name me.who).2.1], List.take_length]]
def goodsMake (r : Realm) (s : State) (me : Me) (name : ByteArray) : State × Int × Int :=
  ((goodsWith r s me ((thingMake (goodsItems s me) name me.who).1, (thingMake (goodsItems s me) name me.who).2.2)).1, (if isMe r s me = true then (thingMake (goodsItems s me) name me.who).2.1 else 0), (goodsWith r s me ((thingMake (goodsItems s me) name me.who).1, (thingMake (goodsItems s me) name me.who).2.2)).2)
theorem goodsMake_ok (r : Realm) (s : State) (me : Me) (name : ByteArray) (hr : r.wf) (hs : s.wf) (m : Mem) : fin 15 [.agg (r : Realm).cells, .agg (s : State).cells, .agg (me : Me).cells, .str (name)] m = some (.tup [.agg ((goodsMake r s me name).1 : State).cells, .int .i64 ((goodsMake r s me name).2.1), .int .i64 ((goodsMake r s me name).2.2)], m) := by
  have hx := with_local r s me 36 [] [.iptr [.str name] 0, .iptr me.cells 0, .ptr 1 1 0] ⟨[some (.cells 0 zeroCells), some (.cells 1 [.int .i64 0])], 2⟩ ((Mem.push ⟨[some (.cells 0 zeroCells), some (.cells 1 [.int .i64 0])], 2⟩ zeroCells).put 1 1 [.int .i64 (thingMake (goodsItems s me) name me.who).2.1]) _ _ hr hs (by simp only [nx, norms]; rfl)
    (fun h => by
      obtain ⟨m', h1, h2⟩ := make1 (goodsItems s me) name me (Mem.push ⟨[some (.cells 0 zeroCells), some (.cells 1 [.int .i64 0])], 2⟩ zeroCells) (.int .i64 0) (items_small h) rfl
      rw [h2] at h1; exact h1) (fun _ => rfl)
  obtain ⟨g, hx⟩ := hx
  have hb : (if isMe r s me = true then ((Mem.push ⟨[some (.cells 0 zeroCells), some (.cells 1 [.int .i64 0])], 2⟩ zeroCells).put 1 1 [.int .i64 (thingMake (goodsItems s me) name me.who).2.1]).bs.take 2 else [some (Blk.cells 0 zeroCells), some (.cells 1 [.int .i64 0])]) = [some (Blk.cells 0 zeroCells), some (.cells 1 [.int .i64 (if isMe r s me = true then (thingMake (goodsItems s me) name me.who).2.1 else 0)])] := by
    cases isMe r s me <;> rfl
  have hx2 := hx.trans (congrArg (fun b => (some (_, (⟨b, g⟩ : Mem)) : Option (V × Mem))) hb)
  clear hx
  simp only [celld, zeroCells] at hx2
  refine fn_of goods_Make (by kernel_rfl) rfl rfl (by simp only [nx]) ?_ m; simp only [rx, reduceIte, zqa, zqb, zqc, zqd, zqe, zqf, zqg, zqh, zqi, zqj, zqk, zql, zqm, zqn, lim_call, goods_Make, goodsMake, hx2]
theorem goodsMake_r (r_labels : List Lab) (r_lines : List Int) (r_accounts : List Account) (r_guilds : List Guild) (r_quotas : List Quota) (r_orders : Int) (r_audits : Int) (r_rate : Int) (r_rounds : Int) (s_round : Int) (s_shelves : List Shelf) (s_ranks : List (List Int)) (s_orders : List Order) (s_audit : List Entry) (s_sessions : List Int) (me_line : Int) (me_label : Int) (me_who : Int) (name : ByteArray) (hr : (⟨r_labels, r_lines, r_accounts, r_guilds, r_quotas, r_orders, r_audits, r_rate, r_rounds⟩ : Realm).wf) (hs : (⟨s_round, s_shelves, s_ranks, s_orders, s_audit, s_sessions⟩ : State).wf) (m : Mem) : fin 15 [.agg [.sl .any (r_labels.map Lab.cells), .sl .any (r_lines.map icell), .sl .any (r_accounts.map Account.cells), .sl .any (r_guilds.map Guild.cells), .sl .any (r_quotas.map Quota.cells), .int .i64 r_orders, .int .i64 r_audits, .int .i64 r_rate, .int .i64 r_rounds], .agg [.int .u64 s_round, .sl .any (s_shelves.map Shelf.cells), .sl .any (s_ranks.map rcell), .sl .any (s_orders.map Order.cells), .sl .any (s_audit.map Entry.cells), .sl .any (s_sessions.map icell)], .agg [.int .i64 me_line, .int .i64 me_label, .int .i64 me_who], .str (name)] m = some (.tup [.agg ((goodsMake (⟨r_labels, r_lines, r_accounts, r_guilds, r_quotas, r_orders, r_audits, r_rate, r_rounds⟩ : Realm) (⟨s_round, s_shelves, s_ranks, s_orders, s_audit, s_sessions⟩ : State) (⟨me_line, me_label, me_who⟩ : Me) name).1 : State).cells, .int .i64 ((goodsMake (⟨r_labels, r_lines, r_accounts, r_guilds, r_quotas, r_orders, r_audits, r_rate, r_rounds⟩ : Realm) (⟨s_round, s_shelves, s_ranks, s_orders, s_audit, s_sessions⟩ : State) (⟨me_line, me_label, me_who⟩ : Me) name).2.1), .int .i64 ((goodsMake (⟨r_labels, r_lines, r_accounts, r_guilds, r_quotas, r_orders, r_audits, r_rate, r_rounds⟩ : Realm) (⟨s_round, s_shelves, s_ranks, s_orders, s_audit, s_sessions⟩ : State) (⟨me_line, me_label, me_who⟩ : Me) name).2.2)], m) := goodsMake_ok ⟨r_labels, r_lines, r_accounts, r_guilds, r_quotas, r_orders, r_audits, r_rate, r_rounds⟩ ⟨s_round, s_shelves, s_ranks, s_orders, s_audit, s_sessions⟩ ⟨me_line, me_label, me_who⟩ name hr hs m
end Go.Rx.Api

set_option linter.unusedSimpArgs false
set_option linter.unusedVariables false
set_option maxRecDepth 20000
namespace Go.Rx.Api
open Go.Rx
open Nat renaming reduceEqDiff → zqa, reduceAdd → zqb, reduceMul → zqc, reduceLeDiff → zqd, reduceBEq → zqe, reduceBNe → zqf, reduceSub → zqg, reduceLT → zqh
open Int renaming reduceLE → zqi, reduceLT → zqj, reduceToNat → zqk, reduceNeg → zql, reduceEq → zqm, reduceBEq → zqn
def goodsDo (r : Realm) (s : State) (me : Me) (x : Deed) : State × Int × Int :=
  if x.kind = 1 then goodsMake r s me x.name else
  if x.kind = 2 then ((goodsScrap r s me x.i).1, 0, (goodsScrap r s me x.i).2) else
  if x.kind = 3 then ((goodsDrop r s me x.i).1, 0, (goodsDrop r s me x.i).2) else
  if x.kind = 4 then ((goodsTake r s me x.i).1, 0, (goodsTake r s me x.i).2) else
  ((goodsPass r s me x.i x.who).1, 0, (goodsPass r s me x.i x.who).2)
theorem goodsDo_ok (r : Realm) (s : State) (me : Me) (x : Deed) (hr : r.wf) (hs : s.wf) (m : Mem) : fin 3 [.agg (r : Realm).cells, .agg (s : State).cells, .agg (me : Me).cells, .agg (x : Deed).cells] m = some (.tup [.agg ((goodsDo r s me x).1 : State).cells, .int .i64 ((goodsDo r s me x).2.1), .int .i64 ((goodsDo r s me x).2.2)], m) := by
  refine fn_of rialtolaw29_do (by kernel_rfl) rfl rfl (by simp only [nx]) ?_ m; simp only [rx, reduceIte, zqa, zqb, zqc, zqd, zqe, zqf, zqg, zqh, zqi, zqj, zqk, zql, zqm, zqn, lim_call, rialtolaw29_do, goodsMake_r, goodsScrap_r, goodsDrop_r, goodsTake_r, goodsPass_r, goodsDo, hr, hs]
  have _ := @goodsMake_r; have _ := @goodsScrap_r; have _ := @goodsDrop_r; have _ := @goodsTake_r; have _ := @goodsPass_r; exact autoT
theorem goodsDo_r (r_labels : List Lab) (r_lines : List Int) (r_accounts : List Account) (r_guilds : List Guild) (r_quotas : List Quota) (r_orders : Int) (r_audits : Int) (r_rate : Int) (r_rounds : Int) (s_round : Int) (s_shelves : List Shelf) (s_ranks : List (List Int)) (s_orders : List Order) (s_audit : List Entry) (s_sessions : List Int) (me_line : Int) (me_label : Int) (me_who : Int) (x_kind : Int) (x_i : Int) (x_who : Int) (x_name : ByteArray) (hr : (⟨r_labels, r_lines, r_accounts, r_guilds, r_quotas, r_orders, r_audits, r_rate, r_rounds⟩ : Realm).wf) (hs : (⟨s_round, s_shelves, s_ranks, s_orders, s_audit, s_sessions⟩ : State).wf) (m : Mem) : fin 3 [.agg [.sl .any (r_labels.map Lab.cells), .sl .any (r_lines.map icell), .sl .any (r_accounts.map Account.cells), .sl .any (r_guilds.map Guild.cells), .sl .any (r_quotas.map Quota.cells), .int .i64 r_orders, .int .i64 r_audits, .int .i64 r_rate, .int .i64 r_rounds], .agg [.int .u64 s_round, .sl .any (s_shelves.map Shelf.cells), .sl .any (s_ranks.map rcell), .sl .any (s_orders.map Order.cells), .sl .any (s_audit.map Entry.cells), .sl .any (s_sessions.map icell)], .agg [.int .i64 me_line, .int .i64 me_label, .int .i64 me_who], .agg [.int .i64 x_kind, .int .i64 x_i, .int .i64 x_who, .str x_name]] m = some (.tup [.agg ((goodsDo (⟨r_labels, r_lines, r_accounts, r_guilds, r_quotas, r_orders, r_audits, r_rate, r_rounds⟩ : Realm) (⟨s_round, s_shelves, s_ranks, s_orders, s_audit, s_sessions⟩ : State) (⟨me_line, me_label, me_who⟩ : Me) (⟨x_kind, x_i, x_who, x_name⟩ : Deed)).1 : State).cells, .int .i64 ((goodsDo (⟨r_labels, r_lines, r_accounts, r_guilds, r_quotas, r_orders, r_audits, r_rate, r_rounds⟩ : Realm) (⟨s_round, s_shelves, s_ranks, s_orders, s_audit, s_sessions⟩ : State) (⟨me_line, me_label, me_who⟩ : Me) (⟨x_kind, x_i, x_who, x_name⟩ : Deed)).2.1), .int .i64 ((goodsDo (⟨r_labels, r_lines, r_accounts, r_guilds, r_quotas, r_orders, r_audits, r_rate, r_rounds⟩ : Realm) (⟨s_round, s_shelves, s_ranks, s_orders, s_audit, s_sessions⟩ : State) (⟨me_line, me_label, me_who⟩ : Me) (⟨x_kind, x_i, x_who, x_name⟩ : Deed)).2.2)], m) := goodsDo_ok ⟨r_labels, r_lines, r_accounts, r_guilds, r_quotas, r_orders, r_audits, r_rate, r_rounds⟩ ⟨s_round, s_shelves, s_ranks, s_orders, s_audit, s_sessions⟩ ⟨me_line, me_label, me_who⟩ ⟨x_kind, x_i, x_who, x_name⟩ hr hs m
def viewSeen (r : Realm) (s : State) (a : Lab) : State := { s with
  shelves := chooseTo (seesLab r a) s.shelves (newState r).shelves s.shelves.length
  ranks := chooseTo (seesGuild r a) s.ranks (newState r).ranks s.ranks.length
  sessions := chooseTo (seesLine r a) s.sessions (newState r).sessions s.sessions.length }
def viewFrom (r : Realm) (s : State) (a : Lab) : State × Int := if realmRight r = true then (if labRight a = true then (if viewFits r s = true then (viewSeen r s a, 0) else (noState, 1)) else (noState, 1)) else (noState, 1)
theorem newState_len {r : Realm} (h : realmRight r = true) : (newState r).shelves.length = r.quotas.length ∧ (newState r).ranks.length = r.guilds.length ∧ (newState r).sessions.length = r.lines.length := by
  simp [newState, hallNew, h]
theorem newShelf_small {r : Realm} (ok : RealmOk r) {k : Nat} (hk : k < r.quotas.length) : (newShelf r k).small := by
  have hq := quotaNums_le (ok.quota k (by omega) (by omega))
  have hq0 := quotaNums_le (ok.quota 0 (by omega) (by have := ok.labels1; have := ok.quotas; omega))
  have a8 := ok.accounts8
  unfold newShelf
  by_cases h0 : k = 0
  · rw [if_pos h0]
    refine ⟨?_, ?_, ?_, ?_, ?_, ?_, ?_⟩ <;> simp [freshShelf] <;> omega
  · rw [if_neg h0]
    refine ⟨?_, ?_, ?_, ?_, ?_, ?_, ?_⟩ <;> simp [freshShelf] <;> omega
theorem default_small : (default : Shelf).small := by refine ⟨?_, ?_, ?_, ?_, ?_, ?_, ?_⟩ <;> decide
theorem newState_small {r : Realm} (h : realmRight r = true) : (∀ i, (nth (newState r).shelves i).small) ∧ ∀ i, (nth (newState r).ranks i).length ≤ 4096 := by
  have ok := realmOk h
  constructor
  · intro i
    rcases nth_or (newState r).shelves i with ⟨k, hk, e⟩ | e
    · rw [e]
      have hk2 : k < r.quotas.length := by simpa [newState] using hk
      have : nth (newState r).shelves k = newShelf r k := by
        refine nth_eq ?_
        show ((List.range r.quotas.length).map (newShelf r))[k]? = _
        rw [List.getElem?_map, List.getElem?_range hk2]; rfl
      rw [this]
      exact newShelf_small ok hk2
    · rw [e]; exact default_small
  · intro i
    rcases nth_or (newState r).ranks i with ⟨k, hk, e⟩ | e
    · rw [e]
      have hk2 : k < r.guilds.length := by simpa [newState, hallNew, h] using hk
      have : nth (newState r).ranks k = hallRow r (nth r.guilds k) := by
        refine nth_eq ?_
        show (hallNew r)[k]? = _
        unfold hallNew
        rw [if_pos h, List.getElem?_map, get_nth_nat hk2]; rfl
      rw [this]
      have a8 := ok.accounts8
      simp [hallRow]; omega
    · rw [e]; exact Nat.zero_le _
theorem viewSeen_small {r : Realm} {s : State} {a : Lab} (h : realmRight r = true) (hs : s.smallR) : (viewSeen r s a).smallR := by
  obtain ⟨⟨w1, w2, w3, w4, w5⟩, w6, w7⟩ := hs
  obtain ⟨n1, n2⟩ := newState_small h
  refine ⟨⟨by simp only [viewSeen, chooseTo_len]; exact w1, fun i => ?_, w3, w4, by simp only [viewSeen, chooseTo_len]; exact w5⟩, by simp only [viewSeen, chooseTo_len]; exact w6, fun i => ?_⟩
  · rcases nth_or (viewSeen r s a).shelves i with ⟨k, hk, e⟩ | e
    · rw [e]
      have hk2 : k < s.shelves.length := by simpa [viewSeen, chooseTo_len] using hk
      simp only [viewSeen]
      rw [chooseTo_nth hk2]
      split
      · exact w2 k
      · exact n1 k
    · rw [e]; exact default_small
  · rcases nth_or (viewSeen r s a).ranks i with ⟨k, hk, e⟩ | e
    · rw [e]
      have hk2 : k < s.ranks.length := by simpa [viewSeen, chooseTo_len] using hk
      simp only [viewSeen]
      rw [chooseTo_nth hk2]
      split
      · exact w7 k
      · exact n2 k
    · rw [e]; exact Nat.zero_le _
theorem viewFrom_ok (r : Realm) (s : State) (a : Lab) (hr : r.wf) (hs : s.smallR) (m : Mem) : fin 29 [.agg (r : Realm).cells, .agg (s : State).cells, .agg (a : Lab).cells] m = some (.tup [.agg ((viewFrom r s a).1 : State).cells, .int .i64 ((viewFrom r s a).2)], m) := by
  cases hR : realmRight r with
  | false => refine fn_of view_From (by kernel_rfl) rfl rfl (by simp only [nx]) ?_ m; simp only [rx, reduceIte, zqa, zqb, zqc, zqd, zqe, zqf, zqg, zqh, zqi, zqj, zqk, zql, zqm, zqn, lim_call, view_From, stateNew_r, labRight_r, viewFits_r, clone_r, hr, stateNew, viewFrom, hR, noState]
  | true =>
    have ok := realmOk hR
    have q8 := ok.labels8
    have g8 := ok.guilds8
    have l8 := ok.lines8
    obtain ⟨n1, n2, n3⟩ := newState_len hR
    have hcl := clone_ok (viewSeen r s a) (viewSeen_small hR hs)
    cases ha : labRight a with
    | false => refine fn_of view_From (by kernel_rfl) rfl rfl (by simp only [nx]) ?_ m; simp only [rx, reduceIte, zqa, zqb, zqc, zqd, zqe, zqf, zqg, zqh, zqi, zqj, zqk, zql, zqm, zqn, lim_call, view_From, stateNew_r, labRight_r, viewFits_r, clone_r, hr, stateNew, viewFrom, hR, ha, noState]
    | true =>
      cases hf : viewFits r s with
      | false => refine fn_of view_From (by kernel_rfl) rfl rfl (by simp only [nx]) ?_ m; simp only [rx, reduceIte, zqa, zqb, zqc, zqd, zqe, zqf, zqg, zqh, zqi, zqj, zqk, zql, zqm, zqn, lim_call, view_From, stateNew_r, labRight_r, viewFits_r, clone_r, hr, stateNew, viewFrom, hR, ha, hf, noState]
      | true =>
        have hf2 := hf
        simp only [viewFits, Bool.and_eq_true, beq_iff_eq] at hf2
        have hx1 := choose_Shelf_ok s.shelves (newState r).shelves 75 [] [.iptr r.cells 0, .iptr a.cells 0] (seesLab r a) (by omega) (by rw [n1, ok.quotas]; omega) (fun _ => rfl) (fun n => by simp only [nx, norms]) (fun i hi m => seesLab_ok i r a (by omega) (by omega) m)
        have hx2 := choose_Ranks_ok s.ranks (newState r).ranks 76 [] [.iptr r.cells 0, .iptr a.cells 0] (seesGuild r a) (by omega) (by rw [n2]; omega) (fun _ => rfl) (fun n => by simp only [nx, norms]) (fun i hi m => seesGuild_ok i r a (by omega) (by omega) m)
        have hx3 := choose_Int_ok s.sessions (newState r).sessions 77 [] [.iptr [.fn 75 [] [.iptr r.cells 0, .iptr a.cells 0]] 0, .iptr r.cells 0] (seesLine r a) (by omega) (by rw [n3]; omega) (fun _ => rfl) (fun n => by simp only [nx, norms]) (fun i hi m => by
          have hl := ok.lineAt i (by omega) (by omega)
          exact seesLine_ok i r a (by omega) (by omega) hl.1 hl.2 m)
        simp only [celld, newState] at hx1 hx2 hx3
        simp only [celld, viewSeen, newState] at hcl
        refine fn_of view_From (by kernel_rfl) rfl rfl (by simp only [nx]) ?_ m; simp only [rx, reduceIte, zqa, zqb, zqc, zqd, zqe, zqf, zqg, zqh, zqi, zqj, zqk, zql, zqm, zqn, lim_call, view_From, stateNew_r, labRight_r, viewFits_r, clone_r, hr, stateNew, viewFrom, hR, ha, hf, hx1, hx2, hx3, hcl, viewSeen, newState]
theorem viewFrom_r (r_labels : List Lab) (r_lines : List Int) (r_accounts : List Account) (r_guilds : List Guild) (r_quotas : List Quota) (r_orders : Int) (r_audits : Int) (r_rate : Int) (r_rounds : Int) (s_round : Int) (s_shelves : List Shelf) (s_ranks : List (List Int)) (s_orders : List Order) (s_audit : List Entry) (s_sessions : List Int) (a_level : Int) (a_comps : Int) (hr : (⟨r_labels, r_lines, r_accounts, r_guilds, r_quotas, r_orders, r_audits, r_rate, r_rounds⟩ : Realm).wf) (hs : (⟨s_round, s_shelves, s_ranks, s_orders, s_audit, s_sessions⟩ : State).smallR) (m : Mem) : fin 29 [.agg [.sl .any (r_labels.map Lab.cells), .sl .any (r_lines.map icell), .sl .any (r_accounts.map Account.cells), .sl .any (r_guilds.map Guild.cells), .sl .any (r_quotas.map Quota.cells), .int .i64 r_orders, .int .i64 r_audits, .int .i64 r_rate, .int .i64 r_rounds], .agg [.int .u64 s_round, .sl .any (s_shelves.map Shelf.cells), .sl .any (s_ranks.map rcell), .sl .any (s_orders.map Order.cells), .sl .any (s_audit.map Entry.cells), .sl .any (s_sessions.map icell)], .agg [.int .i64 a_level, .int .u64 a_comps]] m = some (.tup [.agg ((viewFrom (⟨r_labels, r_lines, r_accounts, r_guilds, r_quotas, r_orders, r_audits, r_rate, r_rounds⟩ : Realm) (⟨s_round, s_shelves, s_ranks, s_orders, s_audit, s_sessions⟩ : State) (⟨a_level, a_comps⟩ : Lab)).1 : State).cells, .int .i64 ((viewFrom (⟨r_labels, r_lines, r_accounts, r_guilds, r_quotas, r_orders, r_audits, r_rate, r_rounds⟩ : Realm) (⟨s_round, s_shelves, s_ranks, s_orders, s_audit, s_sessions⟩ : State) (⟨a_level, a_comps⟩ : Lab)).2)], m) := viewFrom_ok ⟨r_labels, r_lines, r_accounts, r_guilds, r_quotas, r_orders, r_audits, r_rate, r_rounds⟩ ⟨s_round, s_shelves, s_ranks, s_orders, s_audit, s_sessions⟩ ⟨a_level, a_comps⟩ hr hs m
end Go.Rx.Api
