/-
A part of the proof: lemmas on the machine that the printed functions run on, or contracts of functions.
-/
import Derived.Test.YtfnioapgelabfaaGreatDoorRxOps7
set_option linter.unusedVariables false
set_option linter.unusedSimpArgs false
namespace Go.Rx
variable {P : Program} {X : Ctx} {T : Tm} {a : Act} {w : World} {o : Oper} {call : CallF} {v : V} {m' : Mem}
def srcIs (P : Program) (u : TypeId) (sz : Nat) : Bool :=
  match P.underlying u with
  | some (.slice _) => true
  | some .string => sz == 1
  | _ => false
theorem run_append_room' {t u ty e : TypeId} {i : TypeInfo} {sz : Nat} (ht : P.underlying t = some (.slice e)) (hu : srcIs P u sz = true) (hi : P.info? e = some i) (hsz : i.size = sz) {base : Option Addr} {sLen sCap n : Nat} {c : Value} {news : List Value}
    (hlen : (Builtin.lenOf c).run P w = .ok n w) (hnew : (Builtin.firstCells sz n c).run P w = .ok news.toArray w) (hroom : sLen + n ≤ sCap) {w' : World}
    (hst : ∀ ad, base = some ad → (storeCells (ad.add (sLen * sz)) news).run P w = .ok () w') (hn : base = none → w' = w) :
    (Builtin.append_ #[t, u] ty #[.slice base sLen sCap, c]).run P w = .ok (.slice base (sLen + n) sCap) w' := by
  subst hsz
  unfold srcIs at hu
  split at hu
  case h_3 => cases hu
  all_goals
    rename_i hud
    cases base with
    | none =>
      have := hn rfl
      subst this
      simp [Builtin.append_, run_underlying ht, run_underlying hud, sizeOf, typeInfo, hi, hlen, hroom, hnew]
    | some ad =>
      have := hst ad rfl
      simp [Builtin.append_, run_underlying ht, run_underlying hud, sizeOf, typeInfo, hi, hlen, hroom, hnew, this]
theorem run_append_grow' {t u ty e : TypeId} {i : TypeInfo} {z : Value} {sz : Nat} (ht : P.underlying t = some (.slice e)) (hu : srcIs P u sz = true) (hi : P.info? e = some i) (hz : i.zero = some z) (hsz : i.size = sz) {base : Option Addr} {sLen sCap n : Nat} {c : Value} {olds news : List Value}
    (hlen : (Builtin.lenOf c).run P w = .ok n w) (hnew : (Builtin.firstCells sz n c).run P w.drew = .ok news.toArray w.drew) (hold : (Builtin.firstCells sz sLen (.slice base sLen sCap)).run P w.drew = .ok olds.toArray w.drew)
    (hg : sCap < sLen + n) (h63 : ((sLen + n : Nat) : Int) ≤ 9223372036854775807) (hfit : Builtin.nextslicecap (sLen + n) sCap * i.bytes ≤ 281474976710656) :
    (Builtin.append_ #[t, u] ty #[.slice base sLen sCap, c]).run P w = .ok (.slice (some ⟨w.heap.size, 0, none⟩) (sLen + n) (grownCap w (sLen + n) sCap e))
      (w.drew.alloc (.cells (olds.toArray ++ news.toArray ++ Builtin.zeroCells z.cells (grownCap w (sLen + n) sCap e - (sLen + n))) e)) := by
  subst hsz
  have hn : ¬ (sLen + n ≤ sCap) := by omega
  have h63' : ¬ (9223372036854775807 < ((sLen : Int) + (n : Int))) := by omega
  have h48' : ¬ (281474976710656 < Builtin.nextslicecap (sLen + n) sCap * i.bytes) := by omega
  unfold srcIs at hu
  split at hu
  case h_3 => cases hu
  all_goals
    rename_i hud
    simp [Builtin.append_, run_underlying ht, run_underlying hud, sizeOf, typeInfo, zeroValue, hi, hz, hlen, hn, h63', h48', Question.forced, hnew, hold, newRow, grownCap]
    congr 2
    apply Array.ext'
    simp [List.append_assoc]
theorem zeroCells_one {z : Value} (k2 : ∀ v ∈ z.cells.toList, v.oneCell' = true) (n : Nat) : ∀ v ∈ (Builtin.zeroCells z.cells n).toList, v.oneCell' = true := by
  intro v hv
  simp only [Builtin.zeroCells, Array.toList_map, Array.toList_range, List.mem_map, List.mem_range] at hv
  obtain ⟨i, hi, rfl⟩ := hv
  have hz0 : 0 < z.cells.size := by
    rcases Nat.eq_zero_or_pos z.cells.size with h | h
    · rw [h] at hi; simp at hi
    · exact h
  have hlt : i % z.cells.size < z.cells.size := Nat.mod_lt _ hz0
  rw [getElem!_pos z.cells _ hlt]
  exact k2 _ (by simp)
theorem bytes_fit {need old bytes : Nat} (h : old < need) (hb : need * bytes ≤ wide) : Builtin.nextslicecap need old * bytes ≤ 281474976710656 := growslice_fits h (by simp only [wide] at hb; omega)
theorem ok_append (hw : WR X) (hH : X.H = w.heap) (ht : TR X T a.tmps) {imm : Bool} {sz bytes : Nat} {x y : Opd} {c d : Operand} {t u e : TypeId} {i : TypeInfo} (ho : o.op = .call { callee := .builtin .append, args := #[c, d], argTypes := #[t, u] })
    (hut : P.underlying t = some (.slice e)) (hu : srcIs P u sz = true) (hi : P.info? e = some i) {z : Value} (hz : i.zero = some z) (kz' : ∀ v ∈ z.cells.toList, v.oneCell' = true) (hzc : z.cells.size = sz) (hsz : i.size = sz) (hby : i.bytes = bytes) (hc : chkOpd X.lnk x c = true) (hd : chkOpd X.lnk y d = true)
    (hs : stepOp call T X.m (.append imm sz bytes x y) = some (v, m')) : OpOK P o a w X v m' := by
  have h1 := get_VR hc ht
  have h2 := get_VR hd ht
  simp only [stepOp, appendV] at hs
  generalize hce : a.eval c = ce at h1
  generalize hde : a.eval d = de at h2
  generalize hyv : y.get T = yv at hs h2
  have hexec : (execOp a.eval o).run P w = ((Builtin.append_ #[t, u] o.type #[ce, de]).run P w).andThen fun v w' => .ok (.value v) w' := by
    simp [execOp, ho, hce, hde, resolve, invoke, Go.builtin]
  cases hne : elemsOf X.m sz yv with
  | none => simp [hne] at hs
  | some new =>
    simp only [hne, Option.bind_some] at hs
    split at hs
    case isFalse => cases hs
    rename_i hfn
    obtain ⟨news, n1, n2, n3, n4, n5⟩ := elems_run (P := P) hw hH h2 hne hfn
    have hfn' := fitSz_spec hfn
    have hnewl : new.flatten.length = new.length * sz := flatten_length hfn'
    have hfirst : ∀ w', w'.heap = w.heap → (Builtin.firstCells sz new.length de).run P w' = .ok news.toArray w' := fun w' hw' => by
      rw [n5 _ (Nat.le_refl _) w' hw', List.take_of_length_le (by omega)]
    have none0 : ∀ (base : Option Addr) (n cap : Nat), ce = .slice base n cap → n ≤ cap → new.length = 0 → (execOp a.eval o).run P w = .ok (.value (.slice base n cap)) w := by
      intro base n cap hcv hle h0
      subst hcv
      have hnil : news = [] := List.eq_nil_of_length_eq_zero (by rw [n1, h0]; simp)
      subst hnil
      rw [h0] at n4
      have hf0 := hfirst w rfl
      rw [h0] at hf0
      have := run_append_room' (P := P) (w := w) (ty := o.type) hut hu hi hsz (base := base) (sLen := n) (sCap := cap) (n := 0) (news := []) n4 hf0 (by omega) (w' := w) (fun ad _ => by simp [storeCells]) (fun _ => rfl)
      rw [hexec, this]; rfl
    have grow : ∀ (base : Option Addr) (n cap : Nat) (olds : List V) (oldv : List Value), ce = .slice base n cap → cap < n + new.length → VRs X olds oldv → (∀ v ∈ oldv, v.oneCell' = true) → olds.length = n * sz →
        (Builtin.firstCells sz n (.slice base n cap)).run P w.drew = .ok oldv.toArray w.drew → (n + new.length) * bytes ≤ wide → 0 < bytes →
        ∃ (vs : Array Value) (cap' : Nat), (execOp a.eval o).run P w = .ok (.value (.slice (some ⟨w.heap.size, 0, none⟩) (n + new.length) cap')) (w.drew.alloc (.cells vs e)) ∧
          VRs X (olds ++ new.flatten) (vs.toList.take (olds ++ new.flatten).length) ∧ (∀ v ∈ vs.toList, v.oneCell' = true) ∧ n + new.length ≤ cap' ∧ vs.size = cap' * sz := by
      intro base n cap olds oldv hcv hlt hol ho1 hln hfo hb hb0
      subst hcv
      subst hby
      have h63 : ((n + new.length : Nat) : Int) ≤ 9223372036854775807 := by
        simp only [wide] at hb
        have : n + new.length ≤ (n + new.length) * i.bytes := Nat.le_mul_of_pos_right _ hb0
        omega
      have hr := run_append_grow' (P := P) (w := w) (ty := o.type) hut hu hi hz hsz (olds := oldv) (news := news) n4 (hfirst w.drew rfl) hfo hlt h63 (bytes_fit hlt hb)
      refine ⟨_, _, by rw [hexec, hr]; rfl, ?_, ?_, grownCap_ge w _ _ _, ?_⟩
      · have hl : (olds ++ new.flatten).length = (oldv ++ news).length := by rw [List.length_append, List.length_append, hol.1, hnewl, n1]
        have : (oldv.toArray ++ news.toArray ++ Builtin.zeroCells z.cells (grownCap w (n + new.length) cap e - (n + new.length))).toList = (oldv ++ news) ++ (Builtin.zeroCells z.cells (grownCap w (n + new.length) cap e - (n + new.length))).toList := by simp
        rw [this, hl, List.take_left]
        exact hol.append n2
      · intro v hv
        simp only [Array.toList_append, List.mem_append] at hv
        rcases hv with (hv | hv) | hv
        · exact ho1 v hv
        · exact n3 v hv
        · exact zeroCells_one kz' _ v hv
      · simp only [Array.size_append, List.size_toArray, Go.size_zeroCells, hzc, n1]
        rw [← hol.1, hln, ← Nat.add_mul, ← Nat.add_mul]
        congr 1
        have := grownCap_ge w (n + new.length) cap e
        omega
    split at hs
    · 
      rename_i f es hx
      rw [hx] at h1
      obtain ⟨base, cap, hcv⟩ := sl_value h1
      have hcap : es.length ≤ cap ∧ (f.exact = true → cap = es.length) := by
        subst hcv
        generalize hn : es.length = n at h1
        cases h1 with
        | sl0 _ _ _ g1 => exact ⟨by simp at hn; omega, fun he => by have := g1 he; simp at hn; omega⟩
        | sl1 _ _ _ _ _ _ _ _ _ _ _ hcap hexx => exact ⟨hcap, hexx⟩
      split at hs
      · rename_i h0
        simp only [Option.some.injEq, Prod.mk.injEq] at hs
        obtain ⟨rfl, rfl⟩ := hs
        exact OpOK.same (w' := w) hw hH (.refl w) (none0 base es.length cap hcv hcap.1 h0) (by rw [← hcv]; exact h1)
      · rename_i h0
        split at hs
        case isFalse => cases hs
        rename_i hcond
        obtain ⟨q1, q2, q3, q4⟩ := hcond
        have hcape := hcap.2 q1
        obtain ⟨oldv, o1, o2, o3, _, o5⟩ := elems_run (P := P) (sz := sz) (y := .sl f es) hw hH h1 rfl q2
        have hfo : (Builtin.firstCells sz es.length (.slice base es.length cap)).run P w.drew = .ok oldv.toArray w.drew := by
          rw [← hcv, o5 _ (Nat.le_refl _) w.drew rfl, List.take_of_length_le (by omega)]
        have hel : es.flatten.length = es.length * sz := flatten_length (fitSz_spec q2)
        obtain ⟨vs, cap', r1, r2, r3, r4, r5⟩ := grow base es.length cap es.flatten oldv hcv (by omega) o2 o3 hel hfo q3 q4
        have hfe : (es ++ new).flatten = es.flatten ++ new.flatten := List.flatten_append
        have hfa : ∀ e ∈ es ++ new, e.length = sz := fun e he => by
          rcases List.mem_append.1 he with he | he
          · exact fitSz_spec q2 e he
          · exact hfn' e he
        have hla : (es ++ new).flatten.length = (es.length + new.length) * sz := by rw [flatten_length hfa, List.length_append]
        cases imm with
        | true =>
          simp only [if_true, Option.some.injEq, Prod.mk.injEq] at hs
          obtain ⟨rfl, rfl⟩ := hs
          let more : List V := (vs.toList.drop (es ++ new).flatten.length).map fun _ => V.undef
          have hall : VRs X ((es ++ new).flatten ++ more) vs.toList := by
            have h := r2.append (c2 := more) (v2 := vs.toList.drop (es ++ new).flatten.length) ⟨by simp [more], fun i c u hc _ => by
              obtain ⟨_, _, rfl⟩ := List.mem_map.1 (List.mem_of_getElem? hc)
              exact .undef _⟩
            rw [← hfe, List.take_append_drop] at h
            exact h
          refine OpOK.newImm hw hH r1 rfl ⟨rfl, rfl, rfl⟩ hall r3 fun X' _ hrow hI => ?_
          have key := hrow.sl hI sz (es.length + new.length) cap' (by rw [List.length_append]; omega) r4 .nn (fun he => by cases he) (by simp [SF.isNil])
          rwa [chunks_flatten (es ++ new) hfa _ (by simp) more] at key
        | false =>
          simp only [Bool.false_eq_true, if_false, Option.some.injEq, Prod.mk.injEq] at hs
          obtain ⟨rfl, rfl⟩ := hs
          refine OpOK.newOwn hw hH r1 rfl ⟨rfl, rfl, rfl⟩ (by rw [hfe]; exact r2) r3 fun X' hm hB hH' => ?_
          refine .msl _ _ _ _ _ _ _ _ (by rw [hm]; simp [Mem.push]) r4 (fun he => by cases he) fun cs hcs => ?_
          have hcs' : cs = (es ++ new).flatten := by
            rw [hm] at hcs
            simp [Mem.cells, Mem.push] at hcs
            rw [← hcs, List.flatten_append]
          subst hcs'
          have : (es.length + new.length) * sz ≤ cap' * sz := Nat.mul_le_mul_right _ r4
          exact ⟨by omega, fun _ => by omega, w.heap.size, _, e, hB, hH', by omega, .inr ⟨rfl, rfl, rfl⟩⟩
    · 
      rename_i id st sz' off len ex hx
      rw [hx] at h1
      split at hs
      case isFalse => cases hs
      rename_i hzq
      subst hzq
      cases hcs : X.m.cells id st with
      | none => simp [hcs] at hs
      | some cs =>
        simp only [hcs, Option.bind_some] at hs
        have hst : st < X.m.gen := by cases h1; assumption
        obtain ⟨b, cc, e', cap, ad, hcv, g1, g2, g3, g4, hrow, g5, g6, g7, g8, g9, g10⟩ := msl_row hw h1 hcs
        split at hs
        · rename_i h0
          simp only [Option.some.injEq, Prod.mk.injEq] at hs
          obtain ⟨rfl, rfl⟩ := hs
          exact OpOK.same (w' := w) hw hH (.refl w) (none0 (some ad) len cap hcv g5 h0) (by rw [← hcv]; exact h1)
        · rename_i h0
          split at hs
          case isFalse => cases hs
          rename_i hcond
          obtain ⟨q3, q4⟩ := hcond
          have hbs : X.m.bs[id]? = some (some (.cells st cs)) := by
            have hc2 := hcs
            unfold Mem.cells at hc2
            split at hc2
            · rename_i s cs' h
              split at hc2
              · rename_i hs; subst hs; cases hc2; exact h
              · cases hc2
            · cases hc2
          have hid : id < X.m.bs.length := lt_of_getElem? hbs
          obtain ⟨b', b1, b2, b3, cc0, e0, b4, b5, b6, b7⟩ := hw.live id _ hbs
          rw [g1] at b1; cases b1
          rw [g2] at b4; cases b4
          have inplace : cap ≠ 0 → len + new.length ≤ cap → ∀ w', w' = w.setRow b (cc.toList.take (off + len * sz') ++ (news ++ cc.toList.drop (off + len * sz' + news.length))).toArray →
              (execOp a.eval o).run P w = .ok (.value (.slice (some ⟨b, off, none⟩) (len + new.length) cap)) w' := by
            intro hc0 hroom w' hw'
            have had : ad = ⟨b, off, none⟩ := g10.resolve_left hc0
            subst had
            have hmul : (len + new.length) * sz' ≤ cap * sz' := Nat.mul_le_mul_right _ hroom
            have hst := run_storeCells_at P b (off + len * sz') e' news 0 cc w (by rw [← hH]; exact g2) (by rw [Nat.add_mul] at hmul; omega) n3
            simp only [Nat.add_zero] at hst
            have := run_append_room' (P := P) (w := w) (ty := o.type) hut hu hi hsz (base := some ⟨b, off, none⟩) (sLen := len) (sCap := cap) (news := news) n4 (hfirst w rfl) hroom (w' := w')
              (fun ad' had => by cases had; rw [add_none, hst, hw', List.append_assoc]) (fun h => by cases h)
            rw [hexec, hcv, this]; rfl
          split at hs
          · 
            rename_i hq
            obtain ⟨rfl, hlc⟩ := hq
            simp only [Option.some.injEq, Prod.mk.injEq] at hs
            obtain ⟨rfl, rfl⟩ := hs
            have hcsl : cs.length = len * sz' := hlc.symm
            have hnew2 : (cs ++ new.flatten).length = (len + new.length) * sz' := by rw [List.length_append, hnewl, Nat.add_mul]; omega
            let m2 : Mem := { bs := X.m.bs.set id (some (.cells X.m.gen (cs ++ new.flatten))), gen := X.m.gen + 1 }
            have hm2 : m2.bs[id]? = some (some (.cells X.m.gen (cs ++ new.flatten))) := by simp [m2, hid]
            have hval : ∀ (X' : Ctx), X'.m = m2 → ∀ st cs', st < X.m.gen → X'.m.cells id st = some cs' → False := fun X' hX st cs' hs hc => by
              rw [hX] at hc
              simp only [Mem.cells, hm2] at hc
              split at hc
              · omega
              · cases hc
            have hmap : ∀ (X' : Ctx), X'.m = m2 → ∀ st es', st < X.m.gen → X'.m.map id st = some es' → False := fun X' hX st es' hs hc => by
              rw [hX] at hc
              simp only [Mem.map, hm2] at hc
              cases hc
            by_cases hroom : len + new.length ≤ cap
            · 
              have hc0 : cap ≠ 0 := by omega
              intro K Q hK
              let w' := w.setRow b (cc.toList.take (0 + len * sz') ++ (news ++ cc.toList.drop (0 + len * sz' + news.length))).toArray
              have hr := inplace hc0 hroom w' rfl
              have hHb : w.heap[b]? = some (.cells cc e' (0, 0)) := by rw [← hH]; exact g2
              have hmul : (len + new.length) * sz' ≤ cap * sz' := Nat.mul_le_mul_right _ hroom
              rw [Nat.add_mul] at hmul
              have key := goes_set hw ⟨X.lnk, X.B, X.I, m2, w'.heap⟩ id b rfl rfl (by simp [m2]) (by simp [m2, hw.len]) (fun i hi => rfl) (fun i hi => by simp [m2, List.getElem?_set_ne (Ne.symm hi)]) g1
                (by show _ ≤ (w.setRow b _).heap.size; rw [setRow_size', hH]; omega) (fun k _ hk => by show (w.setRow b _).heap[k]? = _; rw [setRow_other' w b k _ hk, hH]) (.inr ⟨_, hbs, g1⟩)
                (fun st cs' hs hc => (hval _ rfl st cs' hs hc).elim) (fun st es' hs hc => (hmap _ rfl st es' hs hc).elim)
              have hheap : w'.heap[b]? = some (.cells (cc.toList.take (0 + len * sz') ++ (news ++ cc.toList.drop (0 + len * sz' + news.length))).toArray e' (0, 0)) := setRow_heap w b cc _ e' (0, 0) hHb
              have hsizes : (cc.toList.take (0 + len * sz') ++ (news ++ cc.toList.drop (0 + len * sz' + news.length))).toArray.size = cc.size := by
                simp only [List.size_toArray, List.length_append, List.length_take, List.length_drop, Array.length_toList]; omega
              obtain ⟨k1, k2⟩ := key.2 fun bk hbk => by
                simp only [hm2, Option.some.injEq] at hbk
                subst hbk
                refine ⟨by simp [m2], _, _, hheap, by rw [hsizes, hnew2, Nat.add_mul]; omega, fun j v hv => ?_, fun j v u hj hu => ?_⟩
                · simp only [List.getElem?_toArray] at hv
                  have := List.mem_of_getElem? hv
                  simp only [List.mem_append] at this
                  rcases this with h | h | h
                  · have := List.mem_of_mem_take h
                    rw [Array.mem_toList_iff] at this
                    obtain ⟨q, hq, rfl⟩ := Array.getElem_of_mem this
                    exact g4 q _ (Array.getElem?_eq_getElem hq)
                  · exact n3 v h
                  · have := List.mem_of_mem_drop h
                    rw [Array.mem_toList_iff] at this
                    obtain ⟨q, hq, rfl⟩ := Array.getElem_of_mem this
                    exact g4 q _ (Array.getElem?_eq_getElem hq)
                · simp only [List.getElem?_toArray] at hu
                  rw [get_splice _ _ _ _ (by simp; omega)] at hu
                  have hjl := lt_of_getElem? hj
                  rw [hnew2, Nat.add_mul] at hjl
                  by_cases h3 : j < cs.length
                  · rw [List.getElem?_append_left h3] at hj
                    rw [if_pos (by omega)] at hu
                    exact (b7 j v u hj (by simpa using hu)).ext key.1
                  · rw [List.getElem?_append_right (by omega)] at hj
                    rw [if_neg (by omega), if_pos (by omega)] at hu
                    exact (n2.2 _ v u hj (by rw [show j - cs.length = j - (0 + len * sz') by omega]; exact hu)).ext key.1
              unfold Oper.wp
              rw [hr]
              refine hK _ w' _ k1 k2 rfl rfl ⟨rfl, rfl, rfl⟩ (.msl _ _ _ _ _ _ _ _ (by simp [m2]) hroom (fun he => by cases he) fun cs' hcs' => ?_)
              have : cs' = cs ++ new.flatten := by
                simp only [Mem.cells, hm2] at hcs'
                simpa using hcs'.symm
              subst this
              have hmul2 : (len + new.length) * sz' ≤ cap * sz' := Nat.mul_le_mul_right _ hroom
              exact ⟨by rw [hnew2, Nat.zero_add]; exact Nat.le_refl _, fun _ => by rw [hnew2, Nat.zero_add]; exact hmul2, b, _, e', g1, hheap, by rw [hsizes]; exact g9, .inr ⟨rfl, rfl, rfl⟩⟩
            · 
              obtain ⟨oldv, o1, o2, o3, _, o5⟩ := elems_run (P := P) (sz := sz') (y := .msl id st sz' 0 len ex) (es := chunks sz' len cs) hw hH h1 (by simp [elemsOf, hcs, hcsl]) (by
                simp only [fitSz, List.all_eq_true, beq_iff_eq]; exact chunks_fit _ _ (by omega))
              have hfl : (chunks sz' len cs).flatten = cs := by rw [flatten_chunks, List.take_of_length_le (by omega)]
              rw [hfl] at o2
              have hfo : (Builtin.firstCells sz' len (.slice (some ad) len cap)).run P w.drew = .ok oldv.toArray w.drew := by
                rw [chunks_length] at o5 o1
                rw [← hcv, o5 _ (Nat.le_refl _) w.drew rfl, List.take_of_length_le (by omega)]
              obtain ⟨vs, cap', r1, r2, r3, r4, r5⟩ := grow (some ad) len cap cs oldv hcv (by omega) o2 o3 hcsl hfo q3 q4
              intro K Q hK
              have key := goes_set hw ⟨X.lnk, X.B.set id X.H.size, X.I, m2, X.H.push (.cells vs e)⟩ id X.H.size rfl rfl (by simp [m2]) (by simp [m2, hw.len]) (fun i hi => by simp [List.getElem?_set_ne (Ne.symm hi)])
                (fun i hi => by simp [m2, List.getElem?_set_ne (Ne.symm hi)]) (by simp [hw.len, hid]) (by simp) (fun k hk _ => push_old hk) (.inl (Nat.le_refl _))
                (fun st cs' hs hc => (hval _ rfl st cs' hs hc).elim) (fun st es' hs hc => (hmap _ rfl st es' hs hc).elim)
              have hvl : (cs ++ new.flatten).length ≤ vs.size := by
                have : (len + new.length) * sz' ≤ cap' * sz' := Nat.mul_le_mul_right _ r4
                omega
              obtain ⟨k1, k2⟩ := key.2 fun bk hbk => by
                simp only [hm2, Option.some.injEq] at hbk
                subst hbk
                refine ⟨by simp [m2], vs, e, push_new, hvl, fun j u hj => r3 u (by rw [Array.mem_toList_iff]; exact Array.mem_of_getElem? hj), fun j u c hj hu => ?_⟩
                refine (r2.2 j u c hj ?_).ext key.1
                rw [List.getElem?_take, if_pos (lt_of_getElem? hj)]; simpa using hu
              unfold Oper.wp
              rw [r1]
              refine hK _ _ _ k1 k2 rfl (by show X.H.push _ = w.heap.push _; rw [hH]) ⟨rfl, rfl, rfl⟩ (.msl _ _ _ _ _ _ _ _ (by simp [m2]) r4 (fun he => by cases he) fun cs' hcs' => ?_)
              have : cs' = cs ++ new.flatten := by
                simp only [Mem.cells, hm2] at hcs'
                simpa using hcs'.symm
              subst this
              have hmul2 : (len + new.length) * sz' ≤ cap' * sz' := Nat.mul_le_mul_right _ r4
              refine ⟨by rw [hnew2, Nat.zero_add]; exact Nat.le_refl _, fun _ => by rw [hnew2, Nat.zero_add]; exact hmul2, w.heap.size, vs, e, ?_, ?_, by rw [r5, Nat.zero_add]; exact Nat.le_refl _, .inr ⟨rfl, rfl, rfl⟩⟩
              · simp [hw.len, hid, hH]
              · simp only [← hH]; exact push_new
          · 
            rename_i hq
            split at hs
            case isFalse => cases hs
            rename_i hq2
            obtain ⟨rfl, hlc, hz0⟩ := hq2
            simp only [Option.some.injEq, Prod.mk.injEq] at hs
            obtain ⟨rfl, rfl⟩ := hs
            have hcap := g8 rfl
            have hnpos : 0 < new.length := by omega
            have hroom : len + new.length ≤ cap := by
              rcases Nat.lt_or_ge cap (len + new.length) with hlt | hge
              · exfalso
                have : (cap + 1) * sz' ≤ (len + new.length) * sz' := Nat.mul_le_mul_right _ hlt
                rw [Nat.add_mul, Nat.one_mul] at this
                omega
              · exact hge
            have hmul : (len + new.length) * sz' = len * sz' + new.length * sz' := Nat.add_mul _ _ _
            refine OpOK.put (off := off + len * sz') hw hH hcs g1 g2 g3 n2 n3 (by omega) rfl (.inl (inplace (by omega) hroom _ rfl)) fun X' hext => ?_
            refine VR.ext hext (.msl _ _ _ _ _ _ _ _ hst hroom (fun he => by cases he) fun cs' hcs' => ?_)
            rw [hcs] at hcs'; cases hcs'
            exact ⟨hlc, fun _ => hcap, b, cc, e', g1, g2, g9, .inr ⟨rfl, rfl, rfl⟩⟩
    · cases hs
end Go.Rx
