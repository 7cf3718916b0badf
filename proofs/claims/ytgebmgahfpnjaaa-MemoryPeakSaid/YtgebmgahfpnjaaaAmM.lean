/-
  The operations run: maps; the clearing of a slice.
-/
import Derived.Test.YtgebmgahfpnjaaaAm12
import Derived.MapKept
set_option linter.unnecessarySimpa false
set_option linter.unusedSectionVars false
set_option linter.unusedSimpArgs false
set_option linter.unusedVariables false
namespace Go.AM
open Go.MapKept (IsKey run_findKey run_checkKey sameNow_of_keys)

variable {P : Program} {w : World} {I : Im} {μ : Pos} {σ : Sto}

def kdesc : Option IntKind → TypeDesc → Prop
  | some ik, d => d = .int ik
  | none, d => d = .string

theorem tmap_spec {t : TypeId} {ik : Option IntKind} {e : TypeId} (h : tmap P t = some (ik, e)) : ∃ k d, P.underlying t = some (.map k e) ∧ P.underlying k = some d ∧ kdesc ik d := by
  unfold tmap at h
  split at h
  · rename_i k e' hu
    split at h
    · rename_i q hk
      simp only [Option.some.injEq, Prod.mk.injEq] at h
      obtain ⟨rfl, rfl⟩ := h
      exact ⟨k, _, hu, hk, rfl⟩
    · rename_i hk
      simp only [Option.some.injEq, Prod.mk.injEq] at h
      obtain ⟨rfl, rfl⟩ := h
      exact ⟨k, _, hu, hk, rfl⟩
    · cases h
  · cases h

theorem key_rep {ik : Option IntKind} {v : Value} {u : AV} (hv : RepV w I μ σ v u) (hk : keyOk ik u) : keyFits ik (keyOf u) ∧ v = keyVal ik (keyOf u) := by
  cases u with
  | d x =>
    cases x with
    | int k n =>
      simp only [keyOk] at hk
      subst hk
      cases hv.inv_d
      exact ⟨trivial, rfl⟩
    | str l =>
      simp only [keyOk] at hk
      subst hk
      cases hv.inv_d
      exact ⟨trivial, rfl⟩
    | _ => exact hk.elim
  | _ => exact hk.elim

theorem keyVal_inj {ik : Option IntKind} {k k' : Key} (h : keyFits ik k) (h' : keyFits ik k') (e : keyVal ik k = keyVal ik k') : k = k' := by
  cases ik <;> cases k <;> cases k' <;> simp_all [keyFits, keyVal]

theorem isKey_of {ik : Option IntKind} {d : TypeDesc} (hi : kdesc ik d) {k : Key} (hk : keyFits ik k) : IsKey d (keyVal ik k) := by
  cases ik <;> cases k <;> simp_all [keyFits, keyVal, kdesc, IsKey]
theorem checkKey_goes {ik : Option IntKind} {kt : TypeId} {d : TypeDesc} (hd : P.underlying kt = some d) (hi : kdesc ik d) {k : Key} (hk : keyFits ik k) (em : Bool) : (Instr.checkKey em 10000 kt (keyVal ik k)).run P w = .ok () w :=
  run_checkKey hd (isKey_of hi hk) em 9999

theorem sameNow_key {ik : Option IntKind} {d : TypeDesc} (hi : kdesc ik d) {k k' : Key} (hk : keyFits ik k) (hk' : keyFits ik k') : Instr.sameNow d (keyVal ik k) (keyVal ik k') = some (decide (k = k')) := by
  obtain ⟨r, h1, h2⟩ := sameNow_of_keys (isKey_of hi hk) (isKey_of hi hk')
  rw [h1]
  congr 1
  rw [Bool.eq_iff_iff, h2, decide_eq_true_eq]
  exact ⟨keyVal_inj hk hk', fun e => by rw [e]⟩

theorem findNow_spec {ik : Option IntKind} {d : TypeDesc} (hi : kdesc ik d) {k : Key} (hk : keyFits ik k) : ∀ (es : List MapEntry) (i : Nat), (∀ e ∈ es, ∃ k', keyFits ik k' ∧ e.key = keyVal ik k') →
    (∃ e n, es[n]? = some e ∧ e.key = keyVal ik k ∧ Instr.findNow d (keyVal ik k) es i = some (some (i + n, e.val))) ∨ ((∀ e ∈ es, e.key ≠ keyVal ik k) ∧ Instr.findNow d (keyVal ik k) es i = some none)
  | [], i, _ => .inr ⟨fun e he => by simp at he, rfl⟩
  | e :: es, i, h => by
    obtain ⟨k', h1, h2⟩ := h e List.mem_cons_self
    have hs := sameNow_key hi hk h1
    rw [← h2] at hs
    by_cases hkk : k = k'
    · subst hkk
      left
      refine ⟨e, 0, rfl, h2, ?_⟩
      simp [Instr.findNow, hs]
    · have hs' : Instr.sameNow d (keyVal ik k) e.key = some false := by rw [hs]; simp [hkk]
      have hf : Instr.findNow d (keyVal ik k) (e :: es) i = Instr.findNow d (keyVal ik k) es (i + 1) := by simp [Instr.findNow, hs']
      rw [hf]
      rcases findNow_spec hi hk es (i + 1) (fun e' he' => h e' (List.mem_cons_of_mem _ he')) with ⟨e', n, q1, q2, q3⟩ | ⟨q1, q2⟩
      · exact .inl ⟨e', n + 1, by simpa using q1, q2, by rw [q3]; congr 3; omega⟩
      · refine .inr ⟨fun e' he' => ?_, q2⟩
        rcases List.mem_cons.1 he' with rfl | he'
        · rw [h2]; intro hc; exact hkk (keyVal_inj h1 hk hc).symm
        · exact q1 e' he'

/-- a map that is alive -/
theorem Rel.mapOf (h : Rel w I μ σ) {id : Nat} (hb : (blkAt σ id).isMap = true) : ∃ b es clock, id < σ.length ∧ alive σ id ∧ (blkAt σ id).own = true ∧ μ id = some (b, 0) ∧ ¬ I.fr b ∧ w.heap[b]? = some (.map es clock) ∧ MapIs w I μ σ (blkAt σ id).mk (blkAt σ id).mf es.toList := by
  cases hB : blkAt σ id with
  | map ik f =>
    have ho : (blkAt σ id).own = true := by rw [hB]; rfl
    have hid := blkAt_own_lt ho
    have := h.blk id hid
    rw [hB] at this
    obtain ⟨b, es, clock, h1, h2, h3, h4⟩ := this
    exact ⟨b, es, clock, hid, by unfold alive; rw [hB]; rfl, rfl, h1, h2, h3, h4⟩
  | _ => rw [hB] at hb; simp [Blk.isMap] at hb

def lkV (σ : Sto) (z m k : AV) (ok : Bool) : AV := if ok = true then .tup [(lkF σ m (keyOf k)).getD z, .d (.bool (lkF σ m (keyOf k)).isSome)] else (lkF σ m (keyOf k)).getD z

theorem zeroV_rep {e : TypeId} {z : Value} (hz : tzero P e = some z) : RepV w I μ σ z (zeroV P e) := by
  unfold zeroV; rw [hz]; exact constV_rep z

theorem pair_rep {v1 v2 : Value} {u1 u2 : AV} (h1 : RepV w I μ σ v1 u1) (h2 : RepV w I μ σ v2 u2) : RepV w I μ σ (.tuple #[v1, v2]) (.tup [u1, u2]) :=
  .tup [v1, v2] [u1, u2] rfl fun i v u hv hu => by
    match i with
    | 0 => simp at hv hu; subst hv; subst hu; exact h1
    | 1 => simp at hv hu; subst hv; subst hu; exact h2
    | i + 2 => simp at hv

theorem lookup_goes (h : Rel w I μ σ) {t : TypeId} {ik : Option IntKind} {e : TypeId} (ht : tmap P t = some (ik, e)) {mv kv : Value} {m k : AV} (hm : RepV w I μ σ mv m) (hk : RepV w I μ σ kv k) (hko : keyOk ik k) (ho : lkOk σ ik m)
    (hz : (tzero P e).isSome = true) (ok : Bool) : ∃ z, (Instr.lookup t mv kv ok).run P w = .ok z w ∧ RepV w I μ σ z (lkV σ (zeroV P e) m k ok) := by
  obtain ⟨kt, d, hu, hd, hi⟩ := tmap_spec ht
  obtain ⟨z0, hz⟩ := Option.isSome_iff_exists.1 hz
  obtain ⟨hf, rfl⟩ := key_rep hk hko
  have hzr := zeroV_rep (P := P) (w := w) (I := I) (μ := μ) (σ := σ) hz
  have hzrun := run_zeroValue' (P := P) (w := w) hz
  have fin : ∀ (v : Value) (b : Bool) (u : AV), RepV w I μ σ v u → RepV w I μ σ (if ok = true then .tuple #[v, .bool b] else v) (if ok = true then .tup [u, .d (.bool b)] else u) := fun v b u hr => by
    cases ok with
    | true => exact pair_rep hr (.d _ _ (.bool _))
    | false => exact hr
  cases m with
  | mapr id =>
    obtain ⟨hb, hik⟩ := ho
    obtain ⟨b, es, clock, _, hal, _, h1, _, h3, hM⟩ := h.mapOf hb
    cases hm with
    | mapr _ _ _ hh =>
      obtain ⟨b', h4, rfl⟩ := hh
      have := h4 hal
      rw [h1] at this
      simp only [Option.some.injEq, Prod.mk.injEq, and_true] at this
      subst this
      rw [hik] at hM
      have hck := checkKey_goes (P := P) (w := w) hd hi hf es.isEmpty
      rcases findNow_spec hi hf es.toList 0 hM.keys with ⟨en, n, q1, q2, q3⟩ | ⟨q1, q2⟩
      · have hrun := run_findKey (P := P) (w := w) hd q3
        have hsome : ∃ u, (blkAt σ id).mf (keyOf k) = some u ∧ RepV w I μ σ en.val u := by
          cases hfk : (blkAt σ id).mf (keyOf k) with
          | none => exact absurd q2 (hM.miss _ hf hfk en (List.mem_of_getElem? q1))
          | some u =>
            obtain ⟨e2, r1, r2, r3⟩ := hM.hit _ u hf hfk
            have : e2 = en := by
              apply Classical.byContradiction
              intro hne
              have hp := hM.nodup
              rw [List.pairwise_iff_getElem] at hp
              obtain ⟨i2, hi2⟩ := List.getElem?_of_mem r1
              have hl2 : i2 < es.toList.length := by
                rcases Nat.lt_or_ge i2 es.toList.length with h' | h'
                · exact h'
                · rw [List.getElem?_eq_none h'] at hi2; cases hi2
              have hl1 : n < es.toList.length := by
                rcases Nat.lt_or_ge n es.toList.length with h' | h'
                · exact h'
                · rw [List.getElem?_eq_none h'] at q1; cases q1
              rw [List.getElem?_eq_getElem hl1] at q1
              rw [List.getElem?_eq_getElem hl2] at hi2
              simp only [Option.some.injEq] at q1 hi2
              rcases Nat.lt_trichotomy n i2 with hlt | heq | hgt
              · exact hp n i2 hl1 hl2 hlt (by rw [q1, hi2, q2, r2])
              · subst heq; exact hne (hi2.symm.trans q1)
              · exact hp i2 n hl2 hl1 hgt (by rw [q1, hi2, q2, r2])
            subst this
            exact ⟨u, rfl, r3⟩
        obtain ⟨u, hu1, hu2⟩ := hsome
        refine ⟨if ok = true then .tuple #[en.val, .bool true] else en.val, ?_, ?_⟩
        · simp only [Instr.lookup, Sem.run_bind, run_underlying hu, Result.andThen_ok, MapKept.run_getObj_map h3, hck, hrun, Sem.run_pure]
        · have e0 : lkF σ (.mapr id) (keyOf k) = some u := hu1
          unfold lkV
          rw [e0]
          exact fin en.val true u hu2
      · have hrun := run_findKey (P := P) (w := w) hd q2
        have hnone : (blkAt σ id).mf (keyOf k) = none := by
          cases hfk : (blkAt σ id).mf (keyOf k) with
          | none => rfl
          | some u =>
            obtain ⟨e2, r1, r2, r3⟩ := hM.hit _ u hf hfk
            exact absurd r2 (q1 e2 r1)
        refine ⟨if ok = true then .tuple #[z0, .bool false] else z0, ?_, ?_⟩
        · simp only [Instr.lookup, Sem.run_bind, run_underlying hu, Result.andThen_ok, MapKept.run_getObj_map h3, hck, hrun, hzrun, Sem.run_pure]
        · have e0 : lkF σ (.mapr id) (keyOf k) = none := hnone
          unfold lkV
          rw [e0]
          exact fin z0 false _ hzr
  | d x =>
    cases x with
    | raw v =>
      cases v with
      | map p =>
        cases p with
        | none =>
          have hmv : mv = .map none := by cases hm.inv_d; rfl
          subst hmv
          have hck := checkKey_goes (P := P) (w := w) hd hi hf true
          have hrun := run_findKey (P := P) (w := w) (kt := kt) (l := []) (k := keyVal ik (keyOf k)) (a := none) hd rfl
          refine ⟨if ok = true then .tuple #[z0, .bool false] else z0, ?_, fin z0 false _ hzr⟩
          simp only [Instr.lookup, Sem.run_bind, run_underlying hu, Result.andThen_ok, Sem.run_pure, Array.isEmpty_empty, hck, hrun, hzrun]
        | some b => exact ho.elim
      | _ => exact ho.elim
    | _ => exact ho.elim
  | _ => exact ho.elim

/-! ### writes -/
theorem wrote_map {b : Nat} {es : Array MapEntry} {clock : Nat} (hb : w.heap[b]? = some (.map es clock)) (es' : Array MapEntry) (clock' : Nat) : WroteAt b w { w with heap := w.heap.setIfInBounds b (.map es' clock') } := by
  have hlt : b < w.heap.size := by
    rcases Nat.lt_or_ge b w.heap.size with h' | h'
    · exact h'
    · rw [Array.getElem?_eq_none h'] at hb; cases hb
  refine ⟨rfl, rfl, rfl, by simp, fun b' hb' => by simp [Array.getElem?_setIfInBounds_ne (Ne.symm hb')], ?_, ?_⟩
  · unfold blkSize; simp [hb, Array.getElem?_setIfInBounds_self_of_lt hlt]
  · rintro ⟨c, t, hc⟩; rw [hb] at hc; cases hc
theorem heap_map {b : Nat} {es : Array MapEntry} {clock : Nat} (hb : w.heap[b]? = some (.map es clock)) (o : Obj) : ({ w with heap := w.heap.setIfInBounds b o } : World).heap[b]? = some o := by
  have hlt : b < w.heap.size := by
    rcases Nat.lt_or_ge b w.heap.size with h' | h'
    · exact h'
    · rw [Array.getElem?_eq_none h'] at hb; cases hb
  simp [Array.getElem?_setIfInBounds_self_of_lt hlt]

/-- the map's block written anew -/
theorem Rel.setMap (h : Rel w I μ σ) {id b : Nat} {es es' : Array MapEntry} {clock clock' : Nat} {f' : Key → Option AV} (hb : (blkAt σ id).isMap = true) (hμ : μ id = some (b, 0)) (hh : w.heap[b]? = some (.map es clock))
    (hM : MapIs w I μ σ (blkAt σ id).mk f' es'.toList) :
    Rel { w with heap := w.heap.setIfInBounds b (.map es' clock') } I μ (σ.set id (.map (blkAt σ id).mk f')) ∧ Keep σ.length w I μ σ { w with heap := w.heap.setIfInBounds b (.map es' clock') } I μ (σ.set id (.map (blkAt σ id).mk f')) := by
  have hown : (blkAt σ id).own = true := by cases hB : blkAt σ id <;> simp_all [Blk.isMap, Blk.own]
  have hid := blkAt_own_lt hown
  have ww := wrote_map hh es' clock'
  have a1 : (Blk.map (blkAt σ id).mk f').isArr = (blkAt σ id).isArr := by cases hB : blkAt σ id <;> simp_all [Blk.isMap, Blk.isArr]
  have a2 : (Blk.map (blkAt σ id).mk f').es = (blkAt σ id).es := by cases hB : blkAt σ id <;> simp_all [Blk.isMap, Blk.es]
  have a3 : (blkAt σ id).xs.length ≤ (Blk.map (blkAt σ id).mk f').xs.length := by cases hB : blkAt σ id <;> simp_all [Blk.isMap, Blk.xs]
  have k := keep_upd h hown hμ ww (.map (blkAt σ id).mk f') a1 a2 a3
  refine ⟨h.upd hown hμ ww _ a1 a2 a3 ⟨b, es', clock', hμ, (own_lt h hid hown hμ).2, heap_map hh _, hM.imp' fun v u hv => hv.keep k⟩, k⟩

theorem mapUpdate_goes (h : Rel w I μ σ) {t : TypeId} {ik : Option IntKind} {e : TypeId} (ht : tmap P t = some (ik, e)) {mv kv vv : Value} {m k v : AV} (hm : RepV w I μ σ mv m) (hk : RepV w I μ σ kv k) (hv : RepV w I μ σ vv v) (hko : keyOk ik k) (ho : muOk σ ik m v) :
    ∃ w', (Instr.mapUpdate t mv kv vv).run P w = .ok () w' ∧ Rel w' I μ (muS σ (keyOf k) v m) ∧ Keep σ.length w I μ σ w' I μ (muS σ (keyOf k) v m) := by
  obtain ⟨kt, d, hu, hd, hi⟩ := tmap_spec ht
  obtain ⟨hf, rfl⟩ := key_rep hk hko
  cases m with
  | mapr id =>
    obtain ⟨hb, hik, _⟩ := ho
    obtain ⟨b, es, clock, _, hal, _, h1, _, h3, hM⟩ := h.mapOf hb
    cases hm with
    | mapr _ _ _ hh =>
      obtain ⟨b', h4, rfl⟩ := hh
      have := h4 hal
      rw [h1] at this
      simp only [Option.some.injEq, Prod.mk.injEq, and_true] at this
      subst this
      have hM' := hM
      rw [hik] at hM'
      have hck := checkKey_goes (P := P) (w := w) hd hi hf false
      rcases findNow_spec hi hf es.toList 0 hM'.keys with ⟨en, n, q1, q2, q3⟩ | ⟨q1, q2⟩
      · have hrun := run_findKey (P := P) (w := w) hd q3
        have hn : n < es.size := by
          rcases Nat.lt_or_ge n es.size with h' | h'
          · exact h'
          · rw [List.getElem?_eq_none (by simpa using h')] at q1; cases q1
        have q1' : es[n]? = some en := by simpa using q1
        have hstay : (Instr.keyThatStays en.key (keyVal ik (keyOf k))).run P w = .ok (keyVal ik (keyOf k)) w := by
          rw [q2]
          have : Instr.sameBits 10000 (keyVal ik (keyOf k)) (keyVal ik (keyOf k)) = true := by
            cases ik <;> cases keyOf k <;> simp [keyVal, Instr.sameBits, MapKept.bytes_beq]
          simp [Instr.keyThatStays, this]
        obtain ⟨r1, r2⟩ := h.setMap (clock' := clock) (es' := es.modify n fun e => { e with key := keyVal ik (keyOf k), val := vv }) (f' := mset (blkAt σ id).mf (keyOf k) v) hb h1 h3 (by
          rw [hik]
          have hget : ∀ j : Nat, (es.modify n fun e => { e with key := keyVal ik (keyOf k), val := vv }).toList[j]? = if n = j then (es.toList[j]?).map (fun e => { e with key := keyVal ik (keyOf k), val := vv }) else es.toList[j]? := fun j => by
            rw [Array.toList_modify, List.getElem?_modify]
            by_cases e : n = j <;> simp [e]
          have hkeys : ∀ e' ∈ (es.modify n fun e => { e with key := keyVal ik (keyOf k), val := vv }).toList, ∃ j e0, es.toList[j]? = some e0 ∧ e'.key = e0.key ∧ ((j = n ∧ e'.val = vv) ∨ (j ≠ n ∧ e' = e0)) := fun e' he' => by
            obtain ⟨j, hj⟩ := List.getElem?_of_mem he'
            rw [hget] at hj
            by_cases e : n = j
            · subst e
              rw [if_pos rfl, q1] at hj
              simp only [Option.map_some, Option.some.injEq] at hj
              subst hj
              exact ⟨n, en, q1, q2.symm, .inl ⟨rfl, rfl⟩⟩
            · rw [if_neg e] at hj
              exact ⟨j, e', hj, rfl, .inr ⟨fun h => e h.symm, rfl⟩⟩
          refine ⟨fun e' he' => ?_, ?_, fun k' u' hk' hu' => ?_, fun k' hk' hu' e' he' => ?_⟩
          · obtain ⟨j, e0, g1, g2, _⟩ := hkeys e' he'
            rw [g2]; exact hM'.keys e0 (List.mem_of_getElem? g1)
          · rw [List.pairwise_iff_getElem]
            intro i j hi' hj' hij
            have hp := hM'.nodup
            rw [List.pairwise_iff_getElem] at hp
            have hli : i < es.toList.length := by simpa using hi'
            have hlj : j < es.toList.length := by simpa using hj'
            have gi : ((es.modify n fun e => { e with key := keyVal ik (keyOf k), val := vv }).toList[i]).key = (es.toList[i]).key := by
              have := hget i
              rw [List.getElem?_eq_getElem hi', List.getElem?_eq_getElem hli] at this
              by_cases e : n = i
              · subst e
                rw [if_pos rfl] at this
                simp only [Option.map_some, Option.some.injEq] at this
                rw [this]
                rw [List.getElem?_eq_getElem hli] at q1
                simp only [Option.some.injEq] at q1
                rw [q1]; exact q2.symm
              · rw [if_neg e] at this
                simp only [Option.some.injEq] at this
                rw [this]
            have gj : ((es.modify n fun e => { e with key := keyVal ik (keyOf k), val := vv }).toList[j]).key = (es.toList[j]).key := by
              have := hget j
              rw [List.getElem?_eq_getElem hj', List.getElem?_eq_getElem hlj] at this
              by_cases e : n = j
              · subst e
                rw [if_pos rfl] at this
                simp only [Option.map_some, Option.some.injEq] at this
                rw [this]
                rw [List.getElem?_eq_getElem hlj] at q1
                simp only [Option.some.injEq] at q1
                rw [q1]; exact q2.symm
              · rw [if_neg e] at this
                simp only [Option.some.injEq] at this
                rw [this]
            rw [gi, gj]
            exact hp i j hli hlj hij
          · unfold mset at hu'
            by_cases e : k' = keyOf k
            · subst e
              rw [if_pos rfl] at hu'
              simp only [Option.some.injEq] at hu'
              subst hu'
              refine ⟨{ en with key := keyVal ik (keyOf k), val := vv }, List.mem_of_getElem? (i := n) (by rw [hget, if_pos rfl, q1]; rfl), rfl, hv⟩
            · rw [if_neg e] at hu'
              obtain ⟨e0, g1, g2, g3⟩ := hM'.hit k' u' hk' hu'
              obtain ⟨j, hj⟩ := List.getElem?_of_mem g1
              have hne : n ≠ j := fun h => by
                subst h
                rw [q1] at hj
                simp only [Option.some.injEq] at hj
                subst hj
                exact e (keyVal_inj hk' hf (g2.symm.trans q2))
              exact ⟨e0, List.mem_of_getElem? (i := j) (by rw [hget, if_neg hne, hj]), g2, g3⟩
          · unfold mset at hu'
            by_cases e : k' = keyOf k
            · rw [if_pos e] at hu'; cases hu'
            · rw [if_neg e] at hu'
              obtain ⟨j, e0, g1, g2, _⟩ := hkeys e' he'
              rw [g2]; exact hM'.miss k' hk' hu' e0 (List.mem_of_getElem? g1))
        refine ⟨_, ?_, r1, r2⟩
        simp only [Instr.mapUpdate, Sem.run_bind, run_underlying hu, Result.andThen_ok, MapKept.run_getObj_map h3, hck, hrun, Nat.zero_add, q1', Option.map_some, Option.getD_some, hstay, MapKept.run_setObj_map _ h3]
      · have hrun := run_findKey (P := P) (w := w) hd q2
        obtain ⟨r1, r2⟩ := h.setMap (clock' := clock + 1) (es' := es.push { key := keyVal ik (keyOf k), val := vv, born := clock }) (f' := mset (blkAt σ id).mf (keyOf k) v) hb h1 h3 (by
          rw [hik]
          refine ⟨fun e' he' => ?_, ?_, fun k' u' hk' hu' => ?_, fun k' hk' hu' e' he' => ?_⟩
          · rw [Array.toList_push] at he'
            rcases List.mem_append.1 he' with he' | he'
            · exact hM'.keys e' he'
            · simp at he'; subst he'; exact ⟨_, hf, rfl⟩
          · rw [Array.toList_push, List.pairwise_append]
            refine ⟨hM'.nodup, by simp, fun a ha b' hb' => ?_⟩
            simp at hb'; subst hb'
            exact q1 a ha
          · rw [Array.toList_push]
            unfold mset at hu'
            by_cases e : k' = keyOf k
            · subst e
              rw [if_pos rfl] at hu'
              simp only [Option.some.injEq] at hu'
              subst hu'
              exact ⟨_, List.mem_append_right _ List.mem_cons_self, rfl, hv⟩
            · rw [if_neg e] at hu'
              obtain ⟨e0, g1, g2, g3⟩ := hM'.hit k' u' hk' hu'
              exact ⟨e0, List.mem_append_left _ g1, g2, g3⟩
          · rw [Array.toList_push] at he'
            unfold mset at hu'
            by_cases e : k' = keyOf k
            · rw [if_pos e] at hu'; cases hu'
            · rw [if_neg e] at hu'
              rcases List.mem_append.1 he' with he' | he'
              · exact hM'.miss k' hk' hu' e' he'
              · simp at he'; subst he'
                exact fun hc => e (keyVal_inj hk' hf hc.symm))
        refine ⟨_, ?_, r1, r2⟩
        simp only [Instr.mapUpdate, Sem.run_bind, run_underlying hu, Result.andThen_ok, MapKept.run_getObj_map h3, hck, hrun, MapKept.run_setObj_map _ h3]
  | _ => exact ho.elim

theorem delete_goes (h : Rel w I μ σ) {t ty t2 : TypeId} {ik : Option IntKind} {e : TypeId} (ht : tmap P t = some (ik, e)) {mv kv : Value} {id : Nat} {k : AV} (hm : RepV w I μ σ mv (.mapr id)) (hk : RepV w I μ σ kv k) (hko : keyOk ik k) (hb : (blkAt σ id).isMap = true) (hik : (blkAt σ id).mk = ik) :
    ∃ w', (Builtin.delete_ #[t, t2] ty #[mv, kv]).run P w = .ok (.tuple #[]) w' ∧ Rel w' I μ (mdS σ (keyOf k) (.mapr id)) ∧ Keep σ.length w I μ σ w' I μ (mdS σ (keyOf k) (.mapr id)) := by
  obtain ⟨kt, d, hu, hd, hi⟩ := tmap_spec ht
  obtain ⟨hf, rfl⟩ := key_rep hk hko
  obtain ⟨b, es, clock, _, hal, _, h1, _, h3, hM⟩ := h.mapOf hb
  cases hm with
  | mapr _ _ _ hh =>
    obtain ⟨b', h4, rfl⟩ := hh
    have := h4 hal
    rw [h1] at this
    simp only [Option.some.injEq, Prod.mk.injEq, and_true] at this
    subst this
    have hM' := hM
    rw [hik] at hM'
    have hck := checkKey_goes (P := P) (w := w) hd hi hf es.isEmpty
    rcases findNow_spec hi hf es.toList 0 hM'.keys with ⟨en, n, q1, q2, q3⟩ | ⟨q1, q2⟩
    · have hrun := run_findKey (P := P) (w := w) hd q3
      have hn : n < es.size := by
        rcases Nat.lt_or_ge n es.size with h' | h'
        · exact h'
        · rw [List.getElem?_eq_none (by simpa using h')] at q1; cases q1
      have hl : (es.eraseIdxIfInBounds n).toList = es.toList.eraseIdx n := by
        simp [Array.eraseIdxIfInBounds, hn]
      have hmem : ∀ e', e' ∈ es.toList.eraseIdx n ↔ e' ∈ es.toList ∧ e'.key ≠ keyVal ik (keyOf k) := fun e' => by
        have hp := hM'.nodup
        rw [List.pairwise_iff_getElem] at hp
        have hnl : n < es.toList.length := by simpa using hn
        have hen : es.toList[n] = en := by rw [List.getElem?_eq_getElem hnl] at q1; simpa using q1
        rw [List.mem_eraseIdx_iff_getElem?]
        constructor
        · rintro ⟨j, hj, hje⟩
          refine ⟨List.mem_of_getElem? hje, fun hc => ?_⟩
          have hjl : j < es.toList.length := by
            rcases Nat.lt_or_ge j es.toList.length with h' | h'
            · exact h'
            · rw [List.getElem?_eq_none h'] at hje; cases hje
          rw [List.getElem?_eq_getElem hjl] at hje
          simp only [Option.some.injEq] at hje
          rcases Nat.lt_or_ge j n with hlt | hge
          · exact hp j n hjl hnl hlt (by rw [hen, hje, hc, q2])
          · exact hp n j hnl hjl (by omega) (by rw [hen, hje, hc, q2])
        · rintro ⟨hm', hc⟩
          obtain ⟨j, hj⟩ := List.getElem?_of_mem hm'
          refine ⟨j, fun hjn => ?_, hj⟩
          subst hjn
          rw [q1] at hj
          simp only [Option.some.injEq] at hj
          subst hj
          exact hc q2
      obtain ⟨r1, r2⟩ := h.setMap (clock' := clock) (es' := es.eraseIdxIfInBounds n) (f' := mdel (blkAt σ id).mf (keyOf k)) hb h1 h3 (by
        rw [hik, hl]
        refine ⟨fun e' he' => hM'.keys e' ((hmem e').1 he').1, hM'.nodup.sublist (List.eraseIdx_sublist _ _), fun k' u' hk' hu' => ?_, fun k' hk' hu' e' he' => ?_⟩
        · unfold mdel at hu'
          by_cases e : k' = keyOf k
          · rw [if_pos e] at hu'; cases hu'
          · rw [if_neg e] at hu'
            obtain ⟨e0, g1, g2, g3⟩ := hM'.hit k' u' hk' hu'
            exact ⟨e0, (hmem e0).2 ⟨g1, fun hc => e (keyVal_inj hk' hf (g2.symm.trans hc))⟩, g2, g3⟩
        · have := (hmem e').1 he'
          unfold mdel at hu'
          by_cases e : k' = keyOf k
          · rw [e]; exact this.2
          · rw [if_neg e] at hu'; exact hM'.miss k' hk' hu' e' this.1)
      refine ⟨_, ?_, r1, r2⟩
      simp [Builtin.delete_, run_underlying hu, MapKept.run_getObj_map h3, hck, hrun, MapKept.run_setObj_map _ h3]
    · have hrun := run_findKey (P := P) (w := w) hd q2
      obtain ⟨r1, r2⟩ := h.setMap (clock' := clock) (es' := es) (f' := mdel (blkAt σ id).mf (keyOf k)) hb h1 h3 (by
        rw [hik]
        refine ⟨hM'.keys, hM'.nodup, fun k' u' hk' hu' => ?_, fun k' hk' hu' e' he' => ?_⟩
        · unfold mdel at hu'
          by_cases e : k' = keyOf k
          · rw [if_pos e] at hu'; cases hu'
          · rw [if_neg e] at hu'; exact hM'.hit k' u' hk' hu'
        · unfold mdel at hu'
          by_cases e : k' = keyOf k
          · rw [e]; exact q1 e' he'
          · rw [if_neg e] at hu'; exact hM'.miss k' hk' hu' e' he')
      refine ⟨_, ?_, r1, r2⟩
      simp [Builtin.delete_, run_underlying hu, MapKept.run_getObj_map h3, hck, hrun, MapKept.run_setObj_map _ h3]

theorem makeMap_goes (h : Rel w I μ σ) (t : TypeId) (ik : Option IntKind) :
    ∃ w' μ', (Instr.makeMap t none).run P w = .ok (.map (some w.heap.size)) w' ∧ Rel w' I μ' (σ ++ [.map ik fun _ => none]) ∧ Keep σ.length w I μ σ w' I μ' (σ ++ [.map ik fun _ => none]) ∧ RepV w' I μ' (σ ++ [.map ik fun _ => none]) (.map (some w.heap.size)) (.mapr σ.length) := by
  refine ⟨w.alloc (.map #[] 0), posNew μ σ.length (w.heap.size, 0), rfl, h.alloc _ _ ⟨w.heap.size, #[], 0, posNew_self _ _ _, fun hI => ?_, heap_alloc_new _ _, ?_⟩, keep_alloc h _ _ _, .mapr _ _ (by simp) ⟨w.heap.size, fun _ => posNew_self _ _ _, rfl⟩⟩
  · have := h.imm _ hI; omega
  · exact ⟨fun e he => by simp at he, by simp, fun k v _ hv => by simp at hv, fun k _ _ e he => by simp at he⟩

/-! ### clear -/
theorem clearL_length (xs : List D) (off n : Nat) (z : D) : (clearL xs off n z).length = xs.length := by simp [clearL]
theorem clearL_get (xs : List D) (off n : Nat) (z : D) (i : Nat) (hi : i < xs.length) : (clearL xs off n z)[i]? = some (if off ≤ i ∧ i < off + n then z else xs.getD i default) := by
  simp [clearL, hi]
theorem clearL_none (xs : List D) (off : Nat) (z : D) : clearL xs off 0 z = xs := by
  apply List.ext_getElem?
  intro i
  rcases Nat.lt_or_ge i xs.length with hi | hi
  · rw [clearL_get _ _ _ _ _ hi, if_neg (by omega), getD_of_lt hi]
  · rw [List.getElem?_eq_none hi, List.getElem?_eq_none (by rw [clearL_length]; exact hi)]

def clOk (P : Program) (σ : Sto) (t : TypeId) : AV → Prop
  | .osl id _ _ => (blkAt σ id).isOwnArr = true ∧ (match telem P t with | some e => (match tzero P e, dataZero P e with | some z, some _ => z.cells.size = (blkAt σ id).es | _, _ => False) | none => False)
  | _ => False
def clX (P : Program) (t : TypeId) : D := match telem P t with | some e => (dataZero P e).getD default | none => default
def clS (P : Program) (σ : Sto) (t : TypeId) : AV → Sto
  | .osl id off len => σ.set id (.arr (blkAt σ id).es (clearL (blkAt σ id).xs off len (clX P t)))
  | _ => σ

theorem clear_goes (h : Rel w I μ σ) {t ty : TypeId} {v : Value} {u : AV} (hv : RepV w I μ σ v u) (ho : clOk P σ t u) :
    ∃ w', (Builtin.clear_ #[t] ty #[v]).run P w = .ok (.tuple #[]) w' ∧ Rel w' I μ (clS P σ t u) ∧ Keep σ.length w I μ σ w' I μ (clS P σ t u) := by
  cases u with
  | osl id off len =>
    obtain ⟨hb, ho⟩ := ho
    cases hte : telem P t with
    | none => rw [hte] at ho; exact ho.elim
    | some e =>
    cases hz : tzero P e with
    | none => simp [hte, hz] at ho
    | some z =>
    cases hdz : dataZero P e with
    | none => simp [hte, hz, hdz] at ho
    | some x =>
    simp only [hte, hz, hdz] at ho
    have hX : clX P t = x := by unfold clX; rw [hte]; simp [hdz]
    have hu := telem_spec hte
    cases hB : blkAt σ id with
    | arr es xs =>
      rw [hB] at ho
      simp only [Blk.es] at ho
      have hown : (blkAt σ id).own = true := by rw [hB]; rfl
      have hid := blkAt_own_lt hown
      have hal : alive σ id := by unfold alive; rw [hB]; rfl
      simp only [clS, hB, Blk.es, Blk.xs, hX]
      clear hX
      have same : len = 0 → Rel w I μ (σ.set id (.arr es (clearL xs off len x))) ∧ Keep σ.length w I μ σ w I μ (σ.set id (.arr es (clearL xs off len x))) := fun hl => by
        subst hl
        rw [clearL_none]
        have e2 : σ.set id (.arr es xs) = σ := by
          apply List.ext_getElem?
          intro i
          by_cases e : id = i
          · subst e
            rw [List.getElem?_set_self hid]
            unfold blkAt at hB
            rw [List.getD_eq_getElem?_getD, List.getElem?_eq_getElem hid] at hB
            simp only [Option.getD_some] at hB
            rw [List.getElem?_eq_getElem hid, hB]
          · rw [List.getElem?_set_ne e]
        rw [e2]; exact ⟨h, Keep.refl _ _ _ _ (Nat.le_refl _)⟩
      obtain ⟨_, hh⟩ := inv_osl hv
      rcases hh with ⟨rfl, a, rfl⟩ | ⟨b, base, es', cap, h1, h2, rfl⟩
      · obtain ⟨r1, r2⟩ := same rfl
        refine ⟨w, ?_, r1, r2⟩
        cases a <;> simp [Builtin.clear_, run_underlying hu]
      · by_cases hl : len = 0
        · obtain ⟨r1, r2⟩ := same hl
          refine ⟨w, ?_, r1, r2⟩
          subst hl
          simp [Builtin.clear_, run_underlying hu]
        · obtain ⟨hμ, _, p3, p4, _⟩ := h1 hal
          rw [hB] at p3 p4
          simp only [Blk.es, Blk.xs] at p3 p4
          subst p3
          have hblk := h.blk id hid
          rw [hB] at hblk
          rcases hblk with ⟨hn, _⟩ | ⟨b', base', hμ', hnI, hpl, hsz, h5, h6, h7⟩
          · rw [hμ] at hn; cases hn
          · rw [hμ] at hμ'
            simp only [Option.some.injEq, Prod.mk.injEq] at hμ'
            obtain ⟨rfl, rfl⟩ := hμ'
            obtain ⟨hrow, hxl, _⟩ := rowIs_zero (P := P) (w := w) (I := I) hdz hz len es ho
            have hzc : Builtin.zeroCells z.cells len = (Array.range (len * es)).map (z.cells[· % z.cells.size]!) := by unfold Builtin.zeroCells; rw [ho]
            rw [← hzc] at hrow
            obtain ⟨z1, z2, z3, z4, z5⟩ := hrow
            have hxm : x ∈ List.replicate len x := by simp [hl]
            have hxf := z4 x hxm
            have hle : (off + len) * es ≤ xs.length * es := Nat.mul_le_mul_right es p4
            rw [Nat.add_mul] at hle
            obtain ⟨w', hr, ww, hw⟩ := store_run (P := P) (w := w) (b := b) (o := base + off * es) (vs := (Builtin.zeroCells z.cells len).toList) hpl (by simp [z1]; omega) (fun c hc => by
              obtain ⟨q, hq⟩ := List.getElem?_of_mem hc
              have hql : q < len * es := by
                rcases Nat.lt_or_ge q (len * es) with h' | h'
                · exact h'
                · rw [List.getElem?_eq_none (by simp [z1]; exact h')] at hq; cases hq
              have hes : 0 < es := by
                rcases Nat.eq_zero_or_pos es with h' | h'
                · subst h'; simp at hql
                · exact h'
              have hi : q / es < len := Nat.div_lt_of_lt_mul (by rw [Nat.mul_comm]; exact hql)
              have hj : q % es < es := Nat.mod_lt _ hes
              obtain ⟨u, hu1, hu2⟩ := z5 (q / es) (q % es) x _ (by simp [hi]) (List.getElem?_eq_getElem (by rw [hxl]; exact hj))
              rw [Nat.div_add_mod'] at hu1
              have : c = u := by
                rw [Array.getElem?_toList, hu1] at hq
                simpa using hq.symm
              rw [this]
              exact hu2.oneCell (hxf _ (List.getElem_mem _)))
            have k := keep_upd h hown hμ ww (.arr es (clearL xs off len x)) (by rw [hB]; rfl) (by rw [hB]; rfl) (by rw [hB]; simp [Blk.xs, clearL_length])
            refine ⟨w', ?_, ?_, k⟩
            · have hlz : ∃ m, len = m + 1 := ⟨len - 1, by omega⟩
              obtain ⟨m, rfl⟩ := hlz
              simp [Builtin.clear_, run_underlying hu, run_zeroValue' hz, hr]
            · refine h.upd hown hμ ww _ (by rw [hB]; rfl) (by rw [hB]; rfl) (by rw [hB]; simp [Blk.xs, clearL_length]) (.inr ⟨b, base, hμ, hnI, ww.plain hpl, by rw [ww.bsize, clearL_length]; exact hsz, fun y hy => ?_, fun y hy => ?_, fun i j y c hy hc => ?_⟩)
              · unfold clearL at hy
                obtain ⟨i, hi, rfl⟩ := List.mem_map.1 hy
                simp only [List.mem_range] at hi
                split
                · exact hxl
                · exact h5 _ (getD_mem hi)
              · unfold clearL at hy
                obtain ⟨i, hi, rfl⟩ := List.mem_map.1 hy
                simp only [List.mem_range] at hi
                split
                · exact hxf
                · exact h6 _ (getD_mem hi)
              · have hil : i < xs.length := by
                  rcases Nat.lt_or_ge i xs.length with h' | h'
                  · exact h'
                  · rw [List.getElem?_eq_none (by rw [clearL_length]; exact h')] at hy; cases hy
                rw [clearL_get _ _ _ _ _ hil] at hy
                simp only [Option.some.injEq] at hy
                rw [hw]
                have hvl : (Builtin.zeroCells z.cells len).toList.length = len * es := by simpa using z1
                by_cases hin : off ≤ i ∧ i < off + len
                · rw [if_pos hin] at hy
                  subst hy
                  have hjl : j < es := by
                    rw [← hxl]
                    rcases Nat.lt_or_ge j x.cells.length with h' | h'
                    · exact h'
                    · rw [List.getElem?_eq_none h'] at hc; cases hc
                  have e1 : i * es = off * es + (i - off) * es := by rw [← Nat.add_mul]; congr 1; omega
                  have e2 : (i - off + 1) * es ≤ len * es := Nat.mul_le_mul_right es (by omega)
                  rw [Nat.add_mul] at e2
                  rw [hvl, if_pos (by omega)]
                  obtain ⟨u, hu1, hu2⟩ := z5 (i - off) j x c (by rw [List.getElem?_replicate, if_pos (by omega)]) hc
                  refine ⟨u, ?_, hu2.keep k.imm k.rsame⟩
                  rw [Array.getElem?_toList, ← hu1]
                  congr 1; omega
                · rw [if_neg hin] at hy
                  subst hy
                  have hjl : j < es := by
                    rw [← h5 _ (getD_mem hil)]
                    rcases Nat.lt_or_ge j (xs.getD i default).cells.length with h' | h'
                    · exact h'
                    · rw [List.getElem?_eq_none h'] at hc; cases hc
                  have hout : ¬ (base + off * es ≤ base + i * es + j ∧ base + i * es + j < base + off * es + len * es) := by
                    rcases Nat.lt_or_ge i off with h' | h'
                    · have : (i + 1) * es ≤ off * es := Nat.mul_le_mul_right es h'
                      rw [Nat.add_mul] at this
                      omega
                    · have : (off + len) * es ≤ i * es := Nat.mul_le_mul_right es (by omega)
                      rw [Nat.add_mul] at this
                      omega
                  rw [hvl, if_neg hout]
                  obtain ⟨u, hu1, hu2⟩ := h7 i j _ c (getD_of_lt hil) hc
                  exact ⟨u, hu1, hu2.keep k.imm k.rsame⟩
    | _ => rw [hB] at hb; simp [Blk.isOwnArr] at hb
  | _ => exact ho.elim
end Go.AM
