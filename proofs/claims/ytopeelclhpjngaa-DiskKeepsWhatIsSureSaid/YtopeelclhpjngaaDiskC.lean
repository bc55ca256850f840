/- The contract of Write. -/
import Derived.Test.YtopeelclhpjngaaDiskB
import Derived.Deep.RegionHeld3
import Derived.Deep.DrawnRows
attribute [local go_sem ↓] Go.wp_at_zero Go.wp_at_succ
namespace Go.Proofs.Ytopeelclhpjngaa
set_option linter.unusedSimpArgs false
set_option linter.unusedVariables false
open Go Go.ChangeMaps Go.RowKit Go.Proofs

theorem fold_cells (n : Nat) (s : Bytes n) (A : Array Value) (hA : A.size = n) : List.foldl (fun (cs : Array Value) x => cs.setIfInBounds x.snd x.fst) A (bcells s).zipIdx = (bcells s).toArray := by
  have h := foldl_over (bcells s) 0 0 A.toList (by simp [hA])
  simp only [Nat.zero_add, Array.toArray_toList] at h
  rw [h]
  simp [over, hA]
attribute [local go_sem] fold_cells

/-- The open writes with one more. -/
def opnSet (i : Int) (s : Sec) : List (Int × List Sec) → List (Int × List Sec)
  | [] => []
  | x :: r => if x.1 == i then (i, x.2 ++ [s]) :: r else x :: opnSet i s r
def opnPut (l : List (Int × List Sec)) (i : Int) (s : Sec) : List (Int × List Sec) := if l.any (fun x => x.1 == i) then opnSet i s l else l ++ [(i, [s])]
def Dsk.writeE (D : Dsk) (i : Int) : Int := if D.chk i ≠ 0 then D.chk i else D.stpE
def Dsk.write (D : Dsk) (i : Int) (s : Sec) : Dsk := if D.chk i ≠ 0 then D else if D.stpE ≠ 0 then D.stp else { D.stp with opn := opnPut D.opn i s }

theorem grow_refl {F : Nat → Prop} {w w' : World} (h : w'.heap.size = w.heap.size) : grow F w w' = F := by
  funext k; simp only [grow, h, eq_iff_iff]; exact ⟨fun h => h.elim id (fun h => by omega), .inl⟩

/-- What the open writes of a sector lie in. -/
theorem own_at {w : World} {b cb mb : Nat} {l : List Ent} {clock : Nat} {D : Dsk} {F : Nat → Prop} (h : DskAt w b cb mb l clock D F) (i : Int) (v : Value) (hv : v = (IMap.get (l.map Ent.i) i).getD (.slice none 0 0)) :
    w.ownsRow 0 33 64 v (D.at i).length (flatS (D.at i)) ∧ ∀ k, v.ownBlock = some k → F k ∧ k ≠ b ∧ k ≠ cb ∧ k ≠ mb := by
  subst hv
  rcases at_of h i with ⟨x, hx, _, hget, hsecs⟩ | ⟨_, hget, hsecs⟩
  · rw [hget, hsecs]
    have hok := h.ok x hx
    have hlen : 0 < x.secs.length := by have := hok.ne; cases hs : x.secs <;> simp_all
    exact ⟨hok.own, fun k hk => ⟨hok.foot k hk, row_ne hok.own hlen h.hb (by intro C; simp) k hk, row_ne hok.own hlen h.hc (by intro C; simp) k hk, row_ne hok.own hlen h.hm (by intro C; simp) k hk⟩⟩
  · rw [hget, hsecs]
    exact ⟨World.ownsRow_nil _ _ _ _, fun k hk => by simp [Value.ownBlock] at hk⟩

theorem keepS {w x : World} {b cb mb g : Nat} {l : List Ent} {clock : Nat} {D : Dsk} {F : Nat → Prop} (h : DskAt w b cb mb l clock D F) {i : Int} {v : Value} (hv : v = (IMap.get (l.map Ent.i) i).getD (.slice none 0 0)) {s : Sec}
    (hbox : w.heap[g]? = some (.cells (bcells s).toArray 33 (0, 0))) (hg : ¬ F g) (hK : Kp (fun k => v.ownBlock = some k ∨ k = mb) w x) :
    x.cell? ⟨b, 1, none⟩ = some (.map (some mb)) ∧ x.rangeAt g 0 (bcells s) := by
  have ho := (own_at h i v hv).2
  have hb := hK.heap h.hb (fun e => e.elim (fun e => (ho b e).2.1 rfl) h.b_ne_m)
  have hx := hK.heap hbox (fun e => e.elim (fun e => hg (ho g e).1) (fun e => hg (e ▸ h.fm)))
  refine ⟨cell_of hb 1, rangeAt_of hx 0 (bcells s) ?_⟩
  rw [List.drop_zero, List.take_length]

theorem look_at {w x : World} {b cb mb : Nat} {l : List Ent} {clock : Nat} {D : Dsk} {F : Nat → Prop} (h : DskAt w b cb mb l clock D F) {i : Int} {v : Value} (hv : v = (IMap.get (l.map Ent.i) i).getD (.slice none 0 0))
    (hK : Kp (fun _ => False) w x) : (Instr.lookup 63 (.map (some mb)) (.int .i64 i) false).run Try.prog x = .ok v x := by
  rw [hv]
  exact run_lookup_imap Try.underlying63 Try.underlying3 _ mb _ clock (hK.heap h.hm (fun e => e)) i _ (by kernel_rfl)

theorem upd_at {w x : World} {b cb mb : Nat} {l : List Ent} {clock : Nat} {D : Dsk} {F : Nat → Prop} (h : DskAt w b cb mb l clock D F) {i : Int} {v : Value} (hv : v = (IMap.get (l.map Ent.i) i).getD (.slice none 0 0))
    (hK : Kp (fun k => v.ownBlock = some k) w x) (u : Value) :
    (Instr.mapUpdate 63 (.map (some mb)) (.int .i64 i) u).run Try.prog x = .ok () (setBlock x mb (.map (IMap.arr (IMap.put (l.map Ent.i) i u clock)) (IMap.tick (l.map Ent.i) i clock))) := by
  have ho := (own_at h i v hv).2
  exact run_update_imap Try.underlying63 Try.underlying3 x mb _ clock (hK.heap h.hm (fun e => (ho mb e).2.2.2 rfl)) i u

def entSet (i : Int) (s : Sec) (u : Value) : List Ent → List Ent
  | [] => []
  | x :: r => if x.key == i then { x with key := i, val := u, secs := x.secs ++ [s] } :: r else x :: entSet i s u r
def entPut (l : List Ent) (i : Int) (s : Sec) (u : Value) (clock : Nat) : List Ent := if l.any (fun x => x.key == i) then entSet i s u l else l ++ [⟨i, u, [s], clock⟩]
theorem entSet_i (i : Int) (s : Sec) (u : Value) : ∀ l : List Ent, (entSet i s u l).map Ent.i = IMap.set i u (l.map Ent.i)
  | [] => rfl
  | x :: r => by
    simp only [entSet, List.map_cons, IMap.set]
    by_cases h : x.key == i
    · have h' : (Ent.i x).1 == i := h
      simp [h, h', Ent.i]
    · have h' : ¬ (Ent.i x).1 == i := h
      rw [if_neg h, if_neg h', List.map_cons, entSet_i i s u r]
theorem entPut_i (l : List Ent) (i : Int) (s : Sec) (u : Value) (clock : Nat) : (entPut l i s u clock).map Ent.i = IMap.put (l.map Ent.i) i u clock := by
  have h : (List.any (l.map Ent.i) fun x => x.1 == i) = l.any fun x => x.key == i := by rw [List.any_map]; rfl
  unfold entPut IMap.put
  rw [h]
  split
  · exact entSet_i i s u l
  · simp [Ent.i]
theorem entSet_o (i : Int) (s : Sec) (u : Value) : ∀ l : List Ent, (entSet i s u l).map (fun x => (x.key, x.secs)) = opnSet i s (l.map fun x => (x.key, x.secs))
  | [] => rfl
  | x :: r => by
    simp only [entSet, List.map_cons, opnSet]
    by_cases h : x.key == i
    · simp [h]
    · rw [if_neg h, if_neg h, List.map_cons, entSet_o i s u r]
theorem entPut_o (l : List Ent) (i : Int) (s : Sec) (u : Value) (clock : Nat) : (entPut l i s u clock).map (fun x => (x.key, x.secs)) = opnPut (l.map fun x => (x.key, x.secs)) i s := by
  have h : (List.any (l.map fun x => (x.key, x.secs)) fun x => x.1 == i) = l.any fun x => x.key == i := by rw [List.any_map]; rfl
  unfold entPut opnPut
  rw [h]
  split
  · exact entSet_o i s u l
  · simp
theorem entSet_keys (i : Int) (s : Sec) (u : Value) : ∀ l : List Ent, (entSet i s u l).map (·.key) = l.map (·.key)
  | [] => rfl
  | x :: r => by
    simp only [entSet]
    by_cases h : x.key == i
    · have : x.key = i := by simpa using h
      simp [this]
    · rw [if_neg h, List.map_cons, entSet_keys i s u r, List.map_cons]
theorem entSet_borns (i : Int) (s : Sec) (u : Value) : ∀ l : List Ent, (entSet i s u l).map (·.born) = l.map (·.born)
  | [] => rfl
  | x :: r => by
    simp only [entSet]
    by_cases h : x.key == i
    · simp [h]
    · rw [if_neg h, List.map_cons, entSet_borns i s u r, List.map_cons]
/-- Who stands in the list behind it: the new one, or an elder one of another key. -/
theorem mem_entSet {i : Int} {s : Sec} {u : Value} : ∀ {l : List Ent}, (l.map (·.key)).Nodup → ∀ y ∈ entSet i s u l, (∃ x ∈ l, x.key = i ∧ y = { x with key := i, val := u, secs := x.secs ++ [s] }) ∨ (y ∈ l ∧ y.key ≠ i)
  | [], _, y, hy => by simp [entSet] at hy
  | x :: r, hn, y, hy => by
    simp only [List.map_cons, List.nodup_cons] at hn
    simp only [entSet] at hy
    by_cases h : x.key == i
    · have hx : x.key = i := by simpa using h
      rw [if_pos h] at hy
      rcases List.mem_cons.1 hy with rfl | hy
      · exact .inl ⟨x, by simp, hx, rfl⟩
      · exact .inr ⟨List.mem_cons_of_mem _ hy, fun e => hn.1 (List.mem_map.2 ⟨y, hy, by rw [e, hx]⟩)⟩
    · have hx : x.key ≠ i := by simpa using h
      rw [if_neg h] at hy
      rcases List.mem_cons.1 hy with rfl | hy
      · exact .inr ⟨by simp, hx⟩
      · rcases mem_entSet hn.2 y hy with ⟨z, hz, e⟩ | ⟨hz, e⟩
        · exact .inl ⟨z, List.mem_cons_of_mem _ hz, e⟩
        · exact .inr ⟨List.mem_cons_of_mem _ hz, e⟩
theorem key_unique {l : List Ent} (hn : (l.map (·.key)).Nodup) {x y : Ent} (hx : x ∈ l) (hy : y ∈ l) (h : x.key = y.key) : x = y := by
  induction l with
  | nil => simp at hx
  | cons a r ih =>
    simp only [List.map_cons, List.nodup_cons] at hn
    rcases List.mem_cons.1 hx with ex | hx'
    · rcases List.mem_cons.1 hy with ey | hy'
      · rw [ex, ey]
      · exact absurd (List.mem_map.2 ⟨y, hy', by rw [← h, ex]⟩) hn.1
    · rcases List.mem_cons.1 hy with ey | hy'
      · exact absurd (List.mem_map.2 ⟨x, hx', by rw [h, ey]⟩) hn.1
      · exact ih hn.2 hx' hy'
theorem pairwise_entSet {i : Int} {s : Sec} {u : Value} {g : Option Nat} (hu : u.ownBlock = g) : ∀ {l : List Ent}, (l.map (·.key)).Nodup → l.Pairwise (fun x y => x.val.ownBlock ≠ y.val.ownBlock) → (∀ x ∈ l, x.key ≠ i → x.val.ownBlock ≠ g) →
    (entSet i s u l).Pairwise (fun x y => x.val.ownBlock ≠ y.val.ownBlock)
  | [], _, _, _ => List.Pairwise.nil
  | x :: r, hn, hp, hg => by
    simp only [List.map_cons, List.nodup_cons] at hn
    obtain ⟨h1, h2⟩ := List.pairwise_cons.1 hp
    simp only [entSet]
    by_cases h : x.key == i
    · have hx : x.key = i := by simpa using h
      rw [if_pos h]
      refine List.pairwise_cons.2 ⟨fun y hy => ?_, h2⟩
      have := hg y (List.mem_cons_of_mem _ hy) (fun e => hn.1 (List.mem_map.2 ⟨y, hy, by rw [e, hx]⟩))
      show u.ownBlock ≠ _
      rw [hu]; exact Ne.symm this
    · have hx : x.key ≠ i := by simpa using h
      rw [if_neg h]
      refine List.pairwise_cons.2 ⟨fun y hy => ?_, pairwise_entSet hu hn.2 h2 (fun z hz => hg z (List.mem_cons_of_mem _ hz))⟩
      rcases mem_entSet hn.2 y hy with ⟨z, hz, hzk, rfl⟩ | ⟨hz, hzk⟩
      · show _ ≠ u.ownBlock
        rw [hu]; exact hg x (by simp) hx
      · exact h1 y hz

/-- THE DISK BEHIND A WRITE. -/
theorem write_fin {w w2 w3 : World} {b cb mb gg cap : Nat} {l : List Ent} {clock : Nat} {D : Dsk} {F : Nat → Prop} {i : Int} {s : Sec} {v : Value} (h : DskAt w b cb mb l clock D F) (h0 : 0 ≤ i) (hn : i < D.cells.length)
    (hv : v = (IMap.get (l.map Ent.i) i).getD (.slice none 0 0)) (hw2 : Kp (fun _ => False) w w2) (hsz : w2.heap.size = w.heap.size + 1)
    (hown : w3.ownsRow 0 33 64 (.slice (some ⟨gg, 0, none⟩) ((D.at i).length + 1) cap) ((D.at i).length + 1) (flatS (D.at i) ++ bcells s)) (hgrow : w2.grownBy w3 v.ownBlock) (hat : v.ownBlock = some gg ∨ gg = w.heap.size + 1) (hlt : gg < w3.heap.size) :
    IsDsk (setBlock w3 mb (.map (IMap.arr (IMap.put (l.map Ent.i) i (.slice (some ⟨gg, 0, none⟩) ((D.at i).length + 1) cap) clock)) (IMap.tick (l.map Ent.i) i clock))) b { D with opn := opnPut D.opn i s }
      (grow F w (setBlock w3 mb (.map (IMap.arr (IMap.put (l.map Ent.i) i (.slice (some ⟨gg, 0, none⟩) ((D.at i).length + 1) cap) clock)) (IMap.tick (l.map Ent.i) i clock)))) := by
  obtain ⟨u, hu⟩ : ∃ u, u = Value.slice (some ⟨gg, 0, none⟩) ((D.at i).length + 1) cap := ⟨_, rfl⟩
  have huo : u.ownBlock = some gg := by rw [hu]; rfl
  rw [← hu] at hown ⊢
  obtain ⟨o, ho⟩ : ∃ o, o = Obj.map (IMap.arr (IMap.put (l.map Ent.i) i u clock)) (IMap.tick (l.map Ent.i) i clock) := ⟨_, rfl⟩
  obtain ⟨hvo, hvn⟩ := own_at h i v hv
  have hK : Kp (fun k => v.ownBlock = some k) w w3 := (hw2.mono (fun _ _ e => e.elim)).grown hgrow (fun k hk _ => hk)
  have hm3 : w3.heap[mb]? = _ := hK.heap h.hm (fun e => (hvn mb e).2.2.2 rfl)
  rw [← ho]
  have hsz3 : w.heap.size + 1 ≤ w3.heap.size := by have := hgrow.size; omega
  have hblk : ∀ k, k < w.heap.size → v.ownBlock ≠ some k → k ≠ mb → (setBlock w3 mb o).heap[k]? = w.heap[k]? := fun k hk h1 h2 => by
    rw [heap_setBlock_ne h2]; exact hK.block k hk h1
  have hggF : grow F w (setBlock w3 mb o) gg := by
    rcases hat with hat | hat
    · exact .inl (hvn gg hat).1
    · exact .inr ⟨by omega, by rw [size_setBlock]; exact hlt⟩
  have hggm : gg ≠ mb := by
    rcases hat with hat | hat
    · exact (hvn gg hat).2.2.2
    · have := lt_of_heap h.hm; omega
  have hownU : ∀ secs : List Sec, secs = D.at i → (setBlock w3 mb o).ownsRow 0 33 64 u (secs ++ [s]).length (flatS (secs ++ [s])) := by
    rintro secs rfl
    rw [flatS_append, flatS_one, List.length_append, List.length_singleton]
    refine ⟨hown.1, ?_⟩
    rcases hown.2 with hx | ⟨g', cap', cur, e1, e2, e3, e4⟩
    · exact .inl hx
    · refine .inr ⟨g', cap', cur, e1, e2, ?_, e4⟩
      rw [heap_setBlock_ne]
      · exact e3
      · rw [hu] at e1; cases e1; exact hggm
  have hother : ∀ x ∈ l, x.key ≠ i → x.val.ownBlock ≠ some gg ∧ EntOk (setBlock w3 mb o) D.cells.length (grow F w (setBlock w3 mb o)) x := by
    intro x hx hk
    have hok := h.ok x hx
    have hlen : 0 < x.secs.length := by have := hok.ne; cases hs : x.secs <;> simp_all
    have hxm := row_ne hok.own hlen h.hm (by intro C; simp)
    have hne : ∀ k, x.val.ownBlock = some k → v.ownBlock ≠ some k := by
      intro k hxk hvk
      rcases at_of h i with ⟨z, hz, hzk, hget, _⟩ | ⟨_, hget, _⟩
      · rw [← hv] at hget
        have hzx : x ≠ z := fun e => hk (e ▸ hzk)
        have : x.val.ownBlock ≠ z.val.ownBlock := by
          have hsym : ∀ {a c : Ent}, a.val.ownBlock ≠ c.val.ownBlock → c.val.ownBlock ≠ a.val.ownBlock := fun h => Ne.symm h
          exact pairwise_mem h.apart hsym hx hz hzx
        rw [hxk, ← hget, hvk] at this
        exact this rfl
      · rw [← hv] at hget
        rw [hget] at hvk
        simp [Value.ownBlock] at hvk
    refine ⟨fun e => ?_, hok.step (fun _ h => .inl h) (fun g hg => hblk g (h.lt g (hok.foot g hg)) (hne g hg) (hxm g hg))⟩
    rcases hat with hat | hat
    · exact hne gg e hat
    · have := h.lt gg (hok.foot gg e); omega
  refine ⟨cb, mb, entPut l i s u clock, IMap.tick (l.map Ent.i) i clock, ?_⟩
  have hb := hblk b (lt_of_heap h.hb) (fun e => (hvn b e).2.1 rfl) h.b_ne_m
  have hc := hblk cb (lt_of_heap h.hc) (fun e => (hvn cb e).2.2.1 rfl) h.c_ne_m
  have hany : l.any (fun x => x.key == i) = (List.any (l.map Ent.i) fun x => x.1 == i) := by rw [List.any_map]; rfl
  refine { hb := hb.trans h.hb, hc := hc.trans h.hc, hm := ?_, ents := ?_, ok := ?_, apart := ?_, keys := ?_, borns := ?_, young := ?_, fb := .inl h.fb, fc := .inl h.fc, fm := .inl h.fm, lt := ?_, alo := h.alo, ahi := h.ahi, pos := h.pos, len := h.len }
  · rw [heap_setBlock_same hm3, ho, entPut_i]
  · rw [entPut_o, h.ents]
  · intro y hy
    unfold entPut at hy
    split at hy
    · rcases mem_entSet h.keys y hy with ⟨x, hx, hxk, rfl⟩ | ⟨hyl, hyk⟩
      · have hsecs : x.secs = D.at i := by
          rcases at_of h i with ⟨z, hz, hzk, _, hs⟩ | ⟨hno, _, _⟩
          · rw [hs, key_unique h.keys hx hz (hxk.trans hzk.symm)]
          · exact absurd hxk (hno x hx)
        exact ⟨hownU _ hsecs, by simp, h0, hn, fun g hg => by rw [huo] at hg; cases hg; exact hggF⟩
      · exact (hother y hyl hyk).2
    · rename_i hno
      rcases List.mem_append.1 hy with hy | hy
      · refine (hother y hy (fun e => hno ?_)).2
        rw [List.any_eq_true]; exact ⟨y, hy, by simp [e]⟩
      · simp only [List.mem_singleton] at hy
        subst hy
        have hsecs : ([] : List Sec) = D.at i := by
          rcases at_of h i with ⟨z, hz, hzk, _, hs⟩ | ⟨_, _, hs⟩
          · exact absurd (List.any_eq_true.2 ⟨z, hz, by simp [hzk]⟩) hno
          · exact hs.symm
        exact ⟨hownU _ hsecs, by simp, h0, hn, fun g hg => by rw [huo] at hg; cases hg; exact hggF⟩
  · unfold entPut
    split
    · exact pairwise_entSet huo h.keys h.apart (fun x hx hk => (hother x hx hk).1)
    · rename_i hno
      refine List.pairwise_append.2 ⟨h.apart, List.pairwise_singleton _ _, fun x hx y hy => ?_⟩
      simp only [List.mem_singleton] at hy
      subst hy
      show _ ≠ u.ownBlock
      rw [huo]
      exact (hother x hx (fun e => hno (List.any_eq_true.2 ⟨x, hx, by simp [e]⟩))).1
  · unfold entPut
    split
    · rw [entSet_keys]; exact h.keys
    · rename_i hno
      rw [List.map_append]
      refine List.nodup_append.2 ⟨h.keys, by simp, fun a ha c hc => ?_⟩
      simp at hc; subst hc
      obtain ⟨x, hx, rfl⟩ := List.mem_map.1 ha
      exact fun e => hno (List.any_eq_true.2 ⟨x, hx, by simpa using e⟩)
  · unfold entPut
    split
    · rw [entSet_borns]; exact h.borns
    · rw [List.map_append]
      refine List.nodup_append.2 ⟨h.borns, by simp, fun a ha c hc => ?_⟩
      simp at hc; subst hc
      obtain ⟨x, hx, rfl⟩ := List.mem_map.1 ha
      exact Nat.ne_of_lt (h.young x hx)
  · intro y hy
    unfold entPut at hy
    unfold IMap.tick
    rw [← hany]
    split at hy
    · rename_i hyes
      rw [if_pos hyes]
      rcases mem_entSet h.keys y hy with ⟨x, hx, _, rfl⟩ | ⟨hyl, _⟩
      · exact h.young x hx
      · exact h.young y hyl
    · rename_i hno
      rw [if_neg hno]
      rcases List.mem_append.1 hy with hy | hy
      · have := h.young y hy; omega
      · simp only [List.mem_singleton] at hy; subst hy; exact Nat.lt_succ_self _
  · rintro k (hk | hk)
    · rw [size_setBlock]; have := h.lt k hk; omega
    · exact hk.2
where
  pairwise_mem {α : Type} {R : α → α → Prop} {l : List α} (hp : l.Pairwise R) (hs : ∀ {a c : α}, R a c → R c a) {x y : α} (hx : x ∈ l) (hy : y ∈ l) (hne : x ≠ y) : R x y := by
    induction l with
    | nil => simp at hx
    | cons a r ih =>
      obtain ⟨h1, h2⟩ := List.pairwise_cons.1 hp
      rcases List.mem_cons.1 hx with ex | hx'
      · rcases List.mem_cons.1 hy with ey | hy'
        · exact absurd (ex.trans ey.symm) hne
        · rw [ex]; exact h1 y hy'
      · rcases List.mem_cons.1 hy with ey | hy'
        · rw [ey]; exact hs (h1 x hx')
        · exact ih h2 hx' hy'

theorem length_at_lt {D : Dsk} {i : Int} (h : ∀ p ∈ D.opn, p.2.length < 1073741824) : (D.at i).length < 1073741824 := by
  unfold Dsk.at
  cases hf : D.opn.find? (fun x => x.1 == i) with
  | none => simp
  | some x => simpa using h x (List.mem_of_find?_eq_some hf)

set_option maxRecDepth 100000 in
set_option maxHeartbeats 4000000 in
theorem write_c (w : World) (b : Nat) (D : Dsk) (F : Nat → Prop) (h : IsDsk w b D F) (i : Int) (s : Sec) (hsmall : ∀ p ∈ D.opn, p.2.length < 1073741824) :
    Calls Try.prog 22 #[.pointer (some ⟨b, 0, none⟩), .int .i64 i, bv s] w fun e w' => e = .returned (.int .i64 (D.writeE i)) ∧ IsDsk w' b (D.write i s) (grow F w w') ∧ Kp F w w' := by
  by_cases hk : D.chk i = 0
  · by_cases hs : D.stpE = 0
    · have hE : D.writeE i = 0 := by simp [Dsk.writeE, hk, hs]
      have hW : D.write i s = { D.stp with opn := opnPut D.opn i s } := by simp [Dsk.write, hk, hs]
      rw [hE, hW]
      have HK := Lib.hid hk
      have HS := Lib.hid hs
      clear hk hs hE hW
      have HW := Lib.hid h
      clear h
      go_enter Try.func22, Try.ntmps22
      go_wp2_with (first
        | ((with_reducible show wpList _ _ _ (Oper.mk _ (Op.box _ _) _ _ _ _ :: _) _ _); refine wpList_boxA 33 rfl _ rfl (bcells s) rfl ?_)
        | (go_at_call 34; refine (check_c _ b D F (HW.out.alloc _) i).mono ?_; rintro e w' ⟨rfl, rfl⟩; rw [HK.out])
        | (go_at_call 39; refine (step_c _ b D F (HW.out.alloc _)).mono ?_; rintro e w2 ⟨rfl, hD2, hk2, hsz2⟩; rw [HS.out]; have HD2 := Lib.hid hD2; have HK2 := Lib.hid hk2; have HSZ2 := Lib.hid hsz2; clear hD2 hk2 hsz2))
      have hD2 := HD2.out
      obtain ⟨cb, mb, l, clock, hD⟩ := hD2
      have hbox : w2.heap[w.heap.size]? = some (.cells (bcells s).toArray 33 (0, 0)) := HK2.out.heap (heap_alloc_new w _) (fun hf => absurd (HW.out.lt _ hf) (Nat.lt_irrefl _))
      have hu := Try.underlying33
      have hi := lenSec s
      have hatn : (D.stp.at i).length < 1073741824 := length_at_lt (by unfold Dsk.stp; split <;> exact hsmall)
      obtain ⟨v, hv⟩ : ∃ v, v = (IMap.get (l.map Ent.i) i).getD (.slice none 0 0) := ⟨_, rfl⟩
      obtain ⟨hown, hap⟩ := own_at hD i v hv
      have hng : ¬ F w.heap.size := fun hf => absurd (HW.out.lt _ hf) (Nat.lt_irrefl _)
      have HDD := Lib.hid hD
      have HV := Lib.hid hv
      have HB := Lib.hid hbox
      have HA := Lib.hid hap
      clear hD hbox hv hap
      obtain ⟨i0, hi0, hz0, hz1, hz2⟩ := info_parts bytesSec
      have hl1 := look_at HDD.out HV.out ((Kp.refl _ _).drew)
      have hl2 := fun o => look_at HDD.out HV.out (((Kp.refl _ _).alloc o).drew)
      go_region_held3 (fun w' => w'.cell? ⟨b, 1, none⟩ = some (.map (some mb)) ∧ w'.rangeAt w.heap.size 0 (bcells s))
        (first
          | exact keepS HDD.out HV.out HB.out hng ((Kp.refl _ _).drew)
          | exact keepS HDD.out HV.out HB.out hng (((Kp.refl _ _).alloc _).drew)
          | exact keepS HDD.out HV.out HB.out hng ((((Kp.refl _ _).alloc _).drew).grown HG.out (fun k hk _ => .inl hk))
          | exact keepS HDD.out HV.out HB.out hng (((((Kp.refl _ _).alloc _).drew).grown HG.out (fun k hk _ => .inl hk)).setBlock (fun _ => .inr rfl) _))
        (first
          | (refine step_append_lies _ (by rfl) _ _ _ (by rfl) 0 33 i0 _ 64 64 Try.underlying43 hi0 hz0 hz1 hz2 rfl (by omega) v (D.stp.at i).length (flatS (D.stp.at i)) (by rfl) ((hown.alloc _).drew) ⟨w2.heap.size, 0, none⟩ 1 1 (bcells s) (by rfl) (by simp) (World.news_of_block (cs := (bcells s).toArray) (t := 33) (fr := (0, 0)) (heap_alloc_new _ _)) (bcells_one s) (by omega) (by unfold maxLen; omega) (by omega) (by omega) (w2.heap.size + 1) (by simp) ?_; intro gg cap w3 hown3 hgrow hat hlt; have hup := upd_at HDD.out HV.out ((((Kp.refl _ _).alloc _).drew).grown hgrow (fun k hk _ => hk)) (.slice (some ⟨gg, 0, none⟩) ((D.stp.at i).length + 1) cap); have HG := Lib.hid hgrow; clear hgrow))
      all_goals
        go_wp2
        go_ret
        have hin := chk0 HK.out
        have hcells : D.stp.cells = D.cells := by unfold Dsk.stp; split <;> rfl
        have hopn : D.stp.opn = D.opn := by unfold Dsk.stp; split <;> rfl
        have hfin := write_fin (w2 := (w2.alloc (.cells (bcells s).toArray 33)).drew) HDD.out hin.2.1 (by rw [hcells]; exact hin.2.2) HV.out ((Kp.refl _ _).alloc _).drew (by simp) hown3 HG.out hat hlt
        rw [hopn] at hfin
        have hsz := HSZ2.out
        refine ⟨rfl, hfin.step ?_ (fun _ _ => rfl) ?_, ?_⟩
        · rintro k (hk | hk)
          · exact .inl hk
          · exact .inr ⟨by have := hk.1; simp at hsz; omega, hk.2⟩
        · rintro k (hk | hk)
          · rw [size_setBlock]; have := HDD.out.lt k hk; have := HG.out.size; simp at this; omega
          · exact hk.2
        · have hA := HA.out
          have h1 : Kp F w w2 := ((Kp.refl F w).alloc _).trans HK2.out (fun _ _ h => h)
          exact ((h1.trans ((((Kp.refl F w2).alloc _).drew).grown HG.out (fun k hk _ => (hA k hk).1)) (fun _ _ h => h)).setBlock (fun _ => HDD.out.fm) _)
    · have hs0 : D.after = 0 := by simp only [Dsk.stpE] at hs; split at hs <;> simp_all
      have hE0 : D.stpE = 220 := by simp [Dsk.stpE, hs0]
      have hE : D.writeE i = 220 := by simp [Dsk.writeE, hk, hE0]
      have hW : D.write i s = D.stp := by simp [Dsk.write, hk, hE0]
      rw [hE, hW]
      have HK := Lib.hid hk
      have HS := Lib.hid hE0
      clear hk hs hs0 hE0 hE hW
      have HW := Lib.hid h
      clear h
      go_enter Try.func22, Try.ntmps22
      go_wp2_with (first
        | ((with_reducible show wpList _ _ _ (Oper.mk _ (Op.box _ _) _ _ _ _ :: _) _ _); refine wpList_boxA 33 rfl _ rfl (bcells s) rfl ?_)
        | (go_at_call 34; refine (check_c _ b D F (HW.out.alloc _) i).mono ?_; rintro e w' ⟨rfl, rfl⟩; rw [HK.out])
        | (go_at_call 39; refine (step_c _ b D F (HW.out.alloc _)).mono ?_; rintro e w2 ⟨rfl, hD2, hk2, hsz2⟩; rw [HS.out]; have HD2 := Lib.hid hD2; have HK2 := Lib.hid hk2; have HSZ2 := Lib.hid hsz2; clear hD2 hk2 hsz2))
      go_ret
      have hsz := HSZ2.out
      simp at hsz
      refine ⟨rfl, HD2.out.step (fun _ h => .inl h) (fun _ _ => rfl) ?_, ((Kp.refl F w).alloc _).trans HK2.out (fun _ _ h => h)⟩
      rintro k (hk | hk)
      · exact HD2.out.lt k hk
      · exact hk.2
  · have hE : D.writeE i = D.chk i := by simp [Dsk.writeE, hk]
    have hW : D.write i s = D := by simp [Dsk.write, hk]
    rw [hE, hW]
    generalize hc : D.chk i = c at *
    have hb : (c == 0) = false := by simpa using hk
    have HC := Lib.hid hc
    clear hc hE hW
    go_enter Try.func22, Try.ntmps22
    go_wp2_with (first
      | ((with_reducible show wpList _ _ _ (Oper.mk _ (Op.box _ _) _ _ _ _ :: _) _ _); refine wpList_boxA 33 rfl _ rfl (bcells s) rfl ?_)
      | (go_at_call 34; refine (check_c _ b D F (h.alloc _) i).mono ?_; rintro e w' ⟨rfl, rfl⟩; rw [HC.out]))
    go_ret
    refine ⟨rfl, h.step (fun _ h => .inl h) (fun k hk => Below.heap_alloc _ _ _ (h.lt k hk)) ?_, (Kp.refl _ w).alloc _⟩
    rintro k (hk | hk)
    · have := h.lt k hk; simp; omega
    · exact hk.2

end Go.Proofs.Ytopeelclhpjngaa
