/-
  AN EXECUTOR OVER AN ABSTRACT MEMORY, PART Ra: the walk in a round's frame; what is laid when a loop over a function is entered.
-/
import Derived.Test.YtfamacgopcfhhaaGreatDoorAxW
import Derived.LoopNIn
import Derived.OrdersIn
import Derived.TacticsIn
import Derived.RangeFuncLeaves
import Derived.RangeFuncNested
namespace Go.Proofs.YtfamacgopcfhhaaGreatDoor.Ax
open Go.RowKit

/-- No fence but for the round that the frame is of. -/
def wideR (rd : Option Nat) : Fence := { Fence.wide with round := rd }

theorem fenced_wideR (P : Program) (rd : Option Nat) (m : Machine) : m.fenced P (wideR rd) := fenced_wide P m
theorem room_wideR (rd : Option Nat) (n : Nat) : (wideR rd).room n := fun _ h => by simp [wideR, Fence.wide] at h
theorem stepsIn_wideR {P : Program} {rd : Option Nat} {m m' : Machine} : StepsIn (Machine.fenced P (wideR rd)) P m m' ↔ Steps P m m' :=
  ⟨StepsIn.steps, fun h => (StepsIn.of_steps h).mono fun m _ => fenced_wideR P rd m⟩
theorem comesIn_wideR {P : Program} {rd : Option Nat} {m m' : Machine} {e : Ending} : ComesIn (Machine.fenced P (wideR rd)) P m m' e ↔ Comes P m m' e := by
  cases e with
  | returned v => exact stepsIn_wideR
  | panicked chain => exact stepsIn_wideR
  | outgrown => exact Iff.rfl
theorem callsIn_wideR {rd : Option Nat} {n : Nat} {P : Program} {f : FuncId} {args : Array Value} {w : World} {R : Ending → World → Prop} : CallsIn (wideR rd) n P f args w R ↔ Calls P f args w R :=
  ⟨fun h cs => let ⟨e, w', fr, r, s, x⟩ := h.2 cs (room_wideR rd _); ⟨e, w', fr, r, comesIn_wideR.1 s, x⟩,
   fun h => ⟨trivial, fun cs _ => let ⟨e, w', fr, r, s, x⟩ := h cs; ⟨e, w', fr, r, comesIn_wideR.2 s, x⟩⟩⟩
theorem rowsIn_wideR {rd : Option Nat} {n : Nat} {P : Program} {row : String} {args : Array Value} {w : World} {R : Value → World → Prop} (h : Rows P row args w R) : RowsIn (wideR rd) n P row args w R :=
  fun c cs _ => let ⟨v, w', r, s⟩ := h c cs; ⟨v, w', r, stepsIn_wideR.2 s⟩
theorem roundIn_wideR {rd rd' : Option Nat} {n n' : Nat} {P : Program} {l : Nat} {f : FuncId} {tmps : Array Value} {assign body : Code} {w : World} {R : Ending → World → Prop} (h : RoundIn (wideR rd) n P l f tmps assign body w R) : RoundIn (wideR rd') n' P l f tmps assign body w R :=
  ⟨trivial, fun c cs _ => let ⟨e, w', r, s⟩ := h.2 c cs (room_wideR rd _); ⟨e, w', r, comesIn_wideR.2 (comesIn_wideR.1 s)⟩⟩

theorem Oper.wp_in {rd : Option Nat} {n : Nat} {P : Program} {o : Oper} {a : Act} {w : World} {next : Act → World → Prop} {Q : Exit → Act → World → Prop} (hd : ∀ c, o.op ≠ .defer c) (h : o.wp P a w next Q) : o.wpIn (wideR rd) n P a w next Q := by
  refine ⟨fun _ _ => trivial, ?_⟩
  rw [Oper.semAt_eq _ _ _ hd]
  unfold Oper.wp at h
  have hno : ((wideR rd).depth.isSome = true → 1 ≤ n) := fun h => by cases h
  generalize (execOp a.eval o).run P w = r at h ⊢
  cases r with
  | ok x w' =>
    cases x <;> simp only [Oper.upon, Oper.uponIn] at h ⊢ <;> first
      | exact h
      | exact ⟨hno, callsIn_wideR.2 h⟩
      | exact ⟨hno, rowsIn_wideR h⟩
  | halt x w' => cases x <;> simp only [Oper.upon, Oper.uponIn] at h ⊢ <;> exact h

def calmO : Op → Bool
  | .defer _ => false
  | _ => true

def calmA : List Oper → Bool
  | [] => true
  | o :: os => calmO o.op && calmA os

theorem calmA_spec : ∀ {l : List Oper}, calmA l = true → ∀ o ∈ l, ∀ c, o.op ≠ .defer c := by
  intro l
  induction l with
  | nil => intro _ o ho; cases ho
  | cons o os ih =>
    intro h x hx c hc
    simp only [calmA, Bool.and_eq_true] at h
    rcases List.mem_cons.1 hx with rfl | hx
    · have h1 := h.1
      rw [hc] at h1
      cases h1
    · exact ih h.2 x hx c hc

theorem ops_in {rd : Option Nat} {n : Nat} {P : Program} {ops : Array Oper} {Q : Exit → Act → World → Prop} (hc : calmA ops.toList = true) (hQ : ¬ LetsOut Q) : ∀ (l : List Nat) (a : Act) (w : World), wpOps P ops Q l a w → wpOpsIn (wideR rd) n P ops Q l a w := by
  intro l
  induction l with
  | nil => exact fun a w h => h
  | cons i l ih =>
    intro a w h
    simp only [wpOps] at h
    simp only [wpOpsIn]
    cases ho : ops[i]? with
    | none => simp only [ho] at h ⊢; exact ih a w h
    | some o =>
      simp only [ho] at h ⊢
      have hd : ∀ c, o.op ≠ .defer c := calmA_spec hc o (List.mem_of_getElem? (i := i) (by simpa using ho))
      by_cases hw : Region.wanted o (yielded ops a.tmps) = true
      · simp only [hw, if_true] at h ⊢
        rcases h with h | ⟨_, h⟩
        · exact Oper.wpIn_mono (fun a w => ih a w) (Oper.wp_in hd h)
        · exact absurd h hQ
      · simp only [hw, if_false, Bool.false_eq_true] at h ⊢
        exact ⟨fun _ _ => trivial, ih _ _ h⟩

/-! In the order of the text, where no other is possible. -/
theorem opsIn_list {F : Fence} {n : Nat} {P : Program} {ops : Array Oper} {Q : Exit → Act → World → Prop} : ∀ (l : List Oper) (k : Nat), (∀ j, l[j]? = ops[k + j]?) → ∀ a w, wpListIn F n P ops Q l a w → wpOpsIn F n P ops Q (List.range' k l.length) a w
  | [], _, _, _, _, h => h
  | o :: l, k, hl, a, w, h => by
    have h0 : ops[k]? = some o := by simpa using (hl 0).symm
    have ih := opsIn_list (F := F) (n := n) (P := P) (Q := Q) l (k + 1) (fun j => by have := hl (j + 1); simpa [Nat.add_assoc, Nat.add_comm 1 j] using this)
    simp only [List.length_cons, List.range'_succ, wpOpsIn, h0]
    simp only [wpListIn] at h
    by_cases hw : Region.wanted o (yielded ops a.tmps) = true
    · simp only [hw, if_true] at h ⊢
      exact Oper.wpIn_mono (fun a w => ih a w) h
    · simp only [hw, if_false, Bool.false_eq_true] at h ⊢
      exact ⟨h.1, ih _ _ h.2⟩

theorem anyIn_of_seq {F : Fence} {n : Nat} {P : Program} {md : Region.Mode} {ops : Array Oper} {Q : Exit → Act → World → Prop} : ∀ (l : List Oper) (k : Nat) (listed : Array Bool) (a : Act) (w : World), (∀ j, l[j]? = ops[k + j]?) →
    Region.seqB md ops l.length k listed = true → wpListIn F n P ops Q l a w → wpAnyIn F n P md ops Q l.length listed a w
  | [], _, _, _, _, _, hB, h => ⟨by simpa [Region.seqB] using hB, h⟩
  | o :: l, k, listed, a, w, hl, hB, h => by
    have h0 : ops[k]? = some o := by simpa using (hl 0).symm
    simp only [List.length_cons, Region.seqB, Bool.and_eq_true, decide_eq_true_eq] at hB
    refine ⟨fun h1 => (by rw [hB.1] at h1; cases h1), fun i hi => ?_⟩
    rw [hB.1] at hi
    have hik : i = k := by simpa using hi
    subst hik
    have hw : wpOpIn F n P ops Q i (wpListIn F n P ops Q l) a w := by unfold wpOpIn; simp only [h0]; exact h
    exact wpOpIn_mono (fun a' w' h' => anyIn_of_seq l (i + 1) _ a' w' (fun j => by have := hl (j + 1); simpa [Nat.add_assoc, Nat.add_comm 1 j] using this) hB.2 h') hw

theorem wpIn_chain {rd : Option Nat} {n : Nat} {P : Program} {id : Nat} {ops : Array Oper} {draw : Bool} {Q : Exit → Act → World → Prop} {a : Act} {w : World} (hm : P.follows .mixedOrders = true) (hc : draw = true → chainA true ops.toList 0 = true)
    (h : ∀ w', w' = w ∨ w' = { w with drawn := w.drawn + 1 } → wpListIn (wideR rd) n P ops Q ops.toList a w') : (Code.region id ops draw).wpIn (wideR rd) n P Q a w := by
  cases draw with
  | false =>
    refine wpIn_region ?_
    have := opsIn_list (F := wideR rd) (n := n) (P := P) (Q := Q) ops.toList 0 (fun j => by simp) a w (h w (.inl rfl))
    rw [List.range_eq_range', ← Array.length_toList]
    exact this
  | true =>
    refine wpIn_region_any hm ?_
    have := anyIn_of_seq (F := wideR rd) (n := n) (P := P) (md := .any) (Q := Q) ops.toList 0 (Array.replicate ops.size false) a _ (fun j => by simp) ?_ (h _ (.inr rfl))
    · rw [Array.length_toList] at this; exact this
    · rw [Array.length_toList]
      refine seqB_of_chain ops.size 0 _ (by simp) (by omega) (fun j => ?_) fun q o q1 q2 => ?_
      · rw [getD_replicate_false]; simp
      · obtain ⟨c1, c2⟩ := chainA_spec (hc rfl) q o (by rw [Array.getElem?_toList]; exact q2)
        rw [Nat.zero_add] at c1 c2
        exact ⟨c1, fun q3 => c2 (.inr q3)⟩

theorem wpIn_scope_straight {F : Fence} {n : Nat} {P : Program} {Q : Exit → Act → World → Prop} {a : Act} {w : World} {c : Code} (h : c.wpIn F n P (Exit.noGoto Q) a w) : (Code.scope c).wpIn F n P Q a w := by
  intro b k cs hro hb hr
  have s1 : step P (lone (b.atR a (.code (.scope c) :: k)) cs w) = .next (lone (b.atR a (.code c :: .inScope c :: k)) cs w) := step_lone_go (by simp [stepG, stepG.exec, Frame.atR])
  have s2 : ∀ a w, step P (lone (b.atR a (.inScope c :: k)) cs w) = .next (lone (b.atR a k) cs w) := fun a w => step_lone_go (by simp [stepG, stepG.exec, Frame.atR])
  obtain ⟨e, a₁, w₁, hq, harr⟩ := h b (.inScope c :: k) cs hro hb hr
  have i1 : StepsIn (Machine.fenced P F) P (lone (b.atR a (.code (.scope c) :: k)) cs w) (lone (b.atR a (.code c :: .inScope c :: k)) cs w) := .one (fenced_calm (fr := b.atR a (.code (.scope c) :: k)) hb hr rfl) s1
  cases e with
  | normal => exact ⟨.normal, a₁, w₁, hq, StepsIn.trans i1 (StepsIn.trans harr (.one (fenced_calm (fr := b.atR a₁ (.inScope c :: k)) hb hr rfl) (s2 a₁ w₁)))⟩
  | exit id => exact ⟨.exit id, a₁, w₁, hq, fun k' hk => StepsIn.trans i1 (harr.1 k' (by simp [exitTo, hk])), fun hs hk => let ⟨k₁, h1, h2⟩ := harr.2 hs (by simp [exitTo, hk]); ⟨k₁, h1, StepsIn.trans i1 h2⟩⟩
  | goto l => exact hq.elim
  | ret => exact ⟨_, a₁, w₁, hq, ArrivesIn.of_steps (e := .ret) i1 harr⟩
  | panic ch => exact ⟨_, a₁, w₁, hq, ArrivesIn.of_steps (e := .panic ch) i1 harr⟩
  | outgrown => exact ⟨_, a₁, w₁, hq, ArrivesIn.of_steps (e := .outgrown) i1 harr⟩

/-! The marks that a frame has among its deferred calls. -/
def marks (l : List Nat) : List Deferred := l.map fun D => { target := .collected D, args := #[] }

def MarksOk (B : Nat) (E : Env) (st : St) (w : World) (Ds : List Nat) : Prop := Ds.Nodup ∧ ∀ D ∈ Ds, B ≤ D ∧ w.heap[D]? = some (.deferred (some [])) ∧ ¬ Own E st D

theorem MarksOk.nil (B : Nat) (E : Env) (st : St) (w : World) : MarksOk B E st w [] := ⟨List.nodup_nil, fun _ h => by cases h⟩

theorem MarksOk.lt {B : Nat} {E : Env} {st : St} {w : World} {Ds : List Nat} (h : MarksOk B E st w Ds) {D : Nat} (hD : D ∈ Ds) : D < w.heap.size := (Array.getElem?_eq_some_iff.1 (h.2 D hD).2.1).1

theorem MarksOk.post {B : Nat} {w0 : World} {E E' : Env} {st st' : St} {w w' : World} {Ds : List Nat} (h : MarksOk B E st w Ds) (p : Post w0 E st w E' st' w') : MarksOk B E' st' w' Ds :=
  ⟨h.1, fun D hD => ⟨(h.2 D hD).1, by rw [p.frame D (h.lt hD) (h.2 D hD).2.2]; exact (h.2 D hD).2.1, fun ho => (h.2 D hD).2.2 (p.cover D (h.lt hD) ho)⟩⟩

theorem MarksOk.append {B B' : Nat} {E : Env} {st : St} {w : World} {Ds Ds' : List Nat} (h : MarksOk B E st w Ds) (hlt : ∀ D ∈ Ds, D < B') (h' : MarksOk B' E st w Ds') (hB : B ≤ B') : MarksOk B E st w (Ds' ++ Ds) := by
  refine ⟨List.nodup_append.2 ⟨h'.1, h.1, fun x hx y hy he => ?_⟩, fun D hD => ?_⟩
  · have := (h'.2 x hx).1
    have := hlt y hy
    omega
  · rcases List.mem_append.1 hD with hD | hD
    · obtain ⟨a, b, c⟩ := h'.2 D hD
      exact ⟨Nat.le_trans hB a, b, c⟩
    · exact h.2 D hD

theorem marks_append (a b : List Nat) : marks (a ++ b) = marks a ++ marks b := by simp [marks]

def DoneM (C : Cfg) (w0 : World) (E : Env) (st : St) (w : World) (nt : Nat) (d : List Deferred) (fr' : Fr) (st' : St) (a' : Act) (w' : World) : Prop :=
  ∃ E', Post w0 E st w E' st' w' ∧ GEnv C E' ∧ FRel E' fr' a'.tmps ∧ a'.tmps.size = nt ∧ ∃ Ds, a'.defers = marks Ds ++ d ∧ MarksOk w.heap.size E' st' w' Ds

theorem Done.toM {C : Cfg} {w0 : World} {E : Env} {st : St} {w : World} {nt : Nat} {d : List Deferred} {fr' : Fr} {st' : St} {a' : Act} {w' : World} (h : Done C w0 E st w nt d fr' st' a' w') : DoneM C w0 E st w nt d fr' st' a' w' := by
  obtain ⟨E', h1, h2, h3, h4, h5⟩ := h
  exact ⟨E', h1, h2, h3, h4, [], h5, .nil _ _ _ _⟩

theorem DoneM.pre {C : Cfg} {w0 : World} {E E1 : Env} {st st1 : St} {w w1 : World} {nt : Nat} {d : List Deferred} {fr' : Fr} {st' : St} {a' : Act} {w' : World} {Ds : List Nat} (h : Post w0 E st w E1 st1 w1) (m : MarksOk w.heap.size E1 st1 w1 Ds) (k : DoneM C w0 E1 st1 w1 nt (marks Ds ++ d) fr' st' a' w') : DoneM C w0 E st w nt d fr' st' a' w' := by
  obtain ⟨E', h1, h2, h3, h4, Ds', h5, h6⟩ := k
  refine ⟨E', h.trans h1, h2, h3, h4, Ds' ++ Ds, by rw [h5, marks_append, List.append_assoc], ?_⟩
  exact (m.post h1).append (fun D hD => m.lt hD) h6 h.size

theorem DoneM.pre0 {C : Cfg} {w0 : World} {E E1 : Env} {st st1 : St} {w w1 : World} {nt : Nat} {d : List Deferred} {fr' : Fr} {st' : St} {a' : Act} {w' : World} (h : Post w0 E st w E1 st1 w1) (k : DoneM C w0 E1 st1 w1 nt d fr' st' a' w') : DoneM C w0 E st w nt d fr' st' a' w' :=
  DoneM.pre (Ds := []) h (.nil _ _ _ _) k

/-- A loop's record is there. -/
def RdOk (rd : Option Nat) (w : World) : Prop := ∀ l, rd = some l → ∃ r, w.heap[l]? = some (Obj.loop r)

theorem RdOk.post {rd : Option Nat} {w0 : World} {E E' : Env} {st st' : St} {w w' : World} (h : RdOk rd w) (p : Post w0 E st w E' st' w') : RdOk rd w' := fun l hl => by
  obtain ⟨r, hr⟩ := h l hl
  exact p.loops l r hr

theorem RdOk.none (w : World) : RdOk none w := fun _ h => by cases h

theorem RdOk.drawn {rd : Option Nat} {w : World} (h : RdOk rd w) (d : Nat) : RdOk rd { w with drawn := d } := h

/-! What is shut at the end. -/
def shut (w : World) : List Nat → World
  | [] => w
  | D :: Ds => shut (w.putObj D (.deferred none)) Ds

theorem shut_size : ∀ (Ds : List Nat) (w : World), (shut w Ds).heap.size = w.heap.size
  | [], _ => rfl
  | D :: Ds, w => by simp only [shut]; rw [shut_size Ds]; simp

theorem shut_other : ∀ (Ds : List Nat) (w : World) (k : Nat), k ∉ Ds → (shut w Ds).heap[k]? = w.heap[k]?
  | [], _, _, _ => rfl
  | D :: Ds, w, k, h => by
    simp only [List.mem_cons, not_or] at h
    simp only [shut]
    rw [shut_other Ds _ k h.2, World.putObj_heap_other h.1]

theorem shut_rest : ∀ (Ds : List Nat) (w : World), (shut w Ds).os = w.os ∧ (shut w Ds).tape = w.tape ∧ (shut w Ds).output = w.output
  | [], _ => ⟨rfl, rfl, rfl⟩
  | D :: Ds, w => by simp only [shut]; exact shut_rest Ds (w.putObj D (.deferred none))

theorem leaves_marks {F : Fence} {n : Nat} {P : Program} {fn : Func} {tmps : Array Value} {R : Ending → World → Prop} : ∀ (Ds : List Nat) (w : World), Ds.Nodup → (∀ D ∈ Ds, w.heap[D]? = some (.deferred (some []))) → LeavesIn F n P fn tmps R [] .returning (shut w Ds) → LeavesInM F n P fn tmps R (marks Ds) .returning w
  | [], _, _, _, h => h
  | D :: Ds, w, hn, hD, h => by
    refine ⟨by simp, .inl ⟨D, w.putObj D (.deferred none), rfl, run_takeDeferred (hD D (List.mem_cons_self ..)), ?_⟩⟩
    have hn' := List.nodup_cons.1 hn
    refine leaves_marks Ds _ hn'.2 (fun D' hD' => ?_) h
    rw [World.putObj_heap_other (fun he : D' = D => hn'.1 (by rw [← he]; exact hD'))]
    exact hD D' (List.mem_cons_of_mem _ hD')

theorem Post.shut {w0 : World} {E E1 : Env} {st st1 : St} {w w1 : World} (p : Post w0 E st w E1 st1 w1) (hsz : w0.heap.size ≤ w.heap.size) {Ds : List Nat} (m : MarksOk w.heap.size E1 st1 w1 Ds) : Post w0 E st w E1 st1 (Ax.shut w1 Ds) := by
  have ho : ∀ k, k < w.heap.size → (Ax.shut w1 Ds).heap[k]? = w1.heap[k]? := fun k hk => shut_other Ds w1 k fun hm => by have := (m.2 k hm).1; omega
  obtain ⟨r1, r2, r3⟩ := shut_rest Ds w1
  refine ⟨p.le, p.dom, p.next, ⟨⟨r1.trans p.sim.below.os, r2.trans p.sim.below.tape, r3.trans p.sim.below.output, by rw [shut_size]; exact p.sim.below.size, fun k hk => by rw [ho k (by omega)]; exact p.sim.below.block k hk⟩, fun i b hi => ?_, p.sim.inj, p.sim.bnd⟩, by rw [shut_size]; exact p.size, fun k hk hn => by rw [ho k hk]; exact p.frame k hk hn, p.cover, p.low, p.keep, p.hid, fun k r hk => ?_⟩
  · obtain ⟨h1, h2⟩ := p.sim.live i b hi
    refine ⟨h1, BRel.mono (.refl E1) h1 (shut_other Ds w1 _ fun hm => ?_) h2⟩
    cases hro : b.ro with
    | false => exact (m.2 _ hm).2.2 ⟨i, b, hi, hro, rfl⟩
    | true => have := h2.old.1 hro; have := (m.2 _ hm).1; omega
  · obtain ⟨r', hr'⟩ := p.loops k r hk
    exact ⟨r', by rw [ho k (Array.getElem?_eq_some_iff.1 hk).1]; exact hr'⟩

/-- A new block that nothing tells of. -/
theorem Post.beside {w0 : World} {E : Env} {st : St} {w : World} (h : Sim w0 E st w) (o : Obj) : Post w0 E st w E st (w.alloc o) := by
  have ho : ∀ k, k < w.heap.size → (w.alloc o).heap[k]? = w.heap[k]? := fun k hk => Below.heap_alloc w o k hk
  refine ⟨.refl E, fun _ h => .inl h, Nat.le_refl _, ⟨⟨h.below.os, h.below.tape, h.below.output, by rw [World.size_alloc]; exact Nat.le_succ_of_le h.below.size, fun k hk => by rw [ho k (Nat.lt_of_lt_of_le hk h.below.size)]; exact h.below.block k hk⟩, fun i b hi => ?_, h.inj, h.bnd⟩, by rw [World.size_alloc]; exact Nat.le_succ _, fun k hk _ => ho k hk, fun _ _ h => h, Nat.le_refl _, fun _ _ _ => rfl, rfl, fun k r hk => ⟨r, by rw [ho k (Array.getElem?_eq_some_iff.1 hk).1]; exact hk⟩⟩
  obtain ⟨h1, h2⟩ := h.live i b hi
  exact ⟨h1, BRel.mono (.refl E) h1 (ho _ h2.lt) h2⟩
end Go.Proofs.YtfamacgopcfhhaaGreatDoor.Ax
