/-
  AN EXECUTOR OVER AN ABSTRACT MEMORY, PART W: a region that draws its order, whole.
-/
import Derived.Test.YtogdgamgpkbdaaaGreatDoorAxV
namespace Go.Proofs.YtogdgamgpkbdaaaGreatDoor.Ax
open Go.RowKit

/-- How many of the first k operations are not listed. -/
def cnt (L : Nat → Bool) : Nat → Nat
  | 0 => 0
  | k + 1 => cnt L k + if L k = true then 0 else 1

theorem cnt_set {L : Nat → Bool} {i : Nat} (hi : L i = false) : ∀ k, cnt L k = cnt (fun j => decide (j = i) || L j) k + if i < k then 1 else 0
  | 0 => by simp [cnt]
  | k + 1 => by
    simp only [cnt]
    rw [cnt_set hi k]
    by_cases hk : k = i
    · subst hk
      simp [hi]
    · simp only [hk, decide_false, Bool.false_or]
      generalize (if L k = true then 0 else 1) = z
      by_cases h : i < k
      · rw [if_pos h, if_pos (Nat.lt_succ_of_lt h)]; omega
      · rw [if_neg h, if_neg (by omega)]; omega

theorem cnt_zero {L : Nat → Bool} : ∀ k, cnt L k = 0 → ∀ j, j < k → L j = true
  | 0, _, j, hj => by omega
  | k + 1, h, j, hj => by
    simp only [cnt] at h
    have h1 : cnt L k = 0 := by omega
    by_cases hjk : j = k
    · subst hjk
      cases hL : L j with
      | true => rfl
      | false => rw [hL] at h; simp at h
    · exact cnt_zero k h1 j (by omega)

theorem cnt_all {L : Nat → Bool} : ∀ k, (∀ j, j < k → L j = true) → cnt L k = 0
  | 0, _ => rfl
  | k + 1, h => by simp only [cnt]; rw [cnt_all k fun j hj => h j (by omega), h k (by omega)]; rfl

theorem least_of_cnt {L : Nat → Bool} : ∀ k, cnt L k ≠ 0 → ∃ j, j < k ∧ L j = false ∧ ∀ j', j' < j → L j' = true
  | 0, h => by simp [cnt] at h
  | k + 1, h => by
    by_cases hk : cnt L k = 0
    · simp only [cnt, hk, Nat.zero_add] at h
      refine ⟨k, by omega, ?_, cnt_zero k hk⟩
      cases hL : L k with
      | false => rfl
      | true => rw [hL] at h; simp at h
    · obtain ⟨j, h1, h2, h3⟩ := least_of_cnt k hk
      exact ⟨j, by omega, h2, h3⟩

theorem head_any {C : Cfg} {w0 : World} {ih : CallF} {nt : Nat} {ops : Array Oper} {N : Nat} {T : Nat → HS} {E0 : Env} {ws : World} {d0 : List Deferred} (X : Ctx C w0 ih nt ops N T E0 ws d0)
    (hN : N ≤ ops.size) (htail : tailOkA (Nat.pred (Nat.shiftLeft 1 N)) ((masks ops.toList []).drop N) = true) (Q : Exit → Act → World → Prop)
    (hend : ∀ (listed : Array Bool) E a w, listed.size = ops.size → (∀ j, listed.getD j false = decide (j < N)) → Inv C w0 nt ops N T E0 ws d0 (fun j => listed.getD j false) E a w → wpAny C.P .any ops Q (ops.size - N) listed a w) :
    ∀ (m : Nat) (listed : Array Bool) (E : Env) (a : Act) (w : World), listed.size = ops.size → Inv C w0 nt ops N T E0 ws d0 (fun j => listed.getD j false) E a w → cnt (fun j => listed.getD j false) N = m → wpAny C.P .any ops Q (m + (ops.size - N)) listed a w := by
  intro m
  induction m with
  | zero =>
    intro listed E a w hsz hI hc
    rw [Nat.zero_add]
    refine hend listed E a w hsz (fun j => ?_) hI
    by_cases hj : j < N
    · rw [decide_eq_true hj]; exact cnt_zero N hc j hj
    · rw [decide_eq_false hj]; exact hI.tail j (by omega)
  | succ m ihm =>
    intro listed E a w hsz hI hc
    rw [show m + 1 + (ops.size - N) = (m + (ops.size - N)) + 1 by omega]
    refine ⟨fun hnil => ?_, fun i hi => ?_⟩
    · obtain ⟨j, h1, h2, h3⟩ := least_of_cnt N (by omega : cnt (fun j => listed.getD j false) N ≠ 0)
      obtain ⟨o, mj, q1, q2, _⟩ := X.tr j h1
      have hj : j ∈ Region.ready .any ops listed := by
        rw [mem_ready]
        refine ⟨?_, o, by simpa using q1, fun e he hb => ?_⟩
        · have : j < listed.size := by omega
          have h2' : listed.getD j false = false := h2
          rw [Array.getD_eq_getD_getElem?, Array.getElem?_eq_getElem this] at h2' ⊢
          exact h2'
        · have := edgesA_spec (X.edges j o h1 q1) e (by simpa using he) (by rw [← bindsAny_eq]; exact hb)
          exact h3 e.on this
      rw [hnil] at hj; cases hj
    · rw [mem_ready] at hi
      obtain ⟨hun, o, ho, hall⟩ := hi
      have hlt : i < ops.size := (Array.getElem?_eq_some_iff.1 ho).1
      have hLi : listed.getD i false = false := by
        have : i < listed.size := by omega
        rw [Array.getD_eq_getD_getElem?, Array.getElem?_eq_getElem this] at hun ⊢
        exact hun
      have ho' : ops.toList[i]? = some o := by simpa using ho
      have hready : ∀ e ∈ o.after.toList, bindsAny e = true → listed.getD e.on false = true := fun e he hb => hall e (by simpa using he) (by rw [bindsAny_eq]; exact hb)
      have hiN : i < N := by
        rcases Nat.lt_or_ge i N with h | h
        · exact h
        · exfalso
          have hml := masks_length ops.toList []
          simp only [List.length_nil, Nat.zero_add, Array.length_toList] at hml
          have him : i < (masks ops.toList []).length := by omega
          have hmi : (masks ops.toList [])[i]? = some (masks ops.toList [])[i] := List.getElem?_eq_getElem him
          have hfull := tailOkA_spec htail (i - N) (masks ops.toList [])[i] (by rw [List.getElem?_drop, show N + (i - N) = i by omega]; exact hmi)
          have hbits : ∀ j, j < N → ((masks ops.toList [])[i]).testBit j = true := by
            intro j hj
            have h2 : (Nat.land (masks ops.toList [])[i] (Nat.pred (Nat.shiftLeft 1 N))).testBit j = true := by rw [hfull, testBit_full]; simpa using hj
            change ((masks ops.toList [])[i] &&& (Nat.pred (Nat.shiftLeft 1 N))).testBit j = true at h2
            rw [Nat.testBit_and] at h2
            simp only [Bool.and_eq_true] at h2
            exact h2.1
          have hzero : cnt (fun j => listed.getD j false) N = 0 := by
            refine cnt_all N fun j hj => ?_
            have := masks_spec (fun j => listed.getD j false = true ∨ j = i) ops.toList [] (fun i m h => by simp at h) (fun t o1 h1 h2 e he hbe => by
              simp only [List.length_nil, Nat.zero_add] at h2
              rcases h2 with h2 | h2
              · exact .inl (hI.down t o1 h1 h2 e he hbe)
              · subst h2
                rw [ho'] at h1
                cases h1
                exact .inl (hready e he hbe)) i _ hmi (.inr rfl) j (hbits j hj)
            rcases this with h' | h'
            · exact h'
            · omega
          omega
      have hwp := X.step hI hiN hLi ho' hready (Q := Q) (K := wpAny C.P .any ops Q (m + (ops.size - N)) (listed.setIfInBounds i true)) (fun E' a' w' hI' => by
        have hfn : (fun j => (listed.setIfInBounds i true).getD j false) = fun j => decide (j = i) || listed.getD j false := by
          funext j
          by_cases hji : j = i
          · subst hji
            have : j < listed.size := by omega
            simp [this]
          · rw [getD_set_ne false (fun h => hji h.symm)]
            simp [hji]
        refine ihm (listed.setIfInBounds i true) E' a' w' (by simpa using hsz) (by rw [hfn]; exact hI') ?_
        rw [hfn]
        have := cnt_set (L := fun j => listed.getD j false) hLi N
        rw [if_pos hiN] at this
        omega)
      unfold wpOp
      rw [ho]
      exact hwp

theorem drawA_sound {C : Cfg} (hC : C.Ok) {w0 : World} {ih : CallF} (hF : SndF C w0 ih) (hg : GrwF ih) (nt : Nat) (id : Nat) (ops : Array Oper) (Q : Exit → Act → World → Prop) {fr : Fr} {st : St} {fr' : Fr} {st' : St} (h : drawA C ih nt ops fr st = some (fr', st'))
    {E : Env} {w : World} {a : Act} (hS : Sim w0 E st w) (hG : GEnv C E) (hf : FRel E fr a.tmps) (hn : a.tmps.size = nt) (hfr : Fresh E st st') (hQ : ∀ a' w', Done C w0 E st w nt a.defers fr' st' a' w' → Q .normal a' w') :
    (Code.region id ops true).wp C.P Q a w := by
  unfold drawA at h
  generalize hN : ops.size - tailLen (masks ops.toList []) 0 = N at h
  cases hb : (shapeOkA ops N && (Nat.ble N ops.size && hidOkA st.next st.hid)) with
  | false => simp only [hb, cond_false, reduceCtorEq] at h
  | true =>
    simp only [hb, cond_true] at h
    simp only [Bool.and_eq_true, shapeOkA] at hb
    obtain ⟨⟨b1, b2, b3⟩, b4, b5⟩ := hb
    have b4' := Nat.le_of_ble_eq_true b4
    cases hh : headA C ih nt ops.toList (ops.toList.take N) (masks ops.toList []) 0 [] fr st with
    | none => simp only [hh, reduceCtorEq] at h
    | some q =>
      obtain ⟨fr1, st1⟩ := q
      simp only [hh] at h
      obtain ⟨T, t1, t2, t3⟩ := headA_trace (ops.toList.take N) (masks ops.toList []) 0 (fun _ => ⟨fr, st⟩) fr1 st1 hh
      have hT0 : T 0 = ⟨fr, st⟩ := t1 0 (Nat.le_refl _)
      have hlenN : (ops.toList.take N).length = N := by rw [List.length_take, Array.length_toList]; omega
      rw [Nat.zero_add, hlenN] at t2
      have htr : ∀ j, j < N → ∃ o m, ops.toList[j]? = some o ∧ (masks ops.toList [])[j]? = some m ∧ Step C ih nt ops.toList T j o m := by
        intro j hj
        obtain ⟨o, m, q1, q2, q3⟩ := t3 j (by omega)
        rw [Nat.zero_add] at q3
        rw [List.getElem?_take] at q1
        rw [if_pos hj] at q1
        exact ⟨o, m, q1, q2, q3⟩
      have hrest := opsA_grow hg _ _ _ _ _ h
      have hspec := headOkA_spec _ _ _ _ b1
      have X : Ctx C w0 ih nt ops N T E { w with drawn := w.drawn + 1 } a.defers := by
        refine ⟨hC, hF, hg, htr, fun j o hj ho => ?_, fun j o m hj ho hm => ?_, by rw [hT0]; exact b5, by rw [hT0]; exact hS.drawn _, hG, ?_, trivial⟩
        · obtain ⟨o', m', q1, q2, q3, q4⟩ := hspec j hj
          rw [Nat.zero_add] at q3
          rw [ho] at q1; cases q1; exact q3
        · obtain ⟨o', m', q1, q2, q3, q4⟩ := hspec j hj
          rw [Nat.zero_add] at q4
          rw [ho] at q1; cases q1
          rw [hm] at q2; cases q2
          exact q4
        · rw [hT0, t2]
          exact hfr.left hrest.next
      refine wp_region_any hC.mixed ?_
      have hstart : Inv C w0 nt ops N T E { w with drawn := w.drawn + 1 } a.defers (fun j => (Array.replicate ops.size false).getD j false) E a { w with drawn := w.drawn + 1 } := by
        have hz : ∀ j, (Array.replicate ops.size false).getD j false = false := fun j => getD_replicate_false _ _
        have hv : ∀ k b, VisS N T (fun j => (Array.replicate ops.size false).getD j false) k b → (T 0).st.vis k = some b := by
          intro k b hk
          rcases hk with hk | ⟨j, _, j2, _⟩
          · exact hk
          · have j2' : (Array.replicate ops.size false).getD j false = true := j2
            rw [hz] at j2'; cases j2'
        have hsl : ∀ t n, slotS ops T (fun j => (Array.replicate ops.size false).getD j false) t n = (T 0).fr.get t := by
          intro t n
          induction n with
          | zero => rfl
          | succ n ihn => simp only [slotS]; rw [if_neg (fun h' => by have h2 : (Array.replicate ops.size false).getD n false = true := h'.1; rw [hz] at h2; cases h2)]; exact ihn
        refine ⟨fun i o _ h2 => (by have h3 : (Array.replicate ops.size false).getD i false = true := h2; rw [hz] at h3; cases h3), fun i _ => hz i, Env.le.refl E, fun k hk => .inl hk, X.sim.below, fun k b hk => X.sim.live k b (hv k b hk), fun i j bi bj hi hj => X.sim.inj i j bi bj (hv i bi hi) (hv j bj hj), Nat.le_refl _, fun _ _ _ => rfl, fun q _ ⟨k, b, h1, h2, h3⟩ => ⟨k, b, hv k b h1, h2, h3⟩, fun t r ht => ?_, hn, rfl⟩
        rw [hsl, hT0] at ht
        exact hf t r ht
      have hcN : cnt (fun j => (Array.replicate ops.size false).getD j false) N + (ops.size - N) = ops.size := by
        have hc : ∀ k, cnt (fun j => (Array.replicate ops.size false).getD j false) k = k := by
          intro k
          induction k with
          | zero => rfl
          | succ k ihk =>
            have hz : (Array.replicate ops.size false).getD k false = false := getD_replicate_false _ _
            simp only [cnt, hz]
            rw [ihk]
            simp
        rw [hc]; omega
      have hgo := head_any X b4' b2 Q (fun listed E1 a1 w1 hsz hl hI => ?_) _ (Array.replicate ops.size false) E a _ (by simp) hstart rfl
      · rw [hcN] at hgo; exact hgo
      -- the head is done
      have hlist : listed = (Array.range ops.size).map fun i => decide (i < N) := by
        apply Array.ext
        · simp [hsz]
        · intro i h1 h2
          have := hl i
          rw [Array.getD_eq_getD_getElem?, Array.getElem?_eq_getElem h1, Option.getD_some] at this
          rw [this]
          simp
      have hll : ∀ j, j < N → listed.getD j false = true := fun j hj => by rw [hl]; simpa using hj
      have hvis : ∀ k b, (T N).st.vis k = some b → VisS N T (fun j => listed.getD j false) k b := by
        intro k b hk
        obtain ⟨g1, g2⟩ := Sim.vis_of hk
        have hlt := X.bnd (j := N) (Nat.le_refl _) k b g2
        by_cases hk0 : k < (T 0).st.next
        · left
          rw [St.vis_eq, if_neg (by rw [← X.hidE (Nat.le_refl _)]; simpa using g1), ← X.heap (i := 0) (j := N) (by omega) (Nat.le_refl _) hk0]
          exact g2
        · right
          obtain ⟨j, j1, j2, j3⟩ := Ctx.range (N := N) (T := T) N (Nat.le_refl _) k (by omega) hlt
          exact ⟨j, j1, hll j j1, j2, j3, g2⟩
      have hSim : Sim w0 E1 (T N).st w1 := ⟨hI.below, fun k b hk => hI.live k b (hvis k b hk), fun i j bi bj hi hj => hI.inj i j bi bj (hvis i bi hi) (hvis j bj hj), X.bnd (Nat.le_refl _)⟩
      have hch := X.chain N (Nat.le_refl _) 0 (by omega)
      have hPost0 : Post w0 E (T 0).st { w with drawn := w.drawn + 1 } E1 (T N).st w1 := by
        refine ⟨hI.le, fun k hk => ?_, hch.1.next, hSim, hI.size, hI.frame, fun k hk ho => ?_, by rw [hch.2.1]; exact Nat.le_refl _, fun k hk _ => hch.2.2 k hk, hch.1.hid⟩
        · rcases hI.dom k hk with h' | ⟨j, j1, j2, j3, j4⟩
          · exact .inl h'
          · have q1 := X.next (i := 0) (j := j) (by omega) (by omega)
            have q2 := X.next (i := j + 1) (j := N) (by omega) (Nat.le_refl _)
            exact .inr ⟨by omega, by omega⟩
        · obtain ⟨i, b, h1, h2, h3⟩ := ho
          exact hI.cover k hk ⟨i, b, hvis i b h1, h2, h3⟩
      have hPost : Post w0 E st w E1 st1 w1 := by
        have := (Post.drawn hS (w.drawn + 1)).trans (by rw [hT0] at hPost0; exact hPost0)
        rw [t2] at this
        exact this
      have hFR : FRel E1 fr1 a1.tmps := by
        intro t r ht
        refine hI.tm t r ?_
        rw [X.slot_before N (Nat.le_refl _) fun j hj _ => hll j hj, t2]
        exact ht
      have hlen : (ops.toList.drop N).length = ops.size - N := by simp
      rw [← hlen]
      refine wpAny_of_seq (ops.toList.drop N) N listed a1 w1 (fun j => by simp) (by
        rw [hlen, hlist]
        refine seqB_of_chain (ops.size - N) N _ (by simp) (by omega) (fun j => ?_) fun q o q1 q2 => ?_
        · rw [← hlist]; exact hl j
        · obtain ⟨c1, c2⟩ := chainA_spec b3 (q - N) o (by rw [List.getElem?_drop, show N + (q - N) = q by omega, Array.getElem?_toList]; exact q2)
          rw [show N + (q - N) = q by omega] at c1 c2
          exact ⟨c1, fun q3 => c2 (.inr (by omega))⟩) ?_
      refine opsA_sound hC hF hg nt ops Q (ops.toList.drop N) fr1 st1 fr' st' h E1 w1 a1 (by rw [t2] at hSim; exact hSim) (hG.mono hI.le) hFR hI.nt (hfr.right hPost) fun a' w' hd => hQ a' w' ?_
      rw [hI.defers] at hd
      exact hd.pre hPost
end Go.Proofs.YtogdgamgpkbdaaaGreatDoor.Ax
