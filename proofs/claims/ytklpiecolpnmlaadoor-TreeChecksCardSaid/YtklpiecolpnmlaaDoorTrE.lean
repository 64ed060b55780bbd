/- The engine, more: loops in which deferred marks grow; a function's end with many marks; frames. -/
import Derived.Test.YtklpiecolpnmlaaDoorTr1
namespace Go.Eng
open Go
set_option linter.unusedSimpArgs false
set_option linter.unusedVariables false

/-- A block that holds this very object. -/
def Res.obj (l : Nat) (o : Obj) : Res := ⟨[l], fun w => w.heap[l]? = some o, fun _ _ h hh => (h l (by simp)).trans hh⟩
theorem Heap.newObj {w0 w : World} {B : List Nat} {G : List Res} (h : Heap w0 B w G) (o : Obj) : Heap w0 B (w.alloc o) (Res.obj w.heap.size o :: G) :=
  h.new _ (heap_alloc_new w o) (by simp [Res.obj])
theorem putObj_at {w : World} {l : Nat} {o : Obj} (h : l < w.heap.size) : (w.putObj l o).heap[l]? = some o := by
  simp [World.putObj, h]
theorem putObj_ne {w : World} {l k : Nat} {o : Obj} (h : k ≠ l) : (w.putObj l o).heap[k]? = w.heap[k]? := by
  simp only [World.putObj]
  rw [Array.getElem?_setIfInBounds_ne (by omega)]
theorem putObj_size {w : World} {l : Nat} {o : Obj} : (w.putObj l o).heap.size = w.heap.size := by simp [World.putObj]
theorem Heap.put {w0 w : World} {B : List Nat} {G : List Res} {l : Nat} {o : Obj} (h : Heap w0 B w (Res.obj l o :: G)) (o' : Obj) : Heap w0 B (w.putObj l o') (Res.obj l o' :: G) := by
  have hf := (h.foot _ (List.mem_cons_self ..) l (by simp [Res.obj])).2
  have hh : Heap w [l] (w.putObj l o') [Res.obj l o'] :=
    ⟨⟨rfl, rfl, rfl, by rw [putObj_size]; exact Nat.le_refl _, fun k _ hk => putObj_ne (by simpa using hk)⟩,
      fun r hr => by simp at hr; subst hr; exact putObj_at hf,
      fun r hr b hb => by simp at hr; subst hr; simp [Res.obj] at hb; subst hb; exact ⟨.inl (by simp), by rw [putObj_size]; exact hf⟩,
      List.pairwise_singleton _ _⟩
  have := Heap.call1 0 h rfl hh
  simpa using this

theorem Heap.under {w0 w : World} {B : List Nat} {F : List Res} (A G : List Res) (h : Heap w0 B w (A ++ (G ++ F))) : Heap w0 B w (G ++ (A ++ F)) := by
  refine h.perm ?_
  rw [← List.append_assoc, ← List.append_assoc]
  exact List.perm_append_comm.append_right F

theorem Heap.under1 {w0 w : World} {B : List Nat} {F : List Res} (r : Res) (A G : List Res) (h : Heap w0 B w (r :: (A ++ (G ++ F)))) : Heap w0 B w (r :: (G ++ (A ++ F))) := by
  refine h.perm (.cons _ ?_)
  rw [← List.append_assoc, ← List.append_assoc]
  exact List.perm_append_comm.append_right F
theorem Heap.under2 {w0 w : World} {B : List Nat} {F : List Res} (r s : Res) (A G : List Res) (h : Heap w0 B w (r :: s :: (A ++ (G ++ F)))) : Heap w0 B w (r :: s :: (G ++ (A ++ F))) := by
  refine h.perm (.cons _ (.cons _ ?_))
  rw [← List.append_assoc, ← List.append_assoc]
  exact List.perm_append_comm.append_right F
theorem Loop.same {r : Loop} (r1 : r.state = .ready) (r2 : r.pending = none) : ({ r with state := .ready, pending := none } : Loop) = r := by
  cases r
  simp only at r1 r2
  subst r1 r2
  rfl

theorem vcH_nil2 {P : Program} {N : Nat} {ops : List Oper} {w0 : World} {e : Env} {w : World} {K : Env → World → Prop} : vcH P N ops w0 [] e w K = K e w := rfl

/-! ## Loops whose rounds leave deferred marks -/
def loopP (P : Program) (N : Nat) (post : Exit → Act → World → Prop) (k : List It) (n : Nat) (I : Nat → List Deferred → Env → World → Prop) : Exit → Act → World → Prop
  | .normal, a, w => ∃ D e w0 d, w = World.drewN w0 d ∧ FitsG N D e a ∧ ∃ m, m < n ∧ I m D e w0
  | ex, a, w => contG ⟨P, N, none, [], post⟩ k ex a w

theorem VG_loopD {P : Program} {N : Nat} {D : List Deferred} {post : Exit → Act → World → Prop} {k : List It} {e : Env} {w : World} {body : Code} (hk : noAgain k = true) (ks : List Nat) (I : Nat → List Deferred → Env → World → Prop) (n : Nat)
    (h0 : selK ks e fun e => I n D e w) (round : ∀ n D e w, I n D e w → VG ⟨P, N, none, D, loopP P N post k n I⟩ [.code body] e w) : VG ⟨P, N, none, D, post⟩ (.code (.loop body) :: k) e w := by
  intro a d ha
  refine wpIn_loop_any (fun n a w => ∃ D e w0 d, w = World.drewN w0 d ∧ FitsG N D e a ∧ I n D e w0) n ⟨D, _, w, d, rfl, ha.sel ks, (selK_spec ks e _).1 h0⟩ ?_
  rintro n a w ⟨D', e, w0, d, rfl, ha, hI⟩
  have h1 := round n D' e w0 hI a d ha
  simp only [contG] at h1
  refine wpIn_mono h1 fun ex a w hq => ?_
  cases ex with
  | normal => obtain ⟨D2, e', w1, d', hw, hf, m, hm, hI'⟩ := hq; exact ⟨m, hm, D2, e', w1, d', hw, hf, hI'⟩
  | _ => exact (contG_D (C := ⟨P, N, none, D, post⟩) [] hk).1 hq

theorem VG_nilD {P : Program} {N : Nat} {D : List Deferred} {post : Exit → Act → World → Prop} {k : List It} {e : Env} {w : World} {n : Nat} {I : Nat → List Deferred → Env → World → Prop} (ks : List Nat)
    (h : selK ks e fun e => ∃ m, m < n ∧ I m D e w) : VG ⟨P, N, none, D, loopP P N post k n I⟩ [] e w :=
  VG_nil fun a d ha => ⟨D, _, w, d, rfl, ha.sel ks, (selK_spec ks e _).1 h⟩

/-! ## A function's end, many marks -/
def markR (ms : List Nat) : List Res := ms.map fun r => Res.obj r (.deferred (some []))

theorem retN {P : Program} {fn : Func} {F : Value → World → Prop} {Pn : List PanicEntry → World → Prop} {N : Nat} {e : Env} {w0 w : World} {B : List Nat} {ms : List Nat} {G : List Res} (hH : Heap w0 B w (markR ms ++ G))
    (hx : ∀ w', Heap w0 B w' G → VX ⟨P, fn, F, N⟩ [] .ret e w') : ∀ a n, FitsG N (ms.map markD) e a → postG P fn F Pn .ret a (w.drewN n) := fun a n ha => by
  show LeavesInM _ _ _ _ _ _ a.defers _ _
  rw [ha.defers]
  have key : ∀ (ms : List Nat) (w : World), Heap w0 B w (markR ms ++ G) → LeavesInM Fence.wide 0 P fn a.tmps (endsP F Pn) (ms.map markD) .returning (w.drewN n) := by
    intro ms
    induction ms with
    | nil => intro w hH; exact post_res (hx w hH) ha
    | cons r ms ih =>
      intro w hH
      have hp := Heap.put (l := r) (o := .deferred (some [])) hH (.deferred none)
      exact ⟨by simp, .inl ⟨r, (w.putObj r (.deferred none)).drewN n, rfl, run_takeDeferred (w := w.drewN n) (hH.at 0 rfl), ih _ (hp.sub (List.sublist_cons_self _ _))⟩⟩
  exact key ms w hH

/-- What is known of the frame at a round's begin. -/
theorem round_env {r : Loop} {p : Nat} {v : Value} {e : Env} (r3 : r.params = #[p]) (hp : p < r.tmps.size) (r8 : ∀ t v, e.find? t = some v → r.tmps.getD t undef = v) :
    ∀ t u, Env.find? ((p, v) :: e) t = some u → ((r.params.zip [v].toArray).foldl (fun tmps (t, a) => tmps.setIfInBounds t a) r.tmps).getD t undef = u := by
  intro t u ht
  rw [r3, show (#[p].zip [v].toArray) = #[(p, v)] by first | rfl | simp | (apply Array.ext'; simp)]
  show (r.tmps.setIfInBounds p v).getD t undef = u
  rw [Env.find?] at ht
  split at ht
  · rename_i h46
    simp only at h46
    subst h46
    cases ht
    rw [Array.getD_eq_getD_getElem?, Array.getElem?_setIfInBounds_self_of_lt hp]
    rfl
  · rename_i h46
    rw [Array.getD_eq_getD_getElem?, Array.getElem?_setIfInBounds_ne (by exact fun h => h46 h.symm), ← Array.getD_eq_getD_getElem?]
    exact r8 t u ht
end Go.Eng
