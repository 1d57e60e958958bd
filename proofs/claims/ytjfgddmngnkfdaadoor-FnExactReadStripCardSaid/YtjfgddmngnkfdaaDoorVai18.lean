/- A lemma text on a verified interpreter without memory (part Vai18). No conditions. -/
import Derived.Test.YtjfgddmngnkfdaaDoorVai17
import Derived.Test.YtjfgddmngnkfdaaDoorVaiE
import Derived.Test.YtjfgddmngnkfdaaDoorVaiK
/- VAI 18: CODE. -/
namespace Go.Vai
open Go

def exOf : Ex → Exit
  | .normal => .normal
  | .exit id => .exit id
  | .ret => .ret

/-- The bodies of the loops. -/
def loops : Code → List Code
  | .seq a b => loops a ++ loops b
  | .cond _ a b => loops a ++ loops b
  | .block _ a => loops a
  | .loop a => a :: loops a
  | _ => []

def joins : Code → List Code
  | .seq a b => b :: (joins a ++ joins b)
  | .cond _ a b => joins a ++ joins b
  | .block _ a => joins a
  | .loop a => joins a
  | _ => []

section
variable {C : Ctx} {E : Entry} {Q : Type}

def Post (C : Ctx) (E : Entry) (D : List Deferred) {Q : Type} (k : Ex → St → Option Q) (r : Q) (X : Exit → Act → World → Prop) : Prop :=
  ∀ e g st (a : Act) w, k e st = some r → Rel C E g st a.tmps w → a.defers = D → X (exOf e) a w

/-- What is known of loops holds. -/
def HintsOk (C : Ctx) (d : Dim) {Q : Type} (h : Hints Q) (fuel : Nat) (ls : List Code) : Prop :=
  ∀ body, body ∈ ls → ∀ s, h.sum (key body) = some s → ∀ x k r, s x k = some r → ∃ n, loopN d (h.loop (key body)) (den C d h fuel body) n x k = some r

/-- What is known of the rests of sequences holds. -/
def JoinsOk (C : Ctx) (d : Dim) {Q : Type} (h : Hints Q) (fuel : Nat) (ls : List Code) : Prop :=
  ∀ y, y ∈ ls → ∀ s, h.sum (jkey y) = some s → ∀ x k r, s x k = some r →
    den C d h fuel y (d.back (h.loop (jkey y)).s (h.loop (jkey y)).b x) (fun e st => k e (st.live (h.loop (jkey y)).s' (h.loop (jkey y)).b')) = some r

theorem rounds_sound {d : Dim} {h : Hints Q} {fuel : Nat} {body : Code} {lh : LoopHint} {D : List Deferred} {r : Q} (hd : d = ⟨E.n, E.m⟩)
    (ih : ∀ (k : Ex → St → Option Q) (X : Exit → Act → World → Prop) g st (a : Act) w, den C d h fuel body st k = some r → Rel C E g st a.tmps w → a.defers = D → Post C E D k r X → body.wp C.P X a w)
    {k' : Ex → Live → Option Q} {X : Exit → Act → World → Prop}
    (hX : ∀ e g st (a : Act) w, k' e (st.live lh.s' lh.b') = some r → Rel C E g st a.tmps w → a.defers = D → X (exOf e) a w) :
    ∀ n x g (a : Act) w, loopN d lh (den C d h fuel body) n x k' = some r → Rel C E g (d.back lh.s lh.b x) a.tmps w → a.defers = D → Code.rounds C.P body X n a w
  | 0, x, g, a, w, hl, _, _ => by simp [loopN] at hl
  | n + 1, x, g, a, w, hl, R, hD => by
    simp only [loopN] at hl
    rw [rounds_succ]
    refine ih _ _ g _ a w hl R hD ?_
    intro e g' st' a' w' hk R' hD'
    cases e with
    | normal => exact rounds_sound hd ih hX n _ _ a' w' hk (by subst hd; exact R'.back _ _) hD'
    | exit id => exact hX (.exit id) g' st' a' w' hk R' hD'
    | ret => exact hX .ret g' st' a' w' hk R' hD'

theorem den_sound {d : Dim} {h : Hints Q} {fuel : Nat} (hd : d = ⟨E.n, E.m⟩) (hm : C.P.follows .mixedOrders = true) (hS : ∀ f c, C.ρ f = some c → Sound C f c) {D : List Deferred} {r : Q} :
    ∀ (c : Code), HintsOk C d h fuel (loops c) → JoinsOk C d h fuel (joins c) → ∀ (k : Ex → St → Option Q) (X : Exit → Act → World → Prop) g st (a : Act) w, den C d h fuel c st k = some r → Rel C E g st a.tmps w → a.defers = D → Post C E D k r X → c.wp C.P X a w := by
  intro c
  induction c with
  | skip =>
    intro hH hJ k X g st a w hk R hD hP
    exact wp_skip (hP .normal g st a w hk R hD)
  | region id ops draw =>
    intro hH hJ k X g st a w hk R hD hP
    have hN : Next C E a.defers (k .normal) r (X .normal) := fun g st a' w hk R hD' => hP .normal g st a' w hk R (hD'.trans hD)
    cases draw with
    | false => exact region_sound hS R hk hN
    | true =>
      have hk : (match drawOk C ops with
        | true => runIx C ops (List.range ops.size) st (k .normal)
        | false => match drawOkF C ops (ordF C ops) with
          | true => runIxF C ops (ordF C ops) st (k .normal)
          | false => none) = some r := hk
      split at hk
      · rename_i hdr
        exact draw_sound hm hS R hdr hk hN
      · split at hk
        · rename_i hdr
          exact draw_soundF hm hS R hdr hk hN
        · cases hk
  | seq x y ihx ihy =>
    intro hH hJ k X g st a w hk R hD hP
    refine wp_seq (ihx (fun b hb => hH b (List.mem_append_left _ hb)) (fun b hb => hJ b (List.mem_cons_of_mem _ (List.mem_append_left _ hb))) (fun e st => match e with
      | .normal => (match h.sum (jkey y) with
        | some s => s (st.live (h.loop (jkey y)).s (h.loop (jkey y)).b) (fun e x => k e (d.back (h.loop (jkey y)).s' (h.loop (jkey y)).b' x))
        | none => den C d h fuel y st k)
      | e => k e st) _ g st a w hk R hD ?_)
    intro e g' st' a' w' hk' R' hD'
    cases e with
    | normal =>
      have hHy : HintsOk C d h fuel (loops y) := fun b hb => hH b (List.mem_append_right _ hb)
      have hJy : JoinsOk C d h fuel (joins y) := fun b hb => hJ b (List.mem_cons_of_mem _ (List.mem_append_right _ hb))
      have hk' : (match h.sum (jkey y) with
        | some s => s (st'.live (h.loop (jkey y)).s (h.loop (jkey y)).b) (fun e x => k e (d.back (h.loop (jkey y)).s' (h.loop (jkey y)).b' x))
        | none => den C d h fuel y st' k) = some r := hk'
      split at hk'
      · rename_i s hs
        have h1 := hJ y (List.mem_cons_self ..) s hs _ _ _ hk'
        refine ihy hHy hJy _ X (g'.keep (h.loop (jkey y)).s (h.loop (jkey y)).b) _ a' w' h1 (by subst hd; exact R'.back _ _) hD' ?_
        intro e g2 st2 a2 w2 h2 R2 hD2
        exact hP e _ _ a2 w2 h2 (by subst hd; exact R2.back _ _) hD2
      · exact ihy hHy hJy k X g' st' a' w' hk' R' hD' hP
    | exit id => exact hP (.exit id) g' st' a' w' hk' R' hD'
    | ret => exact hP .ret g' st' a' w' hk' R' hD'
  | cond c x y ihx ihy =>
    intro hH hJ k X g st a w hk R hD hP
    have hk : st.test c (fun t st => match t with
      | true => den C d h fuel x st k
      | false => den C d h fuel y st k) = some r := hk
    obtain ⟨b, hb, st', h1, R'⟩ := test_inv R hk
    refine wp_cond hb ?_
    cases b with
    | true => exact ihx (fun b hb => hH b (List.mem_append_left _ hb)) (fun b hb => hJ b (List.mem_append_left _ hb)) k X g st' a w h1 R' hD hP
    | false => exact ihy (fun b hb => hH b (List.mem_append_right _ hb)) (fun b hb => hJ b (List.mem_append_right _ hb)) k X g st' a w h1 R' hD hP
  | block id x ih =>
    intro hH hJ k X g st a w hk R hD hP
    refine wp_block (ih hH hJ (fun e st => match e with
      | .exit j => if j = id then k .normal st else k (.exit j) st
      | e => k e st) _ g st a w hk R hD ?_)
    intro e g' st' a' w' hk' R' hD'
    cases e with
    | normal => exact hP .normal g' st' a' w' hk' R' hD'
    | exit j =>
      simp only at hk'
      simp only [exOf, Exit.inBlock]
      split
      · rename_i hj
        rw [if_pos hj] at hk'
        exact hP .normal g' st' a' w' hk' R' hD'
      · rename_i hj
        rw [if_neg hj] at hk'
        exact hP (.exit j) g' st' a' w' hk' R' hD'
    | ret => exact hP .ret g' st' a' w' hk' R' hD'
  | loop body ih =>
    intro hH hJ k X g st a w hk R hD hP
    have hk : (match h.sum (key body) with
      | some s => s (st.live (h.loop (key body)).s (h.loop (key body)).b) (fun e x => k e (d.back (h.loop (key body)).s' (h.loop (key body)).b' x))
      | none => loopN d (h.loop (key body)) (den C d h fuel body) fuel (st.live (h.loop (key body)).s (h.loop (key body)).b) (fun e x => k e (d.back (h.loop (key body)).s' (h.loop (key body)).b' x))) = some r := hk
    have hk' : ∃ n, loopN d (h.loop (key body)) (den C d h fuel body) n (st.live (h.loop (key body)).s (h.loop (key body)).b) (fun e x => k e (d.back (h.loop (key body)).s' (h.loop (key body)).b' x)) = some r := by
      split at hk
      · rename_i s hs
        exact hH body (by simp [loops]) s hs _ _ _ hk
      · exact ⟨fuel, hk⟩
    obtain ⟨n, hk'⟩ := hk'
    refine wp_loop_rounds n (rounds_sound hd (fun k X g st a w h1 R1 hD1 hP1 => ih (fun b hb => hH b (by simp [loops, hb])) hJ k X g st a w h1 R1 hD1 hP1) ?_ n _ (g.keep (h.loop (key body)).s (h.loop (key body)).b) a w hk' (by subst hd; exact R.back _ _) hD)
    intro e g' st' a' w' h1 R1 hD1
    exact hP e _ _ a' w' h1 (by subst hd; exact R1.back _ _) hD1
  | exit id =>
    intro hH hJ k X g st a w hk R hD hP
    exact wp_exit (hP (.exit id) g st a w hk R hD)
  | label l =>
    intro hH hJ k X g st a w hk R hD hP
    exact wp_label (hP .normal g st a w hk R hD)
  | ret =>
    intro hH hJ k X g st a w hk R hD hP
    exact wp_ret (hP .ret g st a w hk R hD)
  | _ => intro hH hJ k X g st a w hk; cases hk

end
end Go.Vai
