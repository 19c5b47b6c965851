/- An operation looks at its operands alone; what the checks of a drawn region say. -/
import Derived.Test.YtcoobajkgioflaaGreatDoorAbFacts
set_option linter.unusedSimpArgs false
set_option linter.unusedVariables false
namespace Go.Proofs.YtcoobajkgioflaaGreatDoor
namespace Ab

def Agree (e e' : Env) (l : List Nat) : Prop := ∀ t ∈ l, Env.at e t = Env.at e' t
theorem ax_congr {e e' : Env} {x : AX} (h : Agree e e' x.tmps) : x.ev e = x.ev e' := by
  cases x with
  | t n => exact h n (by simp [AX.tmps])
  | c v => rfl
theorem agree_tmps {e e' : Env} : ∀ {l : List AX}, Agree e e' (tmpsOf l) → ∀ x ∈ l, x.ev e = x.ev e'
  | [], _, x, hx => by cases hx
  | y :: r, h, x, hx => by
    rcases List.mem_cons.1 hx with rfl | hx
    · exact ax_congr fun t ht => h t (by simp [tmpsOf, ht])
    · exact agree_tmps (l := r) (fun t ht => h t (by simp [tmpsOf, ht])) x hx
theorem evAll_congr {e e' : Env} : ∀ {l : List AX}, (∀ x ∈ l, x.ev e = x.ev e') → evAll e l = evAll e' l
  | [], _ => rfl
  | x :: r, h => by simp only [evAll, h x (by simp), evAll_congr (l := r) fun y hy => h y (by simp [hy])]
theorem evParts_congr {e e' : Env} : ∀ {l : List (Nat × Nat × AX)}, (∀ x ∈ partAX l, x.ev e = x.ev e') → evParts e l = evParts e' l
  | [], _ => rfl
  | (o, n, x) :: r, h => by simp only [evParts, h x (by simp [partAX]), evParts_congr (l := r) fun y hy => h y (by simp [partAX, hy])]
theorem bnds_congr {e e' : Env} {len : Nat} {cap : Option Nat} {lo hi mx : Option AX} (h : ∀ x ∈ optA lo ++ (optA hi ++ optA mx), x.ev e = x.ev e') : bnds e len cap lo hi mx = bnds e' len cap lo hi mx := by
  have h1 : ∀ x, lo = some x → x.ev e = x.ev e' := fun x hx => h x (by simp [hx, optA])
  have h2 : ∀ x, hi = some x → x.ev e = x.ev e' := fun x hx => h x (by simp [hx, optA])
  have h3 : ∀ x, mx = some x → x.ev e = x.ev e' := fun x hx => h x (by simp [hx, optA])
  have e1 : bM e len cap mx = bM e' len cap mx := by
    cases mx with
    | none => rfl
    | some x => simp only [bM, h3 x rfl]
  have e2 : ∀ m, bH e len m hi mx = bH e' len m hi mx := by
    intro m
    cases hi with
    | none => rfl
    | some x => simp only [bH, h2 x rfl]
  have e3 : ∀ n, bL e n lo = bL e' n lo := by
    intro m
    cases lo with
    | none => rfl
    | some x => simp only [bL, h1 x rfl]
  unfold bnds
  simp only [e1, e2, e3]

theorem pev_congr {e e' : Env} {o : PO} (h : ∀ x ∈ o.axs, x.ev e = x.ev e') : pev e o = pev e' o := by
  cases o with
  | build z ps => simp only [pev, evParts_congr (l := ps) h]
  | mkfn fn a b => simp only [pev, evAll_congr (l := a) fun x hx => h x (by simp [PO.axs, hx]), evAll_congr (l := b) fun x hx => h x (by simp [PO.axs, hx])]
  | sls x lo hi =>
    simp only [pev, h x (by simp [PO.axs])]
    have : ∀ n c, bnds e n c lo hi none = bnds e' n c lo hi none := fun n c => bnds_congr fun y hy => h y (by
      simp only [optA, List.append_nil] at hy; simp only [PO.axs, List.mem_cons]; exact .inr hy)
    simp only [this]
  | sll n x lo hi mx =>
    simp only [pev, h x (by simp [PO.axs])]
    have : ∀ n c, bnds e n c lo hi mx = bnds e' n c lo hi mx := fun n c => bnds_congr fun y hy => h y (by
      simp only [PO.axs, List.mem_cons]; exact .inr hy)
    simp only [this]
  | sla k n x lo hi mx =>
    simp only [pev, h x (by simp [PO.axs])]
    have : ∀ n c, bnds e n c lo hi mx = bnds e' n c lo hi mx := fun n c => bnds_congr fun y hy => h y (by
      simp only [PO.axs, List.mem_cons]; exact .inr hy)
    simp only [this]
  | mm mx x xs => simp only [pev, h x (by simp [PO.axs]), evAll_congr (l := xs) fun y hy => h y (by simp [PO.axs, hy])]
  | pick c a b => simp only [pev, h c (by simp [PO.axs]), h a (by simp [PO.axs]), h b (by simp [PO.axs])]
  | lena n => rfl
  | bin op x y => simp only [pev, h x (by simp [PO.axs]), h y (by simp [PO.axs])]
  | eqk k n x y => simp only [pev, h x (by simp [PO.axs]), h y (by simp [PO.axs])]
  | eqg n l x y => simp only [pev, h x (by simp [PO.axs]), h y (by simp [PO.axs])]
  | iads n x y => simp only [pev, h x (by simp [PO.axs]), h y (by simp [PO.axs])]
  | iada k n x y => simp only [pev, h x (by simp [PO.axs]), h y (by simp [PO.axs])]
  | ixa k g n x y => simp only [pev, h x (by simp [PO.axs]), h y (by simp [PO.axs])]
  | ixs x y => simp only [pev, h x (by simp [PO.axs]), h y (by simp [PO.axs])]
  | mv x => simp only [pev, h x (by simp [PO.axs])]
  | nilc x => simp only [pev, h x (by simp [PO.axs])]
  | un op x => simp only [pev, h x (by simp [PO.axs])]
  | ci k x => simp only [pev, h x (by simp [PO.axs])]
  | cs x => simp only [pev, h x (by simp [PO.axs])]
  | i2s x => simp only [pev, h x (by simp [PO.axs])]
  | mkif t x => simp only [pev, h x (by simp [PO.axs])]
  | fad k x => simp only [pev, h x (by simp [PO.axs])]
  | fld g k n x => simp only [pev, h x (by simp [PO.axs])]
  | ext x k => simp only [pev, h x (by simp [PO.axs])]
  | lens x => simp only [pev, h x (by simp [PO.axs])]
  | capl x => simp only [pev, h x (by simp [PO.axs])]
  | usd x => simp only [pev, h x (by simp [PO.axs])]
  | lenl x => simp only [pev, h x (by simp [PO.axs])]
  | isni n x => simp only [pev, h x (by simp [PO.axs])]
theorem rev_congr {e e' : Env} {m : AH} {o : RO} (h : ∀ x ∈ o.axs, x.ev e = x.ev e') : rev e m o = rev e' m o := by
  cases o with
  | ucv s d x => rfl
  | entry x => simp only [rev, h x (by simp [RO.axs])]
  | load g n x => simp only [rev, h x (by simp [RO.axs])]
  | b2s x => simp only [rev, h x (by simp [RO.axs])]
  | lenm x => simp only [rev, h x (by simp [RO.axs])]
  | mark x => simp only [rev, h x (by simp [RO.axs])]
  | look s z x i ok => simp only [rev, h x (by simp [RO.axs]), h i (by simp [RO.axs])]
theorem aev_congr {e e' : Env} {id : Nat} {o : AO} (h : ∀ x ∈ o.axs, x.ev e = x.ev e') : aev e id o = aev e' id o := by
  cases o with
  | new t cs => rfl
  | mkm => rfl
  | box t x => simp only [aev, h x (by simp [AO.axs])]
  | s2b t x => simp only [aev, h x (by simp [AO.axs])]
  | rngs x => simp only [aev, h x (by simp [AO.axs])]
  | bsl t n l z ps => simp only [aev, evParts_congr (l := ps) h]
  | mks t n b z l c => simp only [aev, h l (by simp [AO.axs]), h c (by simp [AO.axs])]
theorem eev_congr {e e' : Env} {m : AH} {o : EO} (h : ∀ x ∈ o.axs, x.ev e = x.ev e') : eev e m o = eev e' m o := by
  cases o with
  | store n a x => simp only [eev, h a (by simp [EO.axs]), h x (by simp [EO.axs])]
  | app n b t s x => simp only [eev, h s (by simp [EO.axs]), h x (by simp [EO.axs])]
  | cpy n d x => simp only [eev, h d (by simp [EO.axs]), h x (by simp [EO.axs])]
  | next x => simp only [eev, h x (by simp [EO.axs])]
  | mupd s x k v => simp only [eev, h x (by simp [EO.axs]), h k (by simp [EO.axs]), h v (by simp [EO.axs])]
  | del s x k => simp only [eev, h x (by simp [EO.axs]), h k (by simp [EO.axs])]
  | rngm x => simp only [eev, h x (by simp [EO.axs])]
  | nextm x => rfl
  | ustr u x y => simp only [eev, h x (by simp [EO.axs]), h y (by simp [EO.axs])]
  | call f xs => rfl
theorem pevS_congr {S : Sums} {e e' : Env} {o : PO} (h : ∀ x ∈ o.axs, x.ev e = x.ev e') : pevS S e o = pevS S e' o := by
  unfold pevS; rw [pev_congr h, evAll_congr h]
theorem revS_congr {S : Sums} {e e' : Env} {m : AH} {o : RO} (h : ∀ x ∈ o.axs, x.ev e = x.ev e') : revS S e m o = revS S e' m o := by
  unfold revS; rw [rev_congr h, evAll_congr h]
theorem aevS_congr {S : Sums} {e e' : Env} {id : Nat} {o : AO} (h : ∀ x ∈ o.axs, x.ev e = x.ev e') : aevS S e id o = aevS S e' id o := by
  unfold aevS; rw [aev_congr h, evAll_congr h]
theorem eevS_congr {S : Sums} {e e' : Env} {m : AH} {o : EO} (h : ∀ x ∈ o.axs, x.ev e = x.ev e') : eevS S e m o = eevS S e' m o := by
  unfold eevS; rw [eev_congr h, evAll_congr h]
theorem evE_congr {P : Program} {S : Sums} {n : Nat} {e e' : Env} {m : AH} {o : EO} (h : ∀ x ∈ o.axs, x.ev e = x.ev e') : evE P S n o e m = evE P S n o e' m := by
  cases n with
  | zero => simp only [evE]
  | succ n =>
    cases o with
    | call f xs => simp only [evE, h f (by simp [EO.axs]), evAll_congr (l := xs) fun x hx => h x (by simp [EO.axs, hx])]
    | store n a x => simp only [evE]; exact eevS_congr h
    | app n b t s x => simp only [evE]; exact eevS_congr h
    | cpy n d x => simp only [evE]; exact eevS_congr h
    | next x => simp only [evE]; exact eevS_congr h
    | mupd s x k v => simp only [evE]; exact eevS_congr h
    | del s x k => simp only [evE]; exact eevS_congr h
    | rngm x => simp only [evE]; exact eevS_congr h
    | nextm x => simp only [evE]; exact eevS_congr h
    | ustr u x y => simp only [evE]; exact eevS_congr h
theorem wantedA_congr {ds : List (Option Tmp)} {e e' : Env} {g : Option (Nat × Bool)} (h : Agree e e' (gTmp ds g)) : wantedA ds e g = wantedA ds e' g := by
  cases g with
  | none => rfl
  | some p =>
    obtain ⟨j, w⟩ := p
    simp only [wantedA, yieldA]
    simp only [gTmp] at h
    cases hd : idx? ds j with
    | none => rfl
    | some q =>
      cases q with
      | none => rfl
      | some t =>
        rw [hd] at h
        simp only at h
        have := h t (by simp)
        simp only [this]

theorem VR.bool_inv {j : J} {a : AV} {b : Bool} (h : VR j a (.bool b)) : a = .b b := by
  cases a with
  | b x => simp only [VR] at h; injection h with h; rw [h]
  | i k n => simp [VR] at h
  | s l => simp [VR] at h
  | p a => cases a with
    | none => simp [VR] at h
    | some q => obtain ⟨q1, q2⟩ := q; simp [VR] at h
  | sl a l c e => cases a with
    | none => simp [VR] at h
    | some q => obtain ⟨q1, q2⟩ := q; simp [VR] at h
  | m a => cases a <;> simp [VR] at h
  | f fn x y => simp [VR] at h
  | nf => simp [VR] at h
  | ni => simp [VR] at h
  | ifc t x => simp [VR] at h
  | g l => simp [VR] at h
  | t l => simp [VR] at h
  | r k lo hi => simp [VR] at h
  | any => simp only [VR] at h; exact absurd rfl (h.2 _)
  | u lo hi => simp [VR] at h
  | x n => simp only [VR] at h; exact absurd rfl ((j.wf.cell _ _ h).2 _)
  | y id n => simp only [VR] at h; obtain ⟨l, _, h⟩ := h; exact absurd rfl ((j.wf.ptr _ _ _ h).2 _)

/-- A guard, here and there. -/
theorem wanted_ok {j : J} {e : Env} {a : Act} (he : ER j e a.tmps) {ops : Array Oper} {ds : List (Option Tmp)} (hds : ∀ i, idx? ds i = (ops[i]?).map (·.dst)) (o : Oper) :
    Region.wanted o (yielded ops a.tmps) = wantedA ds e o.guard := by
  unfold Region.wanted wantedA
  cases hg : o.guard with
  | none => rfl
  | some p =>
    obtain ⟨k, want⟩ := p
    simp only
    have hy : yielded ops a.tmps k = yieldA ds e k := by
      unfold yielded yieldA
      rw [hds k]
      cases hk : ops[k]? with
      | none => rfl
      | some q =>
        simp only [Option.bind_some, Option.map_some]
        cases hq : q.dst with
        | none => rfl
        | some t =>
          simp only [Option.bind_some]
          have hv := he t
          simp only [Array.getD_eq_getD_getElem?] at hv
          cases hav : Env.at e t with
          | b x =>
            rw [hav] at hv; simp only [VR] at hv
            cases ht : a.tmps[t]? with
            | none => rw [ht] at hv; simp [Go.undef] at hv
            | some v => rw [ht] at hv; simp only [Option.getD_some] at hv; subst hv; rfl
          | _ =>
            simp only
            cases ht : a.tmps[t]? with
            | none => rfl
            | some v =>
              rw [ht] at hv; simp only [Option.getD_some] at hv
              cases v <;> first
                | rfl
                | (have := VR.bool_inv hv; rw [hav] at this; cases this)
    rw [hy]
    cases yieldA ds e k with
    | none => rfl
    | some b => cases b <;> cases want <;> rfl
end Ab
end Go.Proofs.YtcoobajkgioflaaGreatDoor
