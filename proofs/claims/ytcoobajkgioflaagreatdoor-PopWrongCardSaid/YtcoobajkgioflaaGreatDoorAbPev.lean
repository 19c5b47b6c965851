/- Every operation that looks at no memory. -/
import Derived.Test.YtcoobajkgioflaaGreatDoorAbPure
set_option linter.unusedSimpArgs false
set_option linter.unusedVariables false
namespace Go.Proofs.YtcoobajkgioflaaGreatDoor
namespace Ab
section
variable {P : Program}

theorem structPlaces_ok : ∀ (fs : List Field) (pl : List (Nat × Nat)), structPlaces P fs = some pl → ∀ w, (fs.mapM fun f => Prod.mk f.offset <$> sizeOf f.type).run P w = .ok pl w
  | [], pl, h, w => by simp only [structPlaces] at h; cases h; simp
  | f :: fs, pl, h, w => by
    simp only [structPlaces] at h
    split at h
    · rename_i n hn
      split at h
      · rename_i r hr
        cases h
        simp [List.mapM_cons, r_size hn, structPlaces_ok fs r hr]
      · cases h
    · cases h

theorem addr_add (b o n : Nat) : (⟨b, o, none⟩ : Addr).add n = ⟨b, o + n, none⟩ := by
  unfold Addr.add
  split
  · rename_i h; subst h; rfl
  · rfl

theorem equalIn_nilI {t : TypeId} {ms : Array (String × TypeId)} (hu : P.underlying t = some (.interface ms)) (d : Nat) (w : World) :
    (Op.equalIn (d + 1) t .nilIface .nilIface).run P w = .ok true w ∧ (∀ s v, (Op.equalIn (d + 1) t .nilIface (.iface s v)).run P w = .ok false w) ∧ (∀ s v, (Op.equalIn (d + 1) t (.iface s v) .nilIface).run P w = .ok false w) := by
  refine ⟨?_, fun s v => ?_, fun s v => ?_⟩ <;> simp [Op.equalIn, run_underlying hu]
theorem equal_nilI {t : TypeId} {ms : Array (String × TypeId)} (hu : P.underlying t = some (.interface ms)) (w : World) :
    (Op.equal t .nilIface .nilIface).run P w = .ok true w ∧ (∀ s v, (Op.equal t .nilIface (.iface s v)).run P w = .ok false w) ∧ (∀ s v, (Op.equal t (.iface s v) .nilIface).run P w = .ok false w) :=
  equalIn_nilI hu 9999 w

theorem guard_nilI (op : BinOp) (t : TypeId) {x y : Operand} (h : x = .const .nilIface ∨ y = .const .nilIface) (w : World) : (eqGuard op t x y .nilIface .nilIface).run P w = .ok () w := by
  rcases h with rfl | rfl
  · cases op <;> simp [eqGuard]
  · cases x <;> cases op <;> simp [eqGuard]
theorem guard_ifaceL (op : BinOp) (t s : TypeId) (v : Value) {x y : Operand} (w : World) : (eqGuard op t x y (.iface s v) .nilIface).run P w = .ok () w := by
  cases op <;> simp [eqGuard]
theorem guard_ifaceR (op : BinOp) (t s : TypeId) (v : Value) {x y : Operand} (w : World) : (eqGuard op t x y .nilIface (.iface s v)).run P w = .ok () w := by
  cases op <;> simp [eqGuard]
theorem bin_eql_nil (t : TypeId) (a b : Value) (ha : a = .nilIface ∨ ∃ s v, a = .iface s v) (hb : b = .nilIface ∨ ∃ s v, b = .iface s v) :
    binOp .eql t a b = (do pure (.bool (← Op.equal t a b))) ∧ binOp .neq t a b = (do pure (.bool (!(← Op.equal t a b)))) := by
  rcases ha with rfl | ⟨s, v, rfl⟩ <;> rcases hb with rfl | ⟨s', v', rfl⟩ <;> exact ⟨rfl, rfl⟩

/-- What a use of the operation answers. -/
def PAns (P : Program) (j : J) (a : Act) (o : Oper) (v : AV) : Prop := ∃ x, VR j v x ∧ ∀ w, (execOp a.eval o).run P w = .ok (.value x) w

theorem pans_bin {j : J} (hg : GlobOk P j) {e : Env} {a : Act} (he : ER j e a.tmps) {dst : Option Tmp} {op : BinOp} {t : TypeId} {x y : Operand} {yt type : TypeId} {pos : String} {after : Array Edge} {gd : Option (Nat × Bool)} {po : PO} {v : AV}
    (hc : compBin P op t x y = some po) (hv : pev e po = some v) : PAns P j a ⟨dst, .binOp op t x y yt, type, pos, after, gd⟩ v := by
  unfold compBin at hc
  split at hc
  case h_2 => cases hc
  rename_i p q hp hq
  have hx := cx_VR hg he hp
  have hy := cx_VR hg he hq
  have guard0 : ∀ (hne : ∀ (l : Array Value), a.eval x ≠ .agg l) (hni : a.eval x ≠ .nilIface) w, (eqGuard op t x y (a.eval x) (a.eval y)).run P w = .ok () w := by
    intro hne hni w
    unfold eqGuard
    cases hx1 : a.eval x <;> first | (exact absurd hx1 (hne _)) | (exact absurd hx1 hni) | skip
    all_goals (cases a.eval y <;> (split <;> simp))
  cases hu : P.underlying t with
  | none => rw [hu] at hc; cases hc
  | some d =>
  rw [hu] at hc
  -- numbers and strings
  have simple : ∀ (hb : some (PO.bin op p q) = some po), PAns P j a ⟨dst, .binOp op t x y yt, type, pos, after, gd⟩ v := by
    intro hb
    obtain rfl := Option.some.inj hb
    simp only [pev] at hv
    obtain ⟨r, hr, hrun⟩ := binR_ok (P := P) (t := t) hx hy hv
    refine ⟨r, hr, fun w => ?_⟩
    have hk : (∀ (l : Array Value), a.eval x ≠ .agg l) ∧ a.eval x ≠ .nilIface := by
      rcases binR_cases hv with hv | hv
      case inr =>
        obtain ⟨k, n, h1⟩ := rngA_int hx hv
        rw [h1]; exact ⟨fun l h => (by cases h), fun h => (by cases h)⟩
      unfold binA at hv
      split at hv <;> first
        | (obtain h1 := r_int hx; rw [h1]; exact ⟨fun l h => (by cases h), fun h => (by cases h)⟩)
        | (simp only [VR] at hx; rename_i hh _ ; rw [‹AX.ev e p = _›] at hx; simp only [VR] at hx; rw [hx]; exact ⟨fun l h => (by cases h), fun h => (by cases h)⟩)
        | (rw [‹AX.ev e p = _›] at hx; simp only [VR] at hx; rw [hx]; exact ⟨fun l h => (by cases h), fun h => (by cases h)⟩)
        | cases hv
    simp [execOp, guard0 hk.1 hk.2, hrun]
  -- equality at a kind
  have eqk : ∀ (k : TK) (hb : eqkOp op k p q = some po) (ht : TKty P t k), PAns P j a ⟨dst, .binOp op t x y yt, type, pos, after, gd⟩ v := by
    intro k hb ht
    have hneg : ∃ neg, po = .eqk k neg p q ∧ ((op = .eql ∧ neg = false) ∨ (op = .neq ∧ neg = true)) := by
      unfold eqkOp at hb
      split at hb
      · cases hb; exact ⟨_, rfl, .inl ⟨rfl, rfl⟩⟩
      · cases hb; exact ⟨_, rfl, .inr ⟨rfl, rfl⟩⟩
      · cases hb
    obtain ⟨neg, rfl, hop⟩ := hneg
    simp only [pev] at hv
    cases hz : eqA k (p.ev e) (q.ev e) with
    | none => rw [hz] at hv; cases hv
    | some z =>
    rw [hz] at hv
    simp only [Option.map_some] at hv
    obtain rfl := Option.some.inj hv
    have heq := fun w => eqk_ok (P := P) hx hy hz ht 9999 w
    have hk : (∀ (l : Array Value), a.eval x ≠ .agg l) ∧ a.eval x ≠ .nilIface ∧ (∀ k n, a.eval x ≠ .int k n) ∧ (∀ s, a.eval x ≠ .string s) ∧ (∀ k n, a.eval x ≠ .float k n) ∧ (∀ k n m, a.eval x ≠ .complex k n m) := by
      generalize hpe : p.ev e = pe at hx hz
      generalize a.eval x = ax at hx
      unfold eqA at hz
      split at hz <;> first
        | (cases hz; done)
        | (simp only [VR] at hx; subst hx; simp; done)
        | (simp only [VR] at hx; obtain ⟨_, _, rfl⟩ := hx; simp; done)
        | (simp only [VR] at hx; obtain ⟨_, _, rfl, _⟩ := hx; simp; done)
        | (simp only [VR] at hx; obtain ⟨_, _, _, _, rfl⟩ := hx; simp; done)
        | (rename_i c; obtain ⟨c1, c2⟩ := c; simp only [VR] at hx; obtain ⟨_, _, _, _, rfl⟩ := hx; simp; done)
        | (rename_i c _ _ _; obtain ⟨c1, c2⟩ := c; simp only [VR] at hx; obtain ⟨_, _, rfl, _⟩ := hx; simp; done)
        | (rename_i c _ _ _ _ _ _; obtain ⟨c1, c2⟩ := c; simp only [VR] at hx; obtain ⟨_, _, rfl, _⟩ := hx; simp; done)
    have hbin : ∀ w, (binOp op t (a.eval x) (a.eval y)).run P w = .ok (.bool (z != neg)) w := by
      intro w
      obtain ⟨_, _, k3, k4, k5, k6⟩ := hk
      have he' : (Op.equal t (a.eval x) (a.eval y)).run P w = .ok z w := heq w
      rcases hop with ⟨rfl, rfl⟩ | ⟨rfl, rfl⟩
      · have : binOp .eql t (a.eval x) (a.eval y) = (do pure (.bool (← Op.equal t (a.eval x) (a.eval y)))) := by
          generalize a.eval x = ax at *
          generalize a.eval y = ay at *
          cases ax <;> first | (exact absurd rfl (k3 _ _)) | (exact absurd rfl (k4 _)) | (exact absurd rfl (k5 _ _)) | (exact absurd rfl (k6 _ _ _)) | rfl
        rw [this]; simp [he']
      · have : binOp .neq t (a.eval x) (a.eval y) = (do pure (.bool (!(← Op.equal t (a.eval x) (a.eval y))))) := by
          generalize a.eval x = ax at *
          generalize a.eval y = ay at *
          cases ax <;> first | (exact absurd rfl (k3 _ _)) | (exact absurd rfl (k4 _)) | (exact absurd rfl (k5 _ _)) | (exact absurd rfl (k6 _ _ _)) | rfl
        rw [this]; simp [he']
    refine ⟨.bool (z != neg), by simp [VR], fun w => ?_⟩
    simp [execOp, guard0 hk.1 hk.2.1, hbin]
  cases d with
  | int k => exact simple hc
  | string => exact simple hc
  | bool => exact eqk .bool hc hu
  | pointer el =>
    simp only at hc
    split at hc
    · rename_i n hn; exact eqk .ptr hc ⟨_, hu, _, hn⟩
    · cases hc
  | slice el => exact eqk .slice hc ⟨_, hu⟩
  | func ps rs vr => exact eqk .func hc ⟨_, _, _, hu⟩
  | map k el => exact eqk .map hc ⟨_, _, hu⟩
  | interface ms =>
    have hc' : isniOp op (isNilI x) (isNilI y) p q = some po := hc
    have nilI : ∀ z : Operand, isNilI z = true → z = .const .nilIface := by
      intro z hz
      unfold isNilI at hz
      split at hz
      · rfl
      · cases hz
    have key : ∃ neg z u, po = .isni neg z ∧ ((op = .eql ∧ neg = false) ∨ (op = .neq ∧ neg = true)) ∧ VR j (z.ev e) u ∧ ((a.eval x = u ∧ y = .const .nilIface) ∨ (a.eval y = u ∧ x = .const .nilIface)) := by
      unfold isniOp at hc'
      split at hc'
      · cases hc'; rename_i h1; exact ⟨_, _, _, rfl, .inl ⟨rfl, rfl⟩, hx, .inl ⟨rfl, nilI y h1⟩⟩
      · cases hc'; rename_i h1; exact ⟨_, _, _, rfl, .inr ⟨rfl, rfl⟩, hx, .inl ⟨rfl, nilI y h1⟩⟩
      · cases hc'; rename_i h1 _; exact ⟨_, _, _, rfl, .inl ⟨rfl, rfl⟩, hy, .inr ⟨rfl, nilI x h1⟩⟩
      · cases hc'; rename_i h1 _; exact ⟨_, _, _, rfl, .inr ⟨rfl, rfl⟩, hy, .inr ⟨rfl, nilI x h1⟩⟩
      · cases hc'
    obtain ⟨neg, z, u, rfl, hop, hu1, hside⟩ := key
    simp only [pev] at hv
    have hz : (u = .nilIface ∧ v = .b !neg) ∨ (∃ tt yy, u = .iface tt yy ∧ v = .b neg) := by
      split at hv
      · rename_i hh; rw [hh] at hu1; cases hv; exact .inl ⟨hu1, rfl⟩
      · rename_i hh; rw [hh] at hu1; cases hv; simp only [VR] at hu1; obtain ⟨y, h1, _⟩ := hu1; exact .inr ⟨_, _, h1, rfl⟩
      · cases hv
    clear hv hc hc' simple eqk guard0 hx hy
    have side : ∀ w, ∃ r, (Op.equal t (a.eval x) (a.eval y)).run P w = .ok r w ∧ ((u = .nilIface ∧ r = true) ∨ ((∃ tt yy, u = .iface tt yy) ∧ r = false)) ∧ (eqGuard op t x y (a.eval x) (a.eval y)).run P w = .ok () w ∧
        (binOp .eql t (a.eval x) (a.eval y) = (do pure (.bool (← Op.equal t (a.eval x) (a.eval y)))) ∧ binOp .neq t (a.eval x) (a.eval y) = (do pure (.bool (!(← Op.equal t (a.eval x) (a.eval y)))))) := by
      intro w
      obtain ⟨e1, e2, e3⟩ := equal_nilI (P := P) hu w
      rcases hside with ⟨h1, h2⟩ | ⟨h1, h2⟩
      · have h3 : a.eval y = .nilIface := by rw [h2]; rfl
        rw [h1, h3]
        rcases hz with ⟨hz1, _⟩ | ⟨tt, yy, hz1, _⟩
        · subst hz1; exact ⟨_, e1, .inl ⟨rfl, rfl⟩, guard_nilI op t (.inr h2) w, bin_eql_nil t _ _ (.inl rfl) (.inl rfl)⟩
        · subst hz1; exact ⟨_, e3 _ _, .inr ⟨⟨_, _, rfl⟩, rfl⟩, guard_ifaceL op t _ _ w, bin_eql_nil t _ _ (.inr ⟨_, _, rfl⟩) (.inl rfl)⟩
      · have h3 : a.eval x = .nilIface := by rw [h2]; rfl
        rw [h1, h3]
        rcases hz with ⟨hz1, _⟩ | ⟨tt, yy, hz1, _⟩
        · subst hz1; exact ⟨_, e1, .inl ⟨rfl, rfl⟩, guard_nilI op t (.inl h2) w, bin_eql_nil t _ _ (.inl rfl) (.inl rfl)⟩
        · subst hz1; exact ⟨_, e2 _ _, .inr ⟨⟨_, _, rfl⟩, rfl⟩, guard_ifaceR op t _ _ w, bin_eql_nil t _ _ (.inl rfl) (.inr ⟨_, _, rfl⟩)⟩
    have hvb : ∃ b, v = .b b := by rcases hz with ⟨_, rfl⟩ | ⟨_, _, _, rfl⟩ <;> exact ⟨_, rfl⟩
    obtain ⟨b, rfl⟩ := hvb
    refine ⟨.bool b, rfl, fun w => ?_⟩
    obtain ⟨r, e1, e2, e3, e4, e5⟩ := side w
    have hr : b = (if neg then !r else r) := by
      rcases e2 with ⟨h1, h2⟩ | ⟨⟨_, _, h1⟩, h2⟩ <;> rcases hz with ⟨h3, h4⟩ | ⟨_, _, h3, h4⟩ <;> (rw [h1] at h3; first | cases h3 | skip) <;> (injection h4 with h4; rw [h4, h2]; cases neg <;> rfl)
    rcases hop with ⟨rfl, rfl⟩ | ⟨rfl, rfl⟩
    · simp [execOp, e3, e4, e1, hr]
    · simp [execOp, e3, e5, e1, hr]
  | struct fs =>
    obtain ⟨hg0, hc'⟩ := bif_none' hc
    simp only [Bool.or_eq_false_iff] at hg0
    have key : ∃ neg offs, po = .eqg neg offs p q ∧ ((op = .eql ∧ neg = false) ∨ (op = .neq ∧ neg = true)) ∧ scalOffs P fs.toList = some offs := by
      unfold eqgOp at hc'
      split at hc'
      · rename_i h1; cases hc'; exact ⟨_, _, rfl, .inl ⟨rfl, rfl⟩, h1⟩
      · rename_i h1; cases hc'; exact ⟨_, _, rfl, .inr ⟨rfl, rfl⟩, h1⟩
      · cases hc'
    obtain ⟨neg, offs, rfl, hop, hoffs⟩ := key
    simp only [pev] at hv
    split at hv
    case h_2 => cases hv
    rename_i xs ys hxs hys
    rw [hxs] at hx; rw [hys] at hy
    simp only [VR] at hx hy
    obtain ⟨cs, hcx, hx⟩ := hx
    obtain ⟨ds, hcy, hy⟩ := hy
    cases hz : eqgA xs ys offs with
    | none => rw [hz] at hv; cases hv
    | some z =>
    rw [hz] at hv
    simp only [Option.map_some] at hv
    obtain rfl := Option.some.inj hv
    have hfo : P.fieldsOf t = fs := by simp [Program.fieldsOf, hu]
    have heq : ∀ w, (Op.equal t (.agg ⟨cs⟩) (.agg ⟨ds⟩)).run P w = .ok z w := by
      intro w
      show (Op.equalIn (9999 + 1) t _ _).run P w = _
      rw [run_equalIn_struct w 9999 t _ _ (by rw [hfo]; exact hu) hg0.2, hfo]
      exact eqg_ok hx hy 9998 w fs.toList offs z hoffs hz
    refine ⟨.bool (z != neg), by simp [VR], fun w => ?_⟩
    have hgd := run_eqGuard_agg (P := P) w op t x y ⟨cs⟩ ⟨ds⟩ hg0.1
    rcases hop with ⟨rfl, rfl⟩ | ⟨rfl, rfl⟩
    · have : binOp .eql t (.agg ⟨cs⟩) (.agg ⟨ds⟩) = (do pure (.bool (← Op.equal t (.agg ⟨cs⟩) (.agg ⟨ds⟩)))) := rfl
      simp [execOp, hcx, hcy, hgd, this, heq]
    · have : binOp .neq t (.agg ⟨cs⟩) (.agg ⟨ds⟩) = (do pure (.bool (!(← Op.equal t (.agg ⟨cs⟩) (.agg ⟨ds⟩))))) := rfl
      simp [execOp, hcx, hcy, hgd, this, heq]
  | _ => cases hc

theorem fieldAt_ok {t : TypeId} {fs : Array Field} {i : Nat} {f : Field} {n : Nat} (hu : P.underlying t = some (.struct fs)) (hf : fs.toList[i]? = some f) (hn : sizeT P f.type = some (n + 1)) (b o : Nat) (w : World) :
    (Instr.fieldAt t (.pointer (some ⟨b, o, none⟩)) i).run P w = .ok (.pointer (some ⟨b, o + f.offset, none⟩)) w := by
  have hf' : fs[i]? = some f := by simpa using hf
  simp [Instr.fieldAt, run_underlying hu, hf', Instr.sureAddr, fieldPlace, r_size hn, addr_add]

theorem sllA_none (m : Option Nat) (l n : Nat) : sllA none m l n = none := by
  unfold sllA
  split
  · cases Nat.beq _ _ <;> rfl
  · rfl
theorem sllA_some (id o : Nat) (m : Option Nat) (l n M : Nat) (hm : ∀ m', m = some m' → m' = M) : ∃ q, sllA (some (id, o)) m l n = some q ∧ (M ≠ l → q = (id, o + l * n)) := by
  unfold sllA
  split
  · rename_i c
    have := hm c rfl; subst this
    rw [nat_beq]
    by_cases hc : c = l
    · subst hc; exact ⟨(id, o), by simp, fun h => absurd rfl h⟩
    · exact ⟨(id, o + l * n), by simp [hc, shA], fun _ => rfl⟩
  · exact ⟨(id, o + l * n), rfl, fun _ => rfl⟩
theorem bnds_cap {e : Env} {len : Nat} {lo hi mx : Option AX} {l h c : Nat} {m : Option Nat} (hb : bnds e len (some c) lo hi mx = some (l, h, m)) : m ≠ none := by
  intro hm
  subst hm
  unfold bnds at hb
  cases mx with
  | none =>
    simp only [bM] at hb
    split at hb
    · cases hb
    · split at hb
      · cases hb
      · cases hb
  | some y =>
    simp only [bM] at hb
    cases hq : bndA (y.ev e) (topA (some c) len) with
    | none => rw [hq] at hb; cases hb
    | some n =>
      rw [hq] at hb
      simp only at hb
      split at hb
      · cases hb
      · split at hb
        · cases hb
        · cases hb

theorem pans_slice {j : J} {e : Env} {a : Act} {x : Operand} {lo hi mx : Option Operand} {lo' hi' mx' : Option AX} {t el : TypeId} {n : Nat} {id? : Option (Nat × Nat)} {len es l h : Nat} {cap m : Option Nat}
    (hu : P.underlying t = some (.slice el)) (hn : sizeT P el = some n) (hx : VR j (.sl id? len cap es) (a.eval x)) (hes : es = n ∨ es = 0)
    (h1 : OR j e a lo lo') (h2 : OR j e a hi hi') (h3 : OR j e a mx mx') (hb : bnds e len cap lo' hi' mx' = some (l, h, m)) :
    ∃ y, VR j (.sl (sllA id? m l n) (Nat.sub h l) (capA m l) es) y ∧
      ∀ w, (Instr.sliceAt t (a.eval x) (lo.map a.eval) (hi.map a.eval) (mx.map a.eval)).run P w = .ok y w := by
  cases id? with
  | none =>
    simp only [VR] at hx
    obtain ⟨hl0, hc0, hx⟩ := hx
    subst hl0; subst hc0
    obtain ⟨M, hrun, hlh, hhM, hMc, hmM, hmN⟩ := bnds_ok (P := P) (c := 0) true (fun c' hc => (Option.some.inj hc).symm) (Nat.le_refl _) h1 h2 h3 hb
    have hM : M = 0 := by omega
    have hl : l = 0 := by omega
    have hh : h = 0 := by omega
    subst hM; subst hl; subst hh
    have hm : m = some 0 := by
      cases m with
      | some m' => rw [hmM m' rfl]
      | none => exact absurd rfl (bnds_cap hb)
    subst hm
    refine ⟨.slice none 0 0, by rw [sllA_none]; simp [VR, capA], fun w => ?_⟩
    simp [Instr.sliceAt, run_underlying hu, Instr.slice, hx, hrun, r_size hn]
  | some p =>
    obtain ⟨id, o⟩ := p
    simp only [VR] at hx
    obtain ⟨ad, c, hx, hlc, hcap, hor⟩ := hx
    obtain ⟨M, hrun, hlh, hhM, hMc, hmM, hmN⟩ := bnds_ok (P := P) (c := c) true hcap hlc h1 h2 h3 hb
    refine ⟨.slice (if M = l then some ad else some (ad.add (l * n))) (h - l) (M - l), ?_, fun w => ?_⟩
    · have hcase : (M = l) ∨ (M ≠ l) := Decidable.em _
      obtain ⟨q, hq, hq2⟩ := sllA_some id o m l n M hmM
      rw [hq]
      obtain ⟨q1, q2⟩ := q
      simp only [VR]
      have hcap' : ∀ c', capA m l = some c' → c' = M - l := by
        intro c' hc'
        cases m with
        | none => cases hc'
        | some m' => simp only [capA, Option.some.injEq] at hc'; rw [← hc', hmM m' rfl]; rfl
      rcases hcase with hM | hM
      · subst hM
        exact ⟨ad, M - M, by simp, by show h - M ≤ M - M; omega, hcap', .inl (by omega)⟩
      · have hq3 := hq2 hM
        injection hq3 with e1 e2
        rw [if_neg hM]
        refine ⟨ad.add (l * n), M - l, rfl, by show h - l ≤ M - l; omega, hcap', .inr ?_⟩
        rcases hor with hc0 | ⟨b, o', t', hj, had, hbnd⟩
        · omega
        · refine ⟨b, o', t', e1 ▸ hj, by rw [had, addr_add, e2]; congr 1; omega, fun hes' => ?_⟩
          have hesn : es = n := by rcases hes with h | h; exact h; exact absurd h hes'
          have := hbnd hes'
          rw [e2, hesn]
          rw [hesn] at this
          have h5 : l * n + (M - l) * n = M * n := by rw [← Nat.add_mul]; congr 1; omega
          have h6 : M * n ≤ c * n := Nat.mul_le_mul_right _ hMc
          omega
    · simp [Instr.sliceAt, run_underlying hu, Instr.slice, hx, hrun, r_size hn]

theorem cxs_one {j : J} (hg : GlobOk P j) {e : Env} {a : Act} (he : ER j e a.tmps) {xs : Array Operand} {x : AX} (h : cxs P xs.toList = some [x]) : ∃ z, xs = #[z] ∧ VR j (x.ev e) (a.eval z) := by
  obtain ⟨xs⟩ := xs
  cases xs with
  | nil => simp only [cxs] at h; cases h
  | cons z zs =>
    simp only [cxs] at h
    split at h
    · rename_i y hy
      split at h
      · rename_i ys hys
        cases h
        cases zs with
        | nil => exact ⟨z, rfl, cx_VR hg he hy⟩
        | cons z2 zs2 =>
          simp only [cxs] at hys
          split at hys
          · split at hys <;> cases hys
          · cases hys
      · cases h
    · cases h

theorem argTy {ts : Array TypeId} {d : TypeDesc} {i : Nat} (h : (ts.toList[i]?).bind P.underlying = some d) : ∃ t, ts[i]? = some t ∧ P.underlying t = some d := by
  cases ht : ts.toList[i]? with
  | none => rw [ht] at h; cases h
  | some t => rw [ht] at h; exact ⟨t, by simpa using ht, h⟩

theorem mm_ok {j : J} (mx : Bool) : ∀ (vs : List AV) (x : AV) (v : AV) (us : List Value) (u : Value), mmA mx x vs = some v → VR j x u → VRs j vs us →
    ∃ y, VR j v y ∧ ∀ w, ((us.foldlM (if mx then Builtin.max2 else Builtin.min2) u : Sem Value)).run P w = .ok y w
  | [], x, v, us, u, h, hx, hvs => by
    simp only [mmA] at h; cases h
    simp only [VRs] at hvs; subst hvs
    exact ⟨u, hx, fun w => by simp⟩
  | c :: vs, x, v, us, u, h, hx, hvs => by
    simp only [VRs] at hvs
    obtain ⟨d, ds, rfl, hd, hds⟩ := hvs
    simp only [mmA] at h
    cases h2 : mm2 mx x c with
    | none => rw [h2] at h; cases h
    | some z =>
    rw [h2] at h
    have hz : ∃ y', VR j z y' ∧ ∀ w, ((if mx then Builtin.max2 else Builtin.min2) u d).run P w = .ok y' w := by
      unfold mm2 at h2
      split at h2
      · obtain ⟨hk, h3⟩ := ite_none h2
        subst hk
        obtain rfl := Option.some.inj h3
        have hx := r_int hx
        have hd := r_int hd
        subst hx; subst hd
        cases mx with
        | true => exact ⟨_, rfl, fun w => by simp [Builtin.max2]⟩
        | false => exact ⟨_, rfl, fun w => by simp [Builtin.min2]⟩
      · cases h2
    obtain ⟨y', hy', hrun'⟩ := hz
    obtain ⟨y, hy, hrun⟩ := mm_ok mx vs z v ds y' h hy' hds
    exact ⟨y, hy, fun w => by simp only [List.foldlM_cons, Sem.run_bind, hrun', Result.andThen_ok, hrun]⟩

theorem run_usd_none (ts : Array TypeId) (ty : TypeId) (n c : Nat) (w : World) : (Builtin.unsafeSliceData_ ts ty #[.slice none n c]).run P w = .ok (.pointer none) w := rfl
theorem run_usd_some (ts : Array TypeId) (ty : TypeId) (a : Addr) (n c : Nat) (hc : c ≠ 0) (w : World) : (Builtin.unsafeSliceData_ ts ty #[.slice (some a) n c]).run P w = .ok (.pointer (some a)) w := by
  show (ite (c ≠ 0) (pure (Value.pointer (some a))) _ : Sem Value).run P w = _
  rw [if_pos hc]; rfl
theorem pans_call {j : J} (hg : GlobOk P j) {e : Env} {a : Act} (he : ER j e a.tmps) {dst : Option Tmp} {c : Call} {type : TypeId} {pos : String} {after : Array Edge} {gd : Option (Nat × Bool)} {po : PO} {v : AV}
    (hc : compOp P ⟨dst, .call c, type, pos, after, gd⟩ = some (.P po)) (hv : pev e po = some v) : PAns P j a ⟨dst, .call c, type, pos, after, gd⟩ v := by
  obtain ⟨callee, args, argTypes⟩ := c
  simp only [compOp] at hc
  split at hc
  · split at hc <;> cases hc
  · split at hc
    · rename_i x h1 h2
      cases hc
      obtain ⟨t, ht, hu⟩ := argTy h1
      obtain ⟨z, rfl, hx⟩ := cxs_one hg he h2
      simp only [pev] at hv
      split at hv
      · rename_i l hl
        cases hv
        rw [hl] at hx; simp only [VR] at hx
        exact ⟨_, rfl, fun w => by simp [execOp, resolve, invoke, builtin, Builtin.len_, ht, hx, run_underlying hu, goInt, bytes_size]⟩
      · cases hv
    · rename_i el x h1 h2
      cases hc
      obtain ⟨t, ht, hu⟩ := argTy h1
      obtain ⟨z, rfl, hx⟩ := cxs_one hg he h2
      simp only [pev] at hv
      split at hv
      · rename_i lo hi hl
        cases hv
        rw [hl] at hx
        simp only [VR] at hx
        obtain ⟨b, n, c, hx', n1, n2⟩ := hx
        exact ⟨.int .i64 n, by simp only [VR]; exact ⟨n, rfl, by omega, by omega⟩, fun w => by simp [execOp, resolve, invoke, builtin, Builtin.len_, ht, hx', run_underlying hu, goInt]⟩
      · rename_i ad n cap es hl
        cases hv
        rw [hl] at hx
        have hx' : ∃ b c, a.eval z = .slice b n c := by
          cases ad with
          | none => simp only [VR] at hx; obtain ⟨rfl, _, hx⟩ := hx; exact ⟨_, _, hx⟩
          | some p => obtain ⟨p, q⟩ := p; simp only [VR] at hx; obtain ⟨_, _, hx, _⟩ := hx; exact ⟨_, _, hx⟩
        obtain ⟨b, c, hx'⟩ := hx'
        exact ⟨_, rfl, fun w => by simp [execOp, resolve, invoke, builtin, Builtin.len_, ht, hx', run_underlying hu, goInt]⟩
      · cases hv
    · rename_i n el x h1 h2
      cases hc
      obtain ⟨t, ht, hu⟩ := argTy h1
      obtain ⟨z, rfl, hx⟩ := cxs_one hg he h2
      simp only [pev] at hv
      cases hv
      exact ⟨_, rfl, fun w => by simp [execOp, resolve, invoke, builtin, Builtin.len_, ht, run_underlying hu, goInt]⟩
    · cases hc
    · cases hc
  · repeat' (first | (cases hc; done) | (obtain ⟨_, hc'⟩ := bif_none hc; cases hc'; done) | split at hc)
  · repeat' (first | (cases hc; done) | (obtain ⟨_, hc'⟩ := bif_none hc; cases hc'; done) | split at hc)
  · repeat' (first | (cases hc; done) | (obtain ⟨_, hc'⟩ := bif_none hc; cases hc'; done) | split at hc)
  · split at hc
    · rename_i el x h1 h2
      cases hc
      obtain ⟨t, ht, hu⟩ := argTy h1
      obtain ⟨z, rfl, hx⟩ := cxs_one hg he h2
      simp only [pev] at hv
      split at hv
      · rename_i ad n c es hl
        cases hv
        rw [hl] at hx
        have hx' : ∃ b, a.eval z = .slice b n c := by
          cases ad with
          | none => simp only [VR] at hx; obtain ⟨rfl, hc, hx⟩ := hx; cases hc; exact ⟨_, hx⟩
          | some p => obtain ⟨p, q⟩ := p; simp only [VR] at hx; obtain ⟨_, c', hx, _, hc, _⟩ := hx; rw [hc c rfl]; exact ⟨_, hx⟩
        obtain ⟨b, hx'⟩ := hx'
        exact ⟨_, rfl, fun w => by simp [execOp, resolve, invoke, builtin, Builtin.cap_, ht, hx', run_underlying hu, goInt]⟩
      · cases hv
    · cases hc
  · split at hc
    · rename_i x h2
      cases hc
      obtain ⟨z, rfl, hx⟩ := cxs_one hg he h2
      simp only [pev] at hv
      split at hv
      · rename_i n c es hl
        cases hv
        rw [hl] at hx; simp only [VR] at hx
        obtain ⟨_, _, hx⟩ := hx
        exact ⟨.pointer none, by simp only [VR], fun w => by simp [execOp, resolve, invoke, builtin, hx, run_usd_none]⟩
      · rename_i id o n c es hl
        have hq := bif_none' hv
        clear hv
        obtain ⟨hn, hv⟩ := hq
        cases hv
        rw [nat_beq] at hn
        have hn := of_decide_eq_false hn
        rw [hl] at hx; simp only [VR] at hx
        obtain ⟨ad, cc, hx, hle, _, hor⟩ := hx
        have hc0 : cc ≠ 0 := by omega
        rcases hor with h0 | ⟨b, o', t, hj, had, _⟩
        · exact absurd h0 hc0
        · exact ⟨.pointer (some ad), by simp only [VR]; exact ⟨b, o', t, hj, by rw [had]⟩, fun w => by simp [execOp, resolve, invoke, builtin, hx, run_usd_some _ _ _ _ _ hc0]⟩
      · cases hv
    · cases hc
  · repeat' (first | (cases hc; done) | (obtain ⟨_, hc'⟩ := bif_none hc; cases hc'; done) | split at hc)
  · split at hc
    · rename_i x xs h1
      cases hc
      have hxs := cxs_ok hg he _ _ h1
      simp only [evAll, VRs] at hxs
      obtain ⟨u, us, heq, hx, hxs⟩ := hxs
      simp only [pev] at hv
      obtain ⟨y, hy, hrun⟩ := mm_ok (P := P) true _ _ _ _ _ hv hx hxs
      exact ⟨y, hy, fun w => by simp [execOp, resolve, invoke, builtin, Builtin.max_, heq]; rw [show (List.foldlM Builtin.max2 u us).run P w = .ok y w from hrun w]; rfl⟩
    · cases hc
  · split at hc
    · rename_i x xs h1
      cases hc
      have hxs := cxs_ok hg he _ _ h1
      simp only [evAll, VRs] at hxs
      obtain ⟨u, us, heq, hx, hxs⟩ := hxs
      simp only [pev] at hv
      obtain ⟨y, hy, hrun⟩ := mm_ok (P := P) false _ _ _ _ _ hv hx hxs
      exact ⟨y, hy, fun w => by simp [execOp, resolve, invoke, builtin, Builtin.min_, heq]; rw [show (List.foldlM Builtin.min2 u us).run P w = .ok y w from hrun w]; rfl⟩
    · cases hc
  · cases hc

set_option maxHeartbeats 1000000 in
theorem pev_sound {j : J} (hg : GlobOk P j) {e : Env} {a : Act} (he : ER j e a.tmps) {o : Oper} {po : PO} {v : AV}
    (hc : compOp P o = some (.P po)) (hv : pev e po = some v) : PAns P j a o v := by
  obtain ⟨dst, op, type, pos, after, gd⟩ := o
  cases op with
  | move x =>
    simp only [compOp] at hc
    split at hc
    · rename_i y hy; cases hc; simp only [pev] at hv; cases hv
      exact ⟨_, cx_VR hg he hy, fun w => by simp [execOp]⟩
    · cases hc
  | assign x =>
    simp only [compOp] at hc
    split at hc
    · rename_i y hy; cases hc; simp only [pev] at hv; cases hv
      exact ⟨_, cx_VR hg he hy, fun w => by simp [execOp]⟩
    · cases hc
  | pick c x y =>
    simp only [compOp] at hc
    split at hc
    · rename_i c' x' y' h1 h2 h3; cases hc
      simp only [pev] at hv
      have hcv := cx_VR hg he h1
      split at hv
      · rename_i b hb
        rw [hb] at hcv; simp only [VR] at hcv
        cases b with
        | true => rw [cond_true] at hv; cases hv; exact ⟨_, cx_VR hg he h2, fun w => by simp [execOp, hcv, asBool]⟩
        | false => rw [cond_false] at hv; cases hv; exact ⟨_, cx_VR hg he h3, fun w => by simp [execOp, hcv, asBool]⟩
      · cases hv
    · cases hc
  | build t parts =>
    simp only [compOp] at hc
    split at hc
    · rename_i z fs hz hu
      split at hc
      · rename_i pl hpl
        split at hc
        · rename_i q hq
          cases hc
          simp only [pev] at hv
          cases hf : fillA z.cells (evParts e q) with
          | none => rw [hf] at hv; cases hv
          | some l =>
          rw [hf] at hv; simp only [Option.map_some] at hv; cases hv
          obtain ⟨zv, hzv, hzr⟩ := r_zero hz
          obtain ⟨cells', hcells, hv'⟩ := fill_ok hg he parts.toList q z.cells l zv.cells.toList hq hf (VR.cells (ofV_VR hzv))
          refine ⟨.agg ⟨cells'⟩, by simp [VR]; exact hv', fun w => ?_⟩
          have hpl' := structPlaces_ok fs.toList pl hpl w
          have hfun : (fun (i : Nat) => (pl.toArray)[i]?) = fun (i : Nat) => pl[i]? := by funext i; simp
          simp only [execOp, Sem.run_bind, Instr.build, hzr, Result.andThen_ok, run_underlying hu]
          simp [Array.mapM_eq_mapM_toList, hpl', hcells]
        · cases hc
      · cases hc
    · rename_i z k el hz hu
      split at hc
      · rename_i n hn
        split at hc
        · rename_i q hq
          cases hc
          simp only [pev] at hv
          cases hf : fillA z.cells (evParts e q) with
          | none => rw [hf] at hv; cases hv
          | some l =>
          rw [hf] at hv; simp only [Option.map_some] at hv; cases hv
          obtain ⟨zv, hzv, hzr⟩ := r_zero hz
          obtain ⟨cells', hcells, hv'⟩ := fill_ok hg he parts.toList q z.cells l zv.cells.toList hq hf (VR.cells (ofV_VR hzv))
          refine ⟨.agg ⟨cells'⟩, by simp [VR]; exact hv', fun w => ?_⟩
          have hcells2 : Instr.fill (fun i => some (i * n, n)) zv.cells (parts.toList.map fun p => (p.1, a.eval p.2)) = some ⟨cells'⟩ := hcells
          simp only [execOp, Sem.run_bind, Instr.build, hzr, Result.andThen_ok, run_underlying hu, r_size hn]
          simp [hcells2]
        · cases hc
      · cases hc
    · cases hc
  | nilCheck x =>
    simp only [compOp] at hc
    split at hc
    · rename_i y hy; cases hc
      have hx := cx_VR hg he hy
      simp only [pev] at hv
      split at hv
      · rename_i ad had
        cases hv
        rw [had] at hx
        obtain ⟨id, o⟩ := ad
        have hx' := hx
        simp only [VR] at hx'
        obtain ⟨b, o', t, _, hx'⟩ := hx'
        exact ⟨_, hx, fun w => by simp [execOp, hx']⟩
      · rename_i fn p q hfn
        cases hv
        rw [hfn] at hx
        have hx' := hx
        simp only [VR] at hx'
        obtain ⟨a1, b1, hx', _, _⟩ := hx'
        exact ⟨_, hx, fun w => by simp [execOp, hx']⟩
      · cases hv
    · cases hc
  | binOp op t x y yt =>
    simp only [compOp] at hc
    split at hc
    · rename_i q hq; cases hc
      exact pans_bin hg he hq hv
    · cases hc
  | unOp op t x =>
    simp only [compOp] at hc
    split at hc
    · rename_i y hy; cases hc
      simp only [pev] at hv
      obtain ⟨r, hr, hrun⟩ := un_ok (P := P) (cx_VR hg he hy) hv
      exact ⟨r, hr, fun w => by simp [execOp, hrun]⟩
    · cases hc
  | convert src dst' x =>
    simp only [compOp] at hc
    split at hc
    · rename_i k1 k x' h1 h2 h3
      cases hc
      have hx := cx_VR hg he h3
      simp only [pev] at hv
      split at hv
      · rename_i kk n hn
        cases hv
        rw [hn] at hx
        have hx := r_int hx
        exact ⟨_, rfl, fun w => by simp [execOp, hx, convert, run_underlying h1, run_underlying h2, Conv.intToInt]⟩
      · cases hv
    · rename_i x' h1 h2 h3
      cases hc
      have hx := cx_VR hg he h3
      simp only [pev] at hv
      split at hv
      · rename_i l hl
        cases hv
        rw [hl] at hx
        simp only [VR] at hx
        exact ⟨_, rfl, fun w => by simp [execOp, hx, convert, run_underlying h1, run_underlying h2]⟩
      · cases hv
    · rename_i kk x' h1 h2 h3
      cases hc
      have hx := cx_VR hg he h3
      simp only [pev] at hv
      split at hv
      · rename_i k0 n hn
        cases hv
        rw [hn] at hx
        have hx := r_int hx
        exact ⟨.string (Utf8.encode n), rfl, fun w => by simp [execOp, hx, convert, run_underlying h1, run_underlying h2, Conv.intToString]⟩
      · cases hv
    · split at hc
      · obtain ⟨_, hc⟩ := bif_none hc; cases hc
      · cases hc
    · split at hc <;> cases hc
    · split at hc <;> cases hc
    · cases hc
    · cases hc
    · cases hc
  | makeInterface t x =>
    simp only [compOp] at hc
    split at hc
    · cases hc
    · rename_i d x' hni hd hx'
      cases hc
      simp only [pev] at hv
      cases hv
      refine ⟨.iface t (a.eval x), ?_, fun w => ?_⟩
      · simp only [VR]; exact ⟨_, rfl, cx_VR hg he hx'⟩
      · simp only [execOp, Sem.run_bind, Instr.makeInterface, run_underlying hd, Result.andThen_ok]
        cases d <;> first | rfl | exact absurd rfl (hni _)
    · cases hc
  | makeFunc fn first caps =>
    simp only [compOp] at hc
    split at hc
    · rename_i p q hp hq
      cases hc
      simp only [pev] at hv
      cases hv
      refine ⟨.func fn (first.map a.eval) (caps.map a.eval), ?_, fun w => by simp [execOp, Instr.makeFunc]⟩
      simp only [VR]
      refine ⟨first.toList.map a.eval, caps.toList.map a.eval, ?_, cxs_ok hg he _ _ hp, cxs_ok hg he _ _ hq⟩
      congr 1 <;> (apply Array.ext'; simp)
    · cases hc
  | fieldAddr t x i =>
    simp only [compOp] at hc
    split at hc
    · rename_i fs x' hu hx'
      split at hc
      · rename_i f hf
        split at hc
        · rename_i n hn
          cases hc
          have hx := cx_VR hg he hx'
          simp only [pev] at hv
          split at hv
          · rename_i id o ho
            cases hv
            rw [ho] at hx
            simp only [VR] at hx
            obtain ⟨b, o', tt, hj, hx⟩ := hx
            refine ⟨.pointer (some ⟨b, o' + o + f.offset, none⟩), ?_, fun w => ?_⟩
            · simp only [VR]; exact ⟨b, o', tt, hj, by simp only [Nat.add_assoc]; rfl⟩
            · simp [execOp, hx, fieldAt_ok hu hf hn]
          · cases hv
        · cases hc
      · cases hc
    · cases hc
  | field t x i =>
    simp only [compOp] at hc
    split at hc
    · rename_i fs x' hu hx'
      split at hc
      · rename_i f hf
        split at hc
        · rename_i g n hg' hn
          cases hc
          have hx := cx_VR hg he hx'
          simp only [pev] at hv
          split at hv
          · rename_i cs hcs
            rw [hcs] at hx
            simp only [VR] at hx
            obtain ⟨cells, hx, hcv⟩ := hx
            obtain ⟨y, hy, hrun⟩ := r_part (P := P) hg' hn hv hcv
            have hf' : fs[i]? = some f := by simpa using hf
            exact ⟨y, hy, fun w => by simp [execOp, hx, Instr.field, run_underlying hu, hf', asAgg, hrun]⟩
          · cases hv
        · cases hc
      · cases hc
    · cases hc
  | indexAddr t x i =>
    simp only [compOp] at hc
    split at hc
    · rename_i el x' i' hu hx' hi'
      split at hc
      · rename_i n hn
        cases hc
        have hx := cx_VR hg he hx'
        have hi := cx_VR hg he hi'
        simp only [pev] at hv
        split at hv
        · rename_i id o len cap es kk k hxe hie
          obtain ⟨hk, hv⟩ := ite_none hv
          cases hv
          rw [hxe] at hx; rw [hie] at hi
          have hi := r_int hi
          simp only [VR] at hx
          obtain ⟨ad, c, hx, hlc, _, hor⟩ := hx
          rcases hor with h0 | ⟨b, o', tt, hj, had, _⟩
          · omega
          · refine ⟨.pointer (some ⟨b, o' + (o + k.toNat * n), none⟩), ?_, fun w => ?_⟩
            · simp only [VR]; exact ⟨b, o', tt, hj, rfl⟩
            · simp [execOp, hx, hi, Instr.indexAt, asIntOf, run_underlying hu, hk.1, hk.2, r_size hn, had, addr_add, Nat.add_assoc]
        · cases hv
      · cases hc
    · rename_i len el x' i' hu hx' hi'
      split at hc
      · rename_i n hn
        cases hc
        have hx := cx_VR hg he hx'
        have hi := cx_VR hg he hi'
        simp only [pev] at hv
        split at hv
        · rename_i id o kk k hxe hie
          obtain ⟨hk, hv⟩ := ite_none hv
          cases hv
          rw [hxe] at hx; rw [hie] at hi
          have hi := r_int hi
          simp only [VR] at hx
          obtain ⟨b, o', tt, hj, hx⟩ := hx
          refine ⟨.pointer (some ⟨b, o' + (o + k.toNat * n), none⟩), ?_, fun w => ?_⟩
          · simp only [VR]; exact ⟨b, o', tt, hj, rfl⟩
          · simp [execOp, hx, hi, Instr.indexAt, asIntOf, run_underlying hu, hk.1, hk.2, r_size hn, addr_add, Nat.add_assoc, Instr.sureAddr]
        · cases hv
      · cases hc
    · cases hc
  | index t x i =>
    simp only [compOp] at hc
    split at hc
    · rename_i x' i' hu hx' hi'
      cases hc
      have hx := cx_VR hg he hx'
      have hi := cx_VR hg he hi'
      simp only [pev] at hv
      split at hv
      · rename_i l kk k hxe hie
        obtain ⟨hk, hv⟩ := ite_none hv
        rw [hxe] at hx; rw [hie] at hi
        have hi := r_int hi
        simp only [VR] at hx
        rw [idx?_eq] at hv
        cases hq : l[k.toNat]? with
        | none => rw [hq] at hv; cases hv
        | some q =>
          rw [hq] at hv; simp only [Option.map_some] at hv; cases hv
          refine ⟨_, rfl, fun w => ?_⟩
          have : (⟨⟨l⟩⟩ : ByteArray)[k.toNat]? = some q := by rw [bytes_get]; exact hq
          simp [execOp, hx, hi, Instr.index, asIntOf, run_underlying hu, hk, this]
      · cases hv
    · rename_i len el x' i' hu hx' hi'
      split at hc
      · rename_i g n hg' hn
        cases hc
        have hx := cx_VR hg he hx'
        have hi := cx_VR hg he hi'
        simp only [pev] at hv
        split at hv
        · rename_i cs kk k hxe hie
          obtain ⟨hk, hv⟩ := ite_none hv
          rw [hxe] at hx; rw [hie] at hi
          have hi := r_int hi
          simp only [VR] at hx
          obtain ⟨cells, hx, hcv⟩ := hx
          obtain ⟨y, hy, hrun⟩ := r_part (P := P) hg' hn hv hcv
          exact ⟨y, hy, fun w => by simp [execOp, hx, hi, Instr.index, asIntOf, run_underlying hu, hk.1, hk.2, r_size hn]; rw [show (part el { toList := cells } (k.toNat * n)).run P w = .ok y w from hrun w]; rfl⟩
        · cases hv
      · cases hc
    · cases hc
  | slice t x lo hi mx =>
    simp only [compOp] at hc
    split at hc
    · rename_i x' lo' hi' hu hx' hlo hhi hmx
      cases hc
      have hx := cx_VR hg he hx'
      have hmx0 : mx = none := by
        cases mx with
        | none => rfl
        | some m => simp only [cxo] at hmx; split at hmx <;> cases hmx
      subst hmx0
      simp only [pev] at hv
      split at hv
      · rename_i l hl
        split at hv
        · rename_i p q m hb
          cases hv
          rw [hl] at hx
          simp only [VR] at hx
          obtain ⟨M, hrun, hlh, hhM, hMc, _, _⟩ := bnds_ok (P := P) (c := l.length) false (fun c' hc => (Option.some.inj hc).symm) (Nat.le_refl _) (cxo_ok hg he hlo) (cxo_ok hg he hhi) (by trivial : OR j e a none none) hb
          refine ⟨_, rfl, fun w => ?_⟩
          have hrun' := hrun w
          simp only [Option.map_none] at hrun'
          simp [execOp, hx, Instr.sliceAt, run_underlying hu, Instr.slice, bytes_size, hrun', bytes_extract]
        · cases hv
      · cases hv
    · rename_i el x' lo' hi' mx' hu hx' hlo hhi hmx
      split at hc
      · rename_i n hn
        cases hc
        have hx := cx_VR hg he hx'
        simp only [pev] at hv
        split at hv
        · rename_i ad len cap es hxe
          obtain ⟨hes, hv⟩ := bif_none hv
          split at hv
          · rename_i l h m hb
            cases hv
            rw [hxe] at hx
            have hes' : es = n ∨ es = 0 := by
              rw [nat_beq, nat_beq] at hes
              simpa using hes
            obtain ⟨y, hy, hrun⟩ := pans_slice hu hn hx hes' (cxo_ok hg he hlo) (cxo_ok hg he hhi) (cxo_ok hg he hmx) hb
            exact ⟨y, hy, fun w => by simp [execOp, hrun]⟩
          · cases hv
        · cases hv
      · cases hc
    · rename_i k el x' lo' hi' mx' hu hx' hlo hhi hmx
      split at hc
      · rename_i n hn
        cases hc
        have hx := cx_VR hg he hx'
        simp only [pev] at hv
        split at hv
        · rename_i id o hxe
          split at hv
          · rename_i l h m hb
            cases hv
            rw [hxe] at hx
            simp only [VR] at hx
            obtain ⟨b, o', tt, hj, hx⟩ := hx
            obtain ⟨M, hrun, hlh, hhM, hMc, hmM, _⟩ := bnds_ok (P := P) (c := k) false (fun c' hc => (Option.some.inj hc).symm) (Nat.le_refl _) (cxo_ok hg he hlo) (cxo_ok hg he hhi) (cxo_ok hg he hmx) hb
            have := hmM m rfl
            subst this
            refine ⟨.slice (some (if m = l then ⟨b, o' + o, none⟩ else (⟨b, o' + o, none⟩ : Addr).add (l * n))) (h - l) (m - l), ?_, fun w => ?_⟩
            · simp only [VR]
              refine ⟨_, m - l, rfl, by show h - l ≤ m - l; omega, fun c' hc => (Option.some.inj hc).symm, ?_⟩
              by_cases hml : m = l
              · left; omega
              · right
                refine ⟨b, o', tt, hj, ?_, fun h0 => absurd rfl h0⟩
                rw [if_neg hml, addr_add, nat_beq]
                simp only [hml, decide_false, cond_false]
                congr 1
                show _ = o' + (o + l * n)
                omega
            · simp [execOp, hx, Instr.sliceAt, run_underlying hu, Instr.sureAddr, hrun, r_size hn]
          · cases hv
        · cases hv
      · cases hc
    · cases hc
  | extract x i =>
    simp only [compOp] at hc
    split at hc
    · rename_i x' hx'
      cases hc
      have hx := cx_VR hg he hx'
      simp only [pev] at hv
      split at hv
      · rename_i l hl
        rw [hl] at hx
        simp only [VR] at hx
        obtain ⟨cs, hx, hcs⟩ := hx
        rw [idx?_eq] at hv
        obtain ⟨y, hy, hyv⟩ := hcs.get i v hv
        have hy' : (⟨cs⟩ : Array Value)[i]? = some y := by simpa using hy
        exact ⟨y, hyv, fun w => by simp [execOp, hx, Instr.extract, hy']⟩
      · cases hv
    · cases hc
  | call c => exact pans_call hg he hc hv
  | makeMap t r => cases r <;> (simp only [compOp] at hc; cases hc)
  | next x b =>
    cases b with
    | false => simp only [compOp] at hc; split at hc <;> cases hc
    | true => simp only [compOp] at hc; split at hc <;> cases hc
  | _ =>
    simp only [compOp] at hc
    repeat' (first | (cases hc; done) | (obtain ⟨_, hc'⟩ := bif_none hc; cases hc'; done) | split at hc)
end
end Ab
end Go.Proofs.YtcoobajkgioflaaGreatDoor
