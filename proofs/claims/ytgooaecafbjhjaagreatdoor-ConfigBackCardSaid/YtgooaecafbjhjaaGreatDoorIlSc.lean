/-
  A part of the proof: rules and plain facts. No condition.
-/
import Derived.Test.YtgooaecafbjhjaaGreatDoorIlP1
set_option linter.all false
namespace Go.IL
section
variable {P : Program} {O : cG} {N : Nat} {S S' : St} {o : Oper} {t : Nat} {Q : Exit → St → Prop}
theorem gG {ops : Array Oper} {l : List Oper} {j tj : Nat} {want b : Bool} {d : D} (h : (o.guard,(ops[j]?).bind (·.dst),S.get tj,o.dst,pQ o.op,Nat.ble (t + 1) N) = (some (j,want),some tj,.bool b,some t,true,true))
    (x : (b == want) = true → IOp P O N o S (S.set t d)) (k : ILS P O N ops l (S.set t (.cnd (b == want) d)) Q) : ILS P O N ops (o :: l) S Q:=by
  simp only [Prod.mk.injEq] at h
  obtain ⟨h1,h2,h3,h4,h5,h6⟩:=h
  exact iC h1 h2 (.one h3) (by rw [h4,h5]) (lb h6) x k
theorem tFa {T : TypeId} {x : Operand} {i : Nat} {fs : Array Field} {F : Field} {z : Option Value} {size bytes : Nat} {id off : Nat} (off' : Nat) (hu : P.underlying T = some (.struct fs)) (h : (o.op,o.dst,Nat.ble (t + 1) N,fs[i]?) = (.fieldAddr T x i,some t,true,some F)) (hi : TI P F.type z size bytes)
    (h2 : (Nat.ble (0 + 1) size,S.op x,off + F.offset) = (true,.ref id off,off')) : IOp P O N o S (S.set t (.ref id off')):=by
  simp only [Prod.mk.injEq] at h h2
  exact faR off' h.1 h.2.1 h.2.2.1 hu h.2.2.2 hi (lb h2.1) h2.2.1 h2.2.2
theorem tLd {T : TypeId} {x : Operand} {u : TypeDesc} {z : Option Value} {size bytes : Nat} {id off : Nat} {e : TypeId} {ds r : List D} {d : D} (hu : P.underlying T = some u) (hg : eA P T = false) (hi : TI P T z size bytes)
    (h : (o.op,o.dst,Nat.ble (t + 1) N,Nat.ble (0 + 1) size,S.op x,S.ent id,Nat.ble (off + size) ds.length,ds.drop off) = (.load T x,some t,true,true,.ref id off,.blk e ds,true,d :: r)) : IOp P O N o S (S.set t d):=by
  simp only [Prod.mk.injEq] at h
  exact eC h.1 h.2.1 (lb h.2.2.1) hu hg hi (lb h.2.2.2.1) (svR h.2.2.2.2.1) h.2.2.2.2.2.1 (nle h.2.2.2.2.2.2.1) h.2.2.2.2.2.2.2
theorem tLc {T : TypeId} {x : Operand} {u : TypeDesc} {z : Option Value} {size bytes : Nat} {id off : Nat} {e : TypeId} {ds r : List D} {d : D} {b : Bool} (hu : P.underlying T = some u) (hg : eA P T = false) (hi : TI P T z size bytes)
    (h : (o.op,o.dst,Nat.ble (t + 1) N,Nat.ble (0 + 1) size,S.op x,S.ent id,Nat.ble (off + size) ds.length,ds.drop off) = (.load T x,some t,true,true,.cnd b (.ref id off),.blk e ds,true,d :: r)) (hb : b = true) : IOp P O N o S (S.set t d):=by
  simp only [Prod.mk.injEq] at h
  exact eC h.1 h.2.1 (lb h.2.2.1) hu hg hi (lb h.2.2.2.1) (svcR h.2.2.2.2.1 hb) h.2.2.2.2.2.1 (nle h.2.2.2.2.2.2.1) h.2.2.2.2.2.2.2
theorem tSt {T : TypeId} {x y : Operand} {z : Option Value} {size bytes : Nat} {id off : Nat} {e : TypeId} {ds : List D} (c ds' : List D) (hi : TI P T z size bytes)
    (h : (o.op,o.dst,S.op x,S.ent id,S.op y,(D.agg c).boxable,(D.agg c).cells.length,(D.agg c).cells.all D.one,Nat.ble (off + size) ds.length,gL ds off (D.agg c).cells) = (.store T x y,none,.ref id off,.blk e ds,.agg c,true,size,true,true,ds')) : IOp P O N o S (S.setE id (.blk e ds')):=by
  simp only [Prod.mk.injEq] at h
  exact stA c ds' hi h.1 h.2.1 h.2.2.1 h.2.2.2.1 h.2.2.2.2.1 h.2.2.2.2.2.1 h.2.2.2.2.2.2.1 h.2.2.2.2.2.2.2.1 (nle h.2.2.2.2.2.2.2.2.1) h.2.2.2.2.2.2.2.2.2
theorem tLr {T : TypeId} {x : Operand} {u : TypeDesc} {z : Option Value} {size bytes : Nat} {id off : Nat} {e : TypeId} {ds : List D} (cs : List D) (l : LA P T u z size bytes true)
    (h : (o.op,o.dst,Nat.ble (t + 1) N,S.op x,S.ent id,Nat.ble (off + size) ds.length,(ds.drop off).take size) = (.load T x,some t,true,.ref id off,.blk e ds,true,cs)) : IOp P O N o S (S.set t (.agg cs)):=by
  simp only [Prod.mk.injEq] at h
  exact lra cs l h.1 h.2.1 h.2.2.1 h.2.2.2.1 h.2.2.2.2.1 (nle h.2.2.2.2.2.1) h.2.2.2.2.2.2
theorem tAs {x : Operand} (d : D) (h : (o.op,o.dst,Nat.ble (t + 1) N,S.op x) = (.assign x,some t,true,d)) : IOp P O N o S (S.set t d):=by
  simp only [Prod.mk.injEq] at h
  exact bV h.1 h.2.1 (lb h.2.2.1) (sv h.2.2.2)
theorem tBx {e : TypeId} {x : Operand} {cs : List D} (c : List D) (id : Nat) (h : (o.op,o.dst,Nat.ble (t + 1) N,S.ent id,S.op x,(D.agg c).boxable,(D.agg c).cells) = (.box e x,some t,true,.fresh,.agg c,true,cs)) : IOp P O N o S ((S.setE id (.blk e cs)).set t (.ref id 0)):=by
  simp only [Prod.mk.injEq] at h
  exact sV id h.1 h.2.1 (lb h.2.2.1) h.2.2.2.1 (svA c h.2.2.2.2.1) h.2.2.2.2.2.1 h.2.2.2.2.2.2
theorem tI {x : Operand} {k : IntKind} {n : Int} (h : (o.op,o.dst,Nat.ble (t + 1) N,S.op x) = (.move x,some t,true,.int k n)) : IOp P O N o S (S.set t (.int k n)):=by
  simp only [Prod.mk.injEq] at h
  exact mvI h.1 h.2.1 h.2.2.1 h.2.2.2
theorem tB {x : Operand} {n : Bool} (h : (o.op,o.dst,Nat.ble (t + 1) N,S.op x) = (.move x,some t,true,.bool n)) : IOp P O N o S (S.set t (.bool n)):=by
  simp only [Prod.mk.injEq] at h
  exact mvB h.1 h.2.1 h.2.2.1 h.2.2.2
theorem tAI {x : Operand} {k : IntKind} {n : Int} (h : (o.op,o.dst,Nat.ble (t + 1) N,S.op x) = (.assign x,some t,true,.int k n)) : IOp P O N o S (S.set t (.int k n)):=by
  simp only [Prod.mk.injEq] at h
  exact asI h.1 h.2.1 h.2.2.1 h.2.2.2
theorem tAB {x : Operand} {n : Bool} (h : (o.op,o.dst,Nat.ble (t + 1) N,S.op x) = (.assign x,some t,true,.bool n)) : IOp P O N o S (S.set t (.bool n)):=by
  simp only [Prod.mk.injEq] at h
  exact asB h.1 h.2.1 h.2.2.1 h.2.2.2
theorem tMv {x : Operand} (d : D) (h : (o.op,o.dst,Nat.ble (t + 1) N,S.op x) = (.move x,some t,true,d)) : IOp P O N o S (S.set t d):=by
  simp only [Prod.mk.injEq] at h
  exact dR h.1 h.2.1 (lb h.2.2.1) (sv h.2.2.2)
theorem tEx {x : Operand} {i : Nat} {cs : List D} {d : D} (h : (o.op,o.dst,Nat.ble (t + 1) N,S.op x,cs[i]?) = (.extract x i,some t,true,.tuple cs,some d)) : IOp P O N o S (S.set t d):=by
  simp only [Prod.mk.injEq] at h
  exact dL h.1 h.2.1 (lb h.2.2.1) (sv h.2.2.2.1) h.2.2.2.2
theorem tCm {op : BinOp} {xt yt : TypeId} {x y : Operand} {k : IntKind} {a b : Int} {c c' : Bool} (h : (o.op,o.dst,Nat.ble (t + 1) N,S.op x,S.op y,int2 op k a b) = (.binOp op xt x y yt,some t,true,.int k a,.int k b,some (.bool c))) (hc : c = c') : IOp P O N o S (S.set t (.bool c')):=by
  simp only [Prod.mk.injEq] at h
  exact fF h.1 h.2.1 (lb h.2.2.1) (svI h.2.2.2.1) (svI h.2.2.2.2.1) h.2.2.2.2.2 hc
theorem tCg {op : BinOp} {xt yt : TypeId} {x y : Operand} {k : IntKind} {a b : Int} {c c' g : Bool} (h : (o.op,o.dst,Nat.ble (t + 1) N,S.op x,S.op y,int2 op k a b) = (.binOp op xt x y yt,some t,true,.cnd g (.int k a),.int k b,some (.bool c))) (hb : g = true) (hc : c = c') : IOp P O N o S (S.set t (.bool c')):=by
  simp only [Prod.mk.injEq] at h
  exact fF h.1 h.2.1 (lb h.2.2.1) (svcI h.2.2.2.1 hb) (svI h.2.2.2.2.1) h.2.2.2.2.2 hc
theorem tCh {op : BinOp} {xt yt : TypeId} {x y : Operand} {k : IntKind} {a b : Int} {c c' g : Bool} (h : (o.op,o.dst,Nat.ble (t + 1) N,S.op x,S.op y,int2 op k a b) = (.binOp op xt x y yt,some t,true,.cnd g (.int k a),.cnd g (.int k b),some (.bool c))) (hb : g = true) (hc : c = c') : IOp P O N o S (S.set t (.bool c')):=by
  simp only [Prod.mk.injEq] at h
  exact fF h.1 h.2.1 (lb h.2.2.1) (svcI h.2.2.2.1 hb) (svcI h.2.2.2.2.1 hb) h.2.2.2.2.2 hc
theorem tOr {c x y : Operand} {b z r : Bool} (h : (o.op,o.dst,Nat.ble (t + 1) N,S.op c,S.op x,S.op y) = (.pick c x y,some t,true,.bool b,.bool true,.cnd (b == false) (.bool z))) (hr : (b || z) = r) : IOp P O N o S (S.set t (.bool r)):=by
  simp only [Prod.mk.injEq] at h
  exact aBA h.1 h.2.1 (lb h.2.2.1) (svB h.2.2.2.1) h.2.2.2.2.1 h.2.2.2.2.2 hr
theorem tAn {c x y : Operand} {b z r : Bool} (h : (o.op,o.dst,Nat.ble (t + 1) N,S.op c,S.op x,S.op y) = (.pick c x y,some t,true,.bool b,.cnd (b == true) (.bool z),.bool false)) (hr : (b && z) = r) : IOp P O N o S (S.set t (.bool r)):=by
  simp only [Prod.mk.injEq] at h
  exact nK h.1 h.2.1 (lb h.2.2.1) (svB h.2.2.2.1) h.2.2.2.2.1 h.2.2.2.2.2 hr
theorem dMv {ops : Array Oper} {i : Nat} {S0 : St} {rs ri : List Nat} {s : Nat} {d : D} (h : (ops[i]?,nC o,o.op,o.dst,Nat.ble (t + 1) N,rs.elem s,S0.get s) = (some o,true,.move (.tmp s),some t,true,true,d)) : LOp P O N ops i S0 ⟨rs,ri,[(t,d)],[]⟩:=by
  simp only [Prod.mk.injEq] at h
  exact lop h.1 h.2.1 fun S hA=>dR h.2.2.1 h.2.2.2.1 (lb h.2.2.2.2.1) (sv (agr hA h.2.2.2.2.2.1 h.2.2.2.2.2.2))
theorem dFa {ops : Array Oper} {i : Nat} {S0 : St} {rs ri : List Nat} {T : TypeId} {s : Nat} {k : Nat} {fs : Array Field} {F : Field} {z : Option Value} {size bytes : Nat} {id off : Nat} (off' : Nat) (hu : P.underlying T = some (.struct fs)) (h : (ops[i]?,nC o,o.op,o.dst,Nat.ble (t + 1) N,fs[k]?) = (some o,true,.fieldAddr T (.tmp s) k,some t,true,some F)) (hi : TI P F.type z size bytes)
    (h2 : (Nat.ble (0 + 1) size,rs.elem s,S0.get s,off + F.offset) = (true,true,.ref id off,off')) : LOp P O N ops i S0 ⟨rs,ri,[(t,.ref id off')],[]⟩:=by
  simp only [Prod.mk.injEq] at h h2
  exact lop h.1 h.2.1 fun S hA=>cX h.2.2.1 h.2.2.2.1 (lb h.2.2.2.2.1) hu h.2.2.2.2.2 hi (lb h2.1) (sv (agr hA h2.2.1 h2.2.2.1)) h2.2.2.2
theorem dLd {ops : Array Oper} {i : Nat} {S0 : St} {rs ri : List Nat} {T : TypeId} {s : Nat} {u : TypeDesc} {z : Option Value} {size bytes : Nat} {id off : Nat} {e : TypeId} {ds r : List D} {d : D} (hu : P.underlying T = some u) (hg : eA P T = false) (hi : TI P T z size bytes)
    (h : (ops[i]?,nC o,o.op,o.dst,Nat.ble (t + 1) N,Nat.ble (0 + 1) size,rs.elem s,S0.get s,ri.elem id,S0.ent id,Nat.ble (off + size) ds.length,ds.drop off) = (some o,true,.load T (.tmp s),some t,true,true,true,.ref id off,true,.blk e ds,true,d :: r)) : LOp P O N ops i S0 ⟨rs,ri,[(t,d)],[]⟩:=by
  simp only [Prod.mk.injEq] at h
  obtain ⟨h1,h2,h3,h4,h5,h6,h7,h8,h9,h10,h11,h12⟩:=h
  exact lop h1 h2 fun S hA=>eC h3 h4 (lb h5) hu hg hi (lb h6) (sv (agr hA h7 h8)) (agi hA h9 h10) (nle h11) h12
theorem dLa {ops : Array Oper} {i : Nat} {S0 : St} {rs ri : List Nat} {T : TypeId} {s : Nat} {u : TypeDesc} {z : Option Value} {size bytes : Nat} {id off : Nat} {e : TypeId} {ds cs : List D} (hu : P.underlying T = some u) (hg : eA P T = true) (hi : TI P T z size bytes)
    (h : (ops[i]?,nC o,o.op,o.dst,Nat.ble (t + 1) N,Nat.ble (0 + 1) size,rs.elem s,S0.get s,ri.elem id,S0.ent id,Nat.ble (off + size) ds.length,(ds.drop off).take size) = (some o,true,.load T (.tmp s),some t,true,true,true,.ref id off,true,.blk e ds,true,cs)) : LOp P O N ops i S0 ⟨rs,ri,[(t,.agg cs)],[]⟩:=by
  simp only [Prod.mk.injEq] at h
  obtain ⟨h1,h2,h3,h4,h5,h6,h7,h8,h9,h10,h11,h12⟩:=h
  exact lop h1 h2 fun S hA=>jN h3 h4 (lb h5) hu hg hi (lb h6) (sv (agr hA h7 h8)) (agi hA h9 h10) (nle h11) h12
theorem dSt {ops : Array Oper} {i : Nat} {S0 : St} {rs ri : List Nat} {T : TypeId} {s v : Nat} {z : Option Value} {size bytes : Nat} {id off : Nat} {e : TypeId} {ds ds' : List D} (c : List D) (hi : TI P T z size bytes)
    (h : (ops[i]?,nC o,o.op,o.dst,rs.elem s,S0.get s,ri.elem id,S0.ent id,rs.elem v,S0.get v,(D.agg c).boxable,(D.agg c).cells.length,(D.agg c).cells.all D.one,Nat.ble (off + size) ds.length,gL ds off (D.agg c).cells) = (some o,true,.store T (.tmp s) (.tmp v),none,true,.ref id off,true,.blk e ds,true,.agg c,true,size,true,true,ds')) : LOp P O N ops i S0 ⟨rs,ri,[],[(id,.blk e ds')]⟩:=by
  simp only [Prod.mk.injEq] at h
  obtain ⟨h1,h2,h3,h4,h5,h6,h7,h8,h9,h10,h11,h12,h13,h14,h15⟩:=h
  exact lop h1 h2 fun S hA=>cH h3 h4 hi (sv (agr hA h5 h6)) (agi hA h7 h8) (sv (agr hA h9 h10)) h11 h12 h13 (nle h14) h15
theorem gD {ops : Array Oper} {i : Nat} {S0 : St} {rs ri : List Nat} {d : D} {j tj : Nat} {want b : Bool} (h : (ops[i]?,o.guard,(ops[j]?).bind (·.dst),o.dst,pQ o.op,Nat.ble (t + 1) N,rs.elem tj,S0.get tj) = (some o,some (j,want),some tj,some t,true,true,true,.bool b))
    (x : ∀ S,rL ⟨rs,ri,[(t,.cnd (b == want) d)],[]⟩ S S0 → (b == want) = true → IOp P O N o S (S.set t d)) : LOp P O N ops i S0 ⟨rs,ri,[(t,.cnd (b == want) d)],[]⟩:=by
  simp only [Prod.mk.injEq] at h
  obtain ⟨h1,h2,h3,h4,h5,h6,h7,h8⟩:=h
  exact lopg h1 h2 h3 (by rw [h4,h5]) (lb h6) (fun S hA=>grd1 hA h7 h8) x
theorem aH {α : Type} {c : Operand} {x y : Code} {b : Bool} {A B r : α} (h : (bif b then A else B) = r) (hc : S.op c = .bool b) (h1 : A = r → IWP P O N x S Q) (h2 : B = r → IWP P O N y S Q) : IWP P O N (.cond c x y) S Q :=
  gE hc (fun k=>h1 (tG h k)) (fun k=>h2 (tH h k))
theorem eoo {α β ρ : Type} {e : Option α} {f : α → Option β} {q : α → β → Option ρ} {r : ρ} (h : bno (e) (fun x=>bno (f x) (q x)) = some r) : ∃ x,e = some x ∧ ∃ y,f x = some y ∧ q x y = some r:=by
  obtain ⟨x,h0,h⟩:=bT h
  obtain ⟨y,h1,h⟩:=bT h
  exact ⟨x,h0,y,h1,h⟩
theorem eod {α β ρ : Type} {e : Option α} {f : α → β} {q : α → β → Option ρ} {r : ρ} (h : bno (e) (fun x=>bnd (f x) (q x)) = some r) : ∃ x,e = some x ∧ ∃ y,f x = y ∧ q x y = some r:=by
  obtain ⟨x,h0,h⟩:=bT h
  obtain ⟨y,h1,h⟩:=bE h
  exact ⟨x,h0,y,h1,h⟩
theorem edo {α β ρ : Type} {e : α} {f : α → Option β} {q : α → β → Option ρ} {r : ρ} (h : bnd (e) (fun x=>bno (f x) (q x)) = some r) : ∃ x,e = x ∧ ∃ y,f x = some y ∧ q x y = some r:=by
  obtain ⟨x,h0,h⟩:=bE h
  obtain ⟨y,h1,h⟩:=bT h
  exact ⟨x,h0,y,h1,h⟩
theorem edd {α β ρ : Type} {e : α} {f : α → β} {q : α → β → Option ρ} {r : ρ} (h : bnd (e) (fun x=>bnd (f x) (q x)) = some r) : ∃ x,e = x ∧ ∃ y,f x = y ∧ q x y = some r:=by
  obtain ⟨x,h0,h⟩:=bE h
  obtain ⟨y,h1,h⟩:=bE h
  exact ⟨x,h0,y,h1,h⟩
theorem eooo {α β γ ρ : Type} {e : Option α} {f : α → Option β} {g : α → β → Option γ} {q : α → β → γ → Option ρ} {r : ρ} (h : bno (e) (fun x=>bno (f x) (fun y=>bno (g x y) (q x y))) = some r) : ∃ x,e = some x ∧ ∃ y,f x = some y ∧ ∃ z,g x y = some z ∧ q x y z = some r:=by
  obtain ⟨x,h0,h⟩:=bT h
  obtain ⟨y,h1,h⟩:=bT h
  obtain ⟨z,h2,h⟩:=bT h
  exact ⟨x,h0,y,h1,z,h2,h⟩
theorem eood {α β γ ρ : Type} {e : Option α} {f : α → Option β} {g : α → β → γ} {q : α → β → γ → Option ρ} {r : ρ} (h : bno (e) (fun x=>bno (f x) (fun y=>bnd (g x y) (q x y))) = some r) : ∃ x,e = some x ∧ ∃ y,f x = some y ∧ ∃ z,g x y = z ∧ q x y z = some r:=by
  obtain ⟨x,h0,h⟩:=bT h
  obtain ⟨y,h1,h⟩:=bT h
  obtain ⟨z,h2,h⟩:=bE h
  exact ⟨x,h0,y,h1,z,h2,h⟩
theorem eodo {α β γ ρ : Type} {e : Option α} {f : α → β} {g : α → β → Option γ} {q : α → β → γ → Option ρ} {r : ρ} (h : bno (e) (fun x=>bnd (f x) (fun y=>bno (g x y) (q x y))) = some r) : ∃ x,e = some x ∧ ∃ y,f x = y ∧ ∃ z,g x y = some z ∧ q x y z = some r:=by
  obtain ⟨x,h0,h⟩:=bT h
  obtain ⟨y,h1,h⟩:=bE h
  obtain ⟨z,h2,h⟩:=bT h
  exact ⟨x,h0,y,h1,z,h2,h⟩
theorem eodd {α β γ ρ : Type} {e : Option α} {f : α → β} {g : α → β → γ} {q : α → β → γ → Option ρ} {r : ρ} (h : bno (e) (fun x=>bnd (f x) (fun y=>bnd (g x y) (q x y))) = some r) : ∃ x,e = some x ∧ ∃ y,f x = y ∧ ∃ z,g x y = z ∧ q x y z = some r:=by
  obtain ⟨x,h0,h⟩:=bT h
  obtain ⟨y,h1,h⟩:=bE h
  obtain ⟨z,h2,h⟩:=bE h
  exact ⟨x,h0,y,h1,z,h2,h⟩
theorem edoo {α β γ ρ : Type} {e : α} {f : α → Option β} {g : α → β → Option γ} {q : α → β → γ → Option ρ} {r : ρ} (h : bnd (e) (fun x=>bno (f x) (fun y=>bno (g x y) (q x y))) = some r) : ∃ x,e = x ∧ ∃ y,f x = some y ∧ ∃ z,g x y = some z ∧ q x y z = some r:=by
  obtain ⟨x,h0,h⟩:=bE h
  obtain ⟨y,h1,h⟩:=bT h
  obtain ⟨z,h2,h⟩:=bT h
  exact ⟨x,h0,y,h1,z,h2,h⟩
theorem edod {α β γ ρ : Type} {e : α} {f : α → Option β} {g : α → β → γ} {q : α → β → γ → Option ρ} {r : ρ} (h : bnd (e) (fun x=>bno (f x) (fun y=>bnd (g x y) (q x y))) = some r) : ∃ x,e = x ∧ ∃ y,f x = some y ∧ ∃ z,g x y = z ∧ q x y z = some r:=by
  obtain ⟨x,h0,h⟩:=bE h
  obtain ⟨y,h1,h⟩:=bT h
  obtain ⟨z,h2,h⟩:=bE h
  exact ⟨x,h0,y,h1,z,h2,h⟩
theorem eddo {α β γ ρ : Type} {e : α} {f : α → β} {g : α → β → Option γ} {q : α → β → γ → Option ρ} {r : ρ} (h : bnd (e) (fun x=>bnd (f x) (fun y=>bno (g x y) (q x y))) = some r) : ∃ x,e = x ∧ ∃ y,f x = y ∧ ∃ z,g x y = some z ∧ q x y z = some r:=by
  obtain ⟨x,h0,h⟩:=bE h
  obtain ⟨y,h1,h⟩:=bE h
  obtain ⟨z,h2,h⟩:=bT h
  exact ⟨x,h0,y,h1,z,h2,h⟩
theorem eddd {α β γ ρ : Type} {e : α} {f : α → β} {g : α → β → γ} {q : α → β → γ → Option ρ} {r : ρ} (h : bnd (e) (fun x=>bnd (f x) (fun y=>bnd (g x y) (q x y))) = some r) : ∃ x,e = x ∧ ∃ y,f x = y ∧ ∃ z,g x y = z ∧ q x y z = some r:=by
  obtain ⟨x,h0,h⟩:=bE h
  obtain ⟨y,h1,h⟩:=bE h
  obtain ⟨z,h2,h⟩:=bE h
  exact ⟨x,h0,y,h1,z,h2,h⟩
abbrev nd1 (rs : List Nat) (t : Nat) (d : D) : Node:=⟨rs,[],[(t,d)],[]⟩
abbrev nd2 (rs ri : List Nat) (t : Nat) (d : D) : Node:=⟨rs,ri,[(t,d)],[]⟩
theorem cFa {ops : Array Oper} {ll : List Oper} {T : TypeId} {x : Operand} {i : Nat} {fs : Array Field} {F : Field} {z : Option Value} {size bytes : Nat} {id off : Nat} (off' : Nat) (hu : P.underlying T = some (.struct fs)) (h : (nC o,o.op,o.dst,Nat.ble (t + 1) N,fs[i]?) = (true,.fieldAddr T x i,some t,true,some F)) (hi : TI P F.type z size bytes) (h2 : (Nat.ble (0 + 1) size,S.op x,off + F.offset) = (true,.ref id off,off')) (q : ILS P O N ops ll (S.set t (.ref id off')) Q) : ILS P O N ops (o :: ll) S Q :=
  aA (congrArg Prod.fst h) (tFa off' hu (congrArg Prod.snd h) hi h2) q
theorem cLd {ops : Array Oper} {ll : List Oper} {T : TypeId} {x : Operand} {u : TypeDesc} {z : Option Value} {size bytes : Nat} {id off : Nat} {e : TypeId} {ds r : List D} {d : D} (hu : P.underlying T = some u) (hg : eA P T = false) (hi : TI P T z size bytes) (h : (nC o,o.op,o.dst,Nat.ble (t + 1) N,Nat.ble (0 + 1) size,S.op x,S.ent id,Nat.ble (off + size) ds.length,ds.drop off) = (true,.load T x,some t,true,true,.ref id off,.blk e ds,true,d :: r)) (q : ILS P O N ops ll (S.set t d) Q) : ILS P O N ops (o :: ll) S Q :=
  aA (congrArg Prod.fst h) (tLd hu hg hi (congrArg Prod.snd h)) q
theorem cSt {ops : Array Oper} {ll : List Oper} {T : TypeId} {x y : Operand} {z : Option Value} {size bytes : Nat} {id off : Nat} {e : TypeId} {ds : List D} (c ds' : List D) (hi : TI P T z size bytes) (h : (nC o,o.op,o.dst,S.op x,S.ent id,S.op y,(D.agg c).boxable,(D.agg c).cells.length,(D.agg c).cells.all D.one,Nat.ble (off + size) ds.length,gL ds off (D.agg c).cells) = (true,.store T x y,none,.ref id off,.blk e ds,.agg c,true,size,true,true,ds')) (q : ILS P O N ops ll (S.setE id (.blk e ds')) Q) : ILS P O N ops (o :: ll) S Q :=
  aA (congrArg Prod.fst h) (tSt c ds' hi (congrArg Prod.snd h)) q
theorem cLr {ops : Array Oper} {ll : List Oper} {T : TypeId} {x : Operand} {u : TypeDesc} {z : Option Value} {size bytes : Nat} {id off : Nat} {e : TypeId} {ds : List D} (cs : List D) (l : LA P T u z size bytes true) (h : (nC o,o.op,o.dst,Nat.ble (t + 1) N,S.op x,S.ent id,Nat.ble (off + size) ds.length,(ds.drop off).take size) = (true,.load T x,some t,true,.ref id off,.blk e ds,true,cs)) (q : ILS P O N ops ll (S.set t (.agg cs)) Q) : ILS P O N ops (o :: ll) S Q :=
  aA (congrArg Prod.fst h) (tLr cs l (congrArg Prod.snd h)) q
theorem cAs {ops : Array Oper} {ll : List Oper} {x : Operand} (d : D) (h : (nC o,o.op,o.dst,Nat.ble (t + 1) N,S.op x) = (true,.assign x,some t,true,d)) (q : ILS P O N ops ll (S.set t d) Q) : ILS P O N ops (o :: ll) S Q :=
  aA (congrArg Prod.fst h) (tAs d (congrArg Prod.snd h)) q
theorem cBx {ops : Array Oper} {ll : List Oper} {e : TypeId} {x : Operand} {cs : List D} (c : List D) (id : Nat) (h : (nC o,o.op,o.dst,Nat.ble (t + 1) N,S.ent id,S.op x,(D.agg c).boxable,(D.agg c).cells) = (true,.box e x,some t,true,.fresh,.agg c,true,cs)) (q : ILS P O N ops ll ((S.setE id (.blk e cs)).set t (.ref id 0)) Q) : ILS P O N ops (o :: ll) S Q :=
  aA (congrArg Prod.fst h) (tBx c id (congrArg Prod.snd h)) q
theorem cI {ops : Array Oper} {ll : List Oper} {x : Operand} {k : IntKind} {n : Int} (h : (nC o,o.op,o.dst,Nat.ble (t + 1) N,S.op x) = (true,.move x,some t,true,.int k n)) (q : ILS P O N ops ll (S.set t (.int k n)) Q) : ILS P O N ops (o :: ll) S Q :=
  aA (congrArg Prod.fst h) (tI (congrArg Prod.snd h)) q
theorem cB {ops : Array Oper} {ll : List Oper} {x : Operand} {n : Bool} (h : (nC o,o.op,o.dst,Nat.ble (t + 1) N,S.op x) = (true,.move x,some t,true,.bool n)) (q : ILS P O N ops ll (S.set t (.bool n)) Q) : ILS P O N ops (o :: ll) S Q :=
  aA (congrArg Prod.fst h) (tB (congrArg Prod.snd h)) q
theorem cAI {ops : Array Oper} {ll : List Oper} {x : Operand} {k : IntKind} {n : Int} (h : (nC o,o.op,o.dst,Nat.ble (t + 1) N,S.op x) = (true,.assign x,some t,true,.int k n)) (q : ILS P O N ops ll (S.set t (.int k n)) Q) : ILS P O N ops (o :: ll) S Q :=
  aA (congrArg Prod.fst h) (tAI (congrArg Prod.snd h)) q
theorem cAB {ops : Array Oper} {ll : List Oper} {x : Operand} {n : Bool} (h : (nC o,o.op,o.dst,Nat.ble (t + 1) N,S.op x) = (true,.assign x,some t,true,.bool n)) (q : ILS P O N ops ll (S.set t (.bool n)) Q) : ILS P O N ops (o :: ll) S Q :=
  aA (congrArg Prod.fst h) (tAB (congrArg Prod.snd h)) q
theorem cMv {ops : Array Oper} {ll : List Oper} {x : Operand} (d : D) (h : (nC o,o.op,o.dst,Nat.ble (t + 1) N,S.op x) = (true,.move x,some t,true,d)) (q : ILS P O N ops ll (S.set t d) Q) : ILS P O N ops (o :: ll) S Q :=
  aA (congrArg Prod.fst h) (tMv d (congrArg Prod.snd h)) q
theorem cEx {ops : Array Oper} {ll : List Oper} {x : Operand} {i : Nat} {cs : List D} {d : D} (h : (nC o,o.op,o.dst,Nat.ble (t + 1) N,S.op x,cs[i]?) = (true,.extract x i,some t,true,.tuple cs,some d)) (q : ILS P O N ops ll (S.set t d) Q) : ILS P O N ops (o :: ll) S Q :=
  aA (congrArg Prod.fst h) (tEx (congrArg Prod.snd h)) q
theorem cCm {ops : Array Oper} {ll : List Oper} {op : BinOp} {xt yt : TypeId} {x y : Operand} {k : IntKind} {a b : Int} {c c' : Bool} (h : (nC o,o.op,o.dst,Nat.ble (t + 1) N,S.op x,S.op y,int2 op k a b) = (true,.binOp op xt x y yt,some t,true,.int k a,.int k b,some (.bool c))) (hc : c = c') (q : ILS P O N ops ll (S.set t (.bool c')) Q) : ILS P O N ops (o :: ll) S Q :=
  aA (congrArg Prod.fst h) (tCm (congrArg Prod.snd h) hc) q
theorem cOr {ops : Array Oper} {ll : List Oper} {c x y : Operand} {b z r : Bool} (h : (nC o,o.op,o.dst,Nat.ble (t + 1) N,S.op c,S.op x,S.op y) = (true,.pick c x y,some t,true,.bool b,.bool true,.cnd (b == false) (.bool z))) (hr : (b || z) = r) (q : ILS P O N ops ll (S.set t (.bool r)) Q) : ILS P O N ops (o :: ll) S Q :=
  aA (congrArg Prod.fst h) (tOr (congrArg Prod.snd h) hr) q
theorem cAn {ops : Array Oper} {ll : List Oper} {c x y : Operand} {b z r : Bool} (h : (nC o,o.op,o.dst,Nat.ble (t + 1) N,S.op c,S.op x,S.op y) = (true,.pick c x y,some t,true,.bool b,.cnd (b == true) (.bool z),.bool false)) (hr : (b && z) = r) (q : ILS P O N ops ll (S.set t (.bool r)) Q) : ILS P O N ops (o :: ll) S Q :=
  aA (congrArg Prod.fst h) (tAn (congrArg Prod.snd h) hr) q
end
end Go.IL
