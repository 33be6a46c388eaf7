import Derived.Test.YtfmiecbmikncpaaDoorTORowVT
namespace Go.Vc
open Go.RowKit
def ldDv(o:Option Dat):SV :=
 match o with
 | some ⟨t',y⟩ => .d t' y
 | none => .any
theorem ldDv_ok{o:Option Dat}{t:Ty}{k:SV→Prop}(h:ldD o t k):k (ldDv o):=by
 unfold ldD at h;unfold ldDv
 split at h
 · split at h
   · exact h
   · exact h.elim
 · exact h.elim
def Ot.getv:(u:Ot)→u.D→List Nat→((u':Ot)→u'.D→SV)→SV
 | u,x,[],F=>F u x
 | .sl _ u,xs,k::p,F=>u.getv (List.getD (ls xs) k u.er.z) p F
 | .d _,_,_::_,_ => .any
theorem Ot.getv_ok{k:SV→Prop}{G:(u:Ot)→u.D→Prop}{F:(u:Ot)→u.D→SV}(hF:∀ u y,G u y→k (F u y)):∀ {u:Ot} {x:u.D} {p:List Nat},u.get x p G→k (u.getv x p F)
 | .d _,_,[],h=>hF _ _ h
 | .sl _ _,_,[],h=>hF _ _ h
 | .sl _ u,_,_::_,h=>Ot.getv_ok hF (u:=u) h.2
 | .d _,_,_::_,h=>h.elim
def ldCv(s:SV)(q:List Nat):SV :=
 match s with
 | .d t1 x=>ldDv (sub t1 x q)
 | s=>s
theorem ldCv_ok[Dn]{s:SV}{t0 t:Ty}{q:List Nat}{k:SV→Prop}(h:ldC s t0 t q k):k (ldCv s q):=by
 unfold ldC at h;unfold ldCv
 split at h
 · split at h
   · exact ldDv_ok h
   · exact h.elim
 · rename_i hno
   split at h
   · split at h
     · exact h.elim
     · cases s with
       | d t1 x=>exact absurd rfl (hno t1 x)
       | _=>exact h
   · exact h.elim
def ldTv(i:Nat)(p:List Nat)(kk:Nat)(q:List Nat):(u:Ot)→u.D→SV
 | .sl _ (.d t1),ys=>ldDv (sub t1 (List.getD ys kk t1.z) q)
 | .sl _ (.sl _ _),_ => .tv i (p++[kk])
 | .d _,_ => .any
theorem ldTv_ok[Dn]{t0 t:Ty}{i:Nat}{p:List Nat}{kk:Nat}{q:List Nat}{u:Ot}{y:u.D}{k:SV→Prop}(h:ldT t0 t i p kk q k u y):k (ldTv i p kk q u y):=by
 unfold ldT at h
 split at h
 · obtain⟨_,h⟩:=h
   split at h
   · simp only[ldTv];exact ldDv_ok h
   · exact h.elim
 · obtain⟨_,h⟩:=h
   split at h
   · split at h
     · split at h
       · exact h.elim
       · simp only[ldTv];exact h
     · exact h.elim
   · exact h.elim
 · exact h.elim
def ldPv:(u:Ty)→u.D→SV
 | .ptr t1,x=>match x with
   | some y => .d t1 y
   | none => .any
 | _,_ => .any
def ldSv(t:Ty)(l:List SV):SV :=
 match packD t l with
 | some x => .d t x
 | none => .ag l
def ldv(st:St)(t:Ty):SV→SV
 | .ps i=>match st.ob[i]? with
   | some (.st _ l)=>ldSv t l
   | _ => .any
 | .pv _ i q=>match st.ob[i]? with
   | some (.var _ t1 x)=>ldDv (sub t1 x q)
   | some (.st _ l)=>match chk l 0 with
     | some s=>ldCv s q
     | none => .any
   | _ => .any
 | .ea _ i kk q=>match st.ob[i]? with
   | some (.row _ t1 xs)=>ldDv (sub t1 (xs.getD kk t1.z) q)
   | _ => .any
 | .ra t1 x => .d t1 x
 | .pf _ i o q=>match st.ob[i]? with
   | some (.st _ l)=>match chk l o with
     | some s=>ldCv s q
     | none => .any
   | _ => .any
 | .ta _ i p kk q=>match st.ob[i]? with
   | some (.trow e u xs)=>(Ot.sl e u).getv xs p (ldTv i p kk q)
   | _ => .any
 | .d u x=>ldPv u x
 | _ => .any
theorem ldP_ok{t u:Ty}{x:u.D}{k:SV→Prop}(h:ldP t k u x):k (ldPv u x):=by
 unfold ldP at h
 split at h
 · split at h
   · split at h
     · exact h
     · exact h.elim
   · exact h.elim
 · exact h.elim
theorem ldSv_ok{t:Ty}{l:List SV}{k:SV→Prop}(h:ldS t l k):k (ldSv t l):=by
 unfold ldS at h
 unfold ldSv
 split at h
 · split at h
   · rename_i e;simp only[e];exact h
   · rename_i e;simp only[e]
     split at h
     · exact h
     · exact h.elim
 · exact h.elim
theorem ldv_ok[Dn]{st:St}{t:Ty}{s:SV}{k:SV→Prop}(h:ld st t k s):k (ldv st t s):=by
 cases s<;>simp only[ld,ldv] at h ⊢
 all_goals try exact h.elim
 · exact ldP_ok h
 · split at h
   · rename_i e;simp only[e]
     split at h
     · exact ldDv_ok h
     · exact h.elim
   · rename_i e;simp only[e]
     split at h
     · rename_i e2;simp only[e2];exact ldCv_ok h
     · exact h.elim
   · exact h.elim
 · split at h
   · rename_i e;simp only[e]
     split at h
     · exact ldDv_ok h
     · exact h.elim
   · exact h.elim
 · split at h
   · exact h
   · exact h.elim
 · split at h
   · rename_i e;simp only[e]
     exact ldSv_ok h
   · exact h.elim
 · split at h
   · rename_i e;simp only[e]
     split at h
     · rename_i e2;simp only[e2];exact ldCv_ok h
     · exact h.elim
   · exact h.elim
 · split at h
   · rename_i e;simp only[e]
     exact Ot.getv_ok (fun u y hy=>ldTv_ok hy) h
   · exact h.elim
def fav(ts:Ty)(f:Nat):SV→SV
 | .pv t i q => .pv t i (q++[f])
 | .ea t i kk q => .ea t i kk (q++[f])
 | .ra t x=>match sub t x [f] with
   | some ⟨t',y⟩ => .ra t' y
   | none => .any
 | .ps i=>match off ts [f] with
   | some (o2,tf) => .pf tf i o2 []
   | none => .any
 | .pf t i o0 q => .pf t i o0 (q++[f])
 | .ta t i p kk q => .ta t i p kk (q++[f])
 | _ => .any
theorem fav_ok{ts:Ty}{f:Nat}{s:SV}{k:SV→Prop}(h:fa ts f k s):k (fav ts f s):=by
 cases s<;>simp only[fa,fav] at h ⊢
 all_goals try exact h.elim
 · split at h
   · split at h
     · exact h
     · exact h.elim
   · exact h.elim
 · split at h
   · split at h
     · exact h
     · exact h.elim
   · exact h.elim
 · split at h
   · split at h
     · rename_i e;simp only[e];exact h
     · exact h.elim
   · exact h.elim
 · split at h
   · rename_i e;simp only[e]
     split at h
     · exact h
     · exact h.elim
   · exact h.elim
 · split at h
   · split at h
     · exact h
     · exact h.elim
   · exact h.elim
 · split at h
   · split at h
     · exact h
     · exact h.elim
   · exact h.elim
def iaTv(n:Int)(i:Nat)(p:List Nat):(u:Ot)→u.D→SV
 | .sl _ u,_ => .ta u.er i p n.toNat []
 | .d _,_ => .any
theorem iaTv_ok{tT:Ty}{n:Int}{i:Nat}{p:List Nat}{u:Ot}{y:u.D}{k:SV→Prop}(h:iaT tT n i p k u y):k (iaTv n i p u y):=by
 unfold iaT at h
 split at h
 · split at h
   · simp only[iaTv];exact h.2.2
   · exact h.elim
 · exact h.elim
def iav(st:St)(n:Int):SV→SV
 | .os i=>match st.ob[i]? with
   | some (.row _ t _) => .ea t i n.toNat []
   | some (.trow _ u _) => .ta u.er i [] n.toNat []
   | _ => .any
 | .oc t i a=>match st.ob[i]? with
   | some (.row _ _ _) => .ea t i (a+n.toNat) []
   | _ => .any
 | .tv i p=>match st.ob[i]? with
   | some (.trow e u xs)=>(Ot.sl e u).getv xs p (iaTv n i p)
   | _ => .any
 | .pf t i o0 q => .pf t i o0 (q++[n.toNat])
 | .ta t i p kk q => .ta t i p kk (q++[n.toNat])
 | .d (.sl t) xs => .ra t (xs.getD n.toNat t.z)
 | .pv t i q => .pv t i (q++[n.toNat])
 | .ea t i kk q => .ea t i kk (q++[n.toNat])
 | .ra (.ar _ t) xs => .ra t (xs.getD n.toNat t.z)
 | _ => .any
theorem iav_ok[Dn]{st:St}{tT:Ty}{n:Int}{s:SV}{k:SV→Prop}(h:ia st tT n k s):k (iav st n s):=by
 unfold ia at h;unfold iav
 split at h
 · split at h
   · rename_i e;simp only[e]
     split at h
     · exact h.2.2
     · exact h.elim
   · rename_i e;simp only[e]
     split at h
     · exact h.2.2
     · exact h.elim
   · exact h.elim
 · split at h
   · rename_i e;simp only[e]
     split at h
     · exact h.2.2
     · exact h.elim
   · exact h.elim
 · split at h
   · rename_i e;simp only[e]
     exact Ot.getv_ok (fun u y hy=>iaTv_ok hy) h
   · exact h.elim
 · split at h
   · split at h
     · exact h.2.2
     · exact h.elim
   · exact h.elim
 · split at h
   · split at h
     · exact h.2.2
     · exact h.elim
   · exact h.elim
 · split at h
   · exact h.2.2
   · exact h.elim
 · split at h
   · split at h
     · exact h.2.2
     · exact h.elim
   · exact h.elim
 · split at h
   · split at h
     · exact h.2.2
     · exact h.elim
   · exact h.elim
 · split at h
   · exact h.2.2
   · exact h.elim
 · exact h.elim
def ariv(op:BinOp)(k:IntKind)(a b:Int):SV :=
 match op with
 | .add => .d (.int k) (a+b)
 | .sub => .d (.int k) (a - b)
 | .mul => .d (.int k) (a*b)
 | .quo => .d (.int k) (a.tdiv b)
 | .rem => .d (.int k) (a.tmod b)
 | .and => .d (.int k) ((a.toNat &&& b.toNat:Nat):Int)
 | .or => .d (.int k) ((a.toNat ||| b.toNat:Nat):Int)
 | .xor => .d (.int k) ((a.toNat ^^^ b.toNat:Nat):Int)
 | .andNot => .d (.int k) ((a.toNat ^^^ (a.toNat &&& b.toNat):Nat):Int)
 | .lss => .d .bool (decide (a<b))
 | .leq => .d .bool (decide (a≤b))
 | .gtr => .d .bool (decide (b<a))
 | .geq => .d .bool (decide (b≤a))
 | .eql => .d .bool (decide (a=b))
 | .neq => .d .bool (!decide (a=b))
 | _ => .any
theorem ariv_ok{op:BinOp}{kk:IntKind}{a b:Int}{k:SV→Prop}(h:ari op kk a b k):k (ariv op kk a b):=by
 cases op<;>simp only[ari,ariv] at h ⊢
 all_goals first
   | exact h.elim
   | exact h
   | exact h.2
   | exact h.2.2
   | (split at h
      · exact h.2.2
      · exact h.elim)
def shfv(op:BinOp)(k:IntKind)(a n:Int):SV :=
 match op with
 | .shl => .d (.int k) (a*2 ^ n.toNat)
 | .shr => .d (.int k) (a/2 ^ n.toNat)
 | _ => .any
theorem shfv_ok{op:BinOp}{kk:IntKind}{a b:Int}{k:SV→Prop}(h:shf op kk a b k):k (shfv op kk a b):=by
 cases op<;>simp only[shf,shfv] at h ⊢
 all_goals first
   | exact h.elim
   | exact h.2.2.2.2
def cmpv(neg:Bool)(s1 s2:SV):SV :=
 match asB s1,asB s2 with
 | some a,some b => .d .bool (match neg with | true => !(a==b) | false=>(a==b))
 | _,_=>match s1,s2 with
   | .d (.err _) n,.d (.err _) _ => .d .bool (match neg with | true => !decide (n=(0:Int)) | false=>decide (n=(0:Int)))
   | .d .str a,.d .str b => .d .bool (match neg with | true => !(a==b) | false=>(a==b))
   | .d (.pr a1 b1) x,.d (.pr a2 b2) y=>if h:Ty.pr a2 b2=Ty.pr a1 b1 then .d .bool (match neg with | true => !((Ty.pr a1 b1).beq x (h▸y)) | false=>((Ty.pr a1 b1).beq x (h▸y))) else .any
   | _,_ => .any
theorem cmpv_ok{eqT:TypeId→Bool}{neg:Bool}{T:TypeId}{t:Ty}{nil:Bool}{s1 s2:SV}{k:SV→Prop}(h:cmp eqT neg T t nil s1 s2 k):k (cmpv neg s1 s2):=by
 unfold cmp at h;unfold cmpv
 split at h
 · rename_i e1 e2;simp only[e1,e2]
   split at h
   · exact h
   · exact h.elim
 · rename_i hno
   split at h
   · split
     · rename_i e1 e2;exact absurd e2 (hno _ _ e1)
     · split at h
       · exact h
       · exact h.elim
   · split
     · rename_i e1 e2;exact absurd e2 (hno _ _ e1)
     · exact h
   · split
     · rename_i e1 e2;exact absurd e2 (hno _ _ e1)
     · split at h
       · rename_i hh
         simp only[dif_pos hh]
         split at h
         · exact h
         · exact h.elim
       · exact h.elim
   · exact h.elim
def ixv(n:Int):SV→SV
 | .d .str s => .d (.int .u8) ((s.getD n.toNat 0).toNat:Int)
 | .d (.ar _ t) xs => .d t (xs.getD n.toNat t.z)
 | _ => .any
theorem ixv_ok{tT:Ty}{n:Int}{s:SV}{k:SV→Prop}(h:ix tT n k s):k (ixv n s):=by
 unfold ix at h;unfold ixv
 split at h
 · split at h
   · exact h.2.2
   · exact h.elim
 · split at h
   · exact h.2.2
   · exact h.elim
 · exact h.elim
def lnTv:(u:Ot)→u.D→SV
 | .sl _ _,ys => .d (.int .i64) (List.length ys:Int)
 | .d _,_ => .any
theorem lnTv_ok{u:Ot}{y:u.D}{k:SV→Prop}(h:lnT k u y):k (lnTv u y):=by
 unfold lnT at h
 split at h
 · simp only[lnTv];exact h
 · exact h.elim
def lnv(st:St):SV→SV
 | .os i=>match st.ob[i]? with
   | some (.row _ _ xs) => .d (.int .i64) (xs.length:Int)
   | some (.trow _ _ xs) => .d (.int .i64) (List.length xs:Int)
   | _ => .any
 | .oc _ i a=>match st.ob[i]? with
   | some (.row _ _ xs) => .d (.int .i64) ((xs.length - a:Nat):Int)
   | _ => .any
 | .tv i p=>match st.ob[i]? with
   | some (.trow e u xs)=>(Ot.sl e u).getv xs p lnTv
   | _ => .any
 | .d (.sl _) xs => .d (.int .i64) (xs.length:Int)
 | .nils => .d (.int .i64) (0:Int)
 | .d .str s => .d (.int .i64) (s.length:Int)
 | _ => .any
theorem lnv_ok[Dn]{st:St}{tT:Ty}{s:SV}{k:SV→Prop}(h:ln st tT k s):k (lnv st s):=by
 unfold ln at h;unfold lnv
 split at h
 · split at h
   · rename_i e;simp only[e];exact h
   · rename_i e;simp only[e];exact h
   · exact h.elim
 · split at h
   · rename_i e;simp only[e];exact h
   · exact h.elim
 · split at h
   · rename_i e;simp only[e];exact Ot.getv_ok (fun u y hy=>lnTv_ok hy) h
   · exact h.elim
 all_goals first
   | exact h.elim
   | (split at h
      · exact h
      · exact h.elim)
def cut3v(lo:Option Int)(hi:Int):SV→SV
 | .d (.sl t) xs => .fs t ((xs.take hi.toNat).drop (lo.getD 0).toNat)
 | _ => .any
theorem cut3v_ok{tT:Ty}{lo:Option Int}{hi mx:Int}{s:SV}{k:SV→Prop}(h:cut3 tT lo hi mx k s):k (cut3v lo hi s):=by
 unfold cut3 at h;unfold cut3v
 split at h
 · split at h
   · exact h.2.2.2.2
   · exact h.elim
 · exact h.elim
theorem nck_v{s:SV}{k:SV→Prop}(h:nck k s):k s:=by
 unfold nck at h
 split at h
 all_goals first
   | exact h.elim
   | exact h
def cutv(lo hi:Option Int):SV→SV
 | .d (.sl t) xs => .d (.sl t) ((xs.take (hi.getD (xs.length:Int)).toNat).drop (lo.getD 0).toNat)
 | .d .str s => .d .str ((s.take (hi.getD (s.length:Int)).toNat).drop (lo.getD 0).toNat)
 | .ra (.ar m t) xs => .d (.sl t) ((xs.take (hi.getD (m:Int)).toNat).drop (lo.getD 0).toNat)
 | _ => .any
theorem cutv_ok{tT:Ty}{lo hi:Option Int}{s:SV}{k:SV→Prop}(h:cut tT lo hi k s):k (cutv lo hi s):=by
 unfold cut at h;unfold cutv
 split at h
 · split at h
   · exact h.2.2.2
   · exact h.elim
 · split at h
   · exact h.2.2.2
   · exact h.elim
 · split at h
   · exact h.2.2.2
   · exact h.elim
 · exact h.elim
def bopv(op:BinOp)(s1 s2:SV):SV :=
 match s1,s2 with
 | .d (.int k1) a,.d (.int _) b=>match op with
   | .shl=>shfv .shl k1 a b
   | .shr=>shfv .shr k1 a b
   | op=>ariv op k1 a b
 | s1,s2=>match op with
   | .eql=>cmpv false s1 s2
   | .neq=>cmpv true s1 s2
   | .add=>match s1,s2 with
     | .d .str a,.d .str b => .d .str (List.append a b)
     | _,_ => .any
   | _ => .any
theorem bopv_ok[Dn]{E:Env}{op:BinOp}{T:TypeId}{y:Operand}{s1 s2:SV}{k:SV→Prop}(h:bop E op T y s1 s2 k):k (bopv op s1 s2):=by
 unfold bop at h;unfold bopv
 split at h
 · split at h
   · exact shfv_ok h
   · exact shfv_ok h
   · rename_i h1 h2
     split at h
     · cases op
       all_goals first
         | exact absurd rfl h1
         | exact absurd rfl h2
         | exact ariv_ok h
     · exact h.elim
 · rename_i hno
   split
   · rename_i k1 a k2 b;exact absurd rfl (hno k1 a k2 b rfl)
   · split at h
     · split at h
       · exact cmpv_ok h
       · exact h.elim
     · split at h
       · exact cmpv_ok h
       · exact h.elim
     · split at h
       · exact h.2
       · exact h.elim
     · exact h.elim
def pickS(E:Env)(st:St):Op→Option (Bool×SV×SV)
 | .pick c a b=>match st.ev E c with
   | .d .bool b'=>some (b',st.ev E a,st.ev E b)
   | _=>none
 | _=>none
def qopv0(E:Env)(st:St)(op:Op):SV :=
 match op with
 | .move x=>st.ev E x
 | .assign x=>st.ev E x
 | .pick c a b=>match st.ev E c with
   | .bt true=>st.ev E a
   | .bt false=>st.ev E b
   | _ => .any
 | .nilCheck x=>(st.ev E x).np
 | .makeFunc (.func g) _ caps=>match capS (caps.toList.map (st.ev E)) with
   | some ⟨t,y⟩ => .d (.fn g t) (some y)
   | none => .any
 | .load T x=>match E.ty T with
   | some t=>ldv st t (st.ev E x)
   | none => .any
 | .fieldAddr S x f=>match E.ty S with
   | some ts=>fav ts f (st.ev E x).np
   | none => .any
 | .indexAddr _ x i=>match asI (st.ev E i) with
   | some n=>iav st n (st.ev E x).norm
   | _ => .any
 | .index _ x i=>match asI (st.ev E i) with
   | some n=>ixv n (st.ev E x)
   | _ => .any
 | .unOp .not _ x=>match st.ev E x with
   | .bt b => .bt (!b)
   | .d .bool b => .d .bool (!b)
   | _ => .any
 | .unOp .neg _ x=>match st.ev E x with
   | .d (.int kk) n => .d (.int kk) (0 - n)
   | _ => .any
 | .extract x i=>match st.ev E x with
   | .tp l=>match l[i]? with
     | some s=>s
     | none => .any
   | _ => .any
 | .makeInterface T x=>match st.ev E x with
   | .d (.int .i64) n => .d (.err T) n
   | _ => .any
 | .convert S T x=>match E.ty S,E.ty T,st.ev E x with
   | some _,some (.int k'),.d (.int _) n => .d (.int k') n
   | some (.sl (.int .u8)),some .str,.d (.sl (.int .u8)) xs => .d .str (bstr xs)
   | _,_,_ => .any
 | .slice _ x lo hi none=>match asOI E st lo,asOI E st hi with
   | some l,some h=>cutv l h (st.ev E x).norm
   | _,_ => .any
 | .slice _ x lo (some hi) (some _)=>match asOI E st lo,asI (st.ev E hi) with
   | some l,some h=>cut3v l h (st.ev E x).norm
   | _,_ => .any
 | .build T parts=>match E.ty T with
   | some t=>match bldE E T t (parts.toList.map fun p=>(p.1,st.ev E p.2)) with
       | some y => .d t y
       | none=>match setP st t (zP t) (parts.toList.map fun p=>(p.1,st.ev E p.2)) with
         | some l => .ag l
         | none => .any
   | none => .any
 | .binOp op _ x y _=>bopv op (st.ev E x) (st.ev E y)
 | .call c=>match c.callee,c.args.toList,c.argTypes.toList with
   | .builtin .len,[x],[_]=>lnv st (st.ev E x).norm
   | .builtin .max,x::r,_=>match st.ev E x with
     | .d (.int .i64) a=>match mxs true a (r.map (st.ev E)) with
       | some m => .d (.int .i64) m
       | none => .any
     | _ => .any
   | .builtin .min,x::r,_=>match st.ev E x with
     | .d (.int .i64) a=>match mxs false a (r.map (st.ev E)) with
       | some m => .d (.int .i64) m
       | none => .any
     | _ => .any
   | _,_,_ => .any
 | _ => .any
def qopv(E:Env)(st:St)(op:Op):SV :=
 match mlk E st op with
 | some s=>s
 | none=>qopv0 E st op
theorem qopv0_ok[Dn]{E:Env}{st:St}{op:Op}{k:SV→Prop}(hp:pickS E st op=none)(h:qop0 E st op k):k (qopv0 E st op):=by
 unfold qop0 at h;unfold qopv0
 split at h
 · exact h
 · exact h
 · split at h
   · rename_i e;simp only[e];exact h
   · rename_i e;simp only[e];exact h
   · rename_i e
     simp only[pickS,e] at hp
     cases hp
   · exact h.elim
 · exact nck_v h
 · split at h
   · split at h
     · rename_i e;simp only[e];exact h
     · exact h.elim
   · exact h.elim
 · split at h
   · rename_i e;simp only[e];exact ldv_ok h
   · exact h.elim
 · split at h
   · rename_i e;simp only[e];exact fav_ok h
   · exact h.elim
 · split at h
   · rename_i e1 e2;simp only[e2];exact iav_ok h
   · exact h.elim
 · split at h
   · rename_i e1 e2;simp only[e2];exact ixv_ok h
   · exact h.elim
 · split at h
   · rename_i e;simp only[e];exact h
   · rename_i e;simp only[e];exact h
   · exact h.elim
 · split at h
   · rename_i e;simp only[e];exact h.2
   · exact h.elim
 · split at h
   · rename_i e;simp only[e]
     split at h
     · rename_i e2;simp only[e2];exact h
     · exact h.elim
   · exact h.elim
 · split at h
   · split at h
     · rename_i e;simp only[e];exact h.2
     · exact h.elim
   · exact h.elim
 · split at h
   · rename_i e1 e2 e3;simp only[e1,e2,e3];exact h.2
   · rename_i e1 e2 e3;simp only[e1,e2,e3];exact h
   · exact h.elim
 · split at h
   · rename_i e1 e2 e3;simp only[e2,e3];exact cutv_ok h
   · exact h.elim
 · split at h
   · rename_i e1 e2 e3 e4;simp only[e2,e3];exact cut3v_ok h
   · exact h.elim
 · split at h
   · rename_i e;simp only[e]
     split at h
     · split at h
       · rename_i e2;simp only[e2];exact h
       · rename_i e2;simp only[e2]
         split at h
         · split at h
           · rename_i e3;simp only[e3];exact h
           · exact h.elim
         · exact h.elim
     · exact h.elim
   · exact h.elim
 · exact bopv_ok h
 · split at h
   · rename_i e1 e2 e3;simp only[e1,e2,e3]
     split at h
     · exact lnv_ok h
     · exact h.elim
   · rename_i e1 e2;simp only[e1,e2]
     split at h
     · rename_i e;simp only[e]
       split at h
       · rename_i e2;simp only[e2];exact h
       · exact h.elim
     · exact h.elim
   · rename_i e1 e2;simp only[e1,e2]
     split at h
     · rename_i e;simp only[e]
       split at h
       · rename_i e2;simp only[e2];exact h
       · exact h.elim
     · exact h.elim
   · exact h.elim
 · exact h.elim
theorem qopv_ok[Dn]{E:Env}{st:St}{op:Op}{k:SV→Prop}(hp:pickS E st op=none)(h:qop E st op k):k (qopv E st op):=by
 unfold qop at h;unfold qopv
 cases hm:mlk E st op with
 | some s=>rw[hm] at h;exact h
 | none=>rw[hm] at h;exact qopv0_ok hp h
def xv(X:Cx)(st:St)(o:Oper):SV :=
 if isQ o.op=true then qopv X.E st o.op else
 match apO o.op with
 | some (T,s,x)=>match X.E.ty T with
   | some (.sl t)=>match elems st t (st.ev X.E x),st.ev X.E s with
     | some ys,.fs t' xs=>if h:t'=t then .d (.sl t) (List.append (h▸xs:List t.D) ys) else .any
     | _,_ => .any
   | _ => .any
 | none=>match o.op with
 | .buildSlice T len parts=>match X.E.ty T with
   | some (.sl t)=>match bld (.ar len t) (Ty.z (.ar len t)) (parts.toList.map fun p=>(p.1,st.ev X.E p.2)) with
     | some y => .d (.sl t) y
     | none => .any
   | _ => .any
 | .makeSlice T l _=>match X.E.ty T,asI (st.ev X.E l) with
   | some (.sl t),some n => .d (.sl t) (List.replicate n.toNat t.z:List t.D)
   | _,_ => .any
 | .call c=>match cee X.E st c.callee with
   | some (f,ex)=>match lookA st (c.args.toList.map (st.ev X.E)++ex) X.Γ f with
     | some (.det _ _ fn,ds,_)=>toSV (fn ds)
     | _ => .any
   | none => .any
 | _ => .any
theorem xv_ok[Dn]{X:Cx}{st:St}{o:Oper}{k:SV→Prop}(hp:pickS X.E st o.op=none)(h:xq1 X st o k):k (xv X st o):=by
 unfold xq1 at h;unfold xv
 split at h
 · rename_i e;rw[if_pos e];exact qopv_ok hp h
 · rename_i e;rw[if_neg e]
   split at h
   · rename_i T s x eo
     unfold apv at h
     simp only[eo]
     split at h
     · rename_i e1 e2;simp only[e1]
       split at h
       · split at h
         · rename_i e3;simp only[e3]
           split at h
           · rename_i e4;simp only[e4]
             split at h
             · rename_i hh;subst hh;rw[dif_pos rfl];exact h.2
             · exact h.elim
           · exact h.elim
         · exact h.elim
       · exact h.elim
     · exact h.elim
   rename_i eap
   simp only[eap]
   split at h
   · rename_i T len parts eo
     unfold bslv at h
     simp only[eo]
     split at h
     · rename_i e1;simp only[e1]
       split at h
       · split at h
         · rename_i e2;simp only[e2];exact h
         · exact h.elim
       · exact h.elim
     · exact h.elim
   · rename_i T l c eo
     simp only[eo]
     split at h
     · split at h
       · rename_i en em
         unfold mkv at h
         split at h
         · rename_i e1;simp only[e1,en]
           split at h
           · exact h.2.2.2
           · exact h.elim
         · exact h.elim
       · exact h.elim
     · exact h.elim
   · rename_i c eo
     simp only[eo]
     split at h
     · rename_i f ex ec;simp only[ec]
       split at h
       · rename_i e1;simp only[e1]
         obtain⟨_,h⟩:=h
         split at h
         · split at h
           · exact h
           · exact h.elim
         · exact h
       · exact h.elim
     · exact h.elim
   · exact h.elim
end Go.Vc
