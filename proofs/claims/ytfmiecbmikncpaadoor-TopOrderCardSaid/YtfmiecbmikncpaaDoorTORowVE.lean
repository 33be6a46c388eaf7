import Derived.Test.YtfmiecbmikncpaaDoorTORowVD
import Derived.Laws.StructEq
namespace Go.Vc
open Go.RowKit
theorem wrap_mono{k:IntKind}{n:Int}(h:inK k n):k.wrap n=n:=h
theorem inK_i64{n:Int}:inK .i64 n ↔ -9223372036854775808≤n∧n≤9223372036854775807:=by
 unfold inK
 rw[IntKind.wrap_i64]
 constructor
 · intro h;omega
 · intro h;omega
theorem inK_u8{n:Int}:inK .u8 n↔0≤n∧n≤255:=by
 unfold inK
 have:IntKind.u8.wrap n=n%256:=by simp[IntKind.wrap,IntKind.signed,IntKind.bits]
 rw[this]
 constructor<;>intro h<;>omega
def ari(op:BinOp)(k:IntKind)(a b:Int)(K:SV→Prop):Prop :=
 match op with
 | .add=>inK k (a+b)∧K (.d (.int k) (a+b))
 | .sub=>inK k (a - b)∧K (.d (.int k) (a - b))
 | .mul=>inK k (a*b)∧K (.d (.int k) (a*b))
 | .quo=>b≠0∧inK k (a.tdiv b)∧K (.d (.int k) (a.tdiv b))
 | .rem=>b≠0∧inK k (a.tmod b)∧K (.d (.int k) (a.tmod b))
 | .and=>if k = .i64 then 0≤a∧0≤b∧K (.d (.int k) ((a.toNat &&& b.toNat:Nat):Int)) else False
 | .or=>if k = .i64 then 0≤a∧0≤b∧K (.d (.int k) ((a.toNat ||| b.toNat:Nat):Int)) else False
 | .xor=>if k = .i64 then 0≤a∧0≤b∧K (.d (.int k) ((a.toNat ^^^ b.toNat:Nat):Int)) else False
 | .andNot=>if k = .i64 then 0≤a∧0≤b∧K (.d (.int k) ((a.toNat ^^^ (a.toNat &&& b.toNat):Nat):Int)) else False
 | .lss=>K (.d .bool (decide (a<b)))
 | .leq=>K (.d .bool (decide (a≤b)))
 | .gtr=>K (.d .bool (decide (b<a)))
 | .geq=>K (.d .bool (decide (b≤a)))
 | .eql=>K (.d .bool (decide (a=b)))
 | .neq=>K (.d .bool (!decide (a=b)))
 | _=>False
def shf(op:BinOp)(k:IntKind)(a n:Int)(K:SV→Prop):Prop :=
 match op with
 | .shl=>0≤n∧n<64∧k.bits=64∧inK k (a*2 ^ n.toNat)∧K (.d (.int k) (a*2 ^ n.toNat))
 | .shr=>0≤n∧n<64∧k.bits=64∧inK k (a/2 ^ n.toNat)∧K (.d (.int k) (a/2 ^ n.toNat))
 | _=>False
theorem toNat_i64[Dn]{a:Int}(h0:0≤a)(h:inK .i64 a):(BitVec.ofInt 64 a).toNat=a.toNat:=by
 rw[inK_i64] at h
 obtain⟨n,rfl⟩:=Int.eq_ofNat_of_zero_le h0
 rw[BitVec.ofInt_natCast,BitVec.toNat_ofNat]
 show n%2 ^ 64=(n:Int).toNat
 rw[Int.toNat_natCast];omega
theorem bits_i64{n:Nat}(h:n<2 ^ 63):IntKind.i64.wrap (n:Int)=(n:Int):=by
 rw[IntKind.wrap_i64];omega
theorem okInt{w:World}{ro:Nat→Prop}{A:Asg}{k:IntKind}{n:Int}(h:inK k n):SvOk w ro A (.d (.int k) n) (.int k n):=⟨rfl,h⟩
theorem okBool{w:World}{ro:Nat→Prop}{A:Asg}{b:Bool}:SvOk w ro A (.d .bool b) (.bool b):=rfl
theorem ari_ok[Dn]{P:Program}{op:BinOp}{T:TypeId}{x y:Operand}{k:IntKind}{a b:Int}(ha:inK k a)(hb:inK k b){K:SV→Prop}(h:ari op k a b K)(w:World)(ro:Nat→Prop)(A:Asg) :
   ∃ s' v',K s'∧SvOk w ro A s' v'∧∀ w'':World,(do eqGuard op T x y (.int k a) (.int k b);binOp op T (.int k a) (.int k b):Sem Value).run P w'' = .ok v' w'':=by
 unfold ari at h
 split at h
 · obtain⟨h1,h2⟩:=h
   exact⟨_,_,h2,okInt h1,fun w''=>by simp[eqGuard_at_int,binOp_add,Op.intArith,wrap_mono h1]⟩
 · obtain⟨h1,h2⟩:=h
   exact⟨_,_,h2,okInt h1,fun w''=>by simp[eqGuard_at_int,binOp_sub,Op.intArith,wrap_mono h1]⟩
 · obtain⟨h1,h2⟩:=h
   exact⟨_,_,h2,okInt h1,fun w''=>by simp[eqGuard_at_int,binOp_mul,Op.intArith,wrap_mono h1]⟩
 · obtain⟨h0,h1,h2⟩:=h
   exact⟨_,_,h2,okInt h1,fun w''=>by simp[eqGuard_at_int,binOp_quo,Op.intDiv,wrap_mono h1,h0]⟩
 · obtain⟨h0,h1,h2⟩:=h
   exact⟨_,_,h2,okInt h1,fun w''=>by simp[eqGuard_at_int,binOp_rem,Op.intDiv,h0]⟩
 · split at h
   · rename_i hk;subst hk
     obtain⟨h0,h1,h2⟩:=h
     have hl:a.toNat &&& b.toNat<2 ^ 63:=Nat.and_lt_two_pow _ (by rw[inK_i64] at hb;omega)
     exact⟨_,_,h2,okInt (bits_i64 hl),fun w''=>by
       simp only[eqGuard_at_int,binOp_and,Op.intBits]
       have e1:((BitVec.ofInt 64 a &&& BitVec.ofInt 64 b).toNat:Int)=((a.toNat &&& b.toNat:Nat):Int):=by
         rw[BitVec.toNat_and,toNat_i64 h0 ha,toNat_i64 h1 hb]
       have e2:IntKind.i64.wrap ((BitVec.ofInt IntKind.i64.bits a &&& BitVec.ofInt IntKind.i64.bits b).toNat:Int)=((a.toNat &&& b.toNat:Nat):Int):=by
         show IntKind.i64.wrap ((BitVec.ofInt 64 a &&& BitVec.ofInt 64 b).toNat:Int)=_
         rw[e1,bits_i64 hl]
       simp only[Sem.run_bind,Sem.run_pure,Result.andThen_ok,e2]⟩
   · exact h.elim
 · split at h
   · rename_i hk;subst hk
     obtain⟨h0,h1,h2⟩:=h
     have hl:a.toNat ||| b.toNat<2 ^ 63:=Nat.or_lt_two_pow (by rw[inK_i64] at ha;omega) (by rw[inK_i64] at hb;omega)
     exact⟨_,_,h2,okInt (bits_i64 hl),fun w''=>by
       simp only[eqGuard_at_int,binOp_or,Op.intBits]
       have e1:((BitVec.ofInt 64 a ||| BitVec.ofInt 64 b).toNat:Int)=((a.toNat ||| b.toNat:Nat):Int):=by
         rw[BitVec.toNat_or,toNat_i64 h0 ha,toNat_i64 h1 hb]
       have e2:IntKind.i64.wrap ((BitVec.ofInt IntKind.i64.bits a ||| BitVec.ofInt IntKind.i64.bits b).toNat:Int)=((a.toNat ||| b.toNat:Nat):Int):=by
         show IntKind.i64.wrap ((BitVec.ofInt 64 a ||| BitVec.ofInt 64 b).toNat:Int)=_
         rw[e1,bits_i64 hl]
       simp only[Sem.run_bind,Sem.run_pure,Result.andThen_ok,e2]⟩
   · exact h.elim
 · split at h
   · rename_i hk;subst hk
     obtain⟨h0,h1,h2⟩:=h
     have hl:a.toNat ^^^ b.toNat<2 ^ 63:=Nat.xor_lt_two_pow (by rw[inK_i64] at ha;omega) (by rw[inK_i64] at hb;omega)
     exact⟨_,_,h2,okInt (bits_i64 hl),fun w''=>by
       simp only[eqGuard_at_int,binOp_xor,Op.intBits]
       have e1:((BitVec.ofInt 64 a ^^^ BitVec.ofInt 64 b).toNat:Int)=((a.toNat ^^^ b.toNat:Nat):Int):=by
         rw[BitVec.toNat_xor,toNat_i64 h0 ha,toNat_i64 h1 hb]
       have e2:IntKind.i64.wrap ((BitVec.ofInt IntKind.i64.bits a ^^^ BitVec.ofInt IntKind.i64.bits b).toNat:Int)=((a.toNat ^^^ b.toNat:Nat):Int):=by
         show IntKind.i64.wrap ((BitVec.ofInt 64 a ^^^ BitVec.ofInt 64 b).toNat:Int)=_
         rw[e1,bits_i64 hl]
       simp only[Sem.run_bind,Sem.run_pure,Result.andThen_ok,e2]⟩
   · exact h.elim
 · split at h
   · rename_i hk;subst hk
     obtain⟨h0,h1,h2⟩:=h
     have hand:a.toNat &&& b.toNat<2 ^ 63:=Nat.and_lt_two_pow _ (by rw[inK_i64] at hb;omega)
     have hl:a.toNat ^^^ (a.toNat &&& b.toNat)<2 ^ 63:=Nat.xor_lt_two_pow (by rw[inK_i64] at ha;omega) hand
     exact⟨_,_,h2,okInt (bits_i64 hl),fun w''=>by
       simp only[eqGuard_at_int,binOp_andNot,Op.intBits]
       have e0:∀ x y:BitVec 64,x &&& ~~~y=x ^^^ (x &&& y):=fun x y=>by
         ext i hi
         simp only[BitVec.getElem_and,BitVec.getElem_not,BitVec.getElem_xor]
         cases x[i]<;>cases y[i]<;>rfl
       have e1:((BitVec.ofInt 64 a &&& ~~~BitVec.ofInt 64 b).toNat:Int)=((a.toNat ^^^ (a.toNat &&& b.toNat):Nat):Int):=by
         rw[e0,BitVec.toNat_xor,BitVec.toNat_and,toNat_i64 h0 ha,toNat_i64 h1 hb]
       have e2:IntKind.i64.wrap ((BitVec.ofInt IntKind.i64.bits a &&& ~~~BitVec.ofInt IntKind.i64.bits b).toNat:Int)=((a.toNat ^^^ (a.toNat &&& b.toNat):Nat):Int):=by
         show IntKind.i64.wrap ((BitVec.ofInt 64 a &&& ~~~BitVec.ofInt 64 b).toNat:Int)=_
         rw[e1,bits_i64 hl]
       simp only[Sem.run_bind,Sem.run_pure,Result.andThen_ok,e2]⟩
   · exact h.elim
 · exact⟨_,_,h,okBool,fun w''=>by simp[eqGuard_at_int,binOp_lss]⟩
 · exact⟨_,_,h,okBool,fun w''=>by simp[eqGuard_at_int,binOp_leq]⟩
 · exact⟨_,_,h,okBool,fun w''=>by simp[eqGuard_at_int,binOp_gtr]⟩
 · exact⟨_,_,h,okBool,fun w''=>by simp[eqGuard_at_int,binOp_geq]⟩
 · exact⟨_,_,h,okBool,fun w''=>by simp[eqGuard_at_int,binOp_eql];rfl⟩
 · exact⟨_,_,h,okBool,fun w''=>by simp[eqGuard_at_int,binOp_neq];rfl⟩
 · exact h.elim
theorem shf_ok[Dn]{P:Program}{op:BinOp}{T:TypeId}{x y:Operand}{k ky:IntKind}{a n:Int}{K:SV→Prop}(h:shf op k a n K)(w:World)(ro:Nat→Prop)(A:Asg) :
   ∃ s' v',K s'∧SvOk w ro A s' v'∧∀ w'':World,(do eqGuard op T x y (.int k a) (.int ky n);binOp op T (.int k a) (.int ky n):Sem Value).run P w'' = .ok v' w'':=by
 unfold shf at h
 split at h
 · obtain⟨h0,h1,hb,h2,h3⟩:=h
   refine⟨_,_,h3,okInt h2,fun w'' => ?_⟩
   have e:min n.toNat k.bits=n.toNat:=by rw[hb];omega
   simp[eqGuard_at_int,binOp_shl,Op.shift,show ¬ n<0 by omega,e,wrap_mono h2]
 · obtain⟨h0,h1,hb,h2,h3⟩:=h
   refine⟨_,_,h3,okInt h2,fun w'' => ?_⟩
   have e:min n.toNat k.bits=n.toNat:=by rw[hb];omega
   have e2:a.fdiv (2 ^ n.toNat)=a/2 ^ n.toNat:=Int.fdiv_eq_ediv_of_nonneg _ (Int.pow_nonneg (by omega))
   simp[eqGuard_at_int,binOp_shr,Op.shift,show ¬ n<0 by omega,e,e2]
 · exact h.elim
def asB:SV→Option Bool
 | .bt b=>some b
 | .d .bool b=>some b
 | _=>none
theorem asB_ok{w:World}{ro:Nat→Prop}{A:Asg}{s:SV}{v:Value}{b:Bool}(h:asB s=some b)(hs:SvOk w ro A s v):v = .bool b:=by
 unfold asB at h
 split at h
 · injection h with h;subst h;exact hs
 · injection h with h;subst h
   have hs':[v]=[Value.bool _]:=hs
   injection hs'
 · cases h
def Ty.beq:(t:Ty)→t.D→t.D→Bool
 | .int _,a,b=>decide (a=(b:Int))
 | .bool,a,b=>a==(b:Bool)
 | .str,a,b=>a==(b:List UInt8)
 | .err _,a,b=>decide (a=(b:Int))
 | .sl _,_,_=>false
 | .pr a b,x,y=>Ty.beq a x.1 y.1&&Ty.beq b x.2 y.2
 | .un,_,_=>true
 | .ar _ _,_,_=>false
 | .fn _ _,_,_=>false
 | .ptr _,_,_=>false
 | .raw,_,_=>false
 | .nm,_,_=>true
def Ty.scal:Ty→Bool
 | .pr (.int _) b | .pr .bool b | .pr .str b=>b.scal
 | .un=>true
 | _=>false
theorem part_one[Dn]{P:Program}{w:World}{t:Ty}{T:TypeId}(hf:Fit P t (.inl T))(ha:t.agg=false){cs:Array Value}{o:Nat}{v:Value}(h:cs[o]?=some v) :
   (part T cs o).run P w = .ok v w:=by
 simp[part,hf.isAgg w,ha,h]
theorem toList_str(a:List UInt8):(⟨a.toArray⟩:ByteArray).toList=a:=by rw[ByteArray.toList_eq]
theorem eq_scalar[Dn]{P:Program}{w:World}{w1 w2:World}{ro1 ro2:Nat→Prop}{t:Ty}{T:TypeId}(hf:Fit P t (.inl T))(ht:t = .bool∨t = .str∨∃ k,t = .int k){x y:t.D}{u v:Value}
   (hx:t.ok w1 ro1 x [u]) (hy:t.ok w2 ro2 y [v]) (d:Nat):(Op.equalIn (d+1) T u v).run P w = .ok (t.beq x y) w:=by
 rcases ht with rfl | rfl | ⟨k,rfl⟩
 · have h1:[u]=[Value.bool x]:=hx
   have h2:[v]=[Value.bool y]:=hy
   injection h1 with h1;injection h2 with h2;subst h1;subst h2
   rw[run_equalIn_bool' w d T x y hf.2];rfl
 · have h1:=hx.1;have h2:=hy.1
   injection h1 with h1;injection h2 with h2;subst h1;subst h2
   rw[run_equalIn_string w d T _ _ hf.2,toList_str,toList_str];rfl
 · have h1:=hx.1;have h2:=hy.1
   injection h1 with h1;injection h2 with h2;subst h1;subst h2
   rw[run_equalIn_int w d T k k x y hf.2]
   congr 1
theorem eq_fields[Dn]{P:Program}{w:World}{w1 w2:World}{ro1 ro2:Nat→Prop}(d:Nat){fs:Array Field}(hn:∀ f∈fs.toList,f.name ≠ "_"):∀ {t:Ty} {f o:Nat} {x y:t.D} {xs ys:Array Value} {p1 p2 c1 c2:List Value},
   Fit P t (.inr (fs,f,o))→t.scal=true→xs.toList=p1++c1→p1.length=o→ys.toList=p2++c2→p2.length=o→t.ok w1 ro1 x c1→t.ok w2 ro2 y c2 →
   (Op.eqFields (d+1) xs ys (fs.toList.drop f)).run P w = .ok (t.beq x y) w:=by
 intro t
 induction t with
 | un =>
   intro f o x y xs ys p1 p2 c1 c2 h hs e1 l1 e2 l2 h1 h2
   have hf:fs.size=f:=h
   rw[List.drop_of_length_le (by simp;omega)];rfl
 | pr a b _ ih =>
   intro f o x y xs ys p1 p2 c1 c2 h hs e1 l1 e2 l2 h1 h2
   obtain⟨fld,hfl,hof,hsz,hfa,hfb⟩:=h
   have hab:(a = .bool∨a = .str∨∃ k,a = .int k)∧b.scal=true:=by
     cases a<;>simp[Ty.scal] at hs<;>exact⟨by simp,hs⟩
   have hag:a.agg=false∧a.size=1:=by rcases hab.1 with rfl | rfl | ⟨k,rfl⟩<;>exact⟨rfl,rfl⟩
   obtain⟨a1,b1,rfl,ha1,hb1⟩:=h1
   obtain⟨a2,b2,rfl,ha2,hb2⟩:=h2
   have la1:=ok_len ha1;have la2:=ok_len ha2
   rw[hag.2] at la1 la2
   match a1,la1,a2,la2 with
   | [u],_,[v],_ =>
     have hd:fs.toList.drop f=fld::fs.toList.drop (f+1):=by
       have hlt:f<fs.toList.length:=by have:=(Array.getElem?_eq_some_iff.1 hfl).1;simpa using this
       rw[List.drop_eq_getElem_cons hlt]
       congr 1
       have:=(Array.getElem?_eq_some_iff.1 hfl).2
       simpa using this
     have hmem:fld∈fs.toList:=by
       have:fld∈fs.toList.drop f:=by rw[hd];exact List.mem_cons_self ..
       exact List.mem_of_mem_drop this
     have hu:xs[fld.offset]?=some u:=by
       rw[← Array.getElem?_toList,e1,hof,← l1,List.getElem?_append_right (Nat.le_refl _)];simp
     have hv:ys[fld.offset]?=some v:=by
       rw[← Array.getElem?_toList,e2,hof,← l2,List.getElem?_append_right (Nat.le_refl _)];simp
     have hrest:=ih (f:=f+1) (o:=o+a.size) (x:=x.2) (y:=y.2) (xs:=xs) (ys:=ys) (p1:=p1++[u]) (p2:=p2++[v]) (c1:=b1) (c2:=b2) hfb hab.2
       (by rw[e1];simp) (by simp[l1,hag.2]) (by rw[e2];simp) (by simp[l2,hag.2]) hb1 hb2
     rw[hd]
     simp only[Op.eqFields]
     rw[if_pos (hn fld hmem)]
     simp only[Sem.run_bind,part_one hfa hag.1 hu,part_one hfa hag.1 hv,Result.andThen_ok,eq_scalar hfa hab.1 ha1 ha2 d]
     cases hb:a.beq x.1 y.1 with
     | true=>simp[hrest,Ty.beq,hb]
     | false=>simp[Ty.beq,hb]
 | _=>intro f o x y xs ys p1 p2 c1 c2 h;exact h.elim
def eqB(P:Program)(T:TypeId):Bool :=
 !P.stoodInHeld T && !P.eqGuardType P.depth T&&(match P.underlying T with
   | some (.struct fs)=>fs.toList.all fun f=>f.name != "_"
   | _=>false)
theorem eq_struct[Dn]{P:Program}{w:World}{w1 w2:World}{ro1 ro2:Nat→Prop}{t:Ty}{T:TypeId}(hf:Fit P t (.inl T))(hB:eqB P T=true)(hs:t.scal=true)(hp:isPr t=true){x y:t.D}{xs ys:Array Value}
   (hx:t.ok w1 ro1 x xs.toList) (hy:t.ok w2 ro2 y ys.toList) (d:Nat):(Op.equalIn (d+2) T (.agg xs) (.agg ys)).run P w = .ok (t.beq x y) w:=by
 cases t with
 | pr a b =>
   obtain⟨_,fs,fld,hu,h0,h1,h2,h3,h4⟩:=hf
   simp only[eqB,Bool.and_eq_true,Bool.not_eq_true',hu] at hB
   have hfo:P.fieldsOf T=fs:=by simp[Program.fieldsOf,hu]
   rw[run_equalIn_struct w (d+1) T xs ys (by rw[hfo];exact hu) hB.1.1,hfo]
   have hn:∀ f∈fs.toList,f.name ≠ "_" := by
     intro f hf
     have:=List.all_eq_true.1 hB.2 f hf
     simpa using this
   have:=eq_fields (w:=w) (w1:=w1) (w2:=w2) (ro1:=ro1) (ro2:=ro2) d hn (t := .pr a b) (f:=0) (o:=0) (x:=x) (y:=y) (xs:=xs) (ys:=ys) (p1:=[]) (p2:=[]) (c1:=xs.toList) (c2:=ys.toList)
     ⟨fld,h0,h1,h2,h3,by simpa using h4⟩ hs rfl rfl rfl rfl hx hy
   simpa using this
 | _=>simp[isPr] at hp
theorem eq_nn{P:Program}{T:TypeId}{ms}(hu:P.underlying T=some (.interface ms))(d:Nat)(w:World):(Op.equalIn (d+1) T .nilIface .nilIface).run P w = .ok true w:=by
 simp[Op.equalIn,run_underlying hu]
theorem eq_in{P:Program}{T:TypeId}{ms}(hu:P.underlying T=some (.interface ms))(d:Nat)(e:TypeId)(v:Value)(w:World):(Op.equalIn (d+1) T (.iface e v) .nilIface).run P w = .ok false w:=by
 simp[Op.equalIn,run_underlying hu]
def cmp(eqT:TypeId→Bool)(neg:Bool)(T:TypeId)(t:Ty)(nil:Bool)(s1 s2:SV)(K:SV→Prop):Prop :=
 match asB s1,asB s2 with
 | some a,some b=>if t = .bool then K (.d .bool (match neg with | true => !(a==b) | false=>(a==b))) else False
 | _,_=>match s1,s2 with
   | .d (.err e) n,.d (.err _) _=>if nil=true∧t = .err e then K (.d .bool (match neg with | true => !decide (n=(0:Int)) | false=>decide (n=(0:Int)))) else False
   | .d .str a,.d .str b=>K (.d .bool (match neg with | true => !(a==b) | false=>(a==b)))
   | .d (.pr a1 b1) x,.d (.pr a2 b2) y=>if h:Ty.pr a2 b2=Ty.pr a1 b1 then
       if t = .pr a1 b1∧eqT T=true∧(Ty.pr a1 b1).scal=true then K (.d .bool (match neg with | true => !((Ty.pr a1 b1).beq x (h▸y)) | false=>((Ty.pr a1 b1).beq x (h▸y)))) else False
       else False
   | _,_=>False
theorem cmp_ok[Dn]{P:Program}{eqT:TypeId→Bool}(hE:∀ T,eqT T=true→eqB P T=true){neg:Bool}{T:TypeId}{t:Ty}(hf:Fit P t (.inl T)){x y:Operand}{nil:Bool}(hnil:nil=true→y = .const .nilIface)
   {w:World} {ro:Nat→Prop} {A:Asg} {s1 s2:SV} {v1 v2:Value} (h1:SvOk w ro A s1 v1) (h2:SvOk w ro A s2 v2) (hv2:y = .const .nilIface→v2 = .nilIface) {K:SV→Prop} (h:cmp eqT neg T t nil s1 s2 K) :
   ∃ s' v',K s'∧SvOk w ro A s' v'∧∀ w'':World,(do eqGuard (if neg then .neq else .eql) T x y v1 v2;binOp (if neg then .neq else .eql) T v1 v2:Sem Value).run P w'' = .ok v' w'':=by
 unfold cmp at h
 split at h
 · rename_i a b ha hb
   split at h
   · rename_i ht;subst ht
     have e1:=asB_ok ha h1;have e2:=asB_ok hb h2
     subst e1;subst e2
     refine⟨_,_,h,okBool,fun w'' => ?_⟩
     have he:(Op.equal T (.bool a) (.bool b)).run P w'' = .ok (a==b) w'':=run_equalIn_bool' w'' 9999 T a b hf.2
     cases neg<;>simp[eqGuard_at_bool,binOp,he]
   · exact h.elim
 · split at h
   · rename_i e n e' m _
     split at h
     · rename_i hh
       obtain⟨hnl,rfl⟩:=hh
       have hy:=hnil hnl
       have hv:=hv2 hy
       subst hv;subst hy
       obtain⟨_,⟨ms,hu⟩,_⟩:=hf
       have h1':Ty.ok w ro (.err e) n [v1]:=h1
       refine⟨_,_,h,okBool,fun w'' => ?_⟩
       rcases h1' with ⟨rfl,hv⟩ | ⟨hn,hv⟩
       · injection hv with hv;subst hv
         have he:(Op.equal T .nilIface .nilIface).run P w'' = .ok true w'':=eq_nn hu 9999 w''
         cases neg<;>simp[eqGuard_nil_constR,binOp,he]
       · injection hv with hv;subst hv
         have he:(Op.equal T (.iface e (.int .i64 n)) .nilIface).run P w'' = .ok false w'':=eq_in hu 9999 e _ w''
         cases neg<;>simp[eqGuard_at_iface,binOp,he,hn]
     · exact h.elim
   · rename_i a b _
     have h1':Ty.ok w ro .str a [v1]:=h1
     have h2':Ty.ok w ro .str b [v2]:=h2
     have e1:=h1'.1;have e2:=h2'.1
     injection e1 with e1;injection e2 with e2;subst e1;subst e2
     refine⟨_,_,h,okBool,fun w'' => ?_⟩
     cases neg<;>simp[eqGuard_at_string,binOp,Op.stringOp]
   · rename_i a1 b1 x1 a2 b2 y1 _
     split at h
     · rename_i hty
       split at h
       · rename_i hh
         obtain⟨rfl,heq,hsc⟩:=hh
         obtain⟨cs1,rfl,hx⟩:=h1
         have h2b:(Ty.pr a1 b1).okV w ro (hty▸y1) v2:=by
           revert h2
           clear h
           generalize hq:Ty.pr a2 b2=q at *
           subst hty
           intro h2
           exact h2
         obtain⟨cs2,rfl,hy⟩:=h2b
         have hB:=hE T heq
         have hg:P.eqGuardType P.depth T=false:=by
           simp only[eqB,Bool.and_eq_true,Bool.not_eq_true'] at hB;exact hB.1.2
         refine⟨_,_,h,okBool,fun w'' => ?_⟩
         have he:=eq_struct (w:=w'') hf hB hsc rfl hx hy 9998
         cases neg
         · simp only[Bool.false_eq_true,if_false,Sem.run_bind,run_eqGuard_agg w'' _ T x y cs1 cs2 hg,Result.andThen_ok,run_eql_struct,he]
         · simp only[if_true,Sem.run_bind,run_eqGuard_agg w'' _ T x y cs1 cs2 hg,Result.andThen_ok,run_neq_struct,he]
       · exact h.elim
     · exact h.elim
   · exact h.elim
end Go.Vc
