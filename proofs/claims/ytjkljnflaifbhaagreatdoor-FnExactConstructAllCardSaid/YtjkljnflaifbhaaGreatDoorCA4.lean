/- No conditions. -/
import Derived.Test.YtjkljnflaifbhaaGreatDoorCA1
import Derived.Test.YtjkljnflaifbhaaGreatDoorVaiW
namespace Go.Proofs.YtjkljnflaifbhaaGreatDoor
open Go.Vai Go.RowKit
def Di:List Cn->Nat
 |[]=>0
 |c::r=>c.2.2.1.length+Di r
theorem Lg:∀(a b:List Cn),Di (a++b)=Di a+Di b
 |[],b=>by simp[Di]
 |c::a,b=>by simp only[List.cons_append,Di,Lg a b];omega
theorem W6{l:List Cn}{i:Nat}{x:Cn}(h:l[i]?=some x):Di (l.take (i+1))=Di (l.take i)+x.2.2.1.length:=by
 rw[List.take_add_one,h,Option.toList_some,Lg];simp[Di]
theorem ad9(l:List Cn)(i:Nat):Di (l.take i)<=Di l:=by
 conv=>rhs;rw[<-List.take_append_drop i l]
 rw[Lg];omega
theorem RV:∀(n:Nat) (k:Int),(XG k n).length=n
 |0,_=>rfl
 |n+1,k=>by simp[XG,RV n]
theorem abL{w:World}{I:Nat->Prop}{k:Int}(hT:∀h cs,C0.glob h=some cs->I h/\∃vs e fz,w.heap[h]?=some (.cells vs e fz)/\cs=vs.toList.map .v)(h0:1<=k)(h1:k<=90000000):
 Calls Tryz.prog 69 #[.int .i64 k] w fun e w'=>e= .returned (.string (mtx k))/\Grown (fun _=>False) w w':=
 Al (C:=C0) (I:=I) rC rfl (args:=[.int .i64 k]) (vals:=[⟨false,[.v (.int .i64 k)]⟩]) (ms:=[[]]++ []) (sR.cons (Zu _) sR.nil) rfl hT (x:=mtx k) (ex (ax:=[.val false (.int .i64)]) (z:=(k,())) (by kernel_rfl) (FJ h0 (show k<=100000000 by omega))) rfl
theorem Z8{w:World}{I:Nat->Prop}{l:List ByteArray}{v:Value}{m:List Nat}{k:Int}(hT:∀h cs,C0.glob h=some cs->I h/\h∉m/\∃vs e fz,w.heap[h]?=some (.cells vs e fz)/\cs=vs.toList.map .v)(ho:Own w .str l v m)(hm:m.Nodup)
 (hl:l.length<=1048576) (h0:1<=k) (h1:k<=80000000):
 Calls Tryz.prog 52 #[v, .int .i64 k] w fun e w'=>e= .returned (.int .i64 (k+(l.length:Int)))/\Grown (fun n=>n∈m) w w'/\Own w' .str (XG k l.length) v m:=
 Wi (C:=C0) (I:=I) CQ rfl (t:=.str) rfl ho hm hT rfl (x:=(k+(l.length:Int),XG k l.length)) (ex (ax:=[.io .str, .val false (.int .i64)]) (z:=(l,k,())) (by kernel_rfl) (acL l hl k h0 h1)) rfl (RV _ _)
theorem aao{w wr:World}{I:Nat->Prop}{N hi:Nat}(hT:∀h cs,C0.glob h=some cs->I h/\∃vs e fz,w.heap[h]?=some (.cells vs e fz)/\cs=vs.toList.map .v)(hI:∀n,I n->n<N)(hg:Grown (fun n=>N<=n/\n<hi) w wr):
 ∀h cs,C0.glob h=some cs->I h/\∃vs e fz,wr.heap[h]?=some (.cells vs e fz)/\cs=vs.toList.map .v:=by
 intro h cs hc
 obtain⟨k1,vs,e,fz,k2,k3⟩:=hT h cs hc
 refine⟨k1,vs,e,fz, ?_,k3⟩
 rw[hg.block h (Array.getElem?_eq_some_iff.1 k2).1 (fun hn=>by have:=hI h k1;omega)]
 exact k2
theorem aeu{w:World}{I:Nat->Prop}{N hi n i:Nat}{lo:Nat->Nat}{S:List Nat}(hT:∀h cs,C0.glob h=some cs->I h/\∃vs e fz,w.heap[h]?=some (.cells vs e fz)/\cs=vs.toList.map .v)(hI:∀n,I n->n<N)(R:Yd N hi n lo)(hi':i<n)(hr:∀b,b∈S->lo i<=b/\b<lo (i+1)):
 ∀h cs,C0.glob h=some cs->I h/\h∉S/\∃vs e fz,w.heap[h]?=some (.cells vs e fz)/\cs=vs.toList.map .v:=by
 intro h cs hc
 obtain⟨k1,k2⟩:=hT h cs hc
 refine⟨k1,fun hn=> ?_,k2⟩
 have:=hI h k1
 have:=(hr h hn).1
 have:=R.low
 have:=R.le 0 i (Nat.zero_le _) (by omega)
 omega
theorem adR{w:World}{c:Cn}{vs:List Value}{S:List Nat}(h:OR w yC c vs S):∃sv,vs[2]?=some sv/\Own w .str c.2.2.1 sv S:=by
 obtain⟨S1,S2,rfl,⟨h1,rfl⟩,S3,S4,rfl,⟨h2,rfl⟩,S5,S6,rfl,⟨sv,h3,h4⟩,S7,S8,rfl,⟨h5,rfl⟩,S9,S10,rfl,h6,h7⟩:=h
 have flat:∀{t:Ty} {x:t.T} {vs:List Value} {S:List Nat},t.isFlat=true->OR w t x vs S->S=[]:=by
  intro t
  induction t with
  |pair a b iha ihb=>
   intro x vs S hf h
   simp only[Ty.isFlat,Bool.and_eq_true]at hf
   obtain⟨S1,S2,rfl,h1,h2⟩:=h
   rw[iha hf.1 h1,ihb hf.2 h2];rfl
  |slice t=>intro x vs S hf h;cases hf
  |_=>intro x vs S hf h;exact h.2
 have e9:=flat rfl h6
 have e10:=flat rfl h7
 subst e9 e10
 simp only[List.nil_append,List.append_nil]
 refine⟨sv, ?_,h4⟩
 have:=congrArg (fun q=>q[0]?) h3
 simp only[Ty.size,List.getElem?_take,List.getElem?_drop,List.getElem?_cons_zero]at this
 simpa using this
set_option maxHeartbeats 0 in
set_option maxRecDepth 1000000 in
theorem acJ{w:World}{l:List Cn}{N:Nat}{lo:Nat->Nat}{arr:Array Value}{I:Nat->Prop}{k:Int}(hD:tL w N l.length lo yC l arr 30)(hl:l.length<=1048576)(ht:Di l<=1048576)(h0:1<=k)(h1:k<=20000000)
 (hT:∀h cs,C0.glob h=some cs->I h/\∃vs e fz,w.heap[h]?=some (.cells vs e fz)/\cs=vs.toList.map .v) (hI:∀n,I n->n<N):
 Calls Tryz.prog 26 #[.slice (some ⟨N,0,none⟩) l.length l.length, .int .i64 k] w fun e w'=>e= .returned (.int .i64 (k+13*(l.length:Int)+(Di l:Int)))/\Grown (fun n=>N<=n/\n<lo l.length) w w':=by
 have HT:Aside ((∀h cs,C0.glob h=some cs->I h/\∃vs e fz,w.heap[h]?=some (.cells vs e fz)/\cs=vs.toList.map .v)/\∀n,I n->n<N):=⟨hT,hI⟩
 have HR:Aside (Yd N (lo l.length) l.length lo):=(tL.ranks (t:=yC) (l:=l) hD)
 have HD:Aside (adi w w N (lo l.length) lo yC l 0 arr 30):=(tL.tail (t:=yC) (l:=l) hD)
 have HB:Aside (1<=k/\k<=20000000/\Di l<=1048576):=⟨h0,h1,ht⟩
 clear hT hI hD h0 h1 ht
 go_enter Tryz.func26,Tryz.ntmps26
 go_wp2
 go_loopg [1,5] l.length (fun g s1 s5 wr=>∃(i:Nat) (arr':Array Value),i+g=l.length/\s1= .int .i64 (k+13*(i:Int)+(Di (l.take i):Int))/\s5= .int .i64 i/\Aside (adi w wr N (lo l.length) lo yC l i arr' 30))
 case atStart=>exact⟨0,arr,by omega,by simp[Di],rfl,HD⟩
 case round=>
  obtain⟨i,arr',hig,rfl,rfl,HX⟩:=hrel
  cases gk with
  |zero=>
   obtain rfl:i=l.length:=by omega
   have hiz:¬((l.length:Int)<(l.length:Int)):=by omega
   rw[List.take_length]
   go_wp2
   go_ret
   exact⟨rfl,HX.out.grown⟩
  |succ g=>
   have hiz:(i:Int)<(l.length:Int):=by omega
   have hi:i<l.length:=by omega
   obtain⟨x,hxl⟩:∃x,l[i]?=some x:=⟨l[i],List.getElem?_eq_getElem hi⟩
   obtain⟨S,hO,hnd,hrg⟩:=HX.out.el i x (Nat.le_refl _) hxl
   obtain⟨sv,hsv,hown⟩:=adR hO
   have HK:Aside (Di (l.take i)+x.2.2.1.length<=1048576/\Di (l.take (i+1))=Di (l.take i)+x.2.2.1.length):=⟨by rw[<-W6 hxl];exact Nat.le_trans (ad9 l _) HB.out.2.2,W6 hxl⟩
   have hkk:∃kk:Int,kk=k+13*(i:Int)+(Di (l.take i):Int):=⟨_,rfl⟩
   obtain⟨kk,hkk⟩:=hkk
   rw[<-hkk]
   have hk0:1<=kk:=by have:=HB.out.1;omega
   have hk1:kk<=40000000:=by have:=HB.out;have:=HK.out.1;omega
   have HKK:Aside (kk=k+13*(i:Int)+(Di (l.take i):Int)):=hkk
   clear hkk
   have M0:Mid w wr N (lo l.length) lo yC l i 2 .str x.2.2.1 sv S arr' 30:=⟨⟨HX.out.grown,HX.out.heap,HX.out.room,fun j y hj hy=>HX.out.el j y (by omega) hy⟩,by
    have h2:=congrArg (fun q=>q) hsv
    rw[uk]at h2
    exact h2,hown,hnd,hrg⟩
   have eF:∀args w,(callFunc 69 args).run Tryz.prog w= .ok (.enter 69 args) w:=fun args w=>(rC.enters).run args w
   have eG:∀args w,(callFunc 52 args).run Tryz.prog w= .ok (.enter 52 args) w:=fun args w=>(CQ.enters).run args w
   go_wp2_with fail
   refine(abL (I:=I) (aao HT.out.1 HT.out.2 HX.out.grown) hk0 (by omega)).mono ?_
   rintro e1 w1 ⟨rfl,hG1⟩
   have M1:=M0.grow rfl rfl hG1
   obtain⟨w2,a2,r2,M2⟩:=M1.store (P:=Tryz.prog) HR.out rfl rfl hi 0 (by decide) (by decide) 9 (.string (mtx kk)) rfl rfl (by kernel_rfl)
   obtain⟨w3,a3,r3,M3⟩:=M2.store (P:=Tryz.prog) HR.out rfl rfl hi 1 (by decide) (by decide) 2 (.int .i64 (kk+1)) rfl rfl (by kernel_rfl)
   have r4:=M3.load (P:=Tryz.prog) 22 (by kernel_rfl)
   go_wp2_with (first|refine Dj rfl 9 _ _ rfl rfl rfl r2 ?_|refine Dj rfl 2 _ _ rfl rfl rfl r3 ?_|refine Sh rfl 22 _ rfl rfl r4 ?_)
   refine(Z8 (I:=I) (m:=S) (l:=x.2.2.1) (aeu (aao HT.out.1 HT.out.2 M3.tail.grown) HT.out.2 HR.out hi M3.rng) M3.own hnd (by have:=HK.out.1;omega) (by omega) (by omega)).mono ?_
   rintro e4 w4 ⟨rfl,hG4,hO4⟩
   have M4:=M3.slice (u:=.str) (zs':=XG (kk+1+1) x.2.2.1.length) HR.out rfl hi hG4 hO4
   obtain⟨q,hq⟩:∃q:Int,q=kk+1+1+(x.2.2.1.length:Int):=⟨_,rfl⟩
   rw[<-hq]
   have hq0:1<=q:=by omega
   have hq1:q<=50000000:=by have:=HK.out.1;omega
   have HQ:Aside (q=kk+1+1+(x.2.2.1.length:Int)):=hq
   clear hq r2 r3 r4 M0 M1 M2 M3 hO4 hown hO
   obtain⟨w5,a5,r5,M5⟩:=M4.store (P:=Tryz.prog) HR.out rfl rfl hi 3 (by decide) (by decide) 2 (.int .i64 (q)) rfl rfl (by kernel_rfl)
   obtain⟨w6,a6,r6,M6⟩:=M5.store (P:=Tryz.prog) HR.out rfl rfl hi 4 (by decide) (by decide) 2 (.int .i64 (q+1)) rfl rfl (by kernel_rfl)
   obtain⟨w7,a7,r7,M7⟩:=M6.store (P:=Tryz.prog) HR.out rfl rfl hi 5 (by decide) (by decide) 2 (.int .i64 (q+1+1)) rfl rfl (by kernel_rfl)
   obtain⟨w8,a8,r8,M8⟩:=M7.store (P:=Tryz.prog) HR.out rfl rfl hi 6 (by decide) (by decide) 2 (.int .i64 (q+1+1+1)) rfl rfl (by kernel_rfl)
   obtain⟨w9,a9,r9,M9⟩:=M8.store (P:=Tryz.prog) HR.out rfl rfl hi 7 (by decide) (by decide) 2 (.int .i64 (q+1+1+1+1)) rfl rfl (by kernel_rfl)
   obtain⟨w10,a10,r10,M10⟩:=M9.store (P:=Tryz.prog) HR.out rfl rfl hi 8 (by decide) (by decide) 2 (.int .i64 (q+1+1+1+1+1)) rfl rfl (by kernel_rfl)
   obtain⟨w11,a11,r11,M11⟩:=M10.store (P:=Tryz.prog) HR.out rfl rfl hi 9 (by decide) (by decide) 2 (.int .i64 (q+1+1+1+1+1+1)) rfl rfl (by kernel_rfl)
   obtain⟨w12,a12,r12,M12⟩:=M11.store (P:=Tryz.prog) HR.out rfl rfl hi 10 (by decide) (by decide) 2 (.int .i64 (q+1+1+1+1+1+1+1)) rfl rfl (by kernel_rfl)
   obtain⟨w13,a13,r13,M13⟩:=M12.store (P:=Tryz.prog) HR.out rfl rfl hi 11 (by decide) (by decide) 2 (.int .i64 (q+1+1+1+1+1+1+1+1)) rfl rfl (by kernel_rfl)
   obtain⟨w14,a14,r14,M14⟩:=M13.store (P:=Tryz.prog) HR.out rfl rfl hi 12 (by decide) (by decide) 2 (.int .i64 (q+1+1+1+1+1+1+1+1+1)) rfl rfl (by kernel_rfl)
   obtain⟨w15,a15,r15,M15⟩:=M14.store (P:=Tryz.prog) HR.out rfl rfl hi 13 (by decide) (by decide) 2 (.int .i64 (q+1+1+1+1+1+1+1+1+1+1)) rfl rfl (by kernel_rfl)
   clear M4 M5 M6 M7 M8 M9 M10 M11 M12 M13 M14
   go_wp2_with (first|refine jz w4 rfl 2 _ _ rfl rfl rfl rfl r5 ?_|refine jz w5 rfl 2 _ _ rfl rfl rfl rfl r6 ?_|refine jz w6 rfl 2 _ _ rfl rfl rfl rfl r7 ?_|refine jz w7 rfl 2 _ _ rfl rfl rfl rfl r8 ?_|refine jz w8 rfl 2 _ _ rfl rfl rfl rfl r9 ?_|refine jz w9 rfl 2 _ _ rfl rfl rfl rfl r10 ?_|refine jz w10 rfl 2 _ _ rfl rfl rfl rfl r11 ?_|refine jz w11 rfl 2 _ _ rfl rfl rfl rfl r12 ?_|refine jz w12 rfl 2 _ _ rfl rfl rfl rfl r13 ?_|refine jz w13 rfl 2 _ _ rfl rfl rfl rfl r14 ?_|refine jz w14 rfl 2 _ _ rfl rfl rfl rfl r15 ?_)
   rw[show(i:Int)+1=((i+1:Nat):Int) by omega]
   rw[show q+1+1+1+1+1+1+1+1+1+1+1=k+13*((i+1:Nat):Int)+(Di (l.take (i+1)):Int) by have:=HQ.out;have:=HKK.out;have:=HK.out.2;omega]
   go_roundg g
   case measure=>omega
   case rel=>exact⟨i+1,a15,by omega,rfl,rfl,M15.tail⟩
end Go.Proofs.YtjkljnflaifbhaaGreatDoor
